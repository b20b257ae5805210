/- A part of the proof of ScriptLines: general lemmas, with no condition of their own. -/
import Derived.Test.YtdmbeajlccebgaaGreatDoorRaiC
import Derived.Lib.AppendZeros
import Derived.Laws.OwnMore
/- Steps that change memory: an append, as it stands in the code. -/
set_option linter.unusedVariables false
set_option linter.unusedSimpArgs false
namespace Go.Rai
open Go.RowKit
variable {P : Program}

theorem appSrc_V {w : World} {ok : Nat → Prop} {η : Nat → Value} {rd : Nat → Option Ob} {a : Sh} {y : SV} {v : Value} {ys : List a.D} (h : VS w ok η y v) (e : appSrc rd a y = some ys) :
    (v = .slice none 0 0 ∧ ys = []) ∨ ∃ ad c news, v = .slice (some ad) ys.length c ∧ At w ok ad news ∧ CL w ok η a ys news := by
  obtain ⟨s, d⟩ := y
  cases s <;> simp only [appSrc, reduceCtorEq, Option.some.injEq] at e
  · split at e
    · rename_i hb
      subst hb
      simp only [Option.some.injEq, cast_eq] at e
      subst e
      obtain ⟨A, cap, hv, hcap, hm⟩ := V_slice h rfl
      rcases hm with hm | ⟨ad, m, rfl, h1, h2, h3⟩
      · obtain rfl := List.eq_nil_of_length_eq_zero hm
        cases A with
        | none => exact .inl ⟨by rw [hv, hcap.2 rfl]; rfl, rfl⟩
        | some ad => exact .inr ⟨ad, cap, [], hv, fun j v hj => by simp at hj, CL_nil⟩
      · exact .inr ⟨ad, cap, m, hv, h1, h2, h3⟩
    · cases e
  · split at e
    · rename_i hb
      subst hb
      simp only [Option.some.injEq, cast_eq] at e
      subst e
      obtain ⟨A, hv, hm⟩ := V_lit h rfl
      rcases hm with hm | ⟨ad, m, rfl, h1, h2, h3⟩
      · obtain rfl := List.eq_nil_of_length_eq_zero hm
        cases A with
        | none => exact .inl ⟨hv, rfl⟩
        | some ad => exact .inr ⟨ad, 0, [], hv, fun j v hj => by simp at hj, CL_nil⟩
      · exact .inr ⟨ad, _, m, hv, h1, h2, h3⟩
    · cases e
  · subst e
    exact .inl ⟨V_nil h rfl, rfl⟩

theorem step_append {R : Type} {tt : TT} (hT : TTok P tt) {dst : Option Tmp} {ty : TypeId} {pos : String} {after : Array Edge} {guard : Option (Nat × Bool)} {t : Nat} {x y : Operand} {st : St} {k : St → Option R} {r : R} {X : Fr} {w0 : World} {n : Nat} {η : Nat → Value} {a : Act} {w : World}
    (hI : Inv X w0 n st η a w) (hd : ∀ d, dst = some d → d < n) (h : stepAppend tt t x y dst st k = some r)
    {K : Act → World → Prop} {Q : Exit → Act → World → Prop} (hK : ∀ a' w', Post X w0 n st η k r a' w' → K a' w') : (⟨dst, .call { callee := .builtin .append, args := #[x, y], argTypes := #[t, t] }, ty, pos, after, guard⟩ : Oper).wp P a w K Q := by
  have hvx : VS w (okOf X.G st.objs η) η (evalO st.slots x) (a.eval x) := evalO_VS (ops := #[x]) (fun t _ => hI.slots t) (by simp)
  have hvy : VS w (okOf X.G st.objs η) η (evalO st.slots y) (a.eval y) := evalO_VS (ops := #[y]) (fun t _ => hI.slots t) (by simp)
  have hux := evalO_under hI.und.slots x
  have go : ∀ v' w', (Builtin.append_ #[t, t] ty #[a.eval x, a.eval y]).run P w = .ok v' w' → K (a.put dst v') w' →
      (⟨dst, .call { callee := .builtin .append, args := #[x, y], argTypes := #[t, t] }, ty, pos, after, guard⟩ : Oper).wp P a w K Q := by
    intro v' w' hr hk
    unfold Oper.wp
    rw [exec_builtin (v := v') (w' := w') (by
      simp only [List.map_toArray, List.map_cons, List.map_nil, builtin, Sem.run_bind, hr, Result.andThen_ok, Sem.run_pure])]
    exact hk
  unfold stepAppend at h
  split at h
  case h_2 => cases h
  rename_i e s ht
  have hrow := hT t _ ht
  obtain ⟨hu, _, _, hsz, hc0, hby, hz⟩ := row_slice hrow
  have hs0 : s.under 0 := pure_under (row_pure hrow).1
  obtain ⟨i, hi, hisz⟩ := sizeIs_of hsz
  have hbytes : i.bytes ≤ 65536 := by
    unfold bytesIs at hby
    rw [hi] at hby
    exact Nat.le_of_ble_eq_true hby
  obtain ⟨z, hzi, hzc⟩ : ∃ z, i.zero = some z ∧ z.cells.size = s.cells := by
    unfold zeroIs at hz
    rw [hi] at hz
    split at hz
    · rename_i i' hi'
      cases hi'
      split at hz
      · rename_i z hz'
        refine ⟨z, hz', ?_⟩
        have := C_length (zeroOk_C (w := w) (ok := fun _ => True) (η := η) hz)
        rw [Array.length_toList] at this
        rw [this]
        have fc : ∀ s : Sh, (fresh s).s.cells = s.cells := by
          intro s
          induction s with
          | pair a b iha ihb => simp only [fresh, Sh.cells, ihb]
          | _ => rfl
        exact fc s
      · cases hz
    · cases hz
  split at h
  case h_2 => cases h
  rename_i ys hys
  have hsrc := appSrc_V hvy hys
  have hlim : ∀ m : Nat, m ≤ LIM → m ≤ maxLen ∧ m * i.bytes ≤ 140737488355328 := by
    intro m hm
    have : m * i.bytes ≤ LIM * 65536 := Nat.mul_le_mul hm hbytes
    unfold LIM at hm this
    simp only [maxLen]
    omega
  -- an own row, or none, at the left
  have own : ∀ (rem : Option Nat) (v : Value) (xs : List s.D) (m : List Value), a.eval x = v → w.ownsRow 0 e s.cells v xs.length m → CL w (okOf X.G st.objs η) η s xs m →
      (∀ l, rem = some l → st.lockO l = false ∧ ∃ x, st.objs l = some x) → (∀ b, blk v = some b → ∃ l, rem = some l ∧ blk (η l) = some b) → (∀ b, blk v = some b → b < w.heap.size) → isLocked st dst = false → xs.length + ys.length ≤ LIM →
      k { st with slots := putSt st dst ⟨.ref st.next s, ()⟩, objs := upd (without st.objs rem) st.next (some (.arr e s (xs ++ ys))), next := st.next + 1 } = some r →
      (⟨dst, .call { callee := .builtin .append, args := #[x, y], argTypes := #[t, t] }, ty, pos, after, guard⟩ : Oper).wp P a w K Q := by
    intro rem v xs m hx hown hCL hrem hrow' hlt hlock hl hk
    obtain ⟨hm1, hm2⟩ := hlim _ hl
    have hbv := blk_own v (owns_form hown)
    rcases hsrc with ⟨hy, rfl⟩ | ⟨ad, c, news, hy, hat, hnews⟩
    · have hrun := run_append_owned_none (P := P) (w := w) 0 t ty e i s.cells hu hi v xs.length m hown
      have hg : w.grownBy w v.ownBlock := ⟨rfl, rfl, rfl, Nat.le_refl _, fun _ _ _ => rfl⟩
      obtain ⟨η', g1, g2⟩ := inv_append (e := e) (xs := xs ++ []) hI hd hlock hrem (row := v.ownBlock) (fun b hb => hrow' b (by rw [hbv]; exact hb)) hg hs0 (v := v)
        (by rcases owns_form hown with rfl | ⟨_, _, _, rfl⟩ <;> rfl) (fun b hb => ⟨.inl (by rw [← hbv]; exact hb), hlt b hb⟩)
        (fun ok' η' Kp hη => owns_OK1 (m := m) (by rw [hη]; simpa using hown) (by simpa using CL_keeps Kp hs0 hCL))
      exact go v w (by rw [hx, hy]; exact hrun) (hK _ _ ⟨_, η', g1, g2, hk⟩)
    · obtain ⟨v', w', hrun, hown', hg, _, hbl⟩ := run_append_own_at (P := P) w 0 t ty e i z s.cells i.bytes hu hi hzi hisz rfl hzc (Nat.pos_of_ne_zero hc0) v xs.length m hown ad ys.length c news hnews.1 (fun j u hj => (hat j u hj).2) (CL_one hnews) hm1 hm2 (Nat.zero_le _)
      have hbv' := blk_own v' (owns_form hown')
      have hlt' : ∀ b, blk v' = some b → b < w'.heap.size := by
        intro b hb
        rcases hown'.2 with ⟨h1, _⟩ | ⟨g, cap, cur, h1, _, h2, _⟩
        · rw [h1] at hb; cases hb
        · rw [h1] at hb
          obtain rfl : g = b := by simpa [blk] using hb
          exact (Array.getElem?_eq_some_iff.1 h2).1
      obtain ⟨η', g1, g2⟩ := inv_append (e := e) (xs := xs ++ ys) hI hd hlock hrem (row := v.ownBlock) (fun b hb => hrow' b (by rw [hbv]; exact hb)) hg hs0 (v := v')
        (by rcases owns_form hown' with rfl | ⟨_, _, _, rfl⟩ <;> rfl) (fun b hb => ⟨by
          rw [hbv'] at hb
          rcases hbl with h1 | h1
          · exact .inl (by rw [← h1]; exact hb)
          · rw [h1] at hb; cases hb; exact .inr (Nat.le_refl _), hlt' b hb⟩)
        (fun ok' η' Kp hη => owns_OK1 (m := m ++ news) (by rw [hη, List.length_append]; exact hown') (CL_append (CL_keeps Kp hs0 hCL) (CL_keeps Kp hs0 hnews)))
      exact go v' w' (by rw [hx, hy]; exact hrun) (hK _ _ ⟨_, η', g1, g2, hk⟩)
  split at h
  · rename_i d ex
    cases hlk : isLocked st dst with
    | true => rw [hlk, cond_true] at h; cases h
    | false =>
      rw [hlk, cond_false] at h
      obtain ⟨hl, h⟩ := guard_some h
      have hx := V_nil hvx ex
      exact own none _ [] [] hx ⟨by simp, .inl ⟨rfl, rfl⟩⟩ CL_nil (fun l hl => by cases hl) (fun b hb => by cases hb) (fun b hb => by cases hb) hlk (by simpa using hl) (by simpa [without] using h)
  · rename_i l b d ex
    cases hlk : (isLocked st dst || st.lockO l) with
    | true => rw [hlk, cond_true] at h; cases h
    | false =>
      rw [hlk, cond_false] at h
      simp only [Bool.or_eq_false_iff] at hlk
      split at h
      · rename_i e' c xs hl
        split at h
        · rename_i hce
          obtain ⟨rfl, rfl⟩ := hce
          obtain ⟨hlen, h⟩ := guard_some h
          have hx := V_ref hvx ex
          obtain ⟨m, hown, hCL⟩ := OK1_owns (hI.objs l _ hl)
          exact own (some l) _ xs m hx hown hCL (fun l' hl' => by cases hl'; exact ⟨hlk.2, _, hl⟩) (fun b hb => ⟨l, rfl, hb⟩) (fun b hb => (hI.mine l _ b hl hb).2) hlk.1 hlen (by simpa [without] using h)
        · cases h
      · cases h
  · rename_i b xs ex
    split at h
    · rename_i hb
      subst hb
      cases hlk : isLocked st dst with
      | true => rw [hlk, cond_true] at h; cases h
      | false =>
        rw [hlk, cond_false] at h
        cases ys with
        | nil => cases h
        | cons y0 ys =>
          obtain ⟨hlen, h⟩ := guard_some h
          obtain ⟨hm1, hm2⟩ := hlim _ hlen
          obtain ⟨A, hx, hm⟩ := V_lit hvx ex
          have hsrc' : ∃ ad c news, a.eval y = .slice (some ad) (y0 :: ys).length c ∧ At w (okOf X.G st.objs η) ad news ∧ CL w (okOf X.G st.objs η) η b (y0 :: ys) news := by
            rcases hsrc with ⟨_, h1⟩ | h1
            · cases h1
            · exact h1
          obtain ⟨ad, c, news, hy, hat, hnews⟩ := hsrc'
          rcases hm with hm | ⟨bd, m, rfl, h1, h2, h3⟩
          · -- an empty literal
            obtain rfl := List.eq_nil_of_length_eq_zero hm
            cases A with
            | none => exact own none _ [] [] hx ⟨by simp, .inl ⟨rfl, rfl⟩⟩ CL_nil (fun l hl => by cases hl) (fun b hb => by cases hb) (fun b hb => by cases hb) hlk (by simpa using hlen) (by simpa [without] using h)
            | some bd =>
              obtain ⟨v', w', hrun, hown', hg⟩ := run_append_arg_grows (P := P) w t ty e i z b.cells i.bytes hu hi hzi hisz rfl hzc (Nat.pos_of_ne_zero hc0) bd 0 0 [] (by simp) (fun j u hj => by simp at hj) ad (y0 :: ys).length c news hnews.1 (fun j u hj => (hat j u hj).2) (by simp) (by simpa using hm1) (by simpa using hm2)
              have hbv' := blk_own v' (owns_form hown')
              obtain ⟨η', g1, g2⟩ := inv_append (e := e) (xs := [] ++ (y0 :: ys)) hI hd hlk (rem := none) (fun l hl => by cases hl) (row := none) (fun b hb => by cases hb) hg hs0 (v := v')
                (by rcases owns_form hown' with rfl | ⟨_, _, _, rfl⟩ <;> rfl) (fun b hb => by
                  rcases hown'.2 with ⟨h1, _⟩ | ⟨g, cap, cur, h1, h3, h2, _⟩
                  · rw [h1] at hb; cases hb
                  · rw [h1] at hb
                    obtain rfl : g = b := by simpa [blk] using hb
                    exact ⟨.inr h3, (Array.getElem?_eq_some_iff.1 h2).1⟩)
                (fun ok' η' Kp hη => owns_OK1 (m := [] ++ news) (by
                  rw [hη]
                  obtain ⟨q1, q2⟩ := hown'
                  refine ⟨by simpa using q1, ?_⟩
                  rcases q2 with q2 | ⟨g, cap, cur, q3, q4, q5⟩
                  · simp at q2
                  · exact .inr ⟨g, cap, cur, by simpa using q3, Nat.zero_le _, by simpa using q5⟩) (by simpa using CL_keeps Kp hs0 hnews))
              exact go v' w' (by rw [hx, hy]; exact hrun) (hK _ _ ⟨_, η', g1, g2, by simpa [without] using h⟩)
          · obtain ⟨v', w', hrun, hown', hg⟩ := run_append_arg_grows (P := P) w t ty e i z b.cells i.bytes hu hi hzi hisz rfl hzc (Nat.pos_of_ne_zero hc0) bd xs.length xs.length m h2 (fun j u hj => (h1 j u hj).2) ad (y0 :: ys).length c news hnews.1 (fun j u hj => (hat j u hj).2) (by simp) hm1 hm2
            obtain ⟨η', g1, g2⟩ := inv_append (e := e) (xs := xs ++ (y0 :: ys)) hI hd hlk (rem := none) (fun l hl => by cases hl) (row := none) (fun b hb => by cases hb) hg hs0 (v := v')
              (by rcases owns_form hown' with rfl | ⟨_, _, _, rfl⟩ <;> rfl) (fun b hb => by
                rcases hown'.2 with ⟨h1, _⟩ | ⟨g, cap, cur, h1, h3, h2, _⟩
                · rw [h1] at hb; cases hb
                · rw [h1] at hb
                  obtain rfl : g = b := by simpa [blk] using hb
                  exact ⟨.inr h3, (Array.getElem?_eq_some_iff.1 h2).1⟩)
              (fun ok' η' Kp hη => owns_OK1 (m := m ++ news) (by
                rw [hη, List.length_append]
                obtain ⟨q1, q2⟩ := hown'
                refine ⟨q1, ?_⟩
                rcases q2 with q2 | ⟨g, cap, cur, q3, q4, q5⟩
                · exact .inl q2
                · exact .inr ⟨g, cap, cur, q3, Nat.zero_le _, q5⟩) (CL_append (CL_keeps Kp hs0 ⟨h2, h3⟩) (CL_keeps Kp hs0 hnews)))
            exact go v' w' (by rw [hx, hy]; exact hrun) (hK _ _ ⟨_, η', g1, g2, by simpa [without] using h⟩)
    · cases h
  · cases h

/-- A LITERAL OF A SLICE, AS AN ARRAY OF THE CALL'S OWN -/
theorem step_lit {R : Type} {tt : TT} (hT : TTok P tt) {dst : Option Tmp} {ty : TypeId} {pos : String} {after : Array Edge} {guard : Option (Nat × Bool)} {t n' : Nat} {parts : Array (Nat × Operand)} {st : St} {k : St → Option R} {r : R} {X : Fr} {w0 : World} {n : Nat} {η : Nat → Value} {a : Act} {w : World}
    (hI : Inv X w0 n st η a w) (hd : ∀ d, dst = some d → d < n) (h : stepLit tt t n' parts dst st k = some r)
    {K : Act → World → Prop} {Q : Exit → Act → World → Prop} (hK : ∀ a' w', Post X w0 n st η k r a' w' → K a' w') : (⟨dst, .buildSlice t n' parts, ty, pos, after, guard⟩ : Oper).wp P a w K Q := by
  unfold stepLit at h
  split at h
  case h_2 => cases h
  rename_i e s ht
  cases hlk : isLocked st dst with
  | true => rw [hlk, cond_true] at h; cases h
  | false =>
  rw [hlk, cond_false] at h
  cases hg : (Nat.beq n' parts.toList.length && Nat.ble (n' * s.cells) 65536) with
  | false => rw [hg, cond_false] at h; cases h
  | true =>
  rw [hg, cond_true] at h
  simp only [Bool.and_eq_true] at hg
  obtain ⟨hn, hcap⟩ := hg
  obtain rfl := Nat.eq_of_beq_eq_true hn
  have hcap := Nat.le_of_ble_eq_true hcap
  split at h
  case h_2 => cases h
  rename_i l hl
  obtain ⟨_, _, _, _, hc0, _, _⟩ := row_slice (hT t _ ht)
  obtain ⟨hp, _⟩ := row_pure (hT t _ ht)
  have hs : s.under 0 := pure_under hp
  obtain ⟨out, hrun, hsz, hlen, hel⟩ := lit_run (dst := dst) (ty := ty) (pos := pos) (after := after) (guard := guard) hT ht hcap hl hI.und.slots w (okOf X.G st.objs η) η a (fun x _ => hI.slots x)
  have hnb : l.length ≤ 65536 := by
    have h1 : 1 ≤ s.cells := Nat.one_le_iff_ne_zero.2 (by simpa using hc0)
    have h2 : l.length * 1 ≤ l.length * s.cells := Nat.mul_le_mul_left _ h1
    rw [← hlen] at hcap
    omega
  unfold Oper.wp
  rw [hrun, Oper.upon_value]
  obtain ⟨η', hL, hI'⟩ := inv_append (w' := w.alloc (.cells out e)) hI hd hlk (rem := none) (fun l hl => by cases hl) (row := none) (fun b hb => by cases hb)
    ⟨rfl, rfl, rfl, by show w.heap.size ≤ (w.heap.push _).size; simp, fun k hk _ => by show (w.heap.push _)[k]? = _; rw [Array.getElem?_push, if_neg (Nat.ne_of_lt hk)]⟩
    (e := e) (s := s) (xs := l) hs (v := .slice (some ⟨w.heap.size, 0, none⟩) l.length l.length) rfl
    (fun b hb => by
      obtain rfl : w.heap.size = b := by simpa [blk] using hb
      exact ⟨.inr (Nat.le_refl _), by show _ < (w.heap.push _).size; simp⟩)
    (fun ok' η' K hη => .inr ⟨w.heap.size, l.length, out, hη, by show (w.heap.push _)[w.heap.size]? = _; rw [Array.getElem?_push, if_pos rfl], hsz, Nat.le_refl _, by unfold maxLen; omega, fun i hi => C_keeps K (under_mono (Nat.zero_le _) hs) (hel i hi)⟩)
  exact hK _ _ ⟨_, η', hL, hI', h⟩
end Go.Rai

/- Steps that change memory: slices that are made, zero values, the first elements of an array. -/
set_option linter.unusedVariables false
set_option linter.unusedSimpArgs false
namespace Go.Rai
open Go.RowKit
variable {P : Program}

theorem nat_of {m : Int} (h0 : 0 ≤ m) (hl : m ≤ (LIM : Int)) : ∃ N : Nat, m = (N : Int) ∧ N ≤ LIM := ⟨m.toNat, by omega, by omega⟩
theorem nat_of2 {l c : Int} (h0 : 0 ≤ l) (hc : l ≤ c) (hl : c ≤ (LIM : Int)) : ∃ L N : Nat, l = (L : Int) ∧ c = (N : Int) ∧ L ≤ N ∧ N ≤ LIM := ⟨l.toNat, c.toNat, by omega, by omega, by omega, by omega⟩
theorem wrap0 : IntKind.i64.wrap (0 : Int) = 0 := by rw [IntKind.wrap_i64]; omega
theorem wrap_len {m : Int} {n : Nat} (h0 : 0 ≤ m) (h : m ≤ (n : Int)) (hn : n ≤ maxLen ∨ n = 0) : IntKind.i64.wrap m = m := by
  rw [IntKind.wrap_i64]
  unfold maxLen at hn
  omega
theorem fresh_C {w : World} {ok : Nat → Prop} {η : Nat → Value} : ∀ {a : Sh} {cs : List Value}, a.pure = true → C w ok η (fresh a).s (fresh a).d cs → C w ok η a a.zero cs
  | .undef, _, _, h => h
  | .int _, _, _, h => h
  | .bool, _, _, h => h
  | .str, _, _, h => h
  | .unit, _, _, h => h
  | .itf, _, _, h => h
  | .opt _, _, _, h => .inl ⟨rfl, h⟩
  | .slice a, _, _, h => by
    cases h
    exact ⟨none, 0, rfl, ⟨Nat.le_refl _, fun _ => rfl⟩, .inl rfl⟩
  | .pair a b, cs, hp, h => by
    simp only [Sh.pure, Bool.and_eq_true] at hp
    obtain ⟨hs, v, r, rfl, ha, hb⟩ := h
    refine ⟨?_, v, r, rfl, fresh_C hp.1 ha, fresh_C hp.2 hb⟩
    cases a <;> first | rfl | (simp [fresh, Sh.single] at hs; done)

/-- the zero cells of a row's elements -/
theorem zero_of {tt : TT} (hT : TTok P tt) {t e : Nat} {a : Sh} (ht : tt t = some (.slice e a)) : ∃ i z, P.info? e = some i ∧ i.size = a.cells ∧ i.zero = some z ∧ i.bytes ≤ 65536 ∧ z.cells.size = a.cells ∧ a.cells ≠ 0 ∧
    ∀ (w : World) (ok : Nat → Prop) (η : Nat → Value), C w ok η a a.zero z.cells.toList := by
  have hrow := hT t _ ht
  obtain ⟨hu, _, _, hsz, hc0, hby, hz⟩ := row_slice hrow
  obtain ⟨i, hi, hisz⟩ := sizeIs_of hsz
  have hbytes : i.bytes ≤ 65536 := by
    unfold bytesIs at hby
    rw [hi] at hby
    exact Nat.le_of_ble_eq_true hby
  unfold zeroIs at hz
  rw [hi] at hz
  split at hz
  · rename_i i' hi'
    cases hi'
    split at hz
    · rename_i z hz'
      have hC := fun (w : World) (ok : Nat → Prop) (η : Nat → Value) => fresh_C (row_pure hrow).1 (zeroOk_C (w := w) (ok := ok) (η := η) hz)
      refine ⟨i, z, hi, hisz, hz', hbytes, ?_, hc0, hC⟩
      have := C_length (hC default (fun _ => True) (fun _ => undef))
      rwa [Array.length_toList] at this
    · cases hz
  · cases hz

theorem seg_rep {z : Array Value} {c N i : Nat} {cs : Array Value} (hc : c ≠ 0) (hz : z.size = c) (hcs : ∀ j, j < N * c → cs.toList[j]? = some (z[j % c]!)) (hi : i < N) : seg cs.toList (i * c) c = z.toList := by
  have hm : (i + 1) * c ≤ N * c := Nat.mul_le_mul_right _ hi
  have e : (i + 1) * c = i * c + c := Nat.succ_mul _ _
  apply List.ext_getElem?
  intro q
  rw [seg_get]
  by_cases hq : q < c
  · rw [if_pos hq, hcs (i * c + q) (by omega)]
    have : (i * c + q) % c = q := by rw [Nat.mul_comm, Nat.mul_add_mod, Nat.mod_eq_of_lt hq]
    rw [this]
    have hlt : q < z.size := by omega
    simp [hlt]
  · rw [if_neg hq]
    symm
    rw [List.getElem?_eq_none_iff]
    simp; omega

theorem run_zeros0 {w : World} {t t' ty e : Nat} {i : TypeInfo} {q q' : IntKind} (hu : P.underlying t = some (.slice e)) (hu' : P.underlying t' = some (.int q)) (hi : P.info? e = some i) :
    (Builtin.append_ #[t, t'] ty #[.slice none 0 0, .int q' ((0 : Nat) : Int)]).run P w = .ok (.slice none 0 0) w := by
  have e1 := wrap0
  have e2 : ¬ ((0 : Int) * (i.bytes : Int) > 281474976710656) := by omega
  have e3 : (2 : Int) ^ 48 = 281474976710656 := by rfl
  simp only [Builtin.append_, Int.natCast_zero]
  simp [run_underlying hu, run_underlying hu', sizeOf, typeInfo, hi, asInt, asIntOf, e1]
section
variable {R : Type} {tt : TT} {dst : Option Tmp} {ty : TypeId} {pos : String} {after : Array Edge} {guard : Option (Nat × Bool)} {t : Nat} {st : St} {k : St → Option R} {r : R} {X : Fr} {w0 : World} {n : Nat} {η : Nat → Value} {a : Act} {w : World}
    {K : Act → World → Prop} {Q : Exit → Act → World → Prop}
/-- a new array of zero values -/
theorem made_zeros (hT : TTok P tt) (hI : Inv X w0 n st η a w) (hd : ∀ d, dst = some d → d < n) (hlk : isLocked st dst = false) {e : Nat} {s : Sh} (ht : tt t = some (.slice e s)) {l cap : Nat} (hlc : l ≤ cap) (hcm : cap ≤ maxLen) {z : Value}
    {w1 : World} (hw1 : Below w.heap.size w w1) (h1s : w1.heap.size = w.heap.size) {cs : Array Value} (hsz : cs.size = cap * s.cells) (hzs : z.cells.size = s.cells) (hcs : ∀ j, j < l * s.cells → cs.toList[j]? = some (z.cells[j % s.cells]!)) (hc0 : s.cells ≠ 0)
    (hC : ∀ (w : World) (ok : Nat → Prop) (η : Nat → Value), C w ok η s s.zero z.cells.toList)
    (hk : k { st with slots := putSt st dst ⟨.ref st.next s, ()⟩, objs := upd st.objs st.next (some (.arr e s (zerosOf s l))), next := st.next + 1 } = some r)
    (hK : ∀ a' w', Post X w0 n st η k r a' w' → K a' w') : K (a.put dst (.slice (some ⟨w.heap.size, 0, none⟩) l cap)) (w1.alloc (.cells cs e)) := by
  have hs : s.under 0 := pure_under (row_pure (hT t _ ht)).1
  have hlen : (zerosOf s (l : Int)).length = l := by simp [zerosOf]
  obtain ⟨η', hL, hI'⟩ := inv_append (w' := w1.alloc (.cells cs e)) hI hd hlk (rem := none) (fun l hl => by cases hl) (row := none) (fun b hb => by cases hb)
    ⟨hw1.os, hw1.tape, hw1.output, by show w.heap.size ≤ (w1.heap.push _).size; simp; omega, fun k hk _ => by
      show (w1.heap.push _)[k]? = _
      rw [Array.getElem?_push, if_neg (by omega)]
      exact hw1.block k hk⟩
    (e := e) (s := s) (xs := zerosOf s l) hs (v := .slice (some ⟨w.heap.size, 0, none⟩) l cap) rfl
    (fun b hb => by
      obtain rfl : w.heap.size = b := by simpa [blk] using hb
      exact ⟨.inr (Nat.le_refl _), by show _ < (w1.heap.push _).size; simp; omega⟩)
    (fun ok' η' Kp hη => .inr ⟨w.heap.size, cap, cs, by rw [hlen]; exact hη, by show (w1.heap.push _)[w.heap.size]? = _; rw [Array.getElem?_push, if_pos h1s.symm], hsz, by rw [hlen]; exact hlc, hcm, fun i hi => by
      rw [hlen] at hi
      rw [seg_rep hc0 hzs hcs hi]
      have : (zerosOf s (l : Int))[i]'(by rw [hlen]; exact hi) = s.zero := by simp [zerosOf]
      rw [this]
      exact hC _ _ _⟩)
  exact hK _ _ ⟨_, η', hL, hI', hk⟩

theorem step_zeros (hT : TTok P tt) {t' : Nat} {x y : Operand} (hI : Inv X w0 n st η a w) (hd : ∀ d, dst = some d → d < n) (h : stepZeros tt t t' x y dst st k = some r)
    (hK : ∀ a' w', Post X w0 n st η k r a' w' → K a' w') : (⟨dst, .call { callee := .builtin .append, args := #[x, y], argTypes := #[t, t'] }, ty, pos, after, guard⟩ : Oper).wp P a w K Q := by
  unfold stepZeros at h
  split at h
  case h_2 => cases h
  rename_i e s q d q' m ht ht' ex ey
  cases hlk : isLocked st dst with
  | true => rw [hlk, cond_true] at h; cases h
  | false =>
  rw [hlk, cond_false] at h
  obtain ⟨⟨h0, hlim⟩, hk⟩ := guard_some h
  have hvx : VS w (okOf X.G st.objs η) η (evalO st.slots x) (a.eval x) := evalO_VS (ops := #[x]) (fun t _ => hI.slots t) (by simp)
  have hvy : VS w (okOf X.G st.objs η) η (evalO st.slots y) (a.eval y) := evalO_VS (ops := #[y]) (fun t _ => hI.slots t) (by simp)
  have hx := V_nil hvx ex
  have hy := V_int hvy ey
  obtain ⟨i, z, hi, hisz, hz, hby, hzs, hc0, hC⟩ := zero_of hT ht
  obtain ⟨hu, _⟩ := row_slice (hT t _ ht)
  have hu' := row_int (hT t' _ ht')
  obtain ⟨N, hN, hNl⟩ := nat_of h0 hlim
  subst hN
  have hNb : N * i.bytes ≤ 140737488355328 := by
    have : N * i.bytes ≤ LIM * 65536 := Nat.mul_le_mul hNl hby
    unfold LIM at this
    omega
  have hNm : N ≤ maxLen := by unfold LIM at hNl; unfold maxLen; omega
  have go : ∀ v' w', (Builtin.append_ #[t, t'] ty #[a.eval x, a.eval y]).run P w = .ok v' w' → K (a.put dst v') w' →
      (⟨dst, .call { callee := .builtin .append, args := #[x, y], argTypes := #[t, t'] }, ty, pos, after, guard⟩ : Oper).wp P a w K Q := by
    intro v' w' hr hk
    unfold Oper.wp
    rw [exec_builtin (v := v') (w' := w') (by
      simp only [List.map_toArray, List.map_cons, List.map_nil, builtin, Sem.run_bind, hr, Result.andThen_ok, Sem.run_pure])]
    exact hk
  rw [hx, hy] at go
  cases N with
  | zero =>
    refine go (.slice none 0 0) w ?_ ?_
    · have hz0 := run_zeros0 (w := w) (ty := ty) (q' := q') hu hu' hi
      rw [Int.natCast_zero] at hz0
      rw [Int.natCast_zero]
      exact hz0
    · have hs : s.under 0 := pure_under (row_pure (hT t _ ht)).1
      have hzn : zerosOf s ((0 : Nat) : Int) = [] := rfl
      rw [hzn] at hk
      obtain ⟨η', hL, hI'⟩ := inv_append (w' := w) hI hd hlk (rem := none) (fun l hl => by cases hl) (row := none) (fun b hb => by cases hb) ⟨rfl, rfl, rfl, Nat.le_refl _, fun _ _ _ => rfl⟩
        (e := e) (s := s) (xs := []) hs (v := .slice none 0 0) rfl (fun b hb => by cases hb) (fun ok' η' Kp hη => .inl ⟨hη, rfl⟩)
      exact hK _ _ ⟨_, η', hL, hI', hk⟩
  | succ N =>
    have hrun := Lib.run_append_nil_zeros (P := P) w t t' ty e i z q' q hu hu' hi hz (N + 1) (Nat.succ_pos _) (by omega) (by unfold LIM at hNl; omega) (by omega)
    refine go _ _ hrun ?_
    have hb : Below w.heap.size w w.drew := Below.drew (Below.refl _ w)
    have hgc := grownCap_ge w (N + 1) 0 e
    have hzc : ∀ m, (Builtin.zeroCells z.cells m).size = m * s.cells := fun m => by rw [size_zeroCells, hzs]
    refine made_zeros (w1 := w.drew) (z := z) hT hI hd hlk ht hgc (grownCap_le_maxLen w (N + 1) 0 e hNm) hb rfl ?_ hzs ?_ hc0 hC hk hK
    · rw [Array.size_append, hzc, hzc, ← Nat.add_mul, Nat.add_sub_cancel' hgc]
    · intro j hj
      rw [Array.toList_append, List.getElem?_append_left (by rw [Array.length_toList, hzc]; exact hj)]
      have : j < (N + 1) * z.cells.size := by rw [hzs]; exact hj
      simp only [Builtin.zeroCells, hzs]
      simp [hj]

theorem step_make (hT : TTok P tt) {x y : Operand} (hI : Inv X w0 n st η a w) (hd : ∀ d, dst = some d → d < n) (h : stepMake tt t x y dst st k = some r)
    (hK : ∀ a' w', Post X w0 n st η k r a' w' → K a' w') : (⟨dst, .makeSlice t x y, ty, pos, after, guard⟩ : Oper).wp P a w K Q := by
  unfold stepMake at h
  split at h
  case h_2 => cases h
  rename_i e s q l q' c ht ex ey
  cases hlk : isLocked st dst with
  | true => rw [hlk, cond_true] at h; cases h
  | false =>
  rw [hlk, cond_false] at h
  obtain ⟨⟨h0, hlc, hlim⟩, hk⟩ := guard_some h
  have hvx : VS w (okOf X.G st.objs η) η (evalO st.slots x) (a.eval x) := evalO_VS (ops := #[x]) (fun t _ => hI.slots t) (by simp)
  have hvy : VS w (okOf X.G st.objs η) η (evalO st.slots y) (a.eval y) := evalO_VS (ops := #[y]) (fun t _ => hI.slots t) (by simp)
  have hx := V_int hvx ex
  have hy := V_int hvy ey
  obtain ⟨i, z, hi, hisz, hz, hby, hzs, hc0, hC⟩ := zero_of hT ht
  obtain ⟨hu, _⟩ := row_slice (hT t _ ht)
  obtain ⟨L, N, hL, hN, hLN, hNl⟩ := nat_of2 h0 hlc hlim
  subst hL hN
  have hNb : i.bytes * N ≤ 140737488355328 := by
    have : i.bytes * N ≤ 65536 * LIM := Nat.mul_le_mul hby hNl
    unfold LIM at this
    omega
  have hNm : N ≤ maxLen := by unfold LIM at hNl; unfold maxLen; omega
  have hb' : (i.bytes : Int) * (N : Int) ≤ 281474976710656 := by
    have h : ((i.bytes * N : Nat) : Int) ≤ 281474976710656 := by omega
    rwa [Int.natCast_mul] at h
  have hrun := run_make (P := P) w t e i z hu hi hz q q' L N h0 hlc hb' (by unfold LIM at hNl; omega)
  simp only [Int.toNat_natCast] at hrun
  unfold Oper.wp
  have hex : (execOp a.eval ⟨dst, .makeSlice t x y, ty, pos, after, guard⟩).run P w = .ok (.value (.slice (some ⟨w.heap.size, 0, none⟩) L N)) (w.alloc (.cells (madeCells z.cells (N * i.size)) e)) := by
    simp [execOp, hx, hy, hrun]
  rw [hex, Oper.upon_value]
  rw [hisz]
  refine made_zeros (w1 := w) (z := z) hT hI hd hlk ht hLN hNm (Below.refl _ _) rfl (size_madeCells _ _) hzs ?_ hc0 hC hk hK
  intro j hj
  have hj' : j < N * s.cells := Nat.lt_of_lt_of_le hj (Nat.mul_le_mul_right _ hLN)
  simp only [madeCells, hzs]
  simp [hj']

theorem step_sub (hT : TTok P tt) {x hi : Operand} (hI : Inv X w0 n st η a w) (hd : ∀ d, dst = some d → d < n) (h : stepSub tt t x hi dst st k = some r)
    (hK : ∀ a' w', Post X w0 n st η k r a' w' → K a' w') : (⟨dst, .slice t x none (some hi) none, ty, pos, after, guard⟩ : Oper).wp P a w K Q := by
  unfold stepSub at h
  split at h
  case h_2 => cases h
  rename_i e s l b d m ht ex eh
  cases hlk : (isLocked st dst || st.lockO l) with
  | true => rw [hlk, cond_true] at h; cases h
  | false =>
  rw [hlk, cond_false] at h
  simp only [Bool.or_eq_false_iff] at hlk
  split at h
  case h_2 => cases h
  rename_i e' c xs hl
  split at h
  case isFalse => cases h
  rename_i hce
  obtain ⟨rfl, rfl⟩ := hce
  obtain ⟨⟨h0, hlim⟩, hk⟩ := guard_some h
  simp only [cast_eq] at hk
  have hvx : VS w (okOf X.G st.objs η) η (evalO st.slots x) (a.eval x) := evalO_VS (ops := #[x]) (fun t _ => hI.slots t) (by simp)
  have hvh : VS w (okOf X.G st.objs η) η (evalO st.slots hi) (a.eval hi) := evalO_VS (ops := #[hi]) (fun t _ => hI.slots t) (by simp)
  have hx := V_ref hvx ex
  have hh := V_int hvh eh
  obtain ⟨hu, _, _, hsz, hc0, _⟩ := row_slice (hT t _ ht)
  have hs : c.under 0 := pure_under (row_pure (hT t _ ht)).1
  have fin : ∀ (v : Value), (Instr.sliceAt t (η l) none (some (.int .i64 m)) none).run P w = .ok v w → v.oneCell' = true → (∀ b, blk v = some b → blk (η l) = some b) →
      (∀ ok' η', Keeps w (okOf X.G st.objs η) η w ok' η' st.next → η' st.next = v → OK1 w ok' η' st.next (.arr e' c (xs.take m.toNat))) →
      (⟨dst, .slice t x none (some hi) none, ty, pos, after, guard⟩ : Oper).wp P a w K Q := by
    intro v hr hone hb hnew
    unfold Oper.wp
    have hex : (execOp a.eval ⟨dst, .slice t x none (some hi) none, ty, pos, after, guard⟩).run P w = .ok (.value v) w := by
      simp [execOp, hx, hh, hr]
    rw [hex, Oper.upon_value]
    have hblt : ∀ b, blk v = some b → b < w.heap.size := fun b h => (hI.mine l _ b hl (hb b h)).2
    obtain ⟨η', hL, hI'⟩ := inv_append (w' := w) hI hd hlk.1 (rem := some l) (fun q hq => by cases hq; exact ⟨hlk.2, _, hl⟩) (row := blk v) (fun b h => ⟨l, rfl, hb b h⟩) ⟨rfl, rfl, rfl, Nat.le_refl _, fun _ _ _ => rfl⟩
      (e := e') (s := c) (xs := xs.take m.toNat) hs (v := v) hone (fun b h => ⟨.inl h, hblt b h⟩) hnew
    exact hK _ _ ⟨_, η', hL, hI', hk⟩
  have tn : ∀ {m : Int} {n : Nat}, 0 ≤ m → m ≤ (n : Int) → m.toNat ≤ n ∧ (n = 0 → m = 0) := by
    intro m n h1 h2
    omega
  obtain ⟨htn, htz⟩ := tn h0 hlim
  have hml : (xs.take m.toNat).length = m.toNat := by
    rw [List.length_take]
    exact Nat.min_eq_left htn
  rcases hI.objs l _ hl with ⟨h1, h2⟩ | ⟨g, cap, cs, h1, h2, h3, h4, h5, h6⟩
  · have hm0 := htz h2
    subst hm0
    have hr : (Instr.sliceAt t (η l) none (some (.int .i64 0)) none).run P w = .ok (.slice none 0 0) w := by
      rw [h1, sl_sliceAt hu]
      have hr := run_sl_h (P := P) hu hsz none 0 0 0 (Int.le_refl _) (Int.le_refl _) w
      simp only [Int.toNat_zero] at hr
      rw [hr]
      simp [sliced]
    refine fin _ hr rfl (fun b h => by cases h) (fun ok' η' Kp hη => .inl ⟨hη, by simp⟩)
  · have hr : (Instr.sliceAt t (η l) none (some (.int .i64 m)) none).run P w = .ok (.slice (some ⟨g, 0, none⟩) m.toNat cap) w := by
      rw [h1, sl_sliceAt hu]
      have := run_sl_h (P := P) hu hsz (some ⟨g, 0, none⟩) xs.length cap m h0 (Int.le_trans hlim (Int.ofNat_le.2 h4)) w
      have hsl : sliced (some ⟨g, 0, none⟩) 0 m.toNat cap c.cells = .slice (some ⟨g, 0, none⟩) m.toNat cap := by
        unfold sliced
        split <;> simp [Addr.add]
      rw [hsl] at this
      exact this
    refine fin _ hr rfl (fun b h => by rw [h1]; exact h) (fun ok' η' Kp hη => .inr ⟨g, cap, cs, by rw [hη, hml], h2, h3, by rw [hml]; exact Nat.le_trans htn h4, h5, fun i hi => ?_⟩)
    rw [List.getElem_take]
    exact C_keeps Kp (under_mono (Nat.zero_le _) hs) (h6 i (Nat.lt_of_lt_of_le (by rwa [hml] at hi) htn))
end
end Go.Rai

/- Calls of functions that are known. -/
set_option linter.unusedVariables false
set_option linter.unusedSimpArgs false
namespace Go.Rai
open Go.RowKit
variable {P : Program}

def VSs (w : World) (ok : Nat → Prop) (η : Nat → Value) : List SV → List Value → Prop
  | [], [] => True
  | x :: r, v :: vs => VS w ok η x v ∧ VSs w ok η r vs
  | _, _ => False
def ArgsRep (w : World) (ok : Nat → Prop) (η : Nat → Value) : (l : List Sh) → ShD l → List Value → Prop
  | [], _, [] => True
  | s :: r, d, v :: vs => V w ok η s d.1 v ∧ ArgsRep w ok η r d.2 vs
  | _, _, _ => False
/-- what the results say of memory behind the call; own: the blocks that are handed over -/
def ResRep (B : Nat) (w : World) (ok : Nat → Prop) (η : Nat → Value) : (l : List RS) → RSD l → List Value → List Nat → Prop
  | [], _, [], own => own = []
  | .val s :: r, d, v :: vs, own => V w ok η s d.1 v ∧ ResRep B w ok η r d.2 vs own
  | .own e a :: r, d, v :: vs, own => ∃ m own', w.ownsRow B e a.cells v d.1.length m ∧ CL w ok η a d.1 m ∧ own = (match blk v with | some b => b :: own' | none => own') ∧ ResRep B w ok η r d.2 vs own'
  | _, _, _, _ => False
def resVal : List Value → Value
  | [v] => v
  | l => .tuple l.toArray
def Sh.isTup : Sh → Bool
  | .tup _ _ => true
  | _ => false
def RS.under (n : Nat) : RS → Prop
  | .val s => s.under n ∧ s.isTup = false
  | .own _ a => a.under n
def Back (w : World) (ok : Nat → Prop) (η : Nat → Value) (s : List RS) (r : RSD s) (e : Ending) (w' : World) : Prop :=
  ∃ vs own, e = .returned (resVal vs) ∧ Below w.heap.size w w' ∧ own.Nodup ∧ ResRep w.heap.size w' (fun b => (b < w.heap.size ∧ ok b) ∨ (w.heap.size ≤ b ∧ b ∉ own)) η s r vs own
/-- A SIGNATURE IS TRUE OF A FUNCTION. -/
structure SigOK (P : Program) (S : World → Prop) (f : Nat) (s : Sig) : Prop where
  ins : ∀ t ∈ s.ins, t.under 0
  outs : ∀ t ∈ s.outs, t.under 0
  enter : ∃ fn, P.funcs[f]? = some fn ∧ fn.name ≠ "runtime.NumGoroutine" ∧ fn.body.isNone = false
  calls : ∀ (d : ShD s.ins) (r : RSD s.outs), s.f d = some r → ∀ (w : World) (ok : Nat → Prop) (η : Nat → Value) (args : Array Value), S w → ArgsRep w ok η s.ins d args.toList → Calls P f args w (Back w ok η s.outs r)
def EnvOK (P : Program) (S : World → Prop) (env : Env) : Prop := ∀ f s, s ∈ env f → SigOK P S f s
/-- the signatures, in worlds that come of one -/
def EnvAt (P : Program) (X : Fr) (w0 : World) (env : Env) : Prop := EnvOK P X.S env ∧ ∀ w, KeptX X.X w0.heap.size w0 w → X.S w

theorem run_callFunc {S : World → Prop} {f : Nat} {s : Sig} (h : SigOK P S f s) (args : Array Value) (w : World) : (callFunc f args).run P w = .ok (.enter f args) w := by
  obtain ⟨fn, hf, hn, hb⟩ := h.enter
  simp only [callFunc, Sem.run_bind, run_program, Result.andThen_ok, hf]
  have : (fn.name == "runtime.NumGoroutine") = false := by simpa using hn
  simp [this, hb]

section
variable {w : World} {ok ok' : Nat → Prop} {η η' : Nat → Value}

theorem C_ok {w : World} {ok ok' : Nat → Prop} {η : Nat → Value} (hok : ∀ b, ok b → ok' b) {s : Sh} {d : s.D} {cs : List Value} {n : Nat} (hu : s.under n) (h : C w ok η s d cs) : C w ok' η s d cs :=
  C_keeps (n := n) ⟨fun a v h1 h2 => ⟨hok _ h1, h2⟩, fun _ _ => rfl⟩ hu h
theorem V_ok {w : World} {ok ok' : Nat → Prop} {η : Nat → Value} (hok : ∀ b, ok b → ok' b) {s : Sh} {d : s.D} {v : Value} {n : Nat} (hu : s.under n) (h : V w ok η s d v) : V w ok' η s d v :=
  V_keeps (n := n) ⟨fun a v h1 h2 => ⟨hok _ h1, h2⟩, fun _ _ => rfl⟩ hu h

theorem coX_C {rd : Nat → Option Ob} {ok2 : Nat → Prop} (hok : ∀ b, ok b → ok2 b) (hrd : ∀ l x, rd l = some x → OK1 w ok η l x) : ∀ {t s : Sh} {d : s.D} {x : t.D} {cs : List Value} {n : Nat},
    t.under 0 → s.under n → C w ok η s d cs → coX rd t ⟨s, d⟩ = some x → (∀ l, l ∈ s.refs → ∀ x b, rd l = some x → blk (η l) = some b → ok2 b) → C w ok2 η t x cs := by
  have base : ∀ {t s : Sh} {d : s.D} {x : t.D} {cs : List Value} {n : Nat}, t.under 0 → s.under n → C w ok η s d cs → co t ⟨s, d⟩ = some x → C w ok2 η t x cs := by
    intro t s d x cs n ht hs h e
    exact co_C hs (C_ok hok hs h) e (by rw [mat_nil ht]; exact fun L o h => by simp at h)
  intro t
  induction t with
  | pair a b iha ihb =>
    intro s d x cs n ht hs h e hr
    cases s <;> first | exact base ht hs h (by simpa [coX] using e) | skip
    rename_i a' b'
    simp only [coX] at e
    split at e
    · rename_i y z e1 e2
      simp only [Option.some.injEq] at e
      subst e
      obtain ⟨hsg, v, r, rfl, ha, hb⟩ := h
      refine ⟨?_, v, r, rfl, iha ht.1 hs.1 ha e1 (fun l h' => hr l (by simp [Sh.refs, h'])), ihb ht.2 hs.2 hb e2 (fun l h' => hr l (by simp [Sh.refs, h']))⟩
      cases a <;> first
        | rfl
        | (cases a' <;> first | (simp only [coX, co, reduceCtorEq] at e1; done) | (simp [Sh.single] at hsg; done))
    · cases e
  | slice a iha =>
    intro s d x cs n ht hs h e hr
    cases s <;> first | exact base ht hs h (by simpa [coX] using e) | skip
    rename_i l b
    simp only [coX] at e
    split at e
    · rename_i e' c xs hl
      split at e
      · rename_i hcb
        obtain ⟨rfl, rfl⟩ := hcb
        simp only [Option.some.injEq, cast_eq] at e
        subst e
        obtain ⟨hcs, _⟩ := h
        have hall := hr l (by simp [Sh.refs])
        rcases hrd l _ hl with ⟨h1, h2⟩ | ⟨g, cap, rw', h1, h2, h3, h4, h5, h6⟩
        · rw [h1] at hcs
          exact ⟨none, 0, by rw [hcs]; simp [h2], ⟨by omega, fun _ => rfl⟩, .inl h2⟩
        · rw [h1] at hcs
          refine ⟨_, cap, hcs, ⟨h4, fun hA => by cases hA⟩, .inr ⟨⟨g, 0, none⟩, rw'.toList.take (xs.length * b.cells), rfl, ?_, ?_, ?_⟩⟩
          · intro j v hv
            refine ⟨hall _ g hl (by rw [h1]; rfl), ?_⟩
            rw [add_mid, cell_of_row w g _ rw' e' (0, 0) h2]
            rw [List.getElem?_take] at hv
            split at hv
            · simpa using hv
            · cases hv
          · have : xs.length * b.cells ≤ cap * b.cells := Nat.mul_le_mul_right _ h4
            simp; omega
          · intro i hi
            have : seg (rw'.toList.take (xs.length * b.cells)) (i * b.cells) b.cells = seg rw'.toList (i * b.cells) b.cells := by
              have hm : (i + 1) * b.cells ≤ xs.length * b.cells := Nat.mul_le_mul_right _ hi
              have e : (i + 1) * b.cells = i * b.cells + b.cells := Nat.succ_mul _ _
              apply List.ext_getElem?
              intro q
              rw [seg_get, seg_get]
              by_cases hq : q < b.cells
              · rw [if_pos hq, if_pos hq, List.getElem?_take, if_pos (by omega)]
              · rw [if_neg hq, if_neg hq]
            rw [this]
            exact C_ok hok (n := 0) ht (h6 i hi)
      · cases e
    · cases e
  | _ => intro s d x cs n ht hs h e hr; exact base ht hs h (by simpa [coX] using e)

theorem coX_V {rd : Nat → Option Ob} {ok2 : Nat → Prop} (hok : ∀ b, ok b → ok2 b) (hrd : ∀ l x, rd l = some x → OK1 w ok η l x) {t s : Sh} {d : s.D} {x : t.D} {v : Value} {n : Nat}
    (ht : t.under 0) (hs : s.under n) (h : VS w ok η ⟨s, d⟩ v) (e : coX rd t ⟨s, d⟩ = some x) (hr : ∀ l, l ∈ s.refs → ∀ x b, rd l = some x → blk (η l) = some b → ok2 b) : V w ok2 η t x v := by
  have base : co t ⟨s, d⟩ = some x → V w ok2 η t x v := fun e => co_VS hs (V_ok hok hs h) e (by rw [mat_nil ht]; exact fun L o h => by simp at h)
  cases t
  case pair a b =>
    cases s <;> first | exact base (by simpa [coX] using e) | skip
    obtain ⟨cs, rfl, h⟩ := h
    exact ⟨cs, rfl, coX_C hok hrd (s := .pair _ _) ht hs h e hr⟩
  case slice a =>
    cases s <;> first | exact base (by simpa [coX] using e) | exact coX_C hok hrd (cs := [v]) ht hs h e hr
  all_goals exact base (by simpa [coX] using e)

theorem refs_has {l : Nat} : ∀ {s : Sh}, l ∈ s.refs → s.hasRef = true
  | .ref _ _, _ => rfl
  | .pair a b, h => by
    simp only [Sh.refs, List.mem_append] at h
    simp only [Sh.hasRef, Bool.or_eq_true]
    exact h.imp refs_has refs_has
  | .undef, h => by simp [Sh.refs] at h
  | .int _, h => by simp [Sh.refs] at h
  | .bool, h => by simp [Sh.refs] at h
  | .str, h => by simp [Sh.refs] at h
  | .unit, h => by simp [Sh.refs] at h
  | .slice _, h => by simp [Sh.refs] at h
  | .lit _, h => by simp [Sh.refs] at h
  | .nil, h => by simp [Sh.refs] at h
  | .itf, h => by simp [Sh.refs] at h
  | .pnil, h => by simp [Sh.refs] at h
  | .opt _, h => by simp [Sh.refs] at h
  | .ptr _ _, h => by simp [Sh.refs] at h
  | .elt _ _ _, h => by simp [Sh.refs] at h
  | .adr _, h => by simp [Sh.refs] at h
  | .fn _ _, h => by simp [Sh.refs] at h
  | .tup _ _, h => by simp [Sh.refs] at h

theorem argsCo_V {rd : Nat → Option Ob} {ok2 : Nat → Prop} (hok : ∀ b, ok b → ok2 b) (hrd : ∀ l x, rd l = some x → OK1 w ok η l x) {n : Nat} : ∀ {l : List Sh} {args : List SV} {d : ShD l} {vs : List Value}, (∀ t ∈ l, t.under 0) → (∀ v ∈ args, v.s.under n) →
    VSs w ok η args vs → argsCo rd l args = some d → (anyB (fun v => v.s.hasRef) args = true → ∀ b, ok2 b) → ArgsRep w ok2 η l d vs
  | [], [], d, vs, _, _, h, e, _ => by
    cases vs with
    | nil => trivial
    | cons v vs => exact h.elim
  | t :: l, x :: args, d, vs, ht, hu, h, e, hr => by
    cases vs with
    | nil => exact h.elim
    | cons v vs =>
      obtain ⟨h1, h2⟩ := h
      simp only [argsCo] at e
      split at e
      · rename_i y z e1 e2
        simp only [Option.some.injEq] at e
        subst e
        exact ⟨coX_V hok hrd (ht t (by simp)) (hu x (by simp)) h1 e1 (fun l h' x b _ _ => hr (by simp [anyB, refs_has h']) b), argsCo_V hok hrd (fun t' h' => ht t' (by simp [h'])) (fun v h' => hu v (by simp [h'])) h2 e2 (fun h' => hr (by simp [anyB, h']))⟩
      · cases e
  | [], _ :: _, _, _, _, _, _, e, _ => by simp [argsCo] at e
  | _ :: _, [], _, _, _, _, _, e, _ => by simp [argsCo] at e

/-- a form that names no memory that is only read does not ask which memory that is -/
theorem C_noimm : ∀ {s : Sh} {d : s.D} {cs : List Value}, s.imm = false → C w ok η s d cs → C w ok' η s d cs
  | .undef, _, _, _, h => h
  | .int _, _, _, _, h => h
  | .bool, _, _, _, h => h
  | .str, _, _, _, h => h
  | .unit, _, _, _, h => h
  | .pair a b, d, _, hi, h => by
    simp only [Sh.imm, Bool.or_eq_false_iff] at hi
    obtain ⟨hs, v, r, rfl, ha, hb⟩ := h
    exact ⟨hs, v, r, rfl, C_noimm hi.1 ha, C_noimm hi.2 hb⟩
  | .nil, _, _, _, h => h
  | .ref l _, _, _, _, h => h
  | .ptr l off, _, _, _, h => h
  | .elt l a off, i, _, _, h => h
  | .fn f c, d, _, hi, h => by
    obtain ⟨caps, rfl, hc⟩ := h
    exact ⟨caps, rfl, C_noimm (s := c) hi hc⟩
  | .tup _ _, _, _, _, h => h
  | .itf, _, _, _, h => h
  | .pnil, _, _, _, h => h
theorem V1_noimm {s : Sh} {d : s.D} {v : Value} (hi : s.imm = false) (h : V1 w ok η s d v) : V1 w ok' η s d v := by
  cases s
  case undef => trivial
  case unit => exact h
  case pair => obtain ⟨cs, rfl, h⟩ := h; exact ⟨cs, rfl, C_noimm hi h⟩
  case tup => exact h.elim
  all_goals exact C_noimm (w := w) (ok := ok) (ok' := ok') (η := η) (cs := [v]) hi h
theorem CT_noimm : ∀ {s : Sh} {d : s.D} {vs : List Value}, s.imm = false → CT w ok η (V1 w ok η) s d vs → CT w ok' η (V1 w ok' η) s d vs := by
  intro s
  induction s with
  | tup a b iha ihb =>
    intro d vs hi h
    simp only [Sh.imm, Bool.or_eq_false_iff] at hi
    obtain ⟨v, r, rfl, ha, hb⟩ := h
    exact ⟨v, r, rfl, V1_noimm hi.1 ha, ihb hi.2 hb⟩
  | unit => intro d vs hi h; exact h
  | _ => intro d vs hi h; exact h.elim
theorem V_noimm {s : Sh} {d : s.D} {v : Value} (hi : s.imm = false) (h : V w ok η s d v) : V w ok' η s d v := by
  cases s
  case tup => obtain ⟨vs, rfl, h⟩ := h; exact ⟨vs, rfl, CT_noimm hi h⟩
  all_goals exact V1_noimm (w := w) (ok := ok) (ok' := ok') (η := η) (d := d) (v := v) hi h
end

/-- where the arrays that are handed over lie -/
def outEta (n : Nat) (η : Nat → Value) : List RS → List Value → Nat → Value
  | .val _ :: r, _ :: vs => outEta (n + 1) η r vs
  | .own _ _ :: r, v :: vs => upd (outEta (n + 1) η r vs) n v
  | _, _ => η
theorem V_V1 {w : World} {ok : Nat → Prop} {η : Nat → Value} {s : Sh} {d : s.D} {v : Value} (hs : s.isTup = false) (h : V w ok η s d v) : V1 w ok η s d v := by
  cases s <;> first | exact h | (simp [Sh.isTup] at hs; done)

theorem out_lemma {B n0 : Nat} {w : World} {ok ok' : Nat → Prop} {η : Nat → Value} {f : Nat → Option Ob} (hf : ∀ q x, f q = some x → q < n0) :
    ∀ {l : List RS} {o : RSD l} {vs : List Value} {own : List Nat} {n : Nat}, n0 ≤ n → own.Nodup → ResRep B w ok η l o vs own → (∀ t ∈ l, t.under 0) →
    (∀ q, q < n → outEta n η l vs q = η q) ∧ (∀ q, q < n → outObjs n f l o q = f q) ∧
    (∀ q x, outObjs n f l o q = some x → n ≤ q → q < n + l.length ∧ x.under 0 ∧ (∃ e a xs m, x = .arr e a xs ∧ RS.own e a ∈ l ∧ w.ownsRow B e a.cells (outEta n η l vs q) xs.length m ∧ CL w ok η a xs m) ∧ ∀ b, blk (outEta n η l vs q) = some b → b ∈ own) ∧
    (∀ q q' x x' b, n ≤ q → n ≤ q' → outObjs n f l o q = some x → outObjs n f l o q' = some x' → blk (outEta n η l vs q) = some b → blk (outEta n η l vs q') = some b → q = q') ∧
    (∀ b ∈ own, B ≤ b ∧ b < w.heap.size) ∧ (∀ x ∈ outSV n l o, x.s.under (n + l.length) ∧ x.s.isTup = false) ∧
    (∀ η', (∀ q, q < n + l.length → n ≤ q → η' q = outEta n η l vs q) → (∀ s ∈ l, s.imm = false ∨ ∀ b, ok b → ok' b) → VSs w ok' η' (outSV n l o) vs)
  | [], o, vs, own, n, hn, hnd, h, hu => by
    cases vs with
    | cons v vs => exact h.elim
    | nil =>
      obtain rfl : own = [] := h
      refine ⟨fun _ _ => rfl, fun _ _ => rfl, fun q x hx hq => ?_, fun q q' x x' b hq _ hx _ _ _ => ?_, fun b hb => by simp at hb, fun x hx => by simp [outSV] at hx, fun _ _ _ => trivial⟩
      · exact absurd (hf q x hx) (by omega)
      · exact absurd (hf q x hx) (by omega)
  | .val s :: l, o, vs, own, n, hn, hnd, h, hu => by
    cases vs with
    | nil => exact h.elim
    | cons v vs =>
      obtain ⟨h1, h2⟩ := h
      obtain ⟨hus, hut⟩ := hu (.val s) (by simp)
      obtain ⟨a1, a2, a3, a4, a5, a6, a7⟩ := out_lemma (ok' := ok') hf (Nat.le_succ_of_le hn) hnd h2 (fun t ht => hu t (by simp [ht]))
      have hno : ∀ q x, outObjs (n + 1) f l o.2 q = some x → n ≤ q → n + 1 ≤ q := by
        intro q x hx hq
        rcases Nat.lt_or_ge q (n + 1) with hlt | hge
        · rw [a2 q hlt] at hx
          exact absurd (hf q x hx) (by omega)
        · exact hge
      refine ⟨fun q hq => a1 q (by omega), fun q hq => a2 q (by omega), fun q x hx hq => ?_, fun q q' x x' b hq hq' hx hx' => a4 q q' x x' b (hno q x hx hq) (hno q' x' hx' hq') hx hx', a5, ?_, ?_⟩
      · obtain ⟨b1, b2, ⟨e1, c1, c2, c3, c4, c5, c6⟩, b4⟩ := a3 q x hx (hno q x hx hq)
        exact ⟨by simp only [List.length_cons]; omega, b2, ⟨e1, c1, c2, c3, c4, List.mem_cons_of_mem _ c5, c6⟩, b4⟩
      · intro x hx
        rcases List.mem_cons.1 hx with rfl | hx
        · exact ⟨under_mono (Nat.zero_le _) hus, hut⟩
        · have := a6 x hx
          refine ⟨under_mono ?_ this.1, this.2⟩
          simp only [List.length_cons]; omega
      · intro η' hη hok
        refine ⟨?_, a7 η' (fun q hq hq' => hη q (by simp only [List.length_cons]; omega) (by omega)) (fun s hs => hok s (by simp [hs]))⟩
        have h3 : V w ok η' s o.1 v := V_keeps (n := 0) ⟨fun _ _ p q => ⟨p, q⟩, fun l hl => absurd hl (Nat.not_lt_zero _)⟩ hus h1
        rcases hok (.val s) (by simp) with hi | hok'
        · exact V_noimm hi h3
        · exact V_ok hok' hus h3
  | .own e a :: l, o, vs, own, n, hn, hnd, h, hu => by
    cases vs with
    | nil => exact h.elim
    | cons v vs =>
      obtain ⟨m, own', h1, h2, h3, h4⟩ := h
      have hua : a.under 0 := hu (.own e a) (by simp)
      have hsub : ∀ b, b ∈ own' → b ∈ own := by
        intro b hb
        rw [h3]
        split
        · exact List.mem_cons_of_mem _ hb
        · exact hb
      have hnd' : own'.Nodup := by
        rw [h3] at hnd
        split at hnd
        · exact (List.nodup_cons.1 hnd).2
        · exact hnd
      have hfresh : ∀ b, blk v = some b → b ∉ own' ∧ b ∈ own := by
        intro b hb
        rw [h3, hb] at hnd
        rw [h3, hb]
        exact ⟨(List.nodup_cons.1 hnd).1, by simp⟩
      obtain ⟨a1, a2, a3, a4, a5, a6, a7⟩ := out_lemma (ok' := ok') hf (Nat.le_succ_of_le hn) hnd' h4 (fun t ht => hu t (by simp [ht]))
      have hcase : ∀ q x, outObjs n f (.own e a :: l) o q = some x → n ≤ q → (q = n ∧ x = .arr e a o.1) ∨ (n + 1 ≤ q ∧ outObjs (n + 1) f l o.2 q = some x) := by
        intro q x hx hq
        by_cases e' : q = n
        · subst e'
          simp only [outObjs, upd_same, Option.some.injEq] at hx
          exact .inl ⟨rfl, hx.symm⟩
        · simp only [outObjs] at hx
          rw [upd_ne _ _ e'] at hx
          exact .inr ⟨by omega, hx⟩
      have hEn : outEta n η (.own e a :: l) (v :: vs) n = v := upd_same _ _ _
      have hEq : ∀ q, q ≠ n → outEta n η (.own e a :: l) (v :: vs) q = outEta (n + 1) η l vs q := fun q hq => upd_ne _ _ hq
      refine ⟨fun q hq => ?_, fun q hq => ?_, fun q x hx hq => ?_, fun q q' x x' b hq hq' hx hx' hb hb' => ?_, ?_, ?_, ?_⟩
      · rw [hEq q (by omega)]; exact a1 q (by omega)
      · show upd (outObjs (n + 1) f l o.2) n _ q = _
        rw [upd_ne _ _ (by omega)]; exact a2 q (by omega)
      · rcases hcase q x hx hq with ⟨rfl, rfl⟩ | ⟨hq1, hx1⟩
        · refine ⟨by simp, hua, ⟨e, a, o.1, m, rfl, by simp, by rw [hEn]; exact h1, h2⟩, fun b hb => ?_⟩
          rw [hEn] at hb
          exact (hfresh b hb).2
        · obtain ⟨b1, b2, ⟨e1, c1, c2, c3, c4, c5, c6⟩, b4⟩ := a3 q x hx1 hq1
          rw [hEq q (by omega)]
          exact ⟨by simp only [List.length_cons]; omega, b2, ⟨e1, c1, c2, c3, c4, List.mem_cons_of_mem _ c5, c6⟩, fun b hb => hsub b (b4 b hb)⟩
      · rcases hcase q x hx hq with ⟨rfl, rfl⟩ | ⟨hq1, hx1⟩ <;> rcases hcase q' x' hx' hq' with ⟨rfl, rfl⟩ | ⟨hq1', hx1'⟩
        · rfl
        · rw [hEn] at hb
          rw [hEq q' (by omega)] at hb'
          exact absurd ((a3 q' x' hx1' hq1').2.2.2 b hb') (hfresh b hb).1
        · rw [hEn] at hb'
          rw [hEq q (by omega)] at hb
          exact absurd ((a3 q x hx1 hq1).2.2.2 b hb) (hfresh b hb').1
        · rw [hEq q (by omega)] at hb
          rw [hEq q' (by omega)] at hb'
          exact a4 q q' x x' b hq1 hq1' hx1 hx1' hb hb'
      · intro b hb
        rw [h3] at hb
        split at hb
        · rename_i b0 hb0
          rcases List.mem_cons.1 hb with rfl | hb
          · rcases h1.2 with ⟨k1, _⟩ | ⟨g, cap, cur, k1, k2, k3, _⟩
            · rw [k1] at hb0; cases hb0
            · rw [k1] at hb0
              obtain rfl : g = b := by simpa [blk] using hb0
              exact ⟨k2, (Array.getElem?_eq_some_iff.1 k3).1⟩
          · exact a5 b hb
        · exact a5 b hb
      · intro x hx
        rcases List.mem_cons.1 hx with rfl | hx
        · refine ⟨?_, rfl⟩
          show n < n + (l.length + 1)
          omega
        · have := a6 x hx
          refine ⟨under_mono ?_ this.1, this.2⟩
          simp only [List.length_cons]; omega
      · intro η' hη hok
        have hn' := hη n (by simp) (Nat.le_refl _)
        rw [hEn] at hn'
        refine ⟨⟨by rw [hn'], by rw [hn']; rcases owns_form h1 with rfl | ⟨_, _, _, rfl⟩ <;> rfl⟩, a7 η' (fun q hq hq' => ?_) (fun s hs => hok s (by simp [hs]))⟩
        rw [hη q (by simp only [List.length_cons]; omega) (by omega), hEq q (by omega)]
end Go.Rai

/- A call, as a step. -/
set_option linter.unusedVariables false
set_option linter.unusedSimpArgs false
namespace Go.Rai
open Go.RowKit
variable {P : Program}

theorem V_fn {w : World} {ok : Nat → Prop} {η : Nat → Value} {x : SV} {v : Value} {g : Nat} {c : Sh} {d : c.D} (h : VS w ok η x v) (e : x = ⟨.fn g c, d⟩) : ∃ caps : Array Value, v = .func (.func g) #[] caps ∧ C w ok η c d caps.toList := by
  subst e
  obtain ⟨caps, h1, h2⟩ := h
  exact ⟨caps, by simpa using h1, h2⟩

theorem VSs_append {w : World} {ok : Nat → Prop} {η : Nat → Value} : ∀ {xs ys : List SV} {vs us : List Value}, VSs w ok η xs vs → VSs w ok η ys us → VSs w ok η (xs ++ ys) (vs ++ us)
  | [], ys, [], us, _, h => h
  | [], _, _ :: _, _, h, _ => h.elim
  | _ :: _, _, [], _, h, _ => h.elim
  | x :: xs, ys, v :: vs, us, h, k => ⟨h.1, VSs_append h.2 k⟩
theorem VSs_map {w : World} {ok : Nat → Prop} {η : Nat → Value} {sl : Nat → SV} {a : Act} (h : ∀ t, VS w ok η (sl t) (a.tmps.getD t undef)) : ∀ l : List Operand, VSs w ok η (l.map (evalO sl)) (l.map a.eval)
  | [] => trivial
  | x :: l => ⟨evalO_VS (ops := #[x]) (fun t _ => h t) (by simp), VSs_map h l⟩
/-- captured cells, as values -/
theorem caps_V {w : World} {ok : Nat → Prop} {η : Nat → Value} : ∀ {c : Sh} {d : c.D} {cs : List Value}, (capsOf ⟨c, d⟩).length = cs.length → C w ok η c d cs → VSs w ok η (capsOf ⟨c, d⟩) cs := by
  intro c
  induction c with
  | pair a b iha ihb =>
    intro d cs hl h
    obtain ⟨hs, v, r, rfl, ha, hb⟩ := h
    simp only [capsOf, capsS, List.length_cons] at hl ⊢
    refine ⟨?_, ihb (by show (capsS b d.2).length = _; omega) hb⟩
    cases a <;> first | exact ha | exact ha.elim | (simp [Sh.single] at hs; done) | trivial
  | _ => intro d cs hl h; cases cs <;> simp [capsOf, capsS] at hl ⊢ <;> trivial
theorem capsOf_under {n : Nat} : ∀ {c : Sh} {d : c.D}, c.under n → ∀ x ∈ capsOf ⟨c, d⟩, x.s.under n := by
  intro c
  induction c with
  | pair a b iha ihb =>
    intro d h x hx
    simp only [capsOf, capsS] at hx
    rcases List.mem_cons.1 hx with rfl | hx
    · exact h.1
    · exact ihb h.2 x hx
  | _ => intro d h x hx; simp [capsOf, capsS] at hx

theorem argsCo_length {rd : Nat → Option Ob} : ∀ {l : List Sh} {args : List SV} {d : ShD l}, argsCo rd l args = some d → args.length = l.length
  | [], [], _, _ => rfl
  | [], _ :: _, _, e => by simp [argsCo] at e
  | _ :: _, [], _, e => by simp [argsCo] at e
  | _ :: l, _ :: args, d, e => by
    simp only [argsCo] at e
    split at e
    · rename_i e2
      simp [argsCo_length e2]
    · cases e

theorem resOf_V {w : World} {ok : Nat → Prop} {η : Nat → Value} : ∀ {l : List SV} {vs : List Value}, (∀ x ∈ l, x.s.isTup = false) → VSs w ok η l vs → VS w ok η (resOf l) (resVal vs)
  | [], vs, _, h => trivial
  | [x], [v], _, h => h.1
  | [x], [], _, h => h.elim
  | [x], _ :: _ :: _, _, h => h.2.elim
  | x :: y :: r, vs, ht, h => by
    have ct : ∀ {l : List SV} {vs : List Value}, (∀ x ∈ l, x.s.isTup = false) → VSs w ok η l vs → CT w ok η (V1 w ok η) (tupOf l).s (tupOf l).d vs := by
      intro l
      induction l with
      | nil => intro vs _ h; cases vs with | nil => rfl | cons => exact h.elim
      | cons x l ih =>
        intro vs ht h
        cases vs with
        | nil => exact h.elim
        | cons v vs => exact ⟨v, vs, rfl, V_V1 (ht x (by simp)) h.1, ih (fun y hy => ht y (by simp [hy])) h.2⟩
    have h1 := ct ht h
    match vs, h with
    | v :: u :: vs, h => exact ⟨(v :: u :: vs).toArray, rfl, h1⟩
    | [], h => exact h.elim
    | [v], h => exact h.2.elim
theorem resOf_under {n : Nat} : ∀ {l : List SV}, (∀ x ∈ l, x.s.under n) → (resOf l).s.under n
  | [], _ => trivial
  | [x], h => h x (by simp)
  | x :: y :: r, h => by
    have : ∀ {l : List SV}, (∀ x ∈ l, x.s.under n) → (tupOf l).s.under n := by
      intro l
      induction l with
      | nil => intro _; trivial
      | cons x l ih => intro h; exact ⟨h x (by simp), ih fun y hy => h y (by simp [hy])⟩
    exact this h

theorem run_call_func {a : Act} {f : Operand} {args : Array Operand} {argTypes : Array TypeId} {dst : Option Tmp} {ty : TypeId} {pos : String} {after : Array Edge} {guard : Option (Nat × Bool)} {g : Nat} {caps : Array Value} {s : Sig} {S : World → Prop} (hf : a.eval f = .func (.func g) #[] caps) (hs : SigOK P S g s) (w : World) :
    (execOp a.eval ⟨dst, .call { callee := .value f, args, argTypes }, ty, pos, after, guard⟩).run P w = .ok (.enter g (args.map a.eval ++ caps)) w := by
  simp only [execOp, resolve, hf, Deferred.ofValue, pure_bind, invoke]
  simp [run_callFunc hs]

theorem step_sig {env : Env} {X : Fr} {w0 : World} (hE : EnvAt P X w0 env) {dst : Option Tmp} {ty : TypeId} {pos : String} {after : Array Edge} {guard : Option (Nat × Bool)} {f : Operand} {args : Array Operand} {argTypes : Array TypeId} {st : St} {n : Nat} {η : Nat → Value} {a : Act} {w : World} {g : Nat} {c : Sh} {d : c.D}
    (hI : Inv X w0 n st η a w) (hd : ∀ d, dst = some d → d < n) (hcap : capOk c = true) {sl : Nat → SV} (hsl : ∀ t, VS w (okOf X.G st.objs η) η (sl t) (a.tmps.getD t undef)) (hslu : ∀ t, (sl t).s.under st.next) (ef : evalO sl f = ⟨.fn g c, d⟩)
    {s : Sig} (hmem : s ∈ env g) {ds : ShD s.ins} (hds : argsCo st.objs s.ins (args.toList.map (evalO sl) ++ capsOf ⟨c, d⟩) = some ds)
    (himm : (anyB (fun v : SV => v.s.hasRef) (args.toList.map (evalO sl) ++ capsOf ⟨c, d⟩) && anyB RS.imm s.outs) = false) (hlk : isLocked st dst = false) {o : RSD s.outs} (ho : s.f ds = some o)
    {K : Act → World → Prop} {Q : Exit → Act → World → Prop}
    (hK : ∀ val w' η', Below w.heap.size w w' → Later st η { st with slots := putSt st dst (resOf (outSV st.next s.outs o)), objs := outObjs st.next st.objs s.outs o, next := st.next + s.outs.length } η' →
      Inv X w0 n { st with slots := putSt st dst (resOf (outSV st.next s.outs o)), objs := outObjs st.next st.objs s.outs o, next := st.next + s.outs.length } η' (a.put dst val) w' → K (a.put dst val) w') :
    (⟨dst, .call { callee := .value f, args, argTypes }, ty, pos, after, guard⟩ : Oper).wp P a w K Q := by
    have hs := hE.1 g s hmem
    have hvf : VS w (okOf X.G st.objs η) η (evalO sl f) (a.eval f) := evalO_VS (ops := #[f]) (fun t _ => hsl t) (by simp)
    obtain ⟨caps, hfv, hcaps⟩ := V_fn hvf ef
    have huf : c.under st.next := by have := evalO_under hslu f; rw [ef] at this; exact this
    -- which memory the callee is told to be only read
    obtain ⟨ok2, hok2, hall⟩ : ∃ ok2 : Nat → Prop, (∀ b, okOf X.G st.objs η b → ok2 b) ∧ ((anyB (fun v : SV => v.s.hasRef) (args.toList.map (evalO sl) ++ capsOf ⟨c, d⟩) = true ∧ ∀ b, ok2 b) ∨ (anyB (fun v : SV => v.s.hasRef) (args.toList.map (evalO sl) ++ capsOf ⟨c, d⟩) = false ∧ ok2 = okOf X.G st.objs η)) := by
      cases hq : anyB (fun v : SV => v.s.hasRef) (args.toList.map (evalO sl) ++ capsOf ⟨c, d⟩) with
      | true => exact ⟨fun _ => True, fun _ _ => trivial, .inl ⟨rfl, fun _ => trivial⟩⟩
      | false => exact ⟨okOf X.G st.objs η, fun _ h => h, .inr ⟨rfl, rfl⟩⟩
    have hcl : (capsOf ⟨c, d⟩).length = caps.toList.length := by
      have len : ∀ {c : Sh} {d : c.D}, capOk c = true → (capsOf ⟨c, d⟩).length = c.cells := by
        intro c
        induction c with
        | pair a b iha ihb => intro d h; have := ihb (d := d.2) h; simp only [capsOf, capsS, List.length_cons, Sh.cells] at this ⊢; rw [this]
        | unit => intro d h; rfl
        | _ => intro d h; simp [capOk] at h
      rw [len hcap, C_length hcaps]
    have hargs : ArgsRep w ok2 η s.ins ds (args.map a.eval ++ caps).toList := by
      rw [Array.toList_append, Array.toList_map]
      refine argsCo_V hok2 hI.objs (n := st.next) hs.ins ?_ (VSs_append (VSs_map hsl args.toList) (caps_V hcl hcaps)) hds ?_
      · intro v hv
        rcases List.mem_append.1 hv with hv | hv
        · obtain ⟨x, _, rfl⟩ := List.mem_map.1 hv
          exact evalO_under hslu x
        · exact capsOf_under huf v hv
      · intro hq
        rcases hall with ⟨_, h2⟩ | ⟨h1, _⟩
        · exact h2
        · rw [h1] at hq; cases hq
    have hcalls := hs.calls ds o ho w ok2 η _ (hE.2 w hI.kept) hargs
    unfold Oper.wp
    rw [run_call_func hfv hs w, Oper.upon_enter]
    refine hcalls.mono fun e w' hb => ?_
    obtain ⟨vs, own, rfl, hbel, hnd, hres⟩ := hb
    obtain ⟨a1, a2, a3, a4, a5, a6, a7⟩ := out_lemma (ok' := okOf X.G (outObjs st.next st.objs s.outs o) (outEta st.next η s.outs vs)) (n0 := st.next) (f := st.objs) (fun q x hx => (hI.und.objs q x hx).2) (Nat.le_refl _) hnd hres hs.outs
    have hB : w0.heap.size ≤ w.heap.size := hI.kept.size
    have hcase : ∀ l x, outObjs st.next st.objs s.outs o l = some x → (l < st.next ∧ st.objs l = some x) ∨ st.next ≤ l := by
      intro l x hx
      rcases Nat.lt_or_ge l st.next with h1 | h1
      · rw [a2 l h1] at hx; exact .inl ⟨h1, hx⟩
      · exact .inr h1
    have hokb : ∀ b, b < w.heap.size → okOf X.G st.objs η b → okOf X.G (outObjs st.next st.objs s.outs o) (outEta st.next η s.outs vs) b := by
      intro b hb ho
      refine ⟨ho.1, ?_⟩
      intro l x hx hbl
      rcases hcase l x hx with ⟨h1, h2⟩ | h1
      · rw [a1 l h1] at hbl; exact ho.2 l x h2 hbl
      · have := (a5 b ((a3 l x hx h1).2.2.2 b hbl)).1
        omega
    have Kp : Keeps w (okOf X.G st.objs η) η w' (okOf X.G (outObjs st.next st.objs s.outs o) (outEta st.next η s.outs vs)) (outEta st.next η s.outs vs) st.next :=
      ⟨fun ad u ho hu => ⟨hokb _ (World.block_lt_of_cell? w ad hu) ho, (hbel.cell (World.block_lt_of_cell? w ad hu)).trans hu⟩, a1⟩
    have hok : ∀ t ∈ s.outs, t.imm = false ∨ ∀ b, ((b < w.heap.size ∧ ok2 b) ∨ (w.heap.size ≤ b ∧ b ∉ own)) → okOf X.G (outObjs st.next st.objs s.outs o) (outEta st.next η s.outs vs) b := by
      intro t ht
      rcases hall with ⟨h1, _⟩ | ⟨_, h2⟩
      · left
        rw [h1, Bool.true_and] at himm
        have any_false : ∀ {l : List RS}, anyB RS.imm l = false → ∀ t ∈ l, t.imm = false := by
          intro l
          induction l with
          | nil => intro _ t ht; simp at ht
          | cons a l ih =>
            intro h t ht
            simp only [anyB, Bool.or_eq_false_iff] at h
            rcases List.mem_cons.1 ht with rfl | ht
            · exact h.1
            · exact ih h.2 t ht
        exact any_false himm t ht
      · right
        intro b hb
        rcases hb with ⟨h3, h4⟩ | ⟨h3, h4⟩
        · rw [h2] at h4; exact hokb b h3 h4
        · refine ⟨hI.gnew b (Nat.le_trans hB h3), ?_⟩
          intro l x hx hbl
          rcases hcase l x hx with ⟨h5, h6⟩ | h5
          · rw [a1 l h5] at hbl
            have := (hI.mine l x b h6 hbl).2
            omega
          · exact h4 ((a3 l x hx h5).2.2.2 b hbl)
    have hres' : VSs w' (okOf X.G (outObjs st.next st.objs s.outs o) (outEta st.next η s.outs vs)) (outEta st.next η s.outs vs) (outSV st.next s.outs o) vs := a7 _ (fun q _ _ => rfl) hok
    refine hK _ w' (outEta st.next η s.outs vs) hbel ⟨a1, Nat.le_add_right _ _, rfl, rfl, ?_, ?_⟩
      ⟨hI.kept.below hB hbel, hI.gnew, hI.gold, ?_, ?_, ?_, ?_, ?_, ?_, ?_, fun l hl => Nat.lt_of_lt_of_le (hI.locked l hl) (Nat.le_add_right _ _)⟩
    · intro i hi
      cases hdst : dst with
      | none => rfl
      | some d' =>
        have : i ≠ d' := by
          rintro rfl
          rw [hdst] at hlk
          simp only [isLocked] at hlk
          rw [hlk] at hi; cases hi
        exact upd_ne _ _ this
    · intro l hl
      exact a2 l (hI.locked l hl)
    · rw [put_size]; exact hI.size
    · rw [put_defers']; exact hI.defers
    · exact slots_put (fun d hd' => by rw [hI.size]; exact hd d hd') (fun t => V_keeps Kp (hI.und.slots t) (hI.slots t)) (resOf_V (fun x hx => (a6 x hx).2) hres')
    · intro l x hx
      rcases hcase l x hx with ⟨h1, h2⟩ | h1
      · exact OK1_keeps Kp (a1 l h1) (hI.und.objs l x h2).1 (fun b hb => hbel.block b (hI.mine l x b h2 hb).2) (hI.objs l x h2)
      · obtain ⟨_, hux, ⟨e, s', xs, m, rfl, hin, h3, h4⟩, h5⟩ := a3 l x hx h1
        refine owns_OK1 (m := m) ?_ ?_
        · obtain ⟨q1, q2⟩ := h3
          refine ⟨q1, q2.imp id ?_⟩
          rintro ⟨g, cap, cur, k1, _, k2⟩
          exact ⟨g, cap, cur, k1, Nat.zero_le _, k2⟩
        · refine ⟨h4.1, fun i hi => ?_⟩
          have h6 := C_free (η' := outEta st.next η s.outs vs) hux (h4.2 i hi)
          rcases hok _ hin with hi' | hi'
          · exact C_noimm hi' h6
          · exact C_ok hi' hux h6
    · intro l x b hx hb
      rcases hcase l x hx with ⟨h1, h2⟩ | h1
      · rw [a1 l h1] at hb
        obtain ⟨h3, h4⟩ := hI.mine l x b h2 hb
        exact ⟨h3, Nat.lt_of_lt_of_le h4 hbel.size⟩
      · have := a5 b ((a3 l x hx h1).2.2.2 b hb)
        exact ⟨.inl (by omega), this.2⟩
    · intro l l' x x' b hx hx' hb hb'
      rcases hcase l x hx with ⟨h1, h2⟩ | h1 <;> rcases hcase l' x' hx' with ⟨h1', h2'⟩ | h1'
      · rw [a1 l h1] at hb; rw [a1 l' h1'] at hb'; exact hI.apart l l' x x' b h2 h2' hb hb'
      · rw [a1 l h1] at hb
        have q1 := (hI.mine l x b h2 hb).2
        have q2 := (a5 b ((a3 l' x' hx' h1').2.2.2 b hb')).1
        omega
      · rw [a1 l' h1'] at hb'
        have q1 := (hI.mine l' x' b h2' hb').2
        have q2 := (a5 b ((a3 l x hx h1).2.2.2 b hb)).1
        omega
      · exact a4 l l' x x' b h1 h1' hx hx' hb hb'
    · refine ⟨fun t => ?_, fun l x hx => ?_⟩
      · show (putSt st dst (resOf (outSV st.next s.outs o)) t).s.under (st.next + s.outs.length)
        cases hdst : dst with
        | none => exact under_mono (Nat.le_add_right _ _) (hI.und.slots t)
        | some d' =>
          by_cases e : t = d'
          · subst e; simp only [putSt, upd_same]; exact resOf_under (fun x hx => (a6 x hx).1)
          · simp only [putSt]; rw [upd_ne _ _ e]; exact under_mono (Nat.le_add_right _ _) (hI.und.slots t)
      · rcases hcase l x hx with ⟨h1, h2⟩ | h1
        · exact ⟨Ob.under_mono (Nat.le_add_right _ _) (hI.und.objs l x h2).1, Nat.lt_of_lt_of_le h1 (Nat.le_add_right _ _)⟩
        · obtain ⟨b1, b2, _⟩ := a3 l x hx h1
          exact ⟨Ob.under_mono (Nat.zero_le _) b2, b1⟩

theorem step_sigs {R : Type} {env : Env} {X : Fr} {w0 : World} (hE : EnvAt P X w0 env) {dst : Option Tmp} {ty : TypeId} {pos : String} {after : Array Edge} {guard : Option (Nat × Bool)} {f : Operand} {args : Array Operand} {argTypes : Array TypeId} {st : St} {k : St → Option R} {r : R} {n : Nat} {η : Nat → Value} {a : Act} {w : World} {g : Nat} {c : Sh} {d : c.D}
    (hI : Inv X w0 n st η a w) (hd : ∀ d, dst = some d → d < n) (hcap : capOk c = true) (ef : evalO st.slots f = ⟨.fn g c, d⟩)
    {K : Act → World → Prop} {Q : Exit → Act → World → Prop} (hK : ∀ a' w', Post X w0 n st η k r a' w' → K a' w') : ∀ sigs : List Sig, (∀ s ∈ sigs, s ∈ env g) →
    stepSigs (args.toList.map (evalO st.slots) ++ capsOf ⟨c, d⟩) dst st k sigs = some r → (⟨dst, .call { callee := .value f, args, argTypes }, ty, pos, after, guard⟩ : Oper).wp P a w K Q
  | [], _, h => by simp [stepSigs] at h
  | s :: sigs, hmem, h => by
    simp only [stepSigs] at h
    split at h
    case h_2 => exact step_sigs hE hI hd hcap ef hK sigs (fun s' hs' => hmem s' (by simp [hs'])) h
    rename_i ds hds
    cases himm : (anyB (fun v : SV => v.s.hasRef) (args.toList.map (evalO st.slots) ++ capsOf ⟨c, d⟩) && anyB RS.imm s.outs) with
    | true => rw [himm, cond_true] at h; cases h
    | false =>
    rw [himm, cond_false] at h
    cases hlk : isLocked st dst with
    | true => rw [hlk, cond_true] at h; cases h
    | false =>
    rw [hlk, cond_false] at h
    obtain ⟨o, ho, h⟩ := bind_some h
    exact step_sig hE hI hd hcap hI.slots hI.und.slots ef (hmem s (by simp)) hds himm hlk ho fun val w' η' _ hL hI' => hK _ _ ⟨_, η', hL, hI', h⟩
end Go.Rai
