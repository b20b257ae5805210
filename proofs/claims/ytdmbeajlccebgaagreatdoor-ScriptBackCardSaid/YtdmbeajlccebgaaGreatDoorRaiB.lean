/- A part of the proof of ScriptLines: general lemmas, with no condition of their own. -/
import Derived.Test.YtdmbeajlccebgaaGreatDoorRaiA
/- Each operation that leaves what is there alone comes to what 'act' says: the rest of them. -/
set_option linter.unusedVariables false
set_option linter.unusedSimpArgs false
namespace Go.Rai
open Go.RowKit
variable {P : Program}
section ops
variable {R : Type} {sl : Nat → SV} {rd : Nat → Option Ob} {new : Nat} {k : SV → Option Ob → Option R} {r : R} {dst : Option Tmp} {ty : TypeId} {pos : String} {after : Array Edge} {guard : Option (Nat × Bool)}

theorem lt_of_toNat {i : Int} {n : Nat} (h0 : 0 ≤ i) (h : i.toNat < n) : i < (n : Int) := by omega
theorem no_len {i : Int} {n : Nat} (h : i.toNat < n) (h' : n = 0) : False := by omega
theorem no_len' {i : Int} {n : Nat} (h : 0 ≤ i ∧ i < (n : Int)) (h' : n = 0) : False := by omega
theorem run_indexAt_slice {t e n len cap : Nat} {q : IntKind} {i : Int} {ad : Addr} (hu : P.underlying t = some (.slice e)) (hs : sizeIs P e n = true) (h0 : 0 ≤ i) (h1 : i < len) (w : World) :
    (Instr.indexAt t (.slice (some ad) len cap) (.int q i)).run P w = .ok (.pointer (some (ad.add (i.toNat * n)))) w := by
  simp [Instr.indexAt, asIntOf, Sem.run_bind, run_underlying hu w, run_sizeOf_is hs w, h0, h1]

theorem got_indexArr {tt : TT} (hT : TTok P tt) {t e n sz : Nat} {s : Sh} {x i : Operand} (ht : tt t = some (.arr n e sz s)) (hU : Und sl rd new)
    (h : (match evalO sl x, evalO sl i with
      | ⟨.ptr l o, _⟩, ⟨.int .i64, i⟩ => bif decide (0 ≤ i ∧ i < n) then k ⟨.ptr l (o + i.toNat * sz), ()⟩ none else none
      | _, _ => none) = some r) : Got P ⟨dst, .indexAddr t x i, ty, pos, after, guard⟩ sl rd new k r := by
  obtain ⟨hu, hs, _⟩ := row_arr (hT t _ ht)
  have hx := evalO_under hU.slots x
  split at h
  · rename_i l o d q ex ei
    rw [ex] at hx
    by_cases hi : 0 ≤ q ∧ q < n
    · simp only [hi, decide_true, cond_true, and_self] at h
      refine Got.pure h hx fun w ok η ac hsl hrd => ?_
      obtain ⟨b, hb, hv⟩ := V_ptr (hsl x (by simp [Op.operands])) ex
      have hn := V_int (hsl i (by simp [Op.operands])) ei
      refine ⟨.pointer (some ⟨b, o + q.toNat * sz, none⟩), ?_, b, hb, rfl⟩
      have hq := hi.2
      simp [execOp, hv, hn, Instr.indexAt, asIntOf, Sem.run_bind, run_underlying hu w, run_sizeOf_is hs w, hi.1, hi.2, Instr.sureAddr, add_mid]
    · simp [hi] at h
  · cases h

theorem got_indexAddr {tt : TT} (hT : TTok P tt) {t e : Nat} {a : Sh} {x i : Operand} (ht : tt t = some (.slice e a)) (hU : Und sl rd new)
    (h : (match evalO sl x, evalO sl i with
      | ⟨.slice b, xs⟩, ⟨.int .i64, i⟩ => if b = a then (geti xs i).bind fun y => k ⟨.adr (boxOf ⟨b, y⟩).s, (boxOf ⟨b, y⟩).d⟩ none else none
      | ⟨.lit b, xs⟩, ⟨.int .i64, i⟩ => if b = a then (geti xs i).bind fun y => k ⟨.adr (boxOf ⟨b, y⟩).s, (boxOf ⟨b, y⟩).d⟩ none else none
      | ⟨.ref l b, _⟩, ⟨.int .i64, i⟩ => match rd l with
        | some (.arr _ c xs) => if c = b ∧ b = a then (bif decide (0 ≤ i ∧ i < xs.length) then k ⟨.elt l a 0, i⟩ none else none) else none
        | _ => none
      | _, _ => none) = some r) : Got P ⟨dst, .indexAddr t x i, ty, pos, after, guard⟩ sl rd new k r := by
  obtain ⟨hu, _, _, hs, hc0, _, _⟩ := row_slice (hT t _ ht)
  have hx := evalO_under hU.slots x
  split at h
  · rename_i b xs n ex ei
    split at h
    · rename_i hba
      subst hba
      obtain ⟨y, hy, h⟩ := bind_some h
      obtain ⟨hi, h0, rfl⟩ := geti_some hy
      rw [ex] at hx
      have hb : b.under 0 := hx
      refine Got.pure h (boxOf_under (x := ⟨b, _⟩) hb) fun w ok η ac hsl hrd => ?_
      obtain ⟨A, cap, hv, hcap, hm⟩ := V_slice (hsl x (by simp [Op.operands])) ex
      have hn := V_int (hsl i (by simp [Op.operands])) ei
      rcases hm with hm | ⟨ad, m, rfl, hm, hl, hc⟩
      · exact (no_len hi hm).elim
      · refine ⟨.pointer (some (ad.add (n.toNat * b.cells))), ?_, ad.add (n.toNat * b.cells), seg m (n.toNat * b.cells) b.cells, rfl, At_seg hm _ _, C_boxOf (hc _ hi)⟩
        simp [execOp, hv, hn, run_indexAt_slice hu hs h0 (lt_of_toNat h0 hi) w]
    · cases h
  · rename_i b xs n ex ei
    split at h
    · rename_i hba
      subst hba
      obtain ⟨y, hy, h⟩ := bind_some h
      obtain ⟨hi, h0, rfl⟩ := geti_some hy
      rw [ex] at hx
      have hb : b.under 0 := hx
      refine Got.pure h (boxOf_under (x := ⟨b, _⟩) hb) fun w ok η ac hsl hrd => ?_
      obtain ⟨A, hv, hm⟩ := V_lit (hsl x (by simp [Op.operands])) ex
      have hn := V_int (hsl i (by simp [Op.operands])) ei
      rcases hm with hm | ⟨ad, m, rfl, hm, hl, hc⟩
      · exact (no_len hi hm).elim
      · refine ⟨.pointer (some (ad.add (n.toNat * b.cells))), ?_, ad.add (n.toNat * b.cells), seg m (n.toNat * b.cells) b.cells, rfl, At_seg hm _ _, C_boxOf (hc _ hi)⟩
        simp [execOp, hv, hn, run_indexAt_slice hu hs h0 (lt_of_toNat h0 hi) w]
    · cases h
  · rename_i l b d n ex ei
    split at h
    · rename_i e' c xs hl
      split at h
      · rename_i hcb
        obtain ⟨rfl, rfl⟩ := hcb
        by_cases hi : 0 ≤ n ∧ n < xs.length
        · simp only [hi, decide_true, cond_true, and_self] at h
          refine Got.pure h (hU.objs l _ hl).2 fun w ok η ac hsl hrd => ?_
          have hv := V_ref (hsl x (by simp [Op.operands])) ex
          have hn := V_int (hsl i (by simp [Op.operands])) ei
          rcases hrd l _ hl with ⟨h1, h2⟩ | ⟨g, cap, cs, h1, h2, h3, h4, _, h5⟩
          · exact (no_len' hi h2).elim
          · refine ⟨.pointer (some ⟨g, n.toNat * c.cells, none⟩), ?_, g, xs.length, cap, h1, by simp⟩
            simp [execOp, hv, h1, hn, run_indexAt_slice hu hs hi.1 hi.2 w, add_mid]
        · simp only [hi, decide_false, cond_false, reduceCtorEq] at h
      · cases h
    · cases h
  · cases h

theorem row_str {t : Nat} (h : rowOk P t (.cell .str) = true) : P.underlying t = some .string := by
  simp only [rowOk, Bool.and_eq_true] at h
  obtain ⟨⟨h1, _⟩, _⟩ := h
  split at h1 <;> first | (cases h1; done) | simp_all
theorem row_int {t : Nat} {q : IntKind} (h : rowOk P t (.cell (.int q)) = true) : P.underlying t = some (.int q) := by
  simp only [rowOk, Bool.and_eq_true] at h
  obtain ⟨⟨h1, _⟩, _⟩ := h
  split at h1 <;> first | (cases h1; done) | simp_all

theorem got_index {tt : TT} (hT : TTok P tt) {t : Nat} {x i : Operand}
    (h : (match tt t, evalO sl x, evalO sl i with
      | some (.cell .str), ⟨.str, xs⟩, ⟨.int .i64, i⟩ => (geti xs i).bind fun y => k ⟨.int .u8, (y.toNat : Int)⟩ none
      | _, _, _ => none) = some r) : Got P ⟨dst, .index t x i, ty, pos, after, guard⟩ sl rd new k r := by
  split at h
  · rename_i xs n ht ex ei
    have hu := row_str (hT t _ ht)
    obtain ⟨y, hy, h⟩ := bind_some h
    obtain ⟨hi, h0, rfl⟩ := geti_some hy
    refine Got.pure h trivial fun w ok η ac hsl hrd => ?_
    have hv := V_str (hsl x (by simp [Op.operands])) ex
    have hn := V_int (hsl i (by simp [Op.operands])) ei
    refine ⟨.int .u8 (xs[n.toNat].toNat : Int), ?_, rfl⟩
    have := run_index_string (P := P) w t ⟨⟨xs⟩⟩ .i64 n hu
    rw [dif_pos ⟨h0, by have := lt_of_toNat h0 hi; simpa [ByteArray.size] using this⟩] at this
    simp only [execOp, hv, hn, Sem.run_bind, this, Result.andThen_ok, Sem.run_pure]
    rfl
  · cases h

theorem extract_mk (xs : List UInt8) (l h : Nat) : (⟨⟨xs⟩⟩ : ByteArray).extract l h = ⟨⟨(xs.take h).drop l⟩⟩ := by
  apply ByteArray.ext
  rw [ByteArray.data_extract]
  apply Array.ext'
  simp only [Array.toList_extract, List.extract_eq_take_drop]
  rw [List.drop_take]

/-- a slice of a slice is the piece -/
theorem C_piece {w : World} {ok : Nat → Prop} {η : Nat → Value} {a : Sh} {xs : List a.D} {A : Option Addr} {cap l h : Nat} (hcap0 : xs.length ≤ cap ∧ (A = none → cap = 0)) (h1 : l ≤ h) (h2 : h ≤ xs.length)
    (hm : xs.length = 0 ∨ ∃ ad m, A = some ad ∧ At w ok ad m ∧ m.length = xs.length * a.cells ∧ ∀ i (h : i < xs.length), C w ok η a xs[i] (seg m (i * a.cells) a.cells)) :
    VS w ok η ⟨.slice a, (xs.take h).drop l⟩ (sliced A l h cap a.cells) := by
  have hcap := hcap0.1
  suffices hsuf : ∀ ys : List a.D, ys.length = h - l → (∀ i (hi : i < ys.length) (hi' : l + i < xs.length), ys[i] = xs[l + i]) → VS w ok η ⟨.slice a, ys⟩ (sliced A l h cap a.cells) from
    hsuf _ (by simp; omega) (fun i hi hi' => by simp)
  intro ys hl hx
  refine ⟨if cap = l then A else A.map (·.add (l * a.cells)), cap - l, ?_, ?_, ?_⟩
  · simp only [sliced, hl]
  · refine ⟨show ys.length ≤ _ by omega, fun hA => ?_⟩
    have : cap = 0 := by
      cases A with
      | none => exact hcap0.2 rfl
      | some ad => split at hA <;> cases hA
    omega
  · by_cases h0 : h - l = 0
    · exact .inl (hl.trans h0)
    · rcases hm with hm | ⟨ad, m, rfl, hm, hlen, hc⟩
      · omega
      · refine .inr ⟨ad.add (l * a.cells), seg m (l * a.cells) ((h - l) * a.cells), ?_, At_seg hm _ _, ?_, ?_⟩
        · rw [if_neg (by omega)]; rfl
        · have hle : h * a.cells ≤ xs.length * a.cells := Nat.mul_le_mul_right _ h2
          have hsub : (h - l) * a.cells = h * a.cells - l * a.cells := Nat.sub_mul _ _ _
          show _ = ys.length * _
          rw [hl]
          simp only [seg, List.length_take, List.length_drop]
          omega
        · intro i hi
          have hi : i < ys.length := hi
          have hil : l + i < xs.length := by omega
          show C w ok η a ys[i] _
          rw [hx i hi hil]
          have := hc (l + i) hil
          have hs : seg (seg m (l * a.cells) ((h - l) * a.cells)) (i * a.cells) a.cells = seg m ((l + i) * a.cells) a.cells := by
            have hle : (i + 1) * a.cells ≤ (h - l) * a.cells := Nat.mul_le_mul_right _ (by omega)
            have he : (i + 1) * a.cells = i * a.cells + a.cells := Nat.succ_mul _ _
            unfold seg
            rw [List.drop_take, List.drop_drop, List.take_take, Nat.add_mul]
            congr 1
            omega
          rw [hs]
          exact this

/-- the bounds of a slice expression -/
theorem bound_i64 {x : Operand} {n : Int} {w : World} {ok : Nat → Prop} {η : Nat → Value} {ac : Act} {o : Oper} (hsl : ∀ x, x ∈ o.op.operands → VS w ok η (evalO sl x) (ac.eval x)) (hx : x ∈ o.op.operands) (e : evalO sl x = ⟨.int .i64, n⟩) :
    ac.eval x = .int .i64 n := V_int (hsl x hx) e

theorem str_sliceAt {t : Nat} (hu : P.underlying t = some .string) (x : Value) (lo hi mx : Option Value) (w : World) : (Instr.sliceAt t x lo hi mx).run P w = (Instr.slice t x lo hi mx).run P w := by
  simp [Instr.sliceAt, run_underlying hu]
theorem sl_sliceAt {t e : Nat} (hu : P.underlying t = some (.slice e)) (x : Value) (lo hi mx : Option Value) (w : World) : (Instr.sliceAt t x lo hi mx).run P w = (Instr.slice t x lo hi mx).run P w := by
  simp [Instr.sliceAt, run_underlying hu]
theorem run_str_lh {t : Nat} (hu : P.underlying t = some .string) (s : ByteArray) (l h : Int) (h0 : 0 ≤ l) (h1 : l ≤ h) (h2 : h ≤ s.size) (w : World) :
    (Instr.slice t (.string s) (some (.int .i64 l)) (some (.int .i64 h)) none).run P w = .ok (.string (s.extract l.toNat h.toNat)) w := by
  have eh : (h.toNat : Int) = h := Int.toNat_of_nonneg (by omega)
  simp [Instr.slice, run_underlying hu, Instr.sliceBounds, run_sliceBound, *, eh, (by omega : 0 ≤ l), (by omega : 0 ≤ h)]
theorem run_sl_lh {t e n : Nat} (hu : P.underlying t = some (.slice e)) (hs : sizeIs P e n = true) (A : Option Addr) (len cap : Nat) (l h : Int) (h0 : 0 ≤ l) (h1 : l ≤ h) (h2 : h ≤ cap) (w : World) :
    (Instr.slice t (.slice A len cap) (some (.int .i64 l)) (some (.int .i64 h)) none).run P w = .ok (sliced A l.toNat h.toNat cap n) w := by
  have eh : (h.toNat : Int) = h := Int.toNat_of_nonneg (by omega)
  simp [Instr.slice, run_underlying hu, run_sizeOf_is hs w, Instr.sliceBounds, run_sliceBound, sliced, *, eh, (by omega : 0 ≤ l), (by omega : 0 ≤ h)]
theorem run_sl_l {t e n : Nat} (hu : P.underlying t = some (.slice e)) (hs : sizeIs P e n = true) (A : Option Addr) (len cap : Nat) (l : Int) (h0 : 0 ≤ l) (h1 : l ≤ len) (w : World) :
    (Instr.slice t (.slice A len cap) (some (.int .i64 l)) none none).run P w = .ok (sliced A l.toNat len cap n) w := by
  simp [Instr.slice, run_underlying hu, run_sizeOf_is hs w, Instr.sliceBounds, run_sliceBound, sliced, *, (by omega : 0 ≤ l)]
theorem run_sl_h {t e n : Nat} (hu : P.underlying t = some (.slice e)) (hs : sizeIs P e n = true) (A : Option Addr) (len cap : Nat) (h : Int) (h0 : 0 ≤ h) (h2 : h ≤ cap) (w : World) :
    (Instr.slice t (.slice A len cap) none (some (.int .i64 h)) none).run P w = .ok (sliced A 0 h.toNat cap n) w := by
  simp [Instr.slice, run_underlying hu, run_sizeOf_is hs w, Instr.sliceBounds, run_sliceBound, sliced, *, (by omega : 0 ≤ h)]

theorem guard_some {p : Prop} [Decidable p] {R : Type} {x : Option R} {r : R} (h : (bif decide p then x else none) = some r) : p ∧ x = some r := by
  by_cases hp : p
  · simp only [hp, decide_true, cond_true] at h; exact ⟨hp, h⟩
  · simp [hp] at h
theorem sz_mk (xs : List UInt8) : (⟨⟨xs⟩⟩ : ByteArray).size = xs.length := rfl

theorem got_slice {tt : TT} (hT : TTok P tt) {t : Nat} {x : Operand} {lo hi : Option Operand} (hU : Und sl rd new)
    (h : (match tt t, evalO sl x with
    | some (.slice _ _), ⟨.nil, _⟩ => match lo, hi.map (evalO sl) with
      | none, some ⟨.int .i64, hi⟩ => bif hi == 0 then k ⟨.nil, ()⟩ none else none
      | _, _ => none
    | some (.cell .str), ⟨.str, xs⟩ => match lo.map (evalO sl), hi.map (evalO sl) with
      | some ⟨.int .i64, lo⟩, some ⟨.int .i64, hi⟩ => bif decide (0 ≤ lo ∧ lo ≤ hi ∧ hi ≤ xs.length) then k ⟨.str, (xs.take hi.toNat).drop lo.toNat⟩ none else none
      | some ⟨.int .i64, lo⟩, none => bif decide (0 ≤ lo ∧ lo ≤ xs.length) then k ⟨.str, xs.drop lo.toNat⟩ none else none
      | none, some ⟨.int .i64, hi⟩ => bif decide (0 ≤ hi ∧ hi ≤ xs.length) then k ⟨.str, xs.take hi.toNat⟩ none else none
      | _, _ => none
    | some (.slice _ b), ⟨.slice a, xs⟩ => if a = b then (match lo.map (evalO sl), hi.map (evalO sl) with
      | some ⟨.int .i64, lo⟩, some ⟨.int .i64, hi⟩ => bif decide (0 ≤ lo ∧ lo ≤ hi ∧ hi ≤ xs.length) then k ⟨.slice a, (xs.take hi.toNat).drop lo.toNat⟩ none else none
      | some ⟨.int .i64, lo⟩, none => bif decide (0 ≤ lo ∧ lo ≤ xs.length) then k ⟨.slice a, xs.drop lo.toNat⟩ none else none
      | none, some ⟨.int .i64, hi⟩ => bif decide (0 ≤ hi ∧ hi ≤ xs.length) then k ⟨.slice a, xs.take hi.toNat⟩ none else none
      | _, _ => none) else none
    | _, _ => none) = some r) : Got P ⟨dst, .slice t x lo hi none, ty, pos, after, guard⟩ sl rd new k r := by
  have hx := evalO_under hU.slots x
  split at h
  · rename_i e a d ht ex
    obtain ⟨hu, _, _, hs, _⟩ := row_slice (hT t _ ht)
    split at h
    case h_2 => cases h
    rename_i n eh
    cases hi with
    | none => simp at eh
    | some hi =>
    simp only [Option.map_some, Option.some.injEq] at eh
    cases hn : (n == 0) with
    | false => rw [hn, cond_false] at h; cases h
    | true =>
    rw [hn, cond_true] at h
    refine Got.pure h trivial fun w ok η ac hsl hrd => ⟨.slice none 0 0, ?_, rfl⟩
    have hv := V_nil (hsl x (by simp [Op.operands])) ex
    have hb := bound_i64 (o := ⟨dst, .slice t x none (some hi) none, ty, pos, after, guard⟩) hsl (by simp [Op.operands]) eh
    have hn0 : n = (0 : Int) := by simpa using hn
    subst hn0
    have hr := run_sl_h (P := P) hu hs none 0 0 0 (Int.le_refl _) (Int.le_refl _) w
    simp only [Int.toNat_zero] at hr
    have hsl0 : sliced none 0 0 0 a.cells = .slice none 0 0 := by simp [sliced]
    rw [hsl0] at hr
    simp [execOp, hv, hb, sl_sliceAt hu, hr]
  · rename_i xs ht ex
    have hu := row_str (hT t _ ht)
    cases lo with
    | none => cases hi with
      | none => simp at h
      | some hi =>
        simp only [Option.map_none, Option.map_some] at h
        split at h
        · simp_all
        · simp_all
        · rename_i n _ ei
          obtain ⟨⟨h0, h1⟩, h⟩ := guard_some h
          simp only [Option.some.injEq] at ei
          refine Got.pure h trivial fun w ok η ac hsl hrd => ⟨.string ((⟨⟨xs⟩⟩ : ByteArray).extract 0 n.toNat), ?_, ?_⟩
          · have hv := V_str (hsl x (by simp [Op.operands])) ex
            have hn := bound_i64 (o := ⟨dst, .slice t x none (some hi) none, ty, pos, after, guard⟩) hsl (by simp [Op.operands]) ei
            simp [execOp, hv, hn, str_sliceAt hu, run_slice_string_h (P := P) w t ⟨⟨xs⟩⟩ hu .i64 n h0 h1]
          · rw [extract_mk]; simp [VS, V, V1, C]
        · cases h
    | some lo => cases hi with
      | none =>
        simp only [Option.map_none, Option.map_some] at h
        split at h
        · simp_all
        · rename_i n ei _
          obtain ⟨⟨h0, h1⟩, h⟩ := guard_some h
          simp only [Option.some.injEq] at ei
          refine Got.pure h trivial fun w ok η ac hsl hrd => ⟨.string ((⟨⟨xs⟩⟩ : ByteArray).extract n.toNat (⟨⟨xs⟩⟩ : ByteArray).size), ?_, ?_⟩
          · have hv := V_str (hsl x (by simp [Op.operands])) ex
            have hn := bound_i64 (o := ⟨dst, .slice t x (some lo) none none, ty, pos, after, guard⟩) hsl (by simp [Op.operands]) ei
            simp [execOp, hv, hn, str_sliceAt hu, run_slice_string_l (P := P) w t ⟨⟨xs⟩⟩ hu .i64 n h0 h1]
          · rw [extract_mk, sz_mk]; simp [VS, V, V1, C]
        · simp_all
        · cases h
      | some hi =>
        simp only [Option.map_some] at h
        split at h
        · rename_i m n em en
          obtain ⟨⟨h0, h1, h2⟩, h⟩ := guard_some h
          simp only [Option.some.injEq] at em en
          refine Got.pure h trivial fun w ok η ac hsl hrd => ⟨.string ((⟨⟨xs⟩⟩ : ByteArray).extract m.toNat n.toNat), ?_, ?_⟩
          · have hv := V_str (hsl x (by simp [Op.operands])) ex
            have hm := bound_i64 (o := ⟨dst, .slice t x (some lo) (some hi) none, ty, pos, after, guard⟩) hsl (by simp [Op.operands]) em
            have hn := bound_i64 (o := ⟨dst, .slice t x (some lo) (some hi) none, ty, pos, after, guard⟩) hsl (by simp [Op.operands]) en
            simp [execOp, hv, hm, hn, str_sliceAt hu, run_str_lh hu ⟨⟨xs⟩⟩ m n h0 h1 h2]
          · rw [extract_mk]; simp [VS, V, V1, C]
        · simp_all
        · simp_all
        · cases h
  · rename_i e b a xs ht ex
    split at h
    · rename_i hab
      subst hab
      obtain ⟨hu, _, _, hs, _⟩ := row_slice (hT t _ ht)
      rw [ex] at hx
      cases lo with
      | none => cases hi with
        | none => simp at h
        | some hi =>
          simp only [Option.map_none, Option.map_some] at h
          split at h
          · simp_all
          · simp_all
          · rename_i n _ ei
            obtain ⟨⟨h0, h1⟩, h⟩ := guard_some h
            simp only [Option.some.injEq] at ei
            refine Got.pure h hx fun w ok η ac hsl hrd => ?_
            obtain ⟨A, cap, hv, hcap, hm⟩ := V_slice (hsl x (by simp [Op.operands])) ex
            have hn := bound_i64 (o := ⟨dst, .slice t x none (some hi) none, ty, pos, after, guard⟩) hsl (by simp [Op.operands]) ei
            have hnn : n.toNat ≤ xs.length := Int.toNat_le.2 h1
            refine ⟨sliced A 0 n.toNat cap a.cells, ?_, by simpa using C_piece hcap (Nat.zero_le n.toNat) hnn hm⟩
            simp [execOp, hv, hn, sl_sliceAt hu, run_sl_h hu hs A xs.length cap n h0 (Int.le_trans h1 (Int.ofNat_le.2 hcap.1))]
          · cases h
      | some lo => cases hi with
        | none =>
          simp only [Option.map_none, Option.map_some] at h
          split at h
          · simp_all
          · rename_i n ei _
            obtain ⟨⟨h0, h1⟩, h⟩ := guard_some h
            simp only [Option.some.injEq] at ei
            refine Got.pure h hx fun w ok η ac hsl hrd => ?_
            obtain ⟨A, cap, hv, hcap, hm⟩ := V_slice (hsl x (by simp [Op.operands])) ex
            have hn := bound_i64 (o := ⟨dst, .slice t x (some lo) none none, ty, pos, after, guard⟩) hsl (by simp [Op.operands]) ei
            have hnn : n.toNat ≤ xs.length := Int.toNat_le.2 h1
            refine ⟨sliced A n.toNat xs.length cap a.cells, ?_, by simpa using C_piece hcap hnn (Nat.le_refl _) hm⟩
            simp [execOp, hv, hn, sl_sliceAt hu, run_sl_l hu hs A xs.length cap n h0 h1]
          · simp_all
          · cases h
        | some hi =>
          simp only [Option.map_some] at h
          split at h
          · rename_i m n em en
            obtain ⟨⟨h0, h1, h2⟩, h⟩ := guard_some h
            simp only [Option.some.injEq] at em en
            refine Got.pure h hx fun w ok η ac hsl hrd => ?_
            obtain ⟨A, cap, hv, hcap, hm'⟩ := V_slice (hsl x (by simp [Op.operands])) ex
            have hm := bound_i64 (o := ⟨dst, .slice t x (some lo) (some hi) none, ty, pos, after, guard⟩) hsl (by simp [Op.operands]) em
            have hn := bound_i64 (o := ⟨dst, .slice t x (some lo) (some hi) none, ty, pos, after, guard⟩) hsl (by simp [Op.operands]) en
            have hnn : n.toNat ≤ xs.length := Int.toNat_le.2 h2
            have hmn : m.toNat ≤ n.toNat := Int.toNat_le_toNat h1
            refine ⟨sliced A m.toNat n.toNat cap a.cells, ?_, C_piece hcap hmn hnn hm'⟩
            simp [execOp, hv, hm, hn, sl_sliceAt hu, run_sl_lh hu hs A xs.length cap m n h0 h1 (Int.le_trans h2 (Int.ofNat_le.2 hcap.1))]
          · simp_all
          · simp_all
          · cases h
    · cases h
  · cases h
end ops
end Go.Rai

/- Each operation that leaves what is there alone comes to what 'act' says: what computes, and what makes memory. -/
set_option linter.unusedVariables false
set_option linter.unusedSimpArgs false
namespace Go.Rai
open Go.RowKit
variable {P : Program}
section ops
variable {R : Type} {sl : Nat → SV} {rd : Nat → Option Ob} {new : Nat} {k : SV → Option Ob → Option R} {r : R} {dst : Option Tmp} {ty : TypeId} {pos : String} {after : Array Edge} {guard : Option (Nat × Bool)}

theorem got_nilCheck {x : Operand} (hU : Und sl rd new)
    (h : (match evalO sl x with
    | ⟨.ptr l o, d⟩ => k ⟨.ptr l o, d⟩ none
    | ⟨.adr a, d⟩ => k ⟨.adr a, d⟩ none
    | ⟨.elt l a o, d⟩ => k ⟨.elt l a o, d⟩ none
    | ⟨.opt a, d⟩ => d.bind fun y => k ⟨.adr a, y⟩ none
    | _ => none) = some r) : Got P ⟨dst, .nilCheck x, ty, pos, after, guard⟩ sl rd new k r := by
  have hx := evalO_under hU.slots x
  split at h
  · rename_i l o d e
    rw [e] at hx
    refine Got.pure h hx fun w ok η ac hsl hrd => ?_
    have hv := hsl x (by simp [Op.operands])
    obtain ⟨b, hb, hv'⟩ := V_ptr hv e
    exact ⟨_, by simp [execOp, hv'], b, hb, rfl⟩
  · rename_i a d e
    rw [e] at hx
    refine Got.pure h hx fun w ok η ac hsl hrd => ?_
    obtain ⟨ad, m, hv', hm, hc⟩ := V_adr (hsl x (by simp [Op.operands])) e
    exact ⟨_, by simp [execOp, hv'], ad, m, rfl, hm, hc⟩
  · rename_i l a o d e
    rw [e] at hx
    refine Got.pure h hx fun w ok η ac hsl hrd => ?_
    obtain ⟨b, n, cap, hb, hv'⟩ := V_elt (hsl x (by simp [Op.operands])) e
    exact ⟨_, by simp [execOp, hv'], b, n, cap, hb, rfl⟩
  · rename_i a d e
    obtain ⟨y, rfl, h⟩ := bind_some h
    rw [e] at hx
    refine Got.pure h hx fun w ok η ac hsl hrd => ?_
    obtain ⟨ad, m, hv', hm, hc⟩ := V_opt (hsl x (by simp [Op.operands])) e
    exact ⟨_, by simp [execOp, hv'], ad, m, rfl, hm, hc⟩
  · cases h

theorem got_unOp {op : UnOp} {t : TypeId} {x : Operand}
    (h : (match op, evalO sl x with
    | .not, ⟨.bool, b⟩ => k ⟨.bool, !b⟩ none
    | .neg, ⟨.int q, n⟩ => k ⟨.int q, q.wrap (0 - n)⟩ none
    | _, _ => none) = some r) : Got P ⟨dst, .unOp op t x, ty, pos, after, guard⟩ sl rd new k r := by
  split at h
  · rename_i b e
    refine Got.pure h trivial fun w ok η ac hsl hrd => ?_
    have hv := V_bool (hsl x (by simp [Op.operands])) e
    exact ⟨.bool !b, by simp [execOp, hv, Op.unary], rfl⟩
  · rename_i q n e
    refine Got.pure h trivial fun w ok η ac hsl hrd => ?_
    have hv := V_int (hsl x (by simp [Op.operands])) e
    exact ⟨.int q (q.wrap (0 - n)), by simp [execOp, hv, Op.unary, Op.intArith], rfl⟩
  · cases h

theorem got_pick {c x y : Operand}
    (h : (match evalO sl c, evalO sl x, evalO sl y with
    | ⟨.bool, b⟩, ⟨.bool, p⟩, ⟨.bool, q⟩ => k ⟨.bool, bif b then p else q⟩ none
    | _, _, _ => none) = some r) : Got P ⟨dst, .pick c x y, ty, pos, after, guard⟩ sl rd new k r := by
  split at h
  · rename_i b p q e1 e2 e3
    refine Got.pure h trivial fun w ok η ac hsl hrd => ?_
    have hv := V_bool (hsl c (by simp [Op.operands])) e1
    have hx := V_bool (hsl x (by simp [Op.operands])) e2
    have hy := V_bool (hsl y (by simp [Op.operands])) e3
    exact ⟨.bool (bif b then p else q), by cases b <;> simp [execOp, hv, hx, hy, asBool], rfl⟩
  · cases h

theorem binOp_bool_eq {t : TypeId} {a b : Bool} : binOp .eql t (.bool a) (.bool b) = (do pure (.bool (← Op.equalIn 10000 t (.bool a) (.bool b)))) := rfl
theorem binOp_bool_neq {t : TypeId} {a b : Bool} : binOp .neq t (.bool a) (.bool b) = (do pure (.bool (!(← Op.equalIn 10000 t (.bool a) (.bool b))))) := rfl
theorem got_binBool {op : BinOp} {t t' : TypeId} {x y : Operand} {a b : Bool} (ex : evalO sl x = ⟨.bool, a⟩) (ey : evalO sl y = ⟨.bool, b⟩) (hu : P.underlying t = some .bool)
    (h : (match op with
      | .eql => k ⟨.bool, a == b⟩ none
      | .neq => k ⟨.bool, !(a == b)⟩ none
      | _ => none) = some r) : Got P ⟨dst, .binOp op t x y t', ty, pos, after, guard⟩ sl rd new k r := by
  split at h
  · refine Got.pure h trivial fun w ok η ac hsl hrd => ?_
    have h1 := V_bool (hsl x (by simp [Op.operands])) ex
    have h2 := V_bool (hsl y (by simp [Op.operands])) ey
    refine ⟨.bool (a == b), ?_, rfl⟩
    simp only [execOp, h1, h2, eqGuard_at_bool, pure_bind]
    simp [binOp_bool_eq, binOp_bool_neq, run_equalIn_bool' w 9999 t a b hu]
  · refine Got.pure h trivial fun w ok η ac hsl hrd => ?_
    have h1 := V_bool (hsl x (by simp [Op.operands])) ex
    have h2 := V_bool (hsl y (by simp [Op.operands])) ey
    refine ⟨.bool !(a == b), ?_, rfl⟩
    simp only [execOp, h1, h2, eqGuard_at_bool, pure_bind]
    simp [binOp_bool_eq, binOp_bool_neq, run_equalIn_bool' w 9999 t a b hu]
  · cases h

theorem row_itf {t : Nat} (h : rowOk P t (.cell .itf) = true) : ∃ ms, P.underlying t = some (.interface ms) := by
  simp only [rowOk, Bool.and_eq_true] at h
  have h1 := h.1.1
  split at h1 <;> first | (cases h1; done) | (rename_i e1 e2; cases e2; done) | (rename_i e1; cases e1; done) | skip
  all_goals first | exact ⟨_, by assumption⟩ | simp_all
theorem row_opt {t : Nat} {a : Sh} (h : rowOk P t (.cell (.opt a)) = true) : ∃ e, P.underlying t = some (.pointer e) := by
  simp only [rowOk, Bool.and_eq_true] at h
  have h1 := h.1.1
  split at h1 <;> first | (cases h1; done) | (rename_i e1 e2; cases e2; done) | (rename_i e1; cases e1; done) | skip
  all_goals first | exact ⟨_, by assumption⟩ | simp_all
theorem got_binItf {op : BinOp} {t t' : TypeId} {x y : Operand} {a b : Bool} (ex : evalO sl x = ⟨.itf, a⟩) (ey : y = .const .nilIface) (hu : rowOk P t (.cell .itf) = true)
    (h : (match op with
      | .eql => k ⟨.bool, !a⟩ none
      | .neq => k ⟨.bool, a⟩ none
      | _ => none) = some r) : Got P ⟨dst, .binOp op t x y t', ty, pos, after, guard⟩ sl rd new k r := by
  obtain ⟨ms, hu⟩ := row_itf hu
  subst ey
  have heq : ∀ (w : World) (u : Value), ((a = false ∧ u = .nilIface) ∨ (a = true ∧ ∃ t v, u = .iface t v)) → (Op.equalIn 10000 t u .nilIface).run P w = .ok (!a) w := by
    intro w u hu'
    have hd : ∀ d : Nat, (Op.equalIn (d + 1) t u .nilIface).run P w = .ok (!a) w := by
      intro d
      rcases hu' with ⟨rfl, rfl⟩ | ⟨rfl, t', v, rfl⟩ <;> simp [Op.equalIn, run_underlying hu]
    exact hd 9999
  have hgd : ∀ (o : BinOp) (u : Value), ((a = false ∧ u = .nilIface) ∨ (a = true ∧ ∃ t v, u = .iface t v)) → eqGuard o t x (.const .nilIface) u .nilIface = pure () := by
    intro o u hu'
    rcases hu' with ⟨rfl, rfl⟩ | ⟨rfl, t', v, rfl⟩
    · exact eqGuard_nil_constR _ _ _ _
    · exact eqGuard_at_iface _ _ _ _ _ _ _
  split at h
  · refine Got.pure h trivial fun w ok η ac hsl hrd => ?_
    have h1 := V_itf (hsl x (by simp [Op.operands])) ex
    refine ⟨.bool (!a), ?_, rfl⟩
    have hc : ac.eval (.const .nilIface) = .nilIface := rfl
    simp only [execOp, hc, hgd .eql _ h1, pure_bind, binOp, Op.equal, Op.maxDepth]
    simp [heq w _ h1]
  · refine Got.pure h trivial fun w ok η ac hsl hrd => ?_
    have h1 := V_itf (hsl x (by simp [Op.operands])) ex
    refine ⟨.bool a, ?_, rfl⟩
    have hc : ac.eval (.const .nilIface) = .nilIface := rfl
    simp only [execOp, hc, hgd .neq _ h1, pure_bind, binOp, Op.equal, Op.maxDepth]
    simp [heq w _ h1]
  · cases h
theorem got_binPtr {op : BinOp} {t t' : TypeId} {x y : Operand} {a : Sh} {u : Bool} {d : Unit} (ex : ∀ w ok η v, VS w ok η (evalO sl x) v → ∃ q, v = .pointer q ∧ q.isNone = u) (ey : evalO sl y = ⟨.pnil, d⟩) (hu : rowOk P t (.cell (.opt a)) = true)
    (h : (match op with
      | .eql => k ⟨.bool, u⟩ none
      | .neq => k ⟨.bool, !u⟩ none
      | _ => none) = some r) : Got P ⟨dst, .binOp op t x y t', ty, pos, after, guard⟩ sl rd new k r := by
  obtain ⟨e, hu⟩ := row_opt hu
  have heq : ∀ (w : World) (q : Option Addr), (Op.equalIn 10000 t (.pointer q) (.pointer none)).run P w = .ok q.isNone w := by
    intro w q
    have hd : ∀ d : Nat, (Op.equalIn (d + 1) t (.pointer q) (.pointer none)).run P w = .ok q.isNone w := by
      intro d
      cases q <;> simp [Op.equalIn, run_underlying hu]
    exact hd 9999
  split at h
  · refine Got.pure h trivial fun w ok η ac hsl hrd => ?_
    obtain ⟨q, h1, h2⟩ := ex _ _ _ _ (hsl x (by simp [Op.operands]))
    have h3 := V_pnil (hsl y (by simp [Op.operands])) ey
    refine ⟨.bool u, ?_, rfl⟩
    simp only [execOp, h1, h3, eqGuard_at_pointer, pure_bind, binOp, Op.equal, Op.maxDepth]
    simp [heq w q, h2]
  · refine Got.pure h trivial fun w ok η ac hsl hrd => ?_
    obtain ⟨q, h1, h2⟩ := ex _ _ _ _ (hsl x (by simp [Op.operands]))
    have h3 := V_pnil (hsl y (by simp [Op.operands])) ey
    refine ⟨.bool !u, ?_, rfl⟩
    simp only [execOp, h1, h3, eqGuard_at_pointer, pure_bind, binOp, Op.equal, Op.maxDepth]
    simp [heq w q, h2]
  · cases h

theorem got_extract {x : Operand} {j : Nat} (hU : Und sl rd new)
    (h : (match evalO sl x, j with
    | ⟨.tup a _, d⟩, 0 => k ⟨a, d.1⟩ none
    | ⟨.tup _ (.tup a _), d⟩, 1 => k ⟨a, d.2.1⟩ none
    | ⟨.tup _ (.tup _ (.tup a _)), d⟩, 2 => k ⟨a, d.2.2.1⟩ none
    | ⟨.tup _ (.tup _ (.tup _ (.tup a _))), d⟩, 3 => k ⟨a, d.2.2.2.1⟩ none
    | _, _ => none) = some r) : Got P ⟨dst, .extract x j, ty, pos, after, guard⟩ sl rd new k r := by
  have hx := evalO_under hU.slots x
  have V1_V : ∀ {w : World} {ok : Nat → Prop} {η : Nat → Value} {a : Sh} {d : a.D} {v : Value}, V1 w ok η a d v → VS w ok η ⟨a, d⟩ v := by
    intro w ok η a d v hv
    cases a <;> first | exact hv | exact hv.elim
  split at h
  · rename_i a b d e
    rw [e] at hx
    refine Got.pure h hx.1 fun w ok η ac hsl hrd => ?_
    have hv := hsl x (by simp [Op.operands])
    rw [e] at hv
    obtain ⟨vs, hv, v, r1, h1, ha, _⟩ := hv
    refine ⟨v, ?_, V1_V ha⟩
    have : vs = ⟨v :: r1⟩ := by cases vs; simp_all
    subst this
    simp [execOp, hv, Instr.extract]
  · rename_i b a c d e
    rw [e] at hx
    refine Got.pure h hx.2.1 fun w ok η ac hsl hrd => ?_
    have hv := hsl x (by simp [Op.operands])
    rw [e] at hv
    obtain ⟨vs, hv, v, r1, h1, ha, v2, r2, h2, ha2, _⟩ := hv
    refine ⟨v2, ?_, V1_V ha2⟩
    have : vs = ⟨v :: v2 :: r2⟩ := by cases vs; simp_all
    subst this
    simp [execOp, hv, Instr.extract]
  · rename_i b1 b2 a c d e
    rw [e] at hx
    refine Got.pure h hx.2.2.1 fun w ok η ac hsl hrd => ?_
    have hv := hsl x (by simp [Op.operands])
    rw [e] at hv
    obtain ⟨vs, hv, v, r1, h1, ha, v2, r2, h2, ha2, v3, r3, h3, ha3, _⟩ := hv
    refine ⟨v3, ?_, V1_V ha3⟩
    have : vs = ⟨v :: v2 :: v3 :: r3⟩ := by cases vs; simp_all
    subst this
    simp [execOp, hv, Instr.extract]
  · rename_i b1 b2 b3 a c d e
    rw [e] at hx
    refine Got.pure h hx.2.2.2.1 fun w ok η ac hsl hrd => ?_
    have hv := hsl x (by simp [Op.operands])
    rw [e] at hv
    obtain ⟨vs, hv, v, r1, h1, ha, v2, r2, h2, ha2, v3, r3, h3, ha3, v4, r4, h4, ha4, _⟩ := hv
    refine ⟨v4, ?_, V1_V ha4⟩
    have : vs = ⟨v :: v2 :: v3 :: v4 :: r4⟩ := by cases vs; simp_all
    subst this
    simp [execOp, hv, Instr.extract]
  · cases h

theorem exec_builtin {a : Act} {b : Builtin} {args : Array Operand} {argTypes : Array TypeId} {w : World} {v : Value} {w' : World}
    (h : (builtin b argTypes ty (args.map fun | .const _ => true | _ => false) (args.map a.eval)).run P w = .ok (.value v) w') :
    (execOp a.eval ⟨dst, .call { callee := .builtin b, args, argTypes }, ty, pos, after, guard⟩).run P w = .ok (.value v) w' := by
  simp only [execOp, resolve, pure_bind]
  exact h

theorem got_len {tt : TT} (hT : TTok P tt) {args : Array Operand} {argTypes : Array TypeId}
    (h : (match args.toList, argTypes.toList with
    | [x], [t] => match tt t, evalO sl x with
      | some (.cell .str), ⟨.str, xs⟩ => k ⟨.int .i64, (xs.length : Int)⟩ none
      | some (.slice _ _), ⟨.slice _, xs⟩ => k ⟨.int .i64, (xs.length : Int)⟩ none
      | some (.slice _ _), ⟨.lit _, xs⟩ => k ⟨.int .i64, (xs.length : Int)⟩ none
      | some (.slice _ _), ⟨.nil, _⟩ => k ⟨.int .i64, (0 : Int)⟩ none
      | some (.slice _ _), ⟨.ref l a, _⟩ => match rd l with
        | some (.arr _ _ xs) => k ⟨.int .i64, (xs.length : Int)⟩ none
        | _ => none
      | _, _ => none
    | _, _ => none) = some r) : Got P ⟨dst, .call { callee := .builtin .len, args, argTypes }, ty, pos, after, guard⟩ sl rd new k r := by
  have slice_len : ∀ {t e : Nat} (hu : P.underlying t = some (.slice e)) (A : Option Addr) (n c : Nat) (w : World), (Builtin.len_ #[t] ty #[.slice A n c]).run P w = .ok (goInt n) w := by
    intro t e hu A n c w
    simp [Builtin.len_, run_underlying hu]
  have fin : ∀ {x : Operand} {t : TypeId} {n : Nat} (ha : args.toList = [x]) (ht : argTypes.toList = [t]), k ⟨.int .i64, (n : Int)⟩ none = some r →
      (∀ (w : World) (ok : Nat → Prop) (η : Nat → Value) (a : Act), VS w ok η (evalO sl x) (a.eval x) → (∀ l x, rd l = some x → OK1 w ok η l x) → (Builtin.len_ #[t] ty #[a.eval x]).run P w = .ok (goInt n) w) →
      Got P ⟨dst, .call { callee := .builtin .len, args, argTypes }, ty, pos, after, guard⟩ sl rd new k r := by
    intro x t n ha ht hk hrun
    obtain rfl : args = #[x] := by cases args; simp_all
    obtain rfl : argTypes = #[t] := by cases argTypes; simp_all
    refine Got.pure hk trivial fun w ok η ac hsl hrd => ⟨.int .i64 n, ?_, rfl⟩
    have hv := hsl x (by simp [Op.operands, Call.operands])
    refine exec_builtin ?_
    have := hrun w ok η ac hv hrd
    simp only [List.map_toArray, List.map_cons, List.map_nil, builtin, Sem.run_bind, this, Result.andThen_ok, Sem.run_pure]
    rfl
  split at h
  · rename_i x t ha hty
    split at h
    · rename_i xs ht ex
      refine fin ha hty h fun w ok η ac hv hrd => ?_
      rw [V_str hv ex]
      exact run_len_string w t ty ⟨⟨xs⟩⟩ (row_str (hT t _ ht))
    · rename_i e' a' b xs ht ex
      refine fin ha hty h fun w ok η ac hv hrd => ?_
      obtain ⟨A, cap, hv, _⟩ := V_slice hv ex
      rw [hv]
      exact slice_len (row_slice (hT t _ ht)).1 A _ cap w
    · rename_i e' a' b xs ht ex
      refine fin ha hty h fun w ok η ac hv hrd => ?_
      obtain ⟨A, hv, _⟩ := V_lit hv ex
      rw [hv]
      exact slice_len (row_slice (hT t _ ht)).1 A _ _ w
    · rename_i e' a' d ht ex
      refine fin (n := 0) ha hty h fun w ok η ac hv hrd => ?_
      rw [V_nil hv ex]
      exact slice_len (row_slice (hT t _ ht)).1 none 0 0 w
    · rename_i e' a' l a d ht ex
      split at h
      · rename_i e'' c xs hl
        refine fin ha hty h fun w ok η ac hv hrd => ?_
        rw [V_ref hv ex]
        rcases hrd l _ hl with ⟨h1, h2⟩ | ⟨g, cap, cs, h1, _⟩
        · rw [h1, h2]
          exact slice_len (row_slice (hT t _ ht)).1 none 0 0 w
        · rw [h1]
          exact slice_len (row_slice (hT t _ ht)).1 _ _ _ w
      · cases h
    · cases h
  · cases h

theorem got_cap {tt : TT} (hT : TTok P tt) {args : Array Operand} {argTypes : Array TypeId}
    (h : (match args.toList, argTypes.toList with
    | [x], [t] => match tt t, evalO sl x with
      | some (.slice _ _), ⟨.lit _, xs⟩ => k ⟨.int .i64, (xs.length : Int)⟩ none
      | some (.slice _ _), ⟨.nil, _⟩ => k ⟨.int .i64, (0 : Int)⟩ none
      | _, _ => none
    | _, _ => none) = some r) : Got P ⟨dst, .call { callee := .builtin .cap, args, argTypes }, ty, pos, after, guard⟩ sl rd new k r := by
  have slice_cap : ∀ {t e : Nat} (hu : P.underlying t = some (.slice e)) (A : Option Addr) (n c : Nat) (w : World), (Builtin.cap_ #[t] ty #[.slice A n c]).run P w = .ok (goInt c) w := by
    intro t e hu A n c w
    simp [Builtin.cap_, run_underlying hu]
  have fin : ∀ {x : Operand} {t : TypeId} {n : Nat} (ha : args.toList = [x]) (ht : argTypes.toList = [t]), k ⟨.int .i64, (n : Int)⟩ none = some r →
      (∀ (w : World) (ok : Nat → Prop) (η : Nat → Value) (a : Act), VS w ok η (evalO sl x) (a.eval x) → (∀ l x, rd l = some x → OK1 w ok η l x) → (Builtin.cap_ #[t] ty #[a.eval x]).run P w = .ok (goInt n) w) →
      Got P ⟨dst, .call { callee := .builtin .cap, args, argTypes }, ty, pos, after, guard⟩ sl rd new k r := by
    intro x t n ha ht hk hrun
    obtain rfl : args = #[x] := by cases args; simp_all
    obtain rfl : argTypes = #[t] := by cases argTypes; simp_all
    refine Got.pure hk trivial fun w ok η ac hsl hrd => ⟨.int .i64 n, ?_, rfl⟩
    have hv := hsl x (by simp [Op.operands, Call.operands])
    refine exec_builtin ?_
    have := hrun w ok η ac hv hrd
    simp only [List.map_toArray, List.map_cons, List.map_nil, builtin, Sem.run_bind, this, Result.andThen_ok, Sem.run_pure]
    rfl
  split at h
  · rename_i x t ha hty
    split at h
    · rename_i e' a' b xs ht ex
      refine fin ha hty h fun w ok η ac hv hrd => ?_
      obtain ⟨A, hv, _⟩ := V_lit hv ex
      rw [hv]
      exact slice_cap (row_slice (hT t _ ht)).1 A _ _ w
    · rename_i e' a' d ht ex
      refine fin (n := 0) ha hty h fun w ok η ac hv hrd => ?_
      rw [V_nil hv ex]
      exact slice_cap (row_slice (hT t _ ht)).1 none 0 0 w
    · cases h
  · cases h

theorem got_convert {tt : TT} (hT : TTok P tt) {src dt : Nat} {x : Operand}
    (h : (match tt src, tt dt, evalO sl x with
    | some (.cell (.int _)), some (.cell (.int q)), ⟨.int _, n⟩ => k ⟨.int q, q.wrap n⟩ none
    | some (.cell .str), some (.cell .str), ⟨.str, s⟩ => k ⟨.str, s⟩ none
    | some (.slice e (.int .u8)), some (.cell .str), ⟨.lit (.int .u8), xs⟩ => match tt e with
      | some (.cell (.int .u8)) => k ⟨.str, bytesOf xs⟩ none
      | _ => none
    | _, _, _ => none) = some r) : Got P ⟨dst, .convert src dt x, ty, pos, after, guard⟩ sl rd new k r := by
  split at h
  · rename_i q' q n m hs hd e
    have hus := row_int (hT src _ hs)
    have hud := row_int (hT dt _ hd)
    refine Got.pure h trivial fun w ok η ac hsl hrd => ?_
    have hv := V_int (hsl x (by simp [Op.operands])) e
    refine ⟨.int q (q.wrap m), ?_, rfl⟩
    simp [execOp, hv, convert, run_underlying hus, run_underlying hud, Conv.intToInt]
  · rename_i s hs hd e
    have hus := row_str (hT src _ hs)
    have hud := row_str (hT dt _ hd)
    refine Got.pure h trivial fun w ok η ac hsl hrd => ?_
    have hv := V_str (hsl x (by simp [Op.operands])) e
    refine ⟨.string ⟨⟨s⟩⟩, ?_, rfl⟩
    simp [execOp, hv, convert, run_underlying hus, run_underlying hud]
  · rename_i e' xs hs hd ex
    split at h
    · rename_i he
      have hus := (row_slice (hT src _ hs)).1
      have hud := row_str (hT dt _ hd)
      have hue := row_int (hT e' _ he)
      refine Got.pure h trivial fun w ok η ac hsl hrd => ?_
      obtain ⟨A, hv, hm⟩ := V_lit (hsl x (by simp [Op.operands])) ex
      refine ⟨.string ⟨⟨bytesOf xs⟩⟩, ?_, rfl⟩
      have hl : ∀ (a : Addr), A = some a → (loadCells a xs.length).run P w = .ok (xs.map (Value.int .u8)).toArray w := by
        rintro a rfl
        have key : ∀ j v, (xs.map (Value.int .u8))[j]? = some v → w.cell? (a.add j) = some v := by
          intro j v hj
          rcases hm with hm | ⟨ad, m, e, hm, hlen, hc⟩
          · have : xs = [] := List.eq_nil_of_length_eq_zero hm
            subst this
            simp at hj
          · obtain rfl : a = ad := by simpa using e
            rw [List.getElem?_map] at hj
            cases hx : xs[j]? with
            | none => rw [hx] at hj; simp at hj
            | some n =>
              rw [hx] at hj
              simp only [Option.map_some, Option.some.injEq] at hj
              subst hj
              obtain ⟨hjl, hx⟩ := List.getElem?_eq_some_iff.1 hx
              have h1 := hc j hjl
              simp only [C, Sh.cells, Nat.mul_one] at h1
              have h2 : (seg m j 1)[0]? = some (.int .u8 n) := by rw [h1]; simp only [List.getElem?_cons_zero]; exact congrArg (fun z => some (Value.int .u8 z)) hx
              have h3 := (seg_at h2).1
              exact (hm j _ (by simpa using h3)).2
        have := run_loadCells_list (P := P) w a (xs.map (Value.int .u8)) key
        simpa using this
      cases A with
      | none =>
        have h0 : xs = [] := by
          rcases hm with hm | ⟨ad, m, e, _⟩
          · exact List.eq_nil_of_length_eq_zero hm
          · cases e
        subst h0
        simp [execOp, hv, run_convert_bytes_nil w src e' hus hue _ _ dt hud]
        rfl
      | some a =>
        simp [execOp, hv, run_convert_bytes_string w src dt e' _ _ _ hus hue hud, run_bytesToString w a _ xs.length xs (hl a rfl), foldl_push_bytes]
        rfl
    · cases h
  · cases h
end ops
end Go.Rai

/- Values in other forms; comparing structs; making memory. -/
set_option linter.unusedVariables false
set_option linter.unusedSimpArgs false
namespace Go.Rai
open Go.RowKit
variable {P : Program}

/-- how the places of a form in another form are told -/
def MatOk (η η' : Nat → Value) (l : List (Nat × Option Nat)) : Prop := ∀ L o, (L, o) ∈ l → match o with | some y => η' L = η y | none => η' L = .slice none 0 0
theorem MatOk.left {η η' : Nat → Value} {l l' : List (Nat × Option Nat)} (h : MatOk η η' (l ++ l')) : MatOk η η' l := fun L o hm => h L o (List.mem_append.2 (.inl hm))
theorem MatOk.right {η η' : Nat → Value} {l l' : List (Nat × Option Nat)} (h : MatOk η η' (l ++ l')) : MatOk η η' l' := fun L o hm => h L o (List.mem_append.2 (.inr hm))

section
variable {w : World} {ok : Nat → Prop} {η η' : Nat → Value}
theorem C_free {a : Sh} {d : a.D} {cs : List Value} (hn : a.under 0) (h : C w ok η a d cs) : C w ok η' a d cs :=
  C_keeps (n := 0) ⟨fun _ _ h1 h2 => ⟨h1, h2⟩, fun l hl => absurd hl (Nat.not_lt_zero _)⟩ hn h

theorem co_C : ∀ {t s : Sh} {d : s.D} {x : t.D} {cs : List Value} {n : Nat}, s.under n → C w ok η s d cs → co t ⟨s, d⟩ = some x → MatOk η η' (t.mat s) → C w ok η' t x cs
  | .undef, s, d, x, cs, n, hn, h, e, hm => by
    have hs : s.single = true := by
      cases hq : s.single with
      | true => rfl
      | false => simp [co, hq] at e
    have hl := C_length h
    have h1 : s.cells = 1 := by cases s <;> first | rfl | simp [Sh.single] at hs
    rw [h1] at hl
    match cs, hl with
    | [v], _ => exact ⟨v, rfl, C_one h v (by simp)⟩
  | .int k, s, d, x, cs, n, hn, h, e, hm => by
    cases s <;> simp only [co, reduceCtorEq] at e
    rename_i k'
    by_cases hk : k = k'
    · subst hk
      simp at e
      subst e
      exact h
    · have : (k == k') = false := by simpa using hk
      simp [this] at e
  | .bool, s, d, x, cs, n, hn, h, e, hm => by
    cases s <;> simp only [co, reduceCtorEq, Option.some.injEq] at e
    subst e; exact h
  | .str, s, d, x, cs, n, hn, h, e, hm => by
    cases s <;> simp only [co, reduceCtorEq, Option.some.injEq] at e
    subst e; exact h
  | .unit, s, d, x, cs, n, hn, h, e, hm => by
    cases s <;> simp only [co, reduceCtorEq] at e
    exact h
  | .nil, s, d, x, cs, n, hn, h, e, hm => by
    cases s <;> simp only [co, reduceCtorEq] at e
    exact h
  | .itf, s, d, x, cs, n, hn, h, e, hm => by
    cases s <;> simp only [co, reduceCtorEq, Option.some.injEq] at e
    subst e; exact h
  | .pnil, s, d, x, cs, n, hn, h, e, hm => by
    cases s <;> simp only [co, reduceCtorEq] at e
    exact h
  | .opt a, s, d, x, cs, n, hn, h, e, hm => by
    cases s <;> simp only [co, reduceCtorEq, Option.some.injEq] at e
    · rename_i b
      split at e
      · rename_i hb
        subst hb
        simp only [Option.some.injEq, cast_eq] at e
        subst e
        obtain ⟨ad, m, rfl, h1, h2⟩ := h
        exact .inr ⟨_, ad, m, rfl, rfl, h1, C_free hn h2⟩
      · cases e
    · subst e
      exact .inl ⟨rfl, h⟩
    · rename_i b
      split at e
      · rename_i hb
        subst hb
        simp only [Option.some.injEq, cast_eq] at e
        subst e
        exact h.imp id fun ⟨y, ad, m, h1, h2, h3, h4⟩ => ⟨y, ad, m, h1, h2, h3, C_free hn h4⟩
      · cases e
  | .pair a b, s, d, x, cs, n, hn, h, e, hm => by
    cases s <;> simp only [co, reduceCtorEq] at e
    rename_i a' b'
    split at e
    · rename_i y z e1 e2
      simp only [Option.some.injEq] at e
      subst e
      obtain ⟨hs, v, r, rfl, ha, hb⟩ := h
      refine ⟨?_, v, r, rfl, co_C hn.1 ha e1 hm.left, co_C hn.2 hb e2 hm.right⟩
      cases a <;> first
        | rfl
        | (cases a' <;> first | (simp only [co, reduceCtorEq] at e1; done) | (simp [Sh.single] at hs; done))
    · cases e
  | .tup a b, s, d, x, cs, n, hn, h, e, hm => by
    cases s <;> simp only [co, reduceCtorEq] at e
    exact h.elim
  | .slice a, s, d, x, cs, n, hn, h, e, hm => by
    cases s <;> simp only [co, reduceCtorEq, Option.some.injEq] at e
    · rename_i b
      split at e
      · rename_i hb
        subst hb
        simp only [Option.some.injEq, cast_eq] at e
        subst e
        obtain ⟨A, cap, rfl, hc, h⟩ := h
        exact ⟨A, cap, rfl, hc, h.imp id fun ⟨ad, m, h1, h2, h3, h4⟩ => ⟨ad, m, h1, h2, h3, fun i hi => C_free hn (h4 i hi)⟩⟩
      · cases e
    · rename_i b
      split at e
      · rename_i hb
        subst hb
        simp only [Option.some.injEq, cast_eq] at e
        subst e
        obtain ⟨A, rfl, h⟩ := h
        exact ⟨A, _, rfl, ⟨Nat.le_refl _, fun hA => by subst hA; rcases h with h | ⟨ad, m, h1, _⟩; exact h; cases h1⟩, h.imp id fun ⟨ad, m, h1, h2, h3, h4⟩ => ⟨ad, m, h1, h2, h3, fun i hi => C_free hn (h4 i hi)⟩⟩
      · cases e
    · subst e
      cases h
      exact ⟨none, 0, rfl, ⟨Nat.le_refl _, fun _ => rfl⟩, .inl rfl⟩
  | .lit a, s, d, x, cs, n, hn, h, e, hm => by
    cases s <;> simp only [co, reduceCtorEq, Option.some.injEq] at e
    · rename_i b
      split at e
      · rename_i hb
        subst hb
        simp only [Option.some.injEq, cast_eq] at e
        subst e
        obtain ⟨A, rfl, h⟩ := h
        exact ⟨A, rfl, h.imp id fun ⟨ad, m, h1, h2, h3, h4⟩ => ⟨ad, m, h1, h2, h3, fun i hi => C_free hn (h4 i hi)⟩⟩
      · cases e
    · subst e
      cases h
      exact ⟨none, rfl, .inl rfl⟩
  | .adr a, s, d, x, cs, n, hn, h, e, hm => by
    cases s <;> simp only [co, reduceCtorEq] at e
    rename_i b
    split at e
    · rename_i hb
      subst hb
      simp only [Option.some.injEq, cast_eq] at e
      subst e
      obtain ⟨ad, m, rfl, h1, h2⟩ := h
      exact ⟨ad, m, rfl, h1, C_free hn h2⟩
    · cases e
  | .ref l a, s, d, x, cs, n, hn, h, e, hm => by
    cases s <;> simp only [co, reduceCtorEq] at e
    · have := hm l none (by simp [Sh.mat])
      cases h
      exact ⟨by rw [this], by rw [this]; rfl⟩
    · rename_i y b
      have := hm l (some y) (by simp [Sh.mat])
      exact ⟨by rw [this]; exact h.1, by rw [this]; exact h.2⟩
  | .ptr l o, s, d, x, cs, n, hn, h, e, hm => by
    cases s <;> simp only [co, reduceCtorEq] at e
    rename_i y o'
    have := hm l (some y) (by simp [Sh.mat])
    by_cases ho : Nat.beq o o' = true
    · obtain rfl := Nat.eq_of_beq_eq_true ho
      obtain ⟨b, hb, hc⟩ := h
      exact ⟨b, this.trans hb, hc⟩
    · simp [ho] at e
  | .elt l a o, s, d, x, cs, n, hn, h, e, hm => by
    cases s <;> simp only [co, reduceCtorEq] at e
    rename_i y b o'
    have := hm l (some y) (by simp [Sh.mat])
    split at e
    · rename_i hb
      obtain ⟨rfl, rfl⟩ := hb
      simp only [Option.some.injEq] at e
      subst e
      obtain ⟨g, k, cap, hg, hc⟩ := h
      exact ⟨g, k, cap, this.trans hg, hc⟩
    · cases e
  | .fn f c, s, d, x, cs, n, hn, h, e, hm => by
    cases s <;> simp only [co, reduceCtorEq] at e
    rename_i g c'
    by_cases hf : Nat.beq f g = true
    · obtain rfl := Nat.eq_of_beq_eq_true hf
      simp only [hf, cond_true] at e
      obtain ⟨caps, rfl, hc⟩ := h
      exact ⟨caps, rfl, co_C (t := c) (s := c') hn hc e hm⟩
    · simp [hf] at e

/-- one form of a value for another -/
theorem co_V1 {t s : Sh} {d : s.D} {x : t.D} {v : Value} {n : Nat} (hn : s.under n) (h : V1 w ok η s d v) (e : co t ⟨s, d⟩ = some x) (hm : MatOk η η' (t.mat s)) : V1 w ok η' t x v := by
  cases s
  case undef => cases t <;> first | trivial | (simp only [co, reduceCtorEq] at e; done)
  case tup => exact h.elim
  case unit =>
    cases t <;> first | trivial | exact h | (simp only [co, reduceCtorEq] at e; done)
  case pair a b =>
    cases t <;> first | trivial | (simp only [co, reduceCtorEq] at e; done) | (obtain ⟨cs, rfl, h⟩ := h; exact ⟨cs, rfl, co_C (s := .pair a b) hn h e hm⟩)
  all_goals
    cases t <;> first | trivial | (simp only [co, reduceCtorEq] at e; done) | exact co_C (cs := [v]) hn h e hm
theorem co_VS {t s : Sh} {d : s.D} {x : t.D} {v : Value} {n : Nat} (hn : s.under n) (h : VS w ok η ⟨s, d⟩ v) (e : co t ⟨s, d⟩ = some x) (hm : MatOk η η' (t.mat s)) : VS w ok η' ⟨t, x⟩ v := by
  have tup : ∀ {t s : Sh} {d : s.D} {x : t.D} {vs : List Value}, s.under n → CT w ok η (V1 w ok η) s d vs → co t ⟨s, d⟩ = some x → MatOk η η' (t.mat s) → CT w ok η' (V1 w ok η') t x vs := by
    intro t
    induction t with
    | tup a b iha ihb =>
      intro s d x vs hn h e hm
      cases s <;> first | exact h.elim | (simp only [co, reduceCtorEq] at e; done) | skip
      rename_i a' b'
      simp only [co] at e
      split at e
      · rename_i y z e1 e2
        simp only [Option.some.injEq] at e
        subst e
        obtain ⟨v, r, rfl, ha, hb⟩ := h
        exact ⟨v, r, rfl, co_V1 hn.1 ha e1 hm.left, ihb hn.2 hb e2 hm.right⟩
      · cases e
    | unit =>
      intro s d x vs hn h e hm
      cases s <;> first | exact h.elim | (simp only [co, reduceCtorEq] at e; done) | exact h
    | undef =>
      intro s d x vs hn h e hm
      cases s <;> first | exact h.elim | (simp [co, Sh.single] at e; done)
    | _ =>
      intro s d x vs hn h e hm
      cases s <;> first | exact h.elim | (simp only [co, reduceCtorEq] at e; done)
  by_cases hs : ∃ a b, s = .tup a b
  · obtain ⟨a, b, rfl⟩ := hs
    obtain ⟨vs, rfl, h⟩ := h
    cases t <;> first | (simp only [co, reduceCtorEq] at e; done) | trivial | exact ⟨vs, rfl, tup (s := .tup a b) hn h e hm⟩
  · have h1 : V1 w ok η s d v := by cases s <;> first | exact h | exact absurd ⟨_, _, rfl⟩ hs
    have := co_V1 hn h1 e hm
    cases t <;> first | exact this | exact this.elim
end

section ops
variable {R : Type} {sl : Nat → SV} {rd : Nat → Option Ob} {new : Nat} {k : SV → Option Ob → Option R} {r : R} {dst : Option Tmp} {ty : TypeId} {pos : String} {after : Array Edge} {guard : Option (Nat × Bool)}

/-! comparing structs -/
theorem flat_run {w : World} {ok ok' : Nat → Prop} {η η' : Nat → Value} {dp : Nat} : ∀ {s : Sh} {x y : s.D} {fs : List Field} {i : Nat} {b : Bool} {xs ys : Array Value}, flatOk P i s fs = true → C w ok η s x (xs.toList.drop i) → C w ok' η' s y (ys.toList.drop i) → eqS s x y = some b →
    (Op.eqFields (dp + 1) xs ys fs).run P w = .ok b w
  | .unit, x, y, [], i, b, xs, ys, hf, hx, hy, e => by
    simp only [eqS, Option.some.injEq] at e
    subst e
    simp [Op.eqFields]
  | .pair a c, x, y, f :: fs, i, b, xs, ys, hf, hx, hy, e => by
    simp only [flatOk, Bool.and_eq_true, decide_eq_true_eq] at hf
    obtain ⟨⟨⟨h1, h2⟩, h3⟩, h4⟩ := hf
    obtain rfl : f.offset = i := Nat.eq_of_beq_eq_true h1
    obtain ⟨hsg, u, r1, eu, ha, hb⟩ := hx
    obtain ⟨_, v, r2, ev, ha', hb'⟩ := hy
    have gu : xs[f.offset]? = some u := by
      have : (xs.toList.drop f.offset)[0]? = some u := by rw [eu]; rfl
      rw [List.getElem?_drop] at this
      simpa using this
    have gv : ys[f.offset]? = some v := by
      have : (ys.toList.drop f.offset)[0]? = some v := by rw [ev]; rfl
      rw [List.getElem?_drop] at this
      simpa using this
    have du : xs.toList.drop (f.offset + 1) = r1 := by rw [← List.drop_drop, eu]; rfl
    have dv : ys.toList.drop (f.offset + 1) = r2 := by rw [← List.drop_drop, ev]; rfl
    simp only [eqS] at e
    split at e
    · rename_i p q e1 e2
      simp only [Option.some.injEq] at e
      subst e
      have ih := flat_run (dp := dp) (s := c) (fs := fs) (i := f.offset + 1) (xs := xs) (ys := ys) h4 (by rw [du]; exact hb) (by rw [dv]; exact hb') e2
      have agg : ∀ d, P.underlying f.type = some d → aggD d = false → (isAgg f.type).run P w = .ok false w := by
        intro d hu hd
        unfold isAgg
        rw [Sem.run_bind, run_underlying hu w]
        cases d <;> simp_all [aggD]
      have part_at : ∀ (zs : Array Value) (z : Value), (isAgg f.type).run P w = .ok false w → zs[f.offset]? = some z → (part f.type zs f.offset).run P w = .ok z w := by
        intro zs z hg hz
        simp [part, hg, hz]
      have fin : (isAgg f.type).run P w = .ok false w → (Op.equalIn (dp + 1) f.type u v).run P w = .ok p w → (Op.eqFields (dp + 1) xs ys (f :: fs)).run P w = .ok (p && q) w := by
        intro hg he
        simp only [Op.eqFields, if_pos h2, Sem.run_bind, part_at xs u hg gu, part_at ys v hg gv, Result.andThen_ok, he]
        cases p
        · simp
        · simp [ih]
      cases a <;> first | (simp [Sh.single] at hsg; done) | (simp only [eqS, reduceCtorEq] at e1; done) | simp only [eqS, Option.some.injEq] at e1
      · subst e1
        simp only [C, List.cons.injEq, and_true] at ha ha'
        rw [ha, ha'] at fin
        split at h3
        · simp_all
        · rename_i hu _
          exact fin (agg _ hu rfl) (run_equalIn_int w dp _ _ _ _ _ hu)
        · simp_all
        · cases h3
      · subst e1
        simp only [C, List.cons.injEq, and_true] at ha ha'
        rw [ha, ha'] at fin
        split at h3
        · rename_i hu _
          exact fin (agg _ hu rfl) (run_equalIn_bool' w dp _ _ _ hu)
        · simp_all
        · simp_all
        · cases h3
      · subst e1
        simp only [C, List.cons.injEq, and_true] at ha ha'
        rw [ha, ha'] at fin
        split at h3
        · simp_all
        · simp_all
        · rename_i hu _
          refine fin (agg _ hu rfl) ?_
          rw [run_equalIn_string w dp _ _ _ hu, bytes_toList, bytes_toList]
        · cases h3
    · cases e
end ops
end Go.Rai

/- Comparing structs; making memory: a variable, a struct's value, a literal of a slice. And all operations in one. -/
set_option linter.unusedVariables false
set_option linter.unusedSimpArgs false
namespace Go.Rai
open Go.RowKit
variable {P : Program}
section ops
variable {R : Type} {sl : Nat → SV} {rd : Nat → Option Ob} {new : Nat} {k : SV → Option Ob → Option R} {r : R} {dst : Option Tmp} {ty : TypeId} {pos : String} {after : Array Edge} {guard : Option (Nat × Bool)}

theorem got_eqStruct {tt : TT} (hT : TTok P tt) {op : BinOp} {t t' : TypeId} {x y : Operand} {a a' b b' : Sh} {d : (Sh.pair a a').D} {e : (Sh.pair b b').D} (ex : evalO sl x = ⟨.pair a a', d⟩) (ey : evalO sl y = ⟨.pair b b', e⟩)
    (h : (match tt t with
      | some (.struct s _ _ true) => if h : Sh.pair a a' = s ∧ Sh.pair b b' = s then (match eqS s (cast (congrArg Sh.D h.1) d) (cast (congrArg Sh.D h.2) e), op with
          | some q, .eql => k ⟨.bool, q⟩ none
          | some q, .neq => k ⟨.bool, !q⟩ none
          | _, _ => none) else none
      | _ => none) = some r) : Got P ⟨dst, .binOp op t x y t', ty, pos, after, guard⟩ sl rd new k r := by
  split at h
  · rename_i s offs szs ht
    split at h
    · rename_i hs
      obtain ⟨rfl, h2⟩ := hs
      obtain ⟨fs, hu, hq⟩ := row_eq (hT t _ ht)
      simp only [eqOk, Bool.and_eq_true, Bool.not_eq_true'] at hq
      obtain ⟨⟨hf, hst⟩, hg⟩ := hq
      have hfo : P.fieldsOf t = fs := by unfold Program.fieldsOf; rw [hu]
      have hu' : P.underlying t = some (.struct (P.fieldsOf t)) := by rw [hfo]; exact hu
      injection h2 with h3 h4
      subst h3; subst h4
      have run : ∀ (q : Bool), eqS (.pair b b') d e = some q → ∀ (w : World) (ok : Nat → Prop) (η : Nat → Value) (ac : Act), (∀ z, z ∈ (Op.binOp op t x y t').operands → VS w ok η (evalO sl z) (ac.eval z)) →
          ∃ xs ys, ac.eval x = .agg xs ∧ ac.eval y = .agg ys ∧ (Op.equalIn 10000 t (.agg xs) (.agg ys)).run P w = .ok q w := by
        intro q hq w ok η ac hsl
        have h1 := hsl x (by simp [Op.operands])
        have h2 := hsl y (by simp [Op.operands])
        rw [ex] at h1
        rw [ey] at h2
        obtain ⟨xs, hx, hcx⟩ := h1
        obtain ⟨ys, hy, hcy⟩ := h2
        refine ⟨xs, ys, hx, hy, ?_⟩
        rw [run_equalIn_struct w 9999 t xs ys hu' hst, hfo]
        exact flat_run (dp := 9998) hf (by simpa using hcx) (by simpa using hcy) hq
      split at h
      · rename_i q hq
        refine Got.pure h trivial fun w ok η ac hsl hrd => ?_
        obtain ⟨xs, ys, hx, hy, hr⟩ := run q (by simpa using hq) w ok η ac hsl
        refine ⟨.bool q, ?_, rfl⟩
        simp only [execOp, hx, hy, Sem.run_bind, run_eqGuard_agg w .eql t x y xs ys hg, Result.andThen_ok, run_eql_struct w t xs ys, hr, Sem.run_pure]
      · rename_i q hq
        refine Got.pure h trivial fun w ok η ac hsl hrd => ?_
        obtain ⟨xs, ys, hx, hy, hr⟩ := run q (by simpa using hq) w ok η ac hsl
        refine ⟨.bool !q, ?_, rfl⟩
        simp only [execOp, hx, hy, Sem.run_bind, run_eqGuard_agg w .neq t x y xs ys hg, Result.andThen_ok, run_neq_struct w t xs ys, hr, Sem.run_pure]
      · cases h
    · cases h
  · cases h

theorem boxIn_under {x y : SV} {m : Nat} (h : x.s.under m) (e : boxIn x = some y) : y.s.under m := by
  unfold boxIn at e
  cases hb : x.s.boxable with
  | false => simp [hb] at e
  | true =>
    simp only [hb, cond_true, Option.some.injEq] at e
    subst e
    exact boxOf_under h

/-- memory is made, and what lies in it is told -/
theorem Got.made {o : Oper} {s : Sh} {d : s.D} (hk : k ⟨.ptr new 0, ()⟩ (some (.box s d)) = some r) (hu : s.under new)
    (h : ∀ (w : World) (ok : Nat → Prop) (η : Nat → Value) (a : Act), (∀ x, x ∈ o.op.operands → VS w ok η (evalO sl x) (a.eval x)) →
      ∃ cs T, (execOp a.eval o).run P w = .ok (.value (.pointer (some ⟨w.heap.size, 0, none⟩))) (w.alloc (.cells cs T)) ∧ C w ok η s d cs.toList) : Got P o sl rd new k r := by
  refine ⟨⟨.ptr new 0, ()⟩, some (.box s d), hk, Nat.lt_succ_self new, (fun h => by cases h), (fun x hx => by cases hx; exact hu), ?_⟩
  intro w ok η a hsl hrd
  obtain ⟨cs, T, hr, hc⟩ := h w ok η a (fun x hx => evalO_VS hsl hx)
  refine ⟨_, _, hr, (Below.refl _ _).alloc (Nat.le_refl _) _, fun ok' η' K _ hη => ?_⟩
  have hη := hη _ rfl
  refine ⟨⟨w.heap.size, hη, rfl⟩, fun x hx => ?_⟩
  cases hx
  refine ⟨⟨w.heap.size, cs, T, hη, ?_, C_keeps K hu hc⟩, by simp⟩
  show (w.heap.push _)[w.heap.size]? = _
  rw [Array.getElem?_push, if_pos rfl]

theorem got_box {tt : TT} {t : Nat} {x : Operand} (hU : Und sl rd new)
    (h : (thenC (boxIn (evalO sl x)) fun v => k ⟨.ptr new 0, ()⟩ (some (.box v.s v.d))) = some r) : Got P ⟨dst, .box t x, ty, pos, after, guard⟩ sl rd new k r := by
  obtain ⟨v, e, h⟩ := thenC_some h
  refine Got.made h (boxIn_under (evalO_under hU.slots x) e) fun w ok η a hsl => ?_
  refine ⟨(a.eval x).cells, t, ?_, boxIn_C (hsl x (by simp [Op.operands])) e⟩
  simp [execOp, Instr.box, newVar, newRow]

theorem got_alloc {tt : TT} (hT : TTok P tt) {t : Nat} {x : Operand}
    (h : (match tt t with
    | some (.struct s _ _ _) => k ⟨.ptr new 0, ()⟩ (some (.box (boxOf (fresh s)).s (boxOf (fresh s)).d))
    | some (.cell s) => k ⟨.ptr new 0, ()⟩ (some (.box (boxOf (fresh s)).s (boxOf (fresh s)).d))
    | some (.slice _ _) => k ⟨.ptr new 0, ()⟩ (some (.box (.pair .nil .unit) ((), ())))
    | some (.arr _ _ _ s) => k ⟨.ptr new 0, ()⟩ (some (.box (boxOf (fresh s)).s (boxOf (fresh s)).d))
    | none => none) = some r) : Got P ⟨dst, .alloc t, ty, pos, after, guard⟩ sl rd new k r := by
  have made : ∀ {s : Sh} {d : s.D} (hk : k ⟨.ptr new 0, ()⟩ (some (.box s d)) = some r) (hu : s.under new) (z : Value), (∀ w, (zeroValue t).run P w = .ok z w) →
      (∀ w ok η, C w ok η s d z.cells.toList) → Got P ⟨dst, .alloc t, ty, pos, after, guard⟩ sl rd new k r := by
    intro s d hk hu z hz hc
    refine Got.made hk hu fun w ok η a hsl => ⟨z.cells, t, ?_, hc w ok η⟩
    simp [execOp, Instr.alloc, hz, newVar, newRow]
  have fresh_under : ∀ (s : Sh) (cs : List Value), zeroOk (fresh s).s cs = true → (fresh s).s.under new := by
    intro s
    induction s with
    | pair a b iha ihb =>
      intro cs h
      match cs, h with
      | v :: r, h =>
        have h : ((fresh a).s.single = true ∧ zeroOk (fresh a).s [v] = true) ∧ zeroOk (fresh b).s r = true := by simpa [fresh, zeroOk] using h
        exact ⟨iha _ h.1.2, ihb _ h.2⟩
    | ref l a => intro cs h; cases cs <;> simp [fresh, zeroOk] at h
    | ptr l o => intro cs h; cases cs <;> simp [fresh, zeroOk] at h
    | elt l a o => intro cs h; cases cs <;> simp [fresh, zeroOk] at h
    | adr a => intro cs h; cases cs <;> simp [fresh, zeroOk] at h
    | fn f c => intro cs h; cases cs <;> simp [fresh, zeroOk] at h
    | tup a b => intro cs h; cases cs <;> simp [fresh, zeroOk] at h
    | lit a => intro cs h; cases cs <;> simp [fresh, zeroOk] at h
    | _ => intro cs h; trivial
  split at h
  · rename_i s offs szs eq ht
    obtain ⟨fs, _, _, _, hz⟩ := row_struct (hT t _ ht)
    obtain ⟨z, hzr, hz⟩ := zeroIs_of hz
    exact made h (boxOf_under (fresh_under s _ hz)) z hzr fun w ok η => C_boxOf (zeroOk_C hz)
  · rename_i s ht
    obtain ⟨_, _, hz⟩ := row_cell (hT t _ ht)
    obtain ⟨z, hzr, hz⟩ := zeroIs_of hz
    exact made h (boxOf_under (fresh_under s _ hz)) z hzr fun w ok η => C_boxOf (zeroOk_C hz)
  · rename_i e a ht
    obtain ⟨_, _, hz, _⟩ := row_slice (hT t _ ht)
    obtain ⟨z, hzr, hz⟩ := zeroIs_of hz
    refine made h ⟨trivial, trivial⟩ z hzr fun w ok η => ?_
    have : C w ok η .nil () z.cells.toList := zeroOk_C (s := .nil) hz
    simp only [C] at this
    rw [this]
    exact ⟨rfl, _, [], rfl, rfl, rfl⟩
  · rename_i n' e' sz s ht
    obtain ⟨_, _, _, hz, _⟩ := row_arr (hT t _ ht)
    obtain ⟨z, hzr, hz⟩ := zeroIs_of hz
    exact made h (boxOf_under (fresh_under s _ hz)) z hzr fun w ok η => C_boxOf (zeroOk_C hz)
  · cases h

/-! a struct's value -/
theorem foldl_set (off : Nat) : ∀ (vs : List Value) (j : Nat) (cs : Array Value), off + j + vs.length ≤ cs.size →
    ((vs.zipIdx j).foldl (fun cs (c : Value × Nat) => cs.setIfInBounds (off + c.2) c.1) cs).toList = cs.toList.take (off + j) ++ vs ++ cs.toList.drop (off + j + vs.length)
  | [], j, cs, h => by simp
  | v :: vs, j, cs, h => by
    simp only [List.zipIdx_cons, List.foldl_cons]
    simp only [List.length_cons] at h
    rw [foldl_set off vs (j + 1) _ (by simp; omega)]
    have hl : off + j < cs.toList.length := by simp; omega
    apply List.ext_getElem?
    intro i
    simp only [Array.toList_setIfInBounds, List.length_cons]
    by_cases h1 : i < off + j
    · simp [List.getElem?_append, List.getElem?_take, List.getElem?_set, h1, show i < off + (j + 1) by omega, show ¬ off + j = i by omega, show i < cs.size by omega]
      simp [show min (off + j) cs.size = off + j by omega, show min (off + (j + 1)) cs.size = off + (j + 1) by omega, h1, show i < off + (j + 1) by omega]
    · by_cases h2 : i = off + j
      · subst h2
        simp [List.getElem?_append, List.getElem?_take, List.getElem?_set, show min (off + j) cs.size = off + j by omega, show min (off + (j + 1)) cs.size = off + (j + 1) by omega, show off + j < off + (j + 1) by omega, show off + j < cs.size by omega]
      · have e : i - (off + j) = (i - (off + (j + 1))) + 1 := by omega
        simp only [List.getElem?_append, List.length_append, List.length_take, List.length_set, Array.length_toList, List.length_cons, show min (off + j) cs.size = off + j by omega, show min (off + (j + 1)) cs.size = off + (j + 1) by omega,
          show ¬ i < off + j by omega, show ¬ i < off + (j + 1) by omega, if_false]
        by_cases h3 : i < off + (j + 1) + vs.length
        · rw [if_pos h3, if_pos (by omega), e, List.getElem?_cons_succ]
        · rw [if_neg h3, if_neg (by omega), List.getElem?_drop, List.getElem?_drop, List.getElem?_set]
          rw [if_neg (by omega)]
          congr 1
          omega

theorem fill_buildParts {w : World} {ok : Nat → Prop} {η : Nat → Value} {a : Act} {places : Array (Nat × Nat)} {offs szs : List Nat}
    (hp : ∀ i q n : Nat, offs[i]? = some q → szs[i]? = some n → places[i]? = some (q, n)) : ∀ {parts : List (Nat × Operand)} {x y : SV} {cells : Array Value},
    (∀ p ∈ parts, VS w ok η (evalO sl p.2) (a.eval p.2)) → C w ok η x.s x.d cells.toList → buildParts offs szs (evalO sl) parts x = some y →
    ∃ out, Instr.fill (places[·]?) cells (parts.map fun p => (p.1, a.eval p.2)) = some out ∧ C w ok η y.s y.d out.toList
  | [], x, y, cells, _, hc, e => by
    simp only [buildParts, Option.some.injEq] at e
    subst e
    exact ⟨cells, rfl, hc⟩
  | p :: r, x, y, cells, hv, hc, e => by
    simp only [buildParts] at e
    split at e
    · rename_i q n z hq hn hz
      by_cases hsz : Nat.beq z.s.cells n = true
      · simp only [hsz, cond_true] at e
        split at e
        · rename_i x' hx'
          have hz' := boxIn_C (hv p (by simp)) hz
          obtain ⟨h1, h2⟩ := putC_C hc hz' hx'
          have hl := C_length hz'
          have hn' := Nat.eq_of_beq_eq_true hsz
          simp only [List.map_cons, Instr.fill, hp _ _ _ hq hn]
          rw [Array.length_toList] at hl h1 h1
          have hc1 : ¬ ((a.eval p.2).cells.size ≠ n || q + (a.eval p.2).cells.size > cells.size) = true := by
            simp; omega
          rw [if_neg (by simpa using hc1)]
          refine fill_buildParts hp (fun p' hp' => hv p' (by simp [hp'])) ?_ e
          have hf : ((a.eval p.2).cells.zipIdx.foldl (fun cs (x : Value × Nat) => cs.setIfInBounds (q + x.2) x.1) cells).toList = cells.toList.take q ++ (a.eval p.2).cells.toList ++ cells.toList.drop (q + (a.eval p.2).cells.toList.length) := by
            have := foldl_set q (a.eval p.2).cells.toList 0 cells (by simp; omega)
            rw [← Array.foldl_toList, Array.toList_zipIdx]
            simpa using this
          rw [hf]
          exact h2
        · cases e
      · simp [hsz] at e
    · cases e

theorem run_places {fs : List Field} {offs szs : List Nat} (h : sizesOk P fs offs szs = true) (w : World) :
    ∃ ps : List (Nat × Nat), ((fs.mapM fun f => do pure (f.offset, ← sizeOf f.type) : Sem (List (Nat × Nat))).run P w) = .ok ps w ∧ ∀ i q n : Nat, offs[i]? = some q → szs[i]? = some n → ps[i]? = some (q, n) := by
  induction fs generalizing offs szs with
  | nil =>
    refine ⟨[], by simp, fun i q n hq => ?_⟩
    cases offs with
    | nil => simp at hq
    | cons o os => simp [sizesOk] at h
  | cons f fs ih =>
    cases offs with
    | nil => simp [sizesOk] at h
    | cons o os => cases szs with
      | nil => simp [sizesOk] at h
      | cons m ms =>
        simp only [sizesOk, Bool.and_eq_true, Bool.not_eq_true'] at h
        obtain ⟨⟨⟨h1, h2⟩, _⟩, h4⟩ := h
        obtain ⟨ps, hr, hps⟩ := ih h4
        refine ⟨(o, m) :: ps, ?_, ?_⟩
        · obtain rfl := Nat.eq_of_beq_eq_true h1
          have hs := run_sizeOf_is h2 w
          simp only [List.mapM_cons, Sem.run_bind, hs, Result.andThen_ok, Sem.run_pure, hr]
        · intro i q n hq hn
          cases i with
          | zero => simp at hq hn ⊢; exact ⟨hq, hn⟩
          | succ i => simp at hq hn ⊢; exact hps i q n hq hn

theorem buildParts_under {offs szs : List Nat} {m : Nat} : ∀ {parts : List (Nat × Operand)} {x y : SV}, (∀ t, (sl t).s.under m) → x.s.under m → buildParts offs szs (evalO sl) parts x = some y → y.s.under m
  | [], x, y, _, hx, e => by
    simp only [buildParts, Option.some.injEq] at e
    subst e; exact hx
  | p :: r, x, y, hsl, hx, e => by
    simp only [buildParts] at e
    split at e
    · rename_i q n z hq hn hz
      by_cases hsz : Nat.beq z.s.cells n = true
      · simp only [hsz, cond_true] at e
        split at e
        · rename_i x' hx'
          refine buildParts_under hsl ?_ e
          have hz' : z.s.under m := boxIn_under (evalO_under hsl p.2) hz
          have put : ∀ {s : Sh} {d : s.D} {n : Nat} {v r : SV}, s.under m → v.s.under m → putS s d n v = some r → r.s.under m := by
            intro s
            induction s with
            | pair a b iha ihb =>
              intro d n v r hs hv e
              cases n with
              | succ n =>
                simp only [putS] at e
                split at e
                · rename_i r' e'
                  simp only [Option.some.injEq] at e
                  subst e
                  exact ⟨hs.1, ihb hs.2 hv e'⟩
                · cases e
              | zero =>
                obtain ⟨vs, vd⟩ := v
                cases vs <;> simp only [putS, reduceCtorEq, Option.some.injEq] at e
                · subst e; exact hs
                · split at e
                  · rename_i r' e'
                    simp only [Option.some.injEq] at e
                    subst e
                    exact ⟨hv.1, ihb (v := ⟨_, _⟩) hs.2 hv.2 e'⟩
                  · cases e
            | _ =>
              intro d n v r hs hv e
              obtain ⟨vs, vd⟩ := v
              cases n <;> cases vs <;> simp only [putS, reduceCtorEq, Option.some.injEq] at e <;> (subst e; exact hs)
          exact put hx hz' hx'
        · cases e
      · simp [hsz] at e
    · cases e

theorem fresh_under' {m : Nat} : ∀ (s : Sh) (cs : List Value), zeroOk (fresh s).s cs = true → (fresh s).s.under m := by
  intro s
  induction s with
  | pair a b iha ihb =>
    intro cs h
    match cs, h with
    | v :: r, h =>
      have h : ((fresh a).s.single = true ∧ zeroOk (fresh a).s [v] = true) ∧ zeroOk (fresh b).s r = true := by simpa [fresh, zeroOk] using h
      exact ⟨iha _ h.1.2, ihb _ h.2⟩
  | ref l a => intro cs h; cases cs <;> simp [fresh, zeroOk] at h
  | ptr l o => intro cs h; cases cs <;> simp [fresh, zeroOk] at h
  | elt l a o => intro cs h; cases cs <;> simp [fresh, zeroOk] at h
  | adr a => intro cs h; cases cs <;> simp [fresh, zeroOk] at h
  | fn f c => intro cs h; cases cs <;> simp [fresh, zeroOk] at h
  | tup a b => intro cs h; cases cs <;> simp [fresh, zeroOk] at h
  | lit a => intro cs h; cases cs <;> simp [fresh, zeroOk] at h
  | _ => intro cs h; trivial

theorem buildParts_agg {offs szs : List Nat} : ∀ {parts : List (Nat × Operand)} {x y : SV}, (x.s = .unit ∨ ∃ a b, x.s = .pair a b) → buildParts offs szs (evalO sl) parts x = some y → (y.s = .unit ∨ ∃ a b, y.s = .pair a b)
  | [], x, y, hx, e => by
    simp only [buildParts, Option.some.injEq] at e
    subst e; exact hx
  | p :: r, x, y, hx, e => by
    simp only [buildParts] at e
    split at e
    · rename_i q n z hq hn hz
      by_cases hsz : Nat.beq z.s.cells n = true
      · simp only [hsz, cond_true] at e
        split at e
        · rename_i x' hx'
          refine buildParts_agg ?_ e
          obtain ⟨xs, xd⟩ := x
          obtain ⟨zs, zd⟩ := z
          unfold putC at hx'
          rcases hx with hx | ⟨a, b, hx⟩
          · subst hx
            cases q <;> cases zs <;> simp only [putS, reduceCtorEq, Option.some.injEq] at hx'
            subst hx'; exact .inl rfl
          · subst hx
            cases q with
            | succ q =>
              simp only [putS] at hx'
              split at hx'
              · simp only [Option.some.injEq] at hx'; subst hx'; exact .inr ⟨_, _, rfl⟩
              · cases hx'
            | zero =>
              cases zs <;> simp only [putS, reduceCtorEq, Option.some.injEq] at hx'
              · subst hx'; exact .inr ⟨_, _, rfl⟩
              · split at hx'
                · simp only [Option.some.injEq] at hx'; subst hx'; exact .inr ⟨_, _, rfl⟩
                · cases hx'
        · cases e
      · simp [hsz] at e
    · cases e

theorem got_build {tt : TT} (hT : TTok P tt) {t : Nat} {parts : Array (Nat × Operand)} (hU : Und sl rd new)
    (h : (match tt t with
    | some (.struct s offs szs _) => thenC (buildParts offs szs (evalO sl) parts.toList (fresh s)) fun v => k v none
    | _ => none) = some r) : Got P ⟨dst, .build t parts, ty, pos, after, guard⟩ sl rd new k r := by
  split at h
  · rename_i s offs szs eq ht
    obtain ⟨v, e, h⟩ := thenC_some h
    obtain ⟨fs, hu, hs, hsz, hz⟩ := row_struct (hT t _ ht)
    obtain ⟨z, hzr, hz⟩ := zeroIs_of hz
    refine Got.pure h (buildParts_under hU.slots (fresh_under' s _ hz) e) fun w ok η a hsl hrd => ?_
    obtain ⟨ps, hps, hplace⟩ := run_places hs w
    have hv : ∀ p ∈ parts.toList, VS w ok η (evalO sl p.2) (a.eval p.2) := fun p hp => hsl p.2 (by simp only [Op.operands, List.mem_toArray, List.mem_map]; exact ⟨p, hp, rfl⟩)
    have hpl : ∀ i q n : Nat, offs[i]? = some q → szs[i]? = some n → ps.toArray[i]? = some (q, n) := fun i q n hq hn => by simpa using hplace i q n hq hn
    obtain ⟨out, hf, hc⟩ := fill_buildParts (places := ps.toArray) hpl (cells := z.cells) hv (zeroOk_C hz) e
    refine ⟨.agg out, ?_, ?_⟩
    · have hm : (fs.mapM fun f => do pure (f.offset, ← sizeOf f.type) : Sem (Array (Nat × Nat))).run P w = .ok ps.toArray w := by
        rw [Array.mapM_eq_mapM_toList, Sem.run_map, hps]
        rfl
      have hpm : (parts.map fun (x : Nat × Operand) => (x.1, a.eval x.2)).toList = parts.toList.map fun p => (p.1, a.eval p.2) := by simp
      simp only [execOp, Instr.build, Sem.run_bind, hzr, Result.andThen_ok, run_underlying hu w, hm]
      rw [hpm, hf]
      simp
    · have hagg : (fresh s).s = .unit ∨ ∃ a b, (fresh s).s = .pair a b := by
        have := row_agg (hT t _ ht)
        cases s <;> first | exact .inl rfl | exact .inr ⟨_, _, rfl⟩ | (simp [aggS] at this; done)
      obtain ⟨vs, vd⟩ := v
      rcases buildParts_agg hagg e with h1 | ⟨a', b', h1⟩
      · simp only at h1
        subst h1
        have : out = #[] := by
          have : out.toList = [] := hc
          cases out; simp_all
        subst this
        rfl
      · simp only at h1
        subst h1
        exact ⟨out, rfl, hc⟩
  · cases h

/-! a literal of a slice -/
theorem VS_cells {w : World} {ok : Nat → Prop} {η : Nat → Value} {a : Sh} {x : a.D} {v : Value} (hb : a.boxable = true) (h : VS w ok η ⟨a, x⟩ v) : C w ok η a x v.cells.toList := by
  cases a
  case undef => simp [Sh.boxable] at hb
  case tup => simp [Sh.boxable] at hb
  case unit =>
    have h : v = .agg #[] := h
    subst h; rfl
  case pair => obtain ⟨cs, rfl, h⟩ := h; exact h
  all_goals
    have h1 : C w ok η _ x [v] := h
    have h2 := C_one h1 v (by simp)
    have h3 : v.cells.toList = [v] := by cases v <;> simp_all [Value.cells, Value.oneCell']
    rw [h3]
    exact h1

theorem fill_lit {w : World} {ok : Nat → Prop} {η : Nat → Value} {ac : Act} {a : Sh} {m : Nat} (ha : a.under 0) (hb : a.boxable = true) (hU : ∀ t, (sl t).s.under m) : ∀ {parts : List (Nat × Operand)} {i : Nat} {l : List a.D} {cells : Array Value},
    (∀ p ∈ parts, VS w ok η (evalO sl p.2) (ac.eval p.2)) → litParts a (evalO sl) i parts = some l → i * a.cells + parts.length * a.cells ≤ cells.size →
    ∃ out : Array Value, Instr.fill (fun i => some (i * a.cells, a.cells)) cells (parts.map fun p => (p.1, ac.eval p.2)) = some out ∧ l.length = parts.length ∧ out.size = cells.size ∧
      (∀ j, j < i * a.cells → out[j]? = cells[j]?) ∧ ∀ j (h : j < l.length), C w ok η a l[j] (seg out.toList ((i + j) * a.cells) a.cells)
  | [], i, l, cells, _, e, _ => by
    simp only [litParts, Option.some.injEq] at e
    subst e
    exact ⟨cells, rfl, rfl, rfl, fun _ _ => rfl, fun j h => by simp at h⟩
  | p :: r, i, l, cells, hv, e, hs => by
    simp only [litParts] at e
    by_cases hi : Nat.beq p.1 i = true
    · simp only [hi, cond_true] at e
      split at e
      · rename_i x l' e1 e2
        simp only [Option.some.injEq] at e
        subst e
        obtain rfl := Nat.eq_of_beq_eq_true hi
        have h1 : VS w ok η ⟨a, x⟩ (ac.eval p.2) := co_VS (evalO_under hU p.2) (hv p (by simp)) e1 (by rw [mat_nil ha]; exact fun L o h => by simp at h)
        have hc := VS_cells hb h1
        have hl := C_length hc
        rw [Array.length_toList] at hl
        have hmul : (r.length + 1) * a.cells = r.length * a.cells + a.cells := Nat.succ_mul _ _
        have hmul' : (p.1 + 1) * a.cells = p.1 * a.cells + a.cells := Nat.succ_mul _ _
        simp only [List.length_cons] at hs
        have hc1 : ¬ ((ac.eval p.2).cells.size ≠ a.cells || p.1 * a.cells + (ac.eval p.2).cells.size > cells.size) = true := by
          simp; omega
        have hf : ((ac.eval p.2).cells.zipIdx.foldl (fun cs (x : Value × Nat) => cs.setIfInBounds (p.1 * a.cells + x.2) x.1) cells).toList = cells.toList.take (p.1 * a.cells) ++ (ac.eval p.2).cells.toList ++ cells.toList.drop (p.1 * a.cells + (ac.eval p.2).cells.toList.length) := by
          have := foldl_set (p.1 * a.cells) (ac.eval p.2).cells.toList 0 cells (by simp; omega)
          rw [← Array.foldl_toList, Array.toList_zipIdx]
          simpa using this
        generalize hcur : (ac.eval p.2).cells.zipIdx.foldl (fun cs (x : Value × Nat) => cs.setIfInBounds (p.1 * a.cells + x.2) x.1) cells = cur at hf
        have hsz : cur.size = cells.size := by
          have := congrArg List.length hf
          simp at this
          omega
        obtain ⟨out, ho, hlen, hso, hkeep, hel⟩ := fill_lit ha hb hU (cells := cur) (i := p.1 + 1) (fun p' hp' => hv p' (by simp [hp'])) e2 (by omega)
        refine ⟨out, ?_, by simp [hlen], by omega, ?_, ?_⟩
        · simp only [List.map_cons, Instr.fill]
          rw [if_neg (by simpa using hc1), hcur]
          exact ho
        · intro j hj
          rw [hkeep j (by omega)]
          have : cur.toList[j]? = cells.toList[j]? := by
            rw [hf, List.append_assoc, List.getElem?_append_left (by simp; omega), List.getElem?_take, if_pos hj]
          simpa using this
        · intro j hj
          cases j with
          | zero =>
            have hseg : seg out.toList ((p.1 + 0) * a.cells) a.cells = (ac.eval p.2).cells.toList := by
              apply List.ext_getElem?
              intro q
              unfold seg
              rw [List.getElem?_take]
              split
              · rename_i hq
                rw [List.getElem?_drop, Nat.add_zero]
                have h2 := hkeep (p.1 * a.cells + q) (by omega)
                have h3 : out.toList[p.1 * a.cells + q]? = cur.toList[p.1 * a.cells + q]? := by simpa using h2
                rw [h3, hf, List.append_assoc, List.getElem?_append_right (by simp; omega)]
                rw [List.getElem?_append_left (by simp; omega)]
                congr 1
                simp; omega
              · rw [List.getElem?_eq_none (by simp; omega)]
            rw [hseg]
            exact hc
          | succ j =>
            have := hel j (by simpa using hj)
            rw [show p.1 + (j + 1) = p.1 + 1 + j by omega]
            exact this
      · cases e
    · simp [hi] at e

/-- what a literal of a slice comes to -/
theorem lit_run {tt : TT} (hT : TTok P tt) {t e : Nat} {a : Sh} {parts : Array (Nat × Operand)} {l : List a.D} {m : Nat} (ht : tt t = some (.slice e a)) (hcap : parts.toList.length * a.cells ≤ 65536) (hl : litParts a (evalO sl) 0 parts.toList = some l)
    (hU : ∀ t, (sl t).s.under m) (w : World) (ok : Nat → Prop) (η : Nat → Value) (ac : Act) (hsl : ∀ x, Operand.tmp x ∈ (Op.buildSlice t parts.toList.length parts).operands → VS w ok η (sl x) (ac.tmps.getD x undef)) :
    ∃ out : Array Value, (execOp ac.eval ⟨dst, .buildSlice t parts.toList.length parts, ty, pos, after, guard⟩).run P w = .ok (.value (.slice (some ⟨w.heap.size, 0, none⟩) l.length l.length)) (w.alloc (.cells out e)) ∧
      out.size = l.length * a.cells ∧ l.length = parts.toList.length ∧ ∀ i (h : i < l.length), C w ok η a l[i] (seg out.toList (i * a.cells) a.cells) := by
  obtain ⟨hu, _, _, hs, hc0, _, hz⟩ := row_slice (hT t _ ht)
  obtain ⟨hp, hb⟩ := row_pure (hT t _ ht)
  obtain ⟨z, hzr, hz⟩ := zeroIs_of hz
  have ha : a.under 0 := pure_under hp
  have hv : ∀ p ∈ parts.toList, VS w ok η (evalO sl p.2) (ac.eval p.2) := fun p hp => evalO_VS hsl (by simp only [Op.operands, List.mem_toArray, List.mem_map]; exact ⟨p, hp, rfl⟩)
  let zs : Array Value := if parts.toList.length * a.cells = 0 then #[] else z.cells
  obtain ⟨out, hf, hlen, hso, _, hel⟩ := fill_lit (w := w) (ok := ok) (η := η) (ac := ac) ha hb hU (cells := (Array.range (parts.toList.length * a.cells)).map (zs[· % zs.size]!)) hv hl (by simp)
  have hpm : (parts.map fun (x : Nat × Operand) => (x.1, ac.eval x.2)).toList = parts.toList.map fun p => (p.1, ac.eval p.2) := by simp
  have hrun : (execOp ac.eval ⟨dst, .buildSlice t parts.toList.length parts, ty, pos, after, guard⟩).run P w = .ok (.value (.slice (some ⟨w.heap.size, 0, none⟩) parts.toList.length parts.toList.length)) (w.alloc (.cells out e)) := by
    have hle : ¬ parts.toList.length * a.cells > 2 ^ 24 := by omega
    simp only [execOp, Instr.buildSlice, Sem.run_bind, run_underlying hu w, Result.andThen_ok, run_sizeOf_is hs w, if_neg hle]
    by_cases h0 : parts.toList.length * a.cells = 0
    · have ez : zs = #[] := if_pos h0
      rw [ez] at hf
      rw [if_pos h0]
      simp only [Sem.run_bind, Sem.run_pure, Result.andThen_ok]
      rw [hpm, hf]
      simp [newRow]
    · have ez : zs = z.cells := if_neg h0
      rw [ez] at hf
      rw [if_neg h0]
      simp only [Sem.run_bind, Sem.run_pure, Result.andThen_ok, hzr]
      rw [hpm, hf]
      simp [newRow]
  refine ⟨out, by rw [hlen]; exact hrun, by rw [hso, hlen]; simp, hlen, fun i hi => ?_⟩
  have := hel i hi
  rw [Nat.zero_add] at this
  exact this
theorem got_buildSlice {tt : TT} (hT : TTok P tt) {t n : Nat} {parts : Array (Nat × Operand)} (hU : Und sl rd new)
    (h : (match tt t with
    | some (.slice _ a) => bif Nat.beq n parts.toList.length && Nat.ble (n * a.cells) 65536 then (match litParts a (evalO sl) 0 parts.toList with
      | some l => k ⟨.lit a, l⟩ none
      | none => none) else none
    | _ => none) = some r) : Got P ⟨dst, .buildSlice t n parts, ty, pos, after, guard⟩ sl rd new k r := by
  split at h
  · rename_i e a ht
    by_cases hg : (Nat.beq n parts.toList.length && Nat.ble (n * a.cells) 65536) = true
    · rw [hg, cond_true] at h
      simp only [Bool.and_eq_true] at hg
      obtain ⟨hn, hcap⟩ := hg
      obtain rfl := Nat.eq_of_beq_eq_true hn
      have hcap := Nat.le_of_ble_eq_true hcap
      split at h
      · rename_i l hl
        obtain ⟨hu, _, _, hs, hc0, _, hz⟩ := row_slice (hT t _ ht)
        obtain ⟨hp, hb⟩ := row_pure (hT t _ ht)
        obtain ⟨z, hzr, hz⟩ := zeroIs_of hz
        have ha : a.under 0 := pure_under hp
        refine ⟨⟨.lit a, l⟩, none, h, ha, (fun _ => ha), (fun x hx => by cases hx), ?_⟩
        intro w ok η ac hsl hrd
        have hv : ∀ p ∈ parts.toList, VS w ok η (evalO sl p.2) (ac.eval p.2) := fun p hp => evalO_VS hsl (by simp only [Op.operands, List.mem_toArray, List.mem_map]; exact ⟨p, hp, rfl⟩)
        let zs : Array Value := if parts.toList.length * a.cells = 0 then #[] else z.cells
        obtain ⟨out, hf, hlen, hso, _, hel⟩ := fill_lit (w := w) (ok := ok) (η := η) (ac := ac) ha hb hU.slots (cells := (Array.range (parts.toList.length * a.cells)).map (zs[· % zs.size]!)) hv hl (by simp)
        have hpm : (parts.map fun (x : Nat × Operand) => (x.1, ac.eval x.2)).toList = parts.toList.map fun p => (p.1, ac.eval p.2) := by simp
        have hrun : (execOp ac.eval ⟨dst, .buildSlice t parts.toList.length parts, ty, pos, after, guard⟩).run P w = .ok (.value (.slice (some ⟨w.heap.size, 0, none⟩) parts.toList.length parts.toList.length)) (w.alloc (.cells out e)) := by
          have hle : ¬ parts.toList.length * a.cells > 2 ^ 24 := by omega
          simp only [execOp, Instr.buildSlice, Sem.run_bind, run_underlying hu w, Result.andThen_ok, run_sizeOf_is hs w, if_neg hle]
          by_cases h0 : parts.toList.length * a.cells = 0
          · have ez : zs = #[] := if_pos h0
            rw [ez] at hf
            rw [if_pos h0]
            simp only [Sem.run_bind, Sem.run_pure, Result.andThen_ok]
            rw [hpm, hf]
            simp [newRow]
          · have ez : zs = z.cells := if_neg h0
            rw [ez] at hf
            rw [if_neg h0]
            simp only [Sem.run_bind, Sem.run_pure, Result.andThen_ok, hzr]
            rw [hpm, hf]
            simp [newRow]
        refine ⟨_, _, hrun, (Below.refl _ _).alloc (Nat.le_refl _) _, fun ok' η' K hok hη => ⟨?_, fun x hx => by cases hx⟩⟩
        refine ⟨some ⟨w.heap.size, 0, none⟩, by rw [← hlen], .inr ⟨_, out.toList, rfl, ?_, ?_, ?_⟩⟩
        · intro j v hv
          refine ⟨hok rfl _ (Nat.le_refl _), ?_⟩
          rw [add_mid, cell_of_row (w.alloc (.cells out e)) w.heap.size _ out e (0, 0) (by show (w.heap.push _)[w.heap.size]? = _; rw [Array.getElem?_push, if_pos rfl])]
          simpa using hv
        · have : out.size = parts.toList.length * a.cells := by rw [hso]; simp
          rw [Array.length_toList, this, ← hlen]
        · intro i hi
          have := hel i hi
          rw [Nat.zero_add] at this
          exact C_keeps K (under_mono (Nat.zero_le _) ha) this
      · cases h
    · rw [Bool.not_eq_true] at hg
      rw [hg, cond_false] at h
      cases h
  · cases h
end ops

/-- EACH OPERATION OF 'act' COMES TO WHAT IT SAYS. -/
theorem act_sound {R : Type} {tt : TT} (hT : TTok P tt) {sl : Nat → SV} {rd : Nat → Option Ob} {new : Nat} {o : Oper} {k : SV → Option Ob → Option R} {r : R} (hU : Und sl rd new)
    (h : act tt (evalO sl) rd new o k = some r) : Got P o sl rd new k r := by
  obtain ⟨dst, op, ty, pos, after, guard⟩ := o
  unfold act at h
  split at h
  · rename_i x e
    obtain rfl : op = _ := e
    exact got_move hU h
  · rename_i x e
    obtain rfl : op = _ := e
    exact got_assign hU h
  · rename_i t x e
    obtain rfl : op = _ := e
    split at h
    · exact got_box (tt := tt) hU h
    · cases h
  · rename_i t e
    obtain rfl : op = _ := e
    exact got_alloc hT (x := .tmp 0) h
  · rename_i t x f e
    obtain rfl : op = _ := e
    split at h
    · rename_i s offs szs eq ht
      exact got_fieldAddr hT ht hU h
    · cases h
  · rename_i t x e
    obtain rfl : op = _ := e
    split at h
    · cases h
    · rename_i q ht
      exact got_load hT ht hU h
  · rename_i t x i e
    obtain rfl : op = _ := e
    split at h
    · rename_i e' a ht
      exact got_indexAddr hT ht hU h
    · rename_i n' e' sz s ht
      exact got_indexArr hT ht hU h
    · cases h
  · rename_i t x i e
    obtain rfl : op = _ := e
    exact got_index hT h
  · rename_i t x lo hi e
    obtain rfl : op = _ := e
    exact got_slice hT hU h
  · rename_i t parts e
    obtain rfl : op = _ := e
    exact got_build hT hU h
  · rename_i t n parts e
    obtain rfl : op = _ := e
    exact got_buildSlice hT hU h
  · rename_i x e
    obtain rfl : op = _ := e
    exact got_nilCheck hU h
  · rename_i bop t x y t' e
    obtain rfl : op = _ := e
    split at h
    · rename_i k1 a k2 b e1 e2
      by_cases hk : k1 = k2
      · subst hk
        simp only [beq_self_eq_true, cond_true] at h
        exact got_binInt e1 e2 h
      · have : (k1 == k2) = false := by simpa using hk
        rw [this, cond_false] at h
        cases h
    · rename_i a b e1 e2
      exact got_binStr e1 e2 h
    · rename_i a b e1 e2
      split at h
      · rename_i ht
        exact got_binItf (b := b) e1 rfl (hT t _ ht) h
      · cases h
    · rename_i a' a d e1 e2
      split at h
      · rename_i ht
        refine got_binPtr (u := a.isNone) (fun w ok η v hv => V_optv hv e1) e2 (hT t _ ht) ?_
        cases a <;> exact h
      · cases h
    · rename_i a' a d e1 e2
      split at h
      · rename_i ht
        refine got_binPtr (u := false) (fun w ok η v hv => ?_) e2 (hT t _ ht) h
        obtain ⟨ad, m, rfl, _⟩ := V_adr hv e1
        exact ⟨_, rfl, rfl⟩
      · cases h
    · rename_i a d e1 e2
      split at h
      · rename_i ht
        exact got_binPtr (u := true) (fun w ok η v hv => ⟨_, V_pnil hv e1, rfl⟩) e2 (hT t _ ht) h
      · cases h
    · rename_i a' a d d' e1 e2
      split at h
      · rename_i ht
        refine got_binPtr (u := false) (fun w ok η v hv => ?_) e2 (hT t _ ht) h
        obtain ⟨b, _, rfl⟩ := V_ptr hv e1
        exact ⟨_, rfl, rfl⟩
      · cases h
    · rename_i a b e1 e2
      split at h
      · rename_i ht
        have hu : P.underlying t = some .bool := by
          have := hT t _ ht
          simp only [rowOk, Bool.and_eq_true] at this
          have h1 := this.1.1
          split at h1 <;> first | (cases h1; done) | assumption | simp_all
        exact got_binBool e1 e2 hu h
      · cases h
    · rename_i a a' d b b' e' e1 e2
      exact got_eqStruct hT e1 e2 h
    · cases h
  · rename_i bop t x e
    obtain rfl : op = _ := e
    exact got_unOp h
  · rename_i c x y e
    obtain rfl : op = _ := e
    exact got_pick h
  · rename_i s d x e
    obtain rfl : op = _ := e
    exact got_convert hT h
  · rename_i x j e
    obtain rfl : op = _ := e
    exact got_extract hU h
  · rename_i args argTypes e
    obtain rfl : op = _ := e
    exact got_len hT h
  · rename_i args argTypes e
    obtain rfl : op = _ := e
    exact got_cap hT h
  · cases h
end Go.Rai
