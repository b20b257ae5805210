/- A part of the proof of ScriptLines: general lemmas, with no condition of their own. -/
import Derived.Test.YtdmbeajlccebgaaGreatDoorRaiH
import Derived.Shelf.Strings.OnBuilder
import Derived.Shelf.Strconv.Itoa3
import Derived.Shelf.Strconv.ErrVarParseInt
import Derived.Shelf.Small.Strs
import Derived.Lib.AppendIntMem
import Derived.Lib.AtoiErrMem
import Derived.Carry
import Derived.SizedLaws
import Derived.WideShapes
import Derived.ChangeShapes
import Derived.ChangeSame
import Derived.ShutString
/- Functions of Go's library, by the shelf's contracts, as signatures. -/
set_option linter.unusedVariables false
set_option linter.unusedSimpArgs false
namespace Go.Rai
open Go.RowKit Go.Shelf Go.Proofs
variable {P : Program} {ρ : Ren}

/-- the library's variables, as start-up lays them -/
def Laid (P : Program) (w : World) : Prop := Lib.TabIs P w "internal/strconv.uint64pow10" .u64 Lib.pow10Tab ∧ (∃ tp p, w.var? P "strconv.ErrSyntax" = some #[.iface tp p]) ∧ ∃ tp p, w.var? P "strconv.ErrRange" = some #[.iface tp p]
theorem var_below {w w' : World} {n : String} {x : Array Value} (h : w.var? P n = some x) (hb : Below w.heap.size w w') : w'.var? P n = some x := by
  unfold World.var? at h ⊢
  cases hg : P.globalNamed n with
  | none => rw [hg] at h; cases h
  | some g =>
    rw [hg] at h
    simp only [Option.bind_some] at h ⊢
    have hlt : g < w.heap.size := by
      rcases Nat.lt_or_ge g w.heap.size with hlt | hge
      · exact hlt
      · have : w.heap[g]? = none := Array.getElem?_eq_none hge
        rw [this] at h; cases h
    rw [hb.block g hlt]
    exact h
theorem Laid.below {w w' : World} (h : Laid P w) (hb : Below w.heap.size w w') : Laid P w' := by
  obtain ⟨h1, ⟨a, b, h2⟩, c, d, h3⟩ := h
  exact ⟨var_below h1 hb, ⟨a, b, var_below h2 hb⟩, c, d, var_below h3 hb⟩

/-- the function is there -/
def There (P : Program) (f : Nat) : Prop := ∃ fn, P.funcs[f]? = some fn ∧ fn.name ≠ "runtime.NumGoroutine" ∧ fn.body.isNone = false
theorem bytes_mk (l : List UInt8) : (⟨l.toArray⟩ : ByteArray) = ⟨⟨l⟩⟩ := rfl
/-- one result, told at once -/
theorem Back.val {w w' : World} {ok : Nat → Prop} {η : Nat → Value} {s : Sh} {d : s.D} {v : Value} (hb : Below w.heap.size w w') (hv : ∀ ok', V w' ok' η s d v) : Back w ok η [.val s] (d, ()) (.returned v) w' :=
  ⟨[v], [], rfl, hb, List.nodup_nil, hv _, rfl⟩

noncomputable def sig_Itoa : Sig := ⟨[.int .i64], [.val .str], fun d => bif decide (-9223372036854775808 ≤ d.1 ∧ d.1 ≤ 9223372036854775807) then some (Lib.itoa d.1, ()) else none⟩
theorem ok_Itoa (L : LaysM.n171 P ρ) (ht : There P (ρ.f 171)) : SigOK P (Laid P) (ρ.f 171) sig_Itoa := by
  refine ⟨fun t h => ?_, fun t h => ?_, ht, ?_⟩
  · simp [sig_Itoa] at h; subst h; trivial
  · simp [sig_Itoa] at h; subst h; exact ⟨trivial, rfl⟩
  intro d r hr w ok η args hL ha
  obtain ⟨h, hr⟩ := guard_some hr
  cases hr
  obtain ⟨vs⟩ := args
  match vs, ha with
  | [v], ha =>
    have := V_int (x := ⟨.int .i64, d.1⟩) ha.1 rfl
    subst this
    refine (Any.strconv_Itoa L d.1 h.1 h.2 w hL.1).mono fun e w' ⟨he, k, os, hw⟩ => ?_
    subst he hw
    exact Back.val (Lib.below_grow _ _ (Nat.le_refl _) _ _) fun _ => rfl

noncomputable def sig_IndexByte : Sig := ⟨[.str, .int .u8], [.val (.int .i64)], fun d => some (Lib.indexByte d.1 d.2.1.toNat.toUInt8, ())⟩
theorem ok_IndexByte (L : Lays.n137 P ρ) (ht : There P (ρ.f 137)) {S : World → Prop} : SigOK P S (ρ.f 137) sig_IndexByte := by
  refine ⟨fun t h => ?_, fun t h => ?_, ht, ?_⟩
  · simp [sig_IndexByte] at h; rcases h with rfl | rfl <;> trivial
  · simp [sig_IndexByte] at h; subst h; exact ⟨trivial, rfl⟩
  intro d r hr w ok η args hL ha
  cases hr
  obtain ⟨vs⟩ := args
  match vs, ha with
  | [v, u], ha =>
    have h1 := V_str (x := ⟨.str, d.1⟩) ha.1 rfl
    have h2 := V_int (x := ⟨.int .u8, d.2.1⟩) ha.2.1 rfl
    subst h1 h2
    refine (Any.strings_IndexByte L ⟨⟨d.1⟩⟩ d.2.1 w).mono fun e w' ⟨he, hw⟩ => ?_
    subst he hw
    exact Back.val (Below.refl _ _) fun _ => rfl

noncomputable def sig_Join : Sig := ⟨[.slice .str, .str], [.val .str], fun d => bif decide (d.1.length ≤ LIM ∧ (Lib.join d.1 d.2.1).length ≤ 140737488355328) then some (Lib.join d.1 d.2.1, ()) else none⟩
theorem ok_Join (L : Lays.n156 P ρ) (X : Builder.Extra P ρ) (ht : There P (ρ.f 156)) {S : World → Prop} : SigOK P S (ρ.f 156) sig_Join := by
  refine ⟨fun t h => ?_, fun t h => ?_, ht, ?_⟩
  · simp [sig_Join] at h; rcases h with rfl | rfl <;> trivial
  · simp [sig_Join] at h; subst h; exact ⟨trivial, rfl⟩
  intro d r hr w ok η args hL ha
  obtain ⟨h, hr⟩ := guard_some hr
  cases hr
  obtain ⟨xs, sep, d⟩ := d
  have hLIM : xs.length ≤ LIM := h.1
  obtain ⟨vs⟩ := args
  match vs, ha with
  | [v, u], ha =>
    obtain ⟨A, cap, hv, hc, hx⟩ := V_slice (x := ⟨.slice .str, xs⟩) ha.1 rfl
    have h2 := V_str (x := ⟨.str, sep⟩) ha.2.1 rfl
    subst hv h2
    cases xs with
    | nil =>
      refine (Any.strings_Join_none L X A cap ⟨⟨sep⟩⟩ w).mono fun e w' ⟨he, hw⟩ => ?_
      subst he hw
      exact Back.val (Below.refl _ _) fun _ => rfl
    | cons x0 xs =>
      rcases hx with hx | ⟨ad, m, rfl, hm, hl, hx⟩
      · simp at hx
      · have hcell : ∀ j (hj : j < (x0 :: xs).length), w.cell? (ad.add j) = some (.string ⟨⟨(x0 :: xs)[j]⟩⟩) := by
          intro j hj
          have h1 : seg m (j * 1) 1 = [.string ⟨⟨(x0 :: xs)[j]⟩⟩] := hx j hj
          have h3 : m[j]? = some (.string ⟨⟨(x0 :: xs)[j]⟩⟩) := by
            have := (seg_at (m := m) (i := j * 1) (n := 1) (j := 0) (by rw [h1]; rfl)).1
            simpa using this
          exact (hm j _ h3).2
        have h0 := hcell 0 (by simp)
        obtain ⟨bk, o, spot⟩ := ad
        have hadd0 : (⟨bk, o, spot⟩ : Addr).add 0 = ⟨bk, o, spot⟩ := by simp [Addr.add]
        rw [hadd0] at h0
        obtain rfl : spot = none := by
          cases spot with
          | none => rfl
          | some q =>
            exfalso
            unfold World.cell? at h0
            split at h0
            · simp at h0
            · cases h0
        have hbk : bk < w.heap.size := World.block_lt_of_cell? w _ h0
        have hmap : ((x0 :: xs).map fun l => (⟨⟨l⟩⟩ : ByteArray)).map (·.data.toList) = x0 :: xs := by simp [Function.comp_def]
        have hlen : ((x0 :: xs).map fun l => (⟨⟨l⟩⟩ : ByteArray)).length = (x0 :: xs).length := by simp
        have hc' := Any.strings_Join L X bk o cap ((x0 :: xs).map fun l => (⟨⟨l⟩⟩ : ByteArray)) ⟨⟨sep⟩⟩ w (fun j x hj => by
            rw [List.getElem?_map] at hj
            cases hq : (x0 :: xs)[j]? with
            | none => rw [hq] at hj; cases hj
            | some y =>
              rw [hq] at hj
              simp only [Option.map_some, Option.some.injEq] at hj
              subst hj
              obtain ⟨hlt, hy⟩ := List.getElem?_eq_some_iff.1 hq
              have := hcell j hlt
              rw [add_mid, hy] at this
              exact this) hbk (by rw [hlen]; have h9 := hLIM; unfold LIM at h9; exact Nat.le_trans h9 (by decide)) (by rw [hlen]; exact hc.1) (by rw [hmap]; exact h.2)
        rw [hmap, hlen] at hc'
        refine hc'.mono fun e w' ⟨he, hw⟩ => ?_
        subst he
        exact Back.val hw fun _ => rfl

/-- the number, and whether there is an error -/
def parsed (l : List UInt8) : Int × Bool := match Lib.parseIntB 64 l with
  | .ok v => (v, false)
  | .range => (Lib.intSat 64 l, true)
  | _ => (0, true)
noncomputable def sig_ParseInt : Sig := ⟨[.str, .int .i64, .int .i64], [.val (.int .i64), .val .itf], fun d => bif d.2.1 == 10 && d.2.2.1 == 64 && decide (d.1.length ≤ LIM) then some ((parsed d.1).1, (parsed d.1).2, ()) else none⟩
theorem ok_ParseInt (L : LaysC.n174 P ρ) (ht : There P (ρ.f 174)) : SigOK P (Laid P) (ρ.f 174) sig_ParseInt := by
  refine ⟨fun t h => ?_, fun t h => ?_, ht, ?_⟩
  · simp [sig_ParseInt] at h; rcases h with rfl | rfl <;> trivial
  · simp [sig_ParseInt] at h; rcases h with rfl | rfl <;> exact ⟨trivial, rfl⟩
  intro d r hr w ok η args hL ha
  obtain ⟨l, b, z, d⟩ := d
  have hg : (b == 10 && z == 64 && decide (l.length ≤ LIM)) = true := by
    cases hq : (b == 10 && z == 64 && decide (l.length ≤ LIM)) with
    | true => rfl
    | false => simp only [sig_ParseInt, hq, cond_false] at hr; cases hr
  simp only [sig_ParseInt, hg, cond_true] at hr
  have hr := Option.some.inj hr
  subst hr
  simp only [Bool.and_eq_true, beq_iff_eq, decide_eq_true_eq] at hg
  obtain ⟨⟨rfl, rfl⟩, hlen⟩ := hg
  unfold LIM at hlen
  obtain ⟨vs⟩ := args
  match vs, ha with
  | [v, u, t], ha =>
    have h1 := V_str (x := ⟨.str, l⟩) ha.1 rfl
    have h2 := V_int (x := ⟨.int .i64, 10⟩) ha.2.1 rfl
    have h3 := V_int (x := ⟨.int .i64, 64⟩) ha.2.2.1 rfl
    subst h1 h2 h3
    have hsz : (⟨⟨l⟩⟩ : ByteArray).size = l.length := rfl
    obtain ⟨hL1, ⟨t1, p1, hs⟩, t2, p2, hr⟩ := hL
    have two : ∀ {n : Int} {b : Bool} {v : Value} {w' : World}, Below w.heap.size w w' → ((b = false ∧ v = .nilIface) ∨ (b = true ∧ ∃ t u, v = .iface t u)) →
        Back w ok η [.val (.int .i64), .val .itf] (n, b, ()) (.returned (.tuple #[.int .i64 n, v])) w' := by
      intro n b v w' hb hv
      refine ⟨[.int .i64 n, v], [], rfl, hb, List.nodup_nil, rfl, ?_, rfl⟩
      show C w' (fun b => (b < w.heap.size ∧ ok b) ∨ (w.heap.size ≤ b ∧ b ∉ [])) η .itf b [v]
      simpa [C] using hv
    cases hp : Lib.parseIntB 64 l
    · rename_i v
      have hpd : parsed l = (v, false) := by unfold parsed; rw [hp]
      rw [hpd]
      refine (Any.strconv_ParseInt_10_at64_ok L ⟨⟨l⟩⟩ (by rw [hsz]; omega) v hp w).mono fun e w' ⟨he, hw⟩ => ?_
      subst he
      refine two ?_ (.inl ⟨rfl, rfl⟩)
      rcases hw with rfl | ⟨t, rfl⟩
      · exact Below.refl _ _
      · exact Lib.bytesWorld_below _ _ _
    · have hpd : parsed l = (0, true) := by unfold parsed; rw [hp]
      rw [hpd]
      refine (Any.strconv_ParseInt_10_at64_syntax_var L ⟨⟨l⟩⟩ (by rw [hsz]; omega) hp t1 p1 w hs).mono fun e w' ⟨N, he, _, _, hw⟩ => ?_
      subst he
      exact two hw (.inr ⟨rfl, _, _, rfl⟩)
    · have hpd : parsed l = (Lib.intSat 64 l, true) := by unfold parsed; rw [hp]
      rw [hpd]
      refine (Any.strconv_ParseInt_10_at64_range_var L ⟨⟨l⟩⟩ (by rw [hsz]; omega) hp t2 p2 w hr).mono fun e w' ⟨N, he, _, _, hw⟩ => ?_
      subst he
      exact two hw (.inr ⟨rfl, _, _, rfl⟩)
end Go.Rai
namespace Go.Rai
open Go.RowKit Go.Shelf Go.Proofs
noncomputable def sig_IndexByteI : Sig := sig_IndexByte
theorem ok_IndexByteI {P : Program} {ρ : Ren} (L : Lays.n217 P ρ) (ht : There P (ρ.f 217)) {S : World → Prop} : SigOK P S (ρ.f 217) sig_IndexByteI := by
  refine ⟨fun t h => ?_, fun t h => ?_, ht, ?_⟩
  · simp [sig_IndexByteI, sig_IndexByte] at h; rcases h with rfl | rfl <;> trivial
  · simp [sig_IndexByteI, sig_IndexByte] at h; subst h; exact ⟨trivial, rfl⟩
  intro d r hr w ok η args hL ha
  cases hr
  obtain ⟨vs⟩ := args
  match vs, ha with
  | [v, u], ha =>
    have h1 := V_str (x := ⟨.str, d.1⟩) ha.1 rfl
    have h2 := V_int (x := ⟨.int .u8, d.2.1⟩) ha.2.1 rfl
    subst h1 h2
    refine (Any.stringslite_IndexByte L ⟨⟨d.1⟩⟩ d.2.1 w).mono fun e w' ⟨he, hw⟩ => ?_
    subst he hw
    exact Back.val (Below.refl _ _) fun _ => rfl
end Go.Rai

/- From the readings of a call's arguments to forms: a law's row. -/
set_option linter.unusedVariables false
set_option linter.unusedSimpArgs false
namespace Go.Rai
open Go.RowKit
variable {P : Program}

/-- the first cells of a form -/
def splitS : Nat → Sh → Option (Sh × Sh)
  | 0, s => some (.unit, s)
  | m + 1, .pair a b => (splitS m b).map fun p => (.pair a p.1, p.2)
  | _, _ => none
def isAggB (P : Program) (t : Nat) : Bool := match P.underlying t with
  | some (.struct _) => true
  | some (.array _ _) => true
  | _ => false
def fieldsOk (P : Program) (ok : Nat → Sh → Bool) : List Field → Nat → Sh → Bool
  | [], _, .unit => true
  | f :: r, o, s => Nat.beq f.offset o && (match splitS (P.cellsOf f.type) s with
      | some (p, q) => (bif isAggB P f.type then ok f.type p else (match p with
          | .pair a .unit => a.single && ok f.type a
          | _ => false)) && fieldsOk P ok r (o + P.cellsOf f.type) q
      | none => false)
  | _, _, _ => false
/-- a type's data have a form -/
def shOk (P : Program) : Nat → Nat → Sh → Bool
  | 0, _, _ => false
  | n + 1, t, s => match P.underlying t, s with
    | some .bool, .bool => true
    | some (.int k), .int k' => decide (k = k')
    | some .string, .str => true
    | some (.slice e), .slice a => Nat.beq (P.cellsOf e) a.cells && !(Nat.beq a.cells 0) && (isAggB P e == !a.single) && shOk P n e a
    | some (.struct fs), s => Nat.beq s.cells (P.cellsOf t) && fieldsOk P (shOk P n) fs.toList 0 s
    | _, _ => false

/-- numbers are of their kinds, and no text or slice is longer than may be -/
def GoodD : (s : Sh) → s.D → Prop
  | .int k, n => (Lit.int k n).wf = true
  | .str, l => l.length ≤ maxLen
  | .pair a b, d => GoodD a d.1 ∧ GoodD b d.2
  | .slice a, xs => xs.length ≤ maxLen ∧ ∀ x ∈ xs, GoodD a x
  | _, _ => True
def GoodAll : (l : List Sh) → ShD l → Prop
  | [], _ => True
  | s :: r, d => GoodD s d.1 ∧ GoodAll r d.2

section
variable {w : World} {ok : Nat → Prop} {η : Nat → Value}
theorem split_C : ∀ {m : Nat} {s p q : Sh} {x : p.D} {y : q.D} {cs ds : List Value}, splitS m s = some (p, q) → C w ok η p x cs → C w ok η q y ds → GoodD p x → GoodD q y → ∃ d : s.D, C w ok η s d (cs ++ ds) ∧ GoodD s d
  | 0, s, p, q, x, y, cs, ds, h, hp, hq, gp, gq => by
    simp only [splitS, Option.some.injEq, Prod.mk.injEq] at h
    obtain ⟨rfl, rfl⟩ := h
    obtain rfl : cs = [] := hp
    exact ⟨y, hq, gq⟩
  | m + 1, s, p, q, x, y, cs, ds, h, hp, hq, gp, gq => by
    cases s <;> simp only [splitS, reduceCtorEq] at h
    rename_i a b
    cases hs : splitS m b with
    | none => rw [hs] at h; cases h
    | some pq =>
      rw [hs] at h
      simp only [Option.map_some, Option.some.injEq, Prod.mk.injEq] at h
      obtain ⟨rfl, rfl⟩ := h
      obtain ⟨p', q'⟩ := pq
      obtain ⟨h1, v, r, rfl, h2, h3⟩ := hp
      obtain ⟨d, hd, gd⟩ := split_C (s := b) (x := x.2) (y := y) hs h3 hq gp.2 gq
      exact ⟨(x.1, d), ⟨h1, v, r ++ ds, rfl, h2, hd⟩, gp.1, gd⟩
theorem split_cells : ∀ {m : Nat} {s p q : Sh}, splitS m s = some (p, q) → p.cells = m ∧ s.cells = m + q.cells
  | 0, s, p, q, h => by
    simp only [splitS, Option.some.injEq, Prod.mk.injEq] at h
    obtain ⟨rfl, rfl⟩ := h
    exact ⟨rfl, by omega⟩
  | m + 1, s, p, q, h => by
    cases s <;> simp only [splitS, reduceCtorEq] at h
    rename_i a b
    cases hs : splitS m b with
    | none => rw [hs] at h; cases h
    | some pq =>
      rw [hs] at h
      simp only [Option.map_some, Option.some.injEq, Prod.mk.injEq] at h
      obtain ⟨rfl, rfl⟩ := h
      have := split_cells (p := pq.1) (q := pq.2) hs
      simp only [Sh.cells]
      omega
end

theorem mapM_some {α β : Type} {f : α → Option β} : ∀ {l : List α} {r : List β}, l.mapM f = some r → r.length = l.length ∧ ∀ (i : Nat) (a : α), l[i]? = some a → ∃ b, r[i]? = some b ∧ f a = some b
  | [], r, h => by
    simp only [List.mapM_nil, Option.pure_def, Option.some.injEq] at h
    subst h
    exact ⟨rfl, fun i a ha => by simp at ha⟩
  | x :: l, r, h => by
    simp only [List.mapM_cons, Option.bind_eq_bind, Option.bind_eq_some_iff, Option.pure_def, Option.some.injEq] at h
    obtain ⟨b, hb, r', hr', rfl⟩ := h
    obtain ⟨h1, h2⟩ := mapM_some hr'
    refine ⟨by simp [h1], fun i a ha => ?_⟩
    cases i with
    | zero => simp at ha; subst ha; exact ⟨b, by simp, hb⟩
    | succ i => simp at ha; obtain ⟨c, hc, hf⟩ := h2 i a ha; exact ⟨c, by simpa using hc, hf⟩
theorem cells_at {w : World} {base : Nat} {a : Addr} {n : Nat} {cs : List Value} (h : w.cells? base a n = some cs) : cs.length = n ∧ ∀ j, j < n → w.cell? (a.add j) = cs[j]? := by
  unfold World.cells? at h
  split at h
  · obtain ⟨h1, h2⟩ := mapM_some h
    refine ⟨by simpa using h1, fun j hj => ?_⟩
    obtain ⟨b, hb, hf⟩ := h2 j j (by simp [hj])
    rw [hb, hf]
  · cases h

section
variable {H : Type} {enc : TypeId × Value → H} {w : World} {η : Nat → Value}
theorem trod_bool {base : Nat} {sp : Nat → Bool} {fuel t : Nat} {cs : List Value} {r : DataW H × List MemPlace} (hu : P.underlying t = some .bool) (h : DataW.trod enc P w base sp true (fuel + 1) t cs = some r) : ∃ b, cs = [.bool b] := by
  simp only [DataW.trod, hu] at h
  split at h <;> first | exact ⟨_, rfl⟩ | (exfalso; simp_all; done)
theorem trod_int {base : Nat} {sp : Nat → Bool} {fuel t : Nat} {k : IntKind} {cs : List Value} {r : DataW H × List MemPlace} (hu : P.underlying t = some (.int k)) (h : DataW.trod enc P w base sp true (fuel + 1) t cs = some r) : ∃ n, cs = [.int k n] ∧ (Lit.int k n).wf = true := by
  simp only [DataW.trod, hu] at h
  split at h <;> first | (exfalso; simp_all; done) | skip
  split at h
  · rename_i k1 k2 n e hk
    obtain ⟨rfl, hw⟩ := hk
    simp only [Option.some.injEq, TypeDesc.int.injEq] at e
    subst e
    exact ⟨n, rfl, hw⟩
  · cases h
theorem trod_str {base : Nat} {sp : Nat → Bool} {fuel t : Nat} {cs : List Value} {r : DataW H × List MemPlace} (hu : P.underlying t = some .string) (h : DataW.trod enc P w base sp true (fuel + 1) t cs = some r) : ∃ l : List UInt8, cs = [.string ⟨⟨l⟩⟩] ∧ l.length ≤ maxLen := by
  simp only [DataW.trod, hu] at h
  split at h <;> first | (exfalso; simp_all; done) | skip
  split at h
  · rename_i s e hk
    exact ⟨s.data.toList, rfl, hk⟩
  · cases h
theorem trod_slice {base : Nat} {sp : Nat → Bool} {fuel t e : Nat} {cs : List Value} {r : DataW H × List MemPlace} (hu : P.underlying t = some (.slice e)) (h : DataW.trod enc P w base sp true (fuel + 1) t cs = some r) :
    cs = [.slice none 0 0] ∨ ∃ ad len cap elems, cs = [.slice (some ad) len cap] ∧ len ≤ cap ∧ cap ≤ maxLen ∧ (List.range len).mapM (fun i => (w.cells? base (ad.add (i * P.cellsOf e)) (P.cellsOf e)).bind (DataW.trod enc P w base sp true fuel e)) = some elems := by
  simp only [DataW.trod, hu] at h
  split at h <;> first | exact .inl rfl | (exfalso; simp_all; done) | skip
  rename_i e1 ad len cap e3
  split at h
  case isFalse => cases h
  rename_i hle
  simp only [Option.some.injEq, TypeDesc.slice.injEq] at e3
  subst e3
  obtain ⟨elems, hel, _⟩ := Option.bind_eq_some_iff.1 h
  exact .inr ⟨ad, len, cap, elems, rfl, hle.2.1, hle.2.2, hel⟩
theorem trod_struct {base : Nat} {sp : Nat → Bool} {fuel t : Nat} {fs : Array Field} {cs : List Value} {r : DataW H × List MemPlace} (hu : P.underlying t = some (.struct fs)) (h : DataW.trod enc P w base sp true (fuel + 1) t cs = some r) :
    cs.length = P.cellsOf t ∧ ∃ xs, fs.toList.mapM (fun f => DataW.trod enc P w base sp true fuel f.type ((cs.drop f.offset).take (P.cellsOf f.type))) = some xs := by
  simp only [DataW.trod, hu] at h
  split at h
  · rename_i hl
    cases hm : fs.toList.mapM (fun f => DataW.trod enc P w base sp true fuel f.type ((cs.drop f.offset).take (P.cellsOf f.type))) with
    | none => rw [hm] at h; cases h
    | some xs => exact ⟨hl, xs, rfl⟩
  · cases h
theorem read_C : ∀ (n fuel : Nat) {t : Nat} {s : Sh} {cs : List Value} {d : DataW H} {ps : List MemPlace}, shOk P n t s = true → DataW.trod enc P w 0 (fun _ => true) true fuel t cs = some (d, ps) → ∃ x : s.D, C w (fun _ => True) η s x cs ∧ GoodD s x
  | 0, _, _, _, _, _, _, h, _ => by cases h
  | n + 1, 0, _, _, _, _, _, _, h => by simp [DataW.trod] at h
  | n + 1, fuel + 1, t, s, cs, d, ps, hs, h => by
    unfold shOk at hs
    split at hs
    · rename_i hu
      obtain ⟨b, rfl⟩ := trod_bool hu h
      exact ⟨b, rfl, trivial⟩
    · rename_i k k' hu
      obtain rfl := of_decide_eq_true hs
      obtain ⟨m, rfl, hw⟩ := trod_int hu h
      exact ⟨m, rfl, hw⟩
    · rename_i hu
      obtain ⟨l, rfl, hl⟩ := trod_str hu h
      exact ⟨l, rfl, hl⟩
    · rename_i e a hu
      simp only [Bool.and_eq_true, Bool.not_eq_true'] at hs
      obtain ⟨⟨⟨hc1, hc2⟩, _⟩, hs⟩ := hs
      have hc := Nat.eq_of_beq_eq_true hc1
      have hc0 : a.cells ≠ 0 := fun h0 => by rw [h0] at hc2; cases hc2
      rcases trod_slice hu h with rfl | ⟨ad, len, cap, elems, rfl, hle1, hle2, hel⟩
      · exact ⟨[], ⟨none, 0, rfl, ⟨Nat.le_refl _, fun _ => rfl⟩, .inl rfl⟩, Nat.zero_le _, fun x hx => by simp at hx⟩
      · have hle : True ∧ len ≤ cap ∧ cap ≤ maxLen := ⟨trivial, hle1, hle2⟩
        obtain ⟨hl, hat⟩ := mapM_some hel
        have each : ∀ i, i < len → ∃ (ci : List Value) (x : a.D), w.cells? 0 (ad.add (i * a.cells)) a.cells = some ci ∧ C w (fun _ => True) η a x ci ∧ GoodD a x := by
          intro i hi
          obtain ⟨y, hy, hf⟩ := hat i i (by simp [hi])
          rw [hc] at hf
          obtain ⟨ci, hci, hf⟩ := Option.bind_eq_some_iff.1 hf
          obtain ⟨x, hx, gx⟩ := read_C n fuel (d := y.1) (ps := y.2) hs hf
          exact ⟨ci, x, hci, hx, gx⟩
        have build : ∃ xs : List a.D, xs.length = len ∧ ∀ i (h : i < xs.length), ∃ ci, w.cells? 0 (ad.add (i * a.cells)) a.cells = some ci ∧ C w (fun _ => True) η a xs[i] ci ∧ GoodD a xs[i] := by
          have : ∀ k, k ≤ len → ∃ xs : List a.D, xs.length = k ∧ ∀ i (h : i < xs.length), ∃ ci, w.cells? 0 (ad.add (i * a.cells)) a.cells = some ci ∧ C w (fun _ => True) η a xs[i] ci ∧ GoodD a xs[i] := by
            intro k
            induction k with
            | zero => intro _; exact ⟨[], rfl, fun i h => by simp at h⟩
            | succ k ih =>
              intro hk
              obtain ⟨xs, h1, h2⟩ := ih (by omega)
              obtain ⟨ci, x, h3, h4, h5⟩ := each k (by omega)
              refine ⟨xs ++ [x], by simp [h1], fun i hi => ?_⟩
              by_cases hik : i < xs.length
              · rw [List.getElem_append_left hik]; exact h2 i hik
              · have : i = k := by simp at hi; omega
                subst this
                rw [List.getElem_append_right (by omega)]
                simp only [h1, Nat.sub_self, List.getElem_cons_zero]
                exact ⟨ci, h3, h4, h5⟩
          exact this len (Nat.le_refl _)
        obtain ⟨xs, hxl, hxs⟩ := build
        subst hxl
        have hcell : ∀ j, j < xs.length * a.cells → ∃ v, w.cell? (ad.add j) = some v := by
          intro j hj
          have hi : j / a.cells < xs.length := Nat.div_lt_of_lt_mul (by rw [Nat.mul_comm]; exact hj)
          obtain ⟨ci, h1, _⟩ := hxs _ hi
          obtain ⟨h2, h3⟩ := cells_at h1
          have hm : j % a.cells < a.cells := Nat.mod_lt _ (by omega)
          have := h3 _ hm
          rw [Addr.add_add, show j / a.cells * a.cells + j % a.cells = j by rw [Nat.mul_comm]; exact Nat.div_add_mod j a.cells] at this
          rw [this]
          exact ⟨ci[j % a.cells]'(by omega), List.getElem?_eq_getElem _⟩
        refine ⟨xs, ⟨some ad, cap, rfl, ⟨hle.2.1, fun h => by cases h⟩, .inr ⟨ad, (List.range (xs.length * a.cells)).map fun j => (w.cell? (ad.add j)).getD undef, rfl, fun j v hv => ⟨trivial, ?_⟩, by simp, fun i hi => ?_⟩⟩, Nat.le_trans hle.2.1 hle.2.2, fun x hx => ?_⟩
        · rw [List.getElem?_map] at hv
          cases hj : (List.range (xs.length * a.cells))[j]? with
          | none => rw [hj] at hv; cases hv
          | some j' =>
            rw [hj] at hv
            simp only [Option.map_some, Option.some.injEq] at hv
            obtain ⟨hlt, e⟩ := List.getElem?_eq_some_iff.1 hj
            simp at e hlt
            subst e
            obtain ⟨u, hu'⟩ := hcell j hlt
            rw [hu'] at hv ⊢
            simpa using hv
        · obtain ⟨ci, h1, h2, _⟩ := hxs i hi
          obtain ⟨h3, h4⟩ := cells_at h1
          have hm : (i + 1) * a.cells ≤ xs.length * a.cells := Nat.mul_le_mul_right _ hi
          have e : (i + 1) * a.cells = i * a.cells + a.cells := Nat.succ_mul _ _
          have : seg ((List.range (xs.length * a.cells)).map fun j => (w.cell? (ad.add j)).getD undef) (i * a.cells) a.cells = ci := by
            apply List.ext_getElem?
            intro q
            rw [seg_get]
            by_cases hq : q < a.cells
            · rw [if_pos hq, List.getElem?_map, List.getElem?_range (by omega)]
              have := h4 q hq
              rw [Addr.add_add] at this
              simp only [Option.map_some, this]
              rw [List.getElem?_eq_getElem (by omega)]
              rfl
            · rw [if_neg hq]
              symm
              exact List.getElem?_eq_none (by omega)
          rw [this]
          exact h2
        · obtain ⟨i, hi, rfl⟩ := List.getElem_of_mem hx
          obtain ⟨_, _, _, g⟩ := hxs i hi
          exact g
    · rename_i fs hu
      simp only [Bool.and_eq_true] at hs
      obtain ⟨hsz, hs⟩ := hs
      have hsz := Nat.eq_of_beq_eq_true hsz
      obtain ⟨hlen, xs, hm⟩ := trod_struct hu h
      · have main : ∀ {l : List Field} {xs : List (DataW H × List MemPlace)} {o : Nat} {s : Sh}, l.mapM (fun f => DataW.trod enc P w 0 (fun _ => true) true fuel f.type ((cs.drop f.offset).take (P.cellsOf f.type))) = some xs → fieldsOk P (shOk P n) l o s = true → o + s.cells = cs.length →
            ∃ x : s.D, C w (fun _ => True) η s x (cs.drop o) ∧ GoodD s x := by
          intro l
          induction l with
          | nil =>
            intro xs o s _ hf hl
            cases s <;> simp only [fieldsOk, Bool.false_eq_true] at hf
            refine ⟨(), ?_, trivial⟩
            show cs.drop o = []
            exact List.drop_eq_nil_of_le (by simp only [Sh.cells] at hl; omega)
          | cons f l ih =>
            intro xs o s hm hf hl
            simp only [List.mapM_cons, Option.bind_eq_bind, Option.bind_eq_some_iff, Option.pure_def, Option.some.injEq] at hm
            obtain ⟨y, hy, r', hr', rfl⟩ := hm
            simp only [fieldsOk, Bool.and_eq_true] at hf
            obtain ⟨hoff, hf⟩ := hf
            have hoff := Nat.eq_of_beq_eq_true hoff
            split at hf
            case h_2 => cases hf
            rename_i p q hsp
            simp only [Bool.and_eq_true] at hf
            obtain ⟨hf1, hf2⟩ := hf
            obtain ⟨hpc, hsc⟩ := split_cells hsp
            obtain ⟨y2, hc2, g2⟩ := ih hr' hf2 (by omega)
            rw [hoff] at hy
            have first : ∃ x1 : p.D, C w (fun _ => True) η p x1 ((cs.drop o).take (P.cellsOf f.type)) ∧ GoodD p x1 := by
              cases hag : isAggB P f.type with
              | true =>
                rw [hag, cond_true] at hf1
                exact read_C n fuel (d := y.1) (ps := y.2) hf1 hy
              | false =>
                rw [hag, cond_false] at hf1
                split at hf1
                · rename_i a
                  simp only [Bool.and_eq_true] at hf1
                  obtain ⟨x1, hx1, g1⟩ := read_C n fuel (d := y.1) (ps := y.2) hf1.2 hy
                  have h1 : ((cs.drop o).take (P.cellsOf f.type)).length = 1 := by
                    simp only [List.length_take, List.length_drop]
                    simp only [Sh.cells] at hpc
                    omega
                  generalize hcs : (cs.drop o).take (P.cellsOf f.type) = cs1 at hx1 h1
                  match cs1, h1 with
                  | [v], _ => exact ⟨(x1, ()), ⟨hf1.1, v, [], rfl, hx1, rfl⟩, g1, trivial⟩
                · cases hf1
            obtain ⟨x1, hx1, g1⟩ := first
            obtain ⟨dd, hd1, hd2⟩ := split_C hsp hx1 hc2 g1 g2
            refine ⟨dd, ?_, hd2⟩
            have : (cs.drop o).take (P.cellsOf f.type) ++ cs.drop (o + P.cellsOf f.type) = cs.drop o := by
              rw [← List.drop_drop]
              exact List.take_append_drop _ _
            rw [this] at hd1
            exact hd1
        have := main hm hs (by omega)
        simpa using this
    · cases hs

theorem fieldsOk_form {ok : Nat → Sh → Bool} : ∀ {r : List Field} {o : Nat} {s : Sh}, fieldsOk P ok r o s = true → s = .unit ∨ ∃ a b, s = .pair a b
  | [], o, s, h => by cases s <;> first | exact .inl rfl | simp [fieldsOk] at h
  | f :: r, o, s, h => by
    simp only [fieldsOk, Bool.and_eq_true] at h
    have h2 := h.2
    cases hc : P.cellsOf f.type with
    | zero =>
      rw [hc] at h2
      simp only [splitS, Bool.and_eq_true] at h2
      exact fieldsOk_form h2.2
    | succ m =>
      rw [hc] at h2
      cases s <;> first | exact .inr ⟨_, _, rfl⟩ | (simp [splitS] at h2; done)
theorem arg_V {n t base : Nat} {s : Sh} {v : Value} {d : DataW H} {ps : List MemPlace} (hok : Value.okWide P w .any base t v) (hs : shOk P n t s = true) (h : DataW.Trod enc P w 0 (fun _ => true) true t v d ps) :
    ∃ x : s.D, V w (fun _ => True) η s x v ∧ GoodD s x := by
  obtain ⟨fuel, hf⟩ := h
  obtain ⟨x, hx, g⟩ := read_C (η := η) n fuel hs hf
  refine ⟨x, ?_, g⟩
  cases n with
  | zero => cases hs
  | succ n =>
    unfold shOk at hs
    split at hs
    · rename_i hu
      obtain ⟨b, rfl⟩ := WideShapes.okWide_bool hu hok
      exact hx
    · rename_i k k' hu
      obtain ⟨b, rfl⟩ := WideShapes.okWide_int hu hok
      exact hx
    · rename_i hu
      obtain ⟨b, rfl⟩ := WideShapes.okWide_string hu hok
      exact hx
    · rename_i e a hu
      obtain ⟨_, _, _, rfl⟩ := WideShapes.okWide_slice hu hok
      exact hx
    · rename_i fs hu
      simp only [Value.okWide, hu] at hok
      obtain ⟨cs, rfl, _⟩ := hok
      simp only [Bool.and_eq_true] at hs
      have hs := hs.2
      rcases fieldsOk_form hs with rfl | ⟨a, b, rfl⟩
      · have hx : cs.toList = [] := hx
        show Value.agg cs = .agg #[]
        congr 1
        exact Array.toList_eq_nil_iff.1 hx
      · exact ⟨cs, rfl, hx⟩
    · cases hs

def insOk (P : Program) : List Nat → List Sh → Bool
  | [], [] => true
  | t :: ts, s :: ss => shOk P 40 t s && insOk P ts ss
  | _, _ => false
theorem args_V : ∀ {ts : List Nat} {vs : List Value} {ds : List (DataW H)} {ps : List MemPlace} {ins : List Sh} {base : Nat}, insOk P ts ins = true → (∀ (j : Nat) t v, ts[j]? = some t → vs[j]? = some v → Value.okWide P w .any base t v) →
    DataW.TrodAll enc P w 0 (fun _ => true) true ts vs ds ps → ∃ d : ShD ins, ArgsRep w (fun _ => True) η ins d vs ∧ GoodAll ins d ∧ ds.length = ins.length
  | [], [], [], _, [], _, _, _, _ => ⟨(), trivial, trivial, rfl⟩
  | t :: ts, v :: vs, d :: ds, ps, s :: ins, base, hs, hok, ⟨p, q, h1, h2, _⟩ => by
    simp only [insOk, Bool.and_eq_true] at hs
    obtain ⟨x, hx, gx⟩ := arg_V (η := η) (hok 0 t v rfl rfl) hs.1 h1
    obtain ⟨y, hy, gy, hl⟩ := args_V hs.2 (fun j t v ht hv => hok (j + 1) t v ht hv) h2
    exact ⟨(x, y), ⟨hx, hy⟩, ⟨gx, gy⟩, by simp [hl]⟩
  | [], _ :: _, _, _, _, _, _, _, h => h.elim
  | _ :: _, [], _, _, _, _, _, _, h => h.elim
  | [], [], _ :: _, _, _, _, _, _, h => h.elim
  | _ :: _, _ :: _, [], _, _, _, _, _, h => h.elim
  | [], [], [], _, _ :: _, _, hs, _, _ => by cases hs
  | _ :: _, _ :: _, _ :: _, _, [], _, hs, _, _ => by cases hs

/-- the arguments read behind the call as they read ahead of it -/
theorem args_back {w' : World} (hl : laidOutB P = true) (hb : Below w.heap.size w w') : ∀ {ts : List Nat} {vs : List Value} {ds : List (DataW H)} {ps : List MemPlace}, allB (fun t => P.readableRec t && Nat.blt t P.types.size) ts = true →
    DataW.TrodAll enc P w 0 (fun _ => true) true ts vs ds ps → DataW.TrodAll enc P w' 0 (fun b => decide (b < w.heap.size)) true ts vs ds ps
  | [], [], [], _, _, h => h
  | t :: ts, v :: vs, d :: ds, ps, hr, ⟨p, q, h1, h2, h3⟩ => by
    simp only [allB, Bool.and_eq_true] at hr
    obtain ⟨m, hm⟩ := h1
    exact ⟨p, q, Below.trod hl hr.1.1 (blt_lt hr.1.2) ⟨m, hm⟩ hb (DataW.trod_lt m _ _ _ hm), args_back hl hb hr.2 h2, h3⟩
  | [], _ :: _, _, _, _, h => h.elim
  | _ :: _, [], _, _, _, h => h.elim
  | [], [], _ :: _, _, _, h => h.elim
  | _ :: _, _ :: _, [], _, _, h => h.elim

/-- A LAW's CALL, out of its signature and of what its plain function comes to. -/
theorem law_calls {S : World → Prop} {f : Nat} {fn : Func} {ins : List Sh} {g : ShD ins → Option (RSD [.val .bool])} {sp : ChangeSpec} (ok : SigOK P S f ⟨ins, [.val .bool], g⟩) (hplain : ∀ d, GoodAll ins d → g d = some (true, ()))
    (hi : insOk P fn.params.toList ins = true) (hr : allB (fun t => P.readableRec t && Nat.blt t P.types.size) fn.params.toList = true) (hl : laidOutB P = true) {rt : Nat} (hrt : fn.resultTypes = #[rt]) (hbool : P.underlying rt = some .bool) (hvars : sp.vars = [])
    (hsp : ∀ ds : List (DataW H), ds.length = ins.length → (sp.fn H ds).results = [.lit (.bool true)] ∧ (sp.fn H ds).args = ds ∧ (sp.fn H ds).vars = [])
    {W : World} {base : Nat} {args : Array Value} {ds gs : List (DataW H)} {before : List MemPlace} (hS : S W)
    (hval : ∀ (j : Nat) t v, fn.params[j]? = some t → args[j]? = some v → Value.okWide P W .any base t v) (hW : DataW.Whole enc P fn.params.toList sp.vars false W args.toList ds gs before) :
    Calls P f args W fun e W' => ∃ v, e = .returned v ∧ sp.post enc P fn false true false false W args v W' := by
  have hW' := hW
  obtain ⟨p, q, hA, hV, rfl, hfz, hnd⟩ := hW
  rw [hvars] at hV
  obtain ⟨rfl, rfl⟩ := ChangeShapes.trodVars_none hV
  obtain ⟨d, hargs, hgood, hlen⟩ := args_V (η := fun _ => undef) hi (fun j t v ht hv => hval j t v (by simpa using ht) (by simpa using hv)) hA
  refine (ok.calls d (true, ()) (hplain d hgood) W (fun _ => True) (fun _ => undef) args hS hargs).mono fun e W' hb => ?_
  obtain ⟨vs, own, rfl, hbel, _, hres⟩ := hb
  obtain rfl : vs = [.bool true] := by
    match vs, hres with
    | [v], hres =>
      have : [v] = [Value.bool true] := hres.1
      simpa using this
    | [], hres => exact hres.elim
    | _ :: _ :: _, hres => exact hres.2.elim
  obtain ⟨s1, s2, s3⟩ := hsp ds hlen
  refine ⟨_, rfl, ds, [], _, [], p, [], hW', ?_, ?_, ?_, hbel.frame _, fun h => by cases h⟩
  · rw [List.append_nil, s1, hrt]
    exact ChangeShapes.trodAll_mk1 (shut_bool hbool _)
  · rw [List.append_nil, s2]
    exact args_back hl hbel hr hA
  · rw [List.append_nil, s3, hvars]
    rfl
end
end Go.Rai
namespace Go.Rai
def isIfaceB (P : Program) (t : Nat) : Bool := match P.underlying t with
  | some (.interface _) => true
  | _ => false
/-- a listed variable of an interface's type holds a value -/
theorem laid_iface {P : Program} {n nm : String} {d : DataW Unit} {r : List (String × DataW Unit)} {W : World} {g ti : Nat} (h : laidMet P ((n, .iface nm d) :: r) W) (hg : P.globalNamed n = some g) (ht : (P.globals[g]?).map (·.type) = some ti)
    (hi : isIfaceB P ti = true) : ∃ tp p, W.var? P n = some #[.iface tp p] := by
  unfold isIfaceB at hi
  split at hi
  case h_2 => cases hi
  rename_i ms hi'
  have hi := hi'
  obtain ⟨ps, ⟨g', t', cs, fuel, p, q, hg', ht', hvar, hd, _, _⟩, _⟩ := h
  obtain rfl := Option.some.inj (hg.symm.trans hg')
  obtain rfl := Option.some.inj (ht.symm.trans ht')
  have : ∃ u v, cs.toList = [.iface u v] := by
    cases fuel with
    | zero => simp [DataW.trod] at hd
    | succ fuel =>
      generalize cs.toList = l at hd
      simp only [DataW.trod, hi] at hd
      split at hd <;> first | exact ⟨_, _, rfl⟩ | (exfalso; simp_all; done)
  obtain ⟨u, v, hc⟩ := this
  refine ⟨u, v, ?_⟩
  rw [hvar]
  congr 1
  exact Array.toList_inj.1 hc
end Go.Rai
