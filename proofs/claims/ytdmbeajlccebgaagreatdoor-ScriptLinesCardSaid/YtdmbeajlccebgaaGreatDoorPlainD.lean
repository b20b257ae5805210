/- A part of the proof of ScriptLines: general lemmas, with no condition of their own. -/
import Derived.Test.YtdmbeajlccebgaaGreatDoorPlainC
/- Plain laws: the law ScriptLines, of all that the row lets in. -/
set_option linter.unusedVariables false
set_option linter.unusedSimpArgs false
namespace Go.Rai
open Go
theorem wf_i64 {n : Int} (h : (Lit.int .i64 n).wf = true) : I64 n := by
  have : IntKind.i64.min ≤ n ∧ n ≤ IntKind.i64.max := by simpa [Lit.wf] using h
  exact this
abbrev shCmd : Sh := .pair (.int .i64) (.pair (.int .i64) (.pair (.int .i64) (.pair (.int .i64) (.pair (.int .i64) (.pair (.slice (.pair (.int .i64) (.pair (.int .i64) .unit))) (.pair (.int .i64) (.pair (.slice (.pair (.int .i64) (.pair (.int .i64) (.pair (.int .i64) .unit)))) (.pair (.int .i64) (.pair (.int .i64) (.pair (.int .i64) (.pair (.int .i64) (.pair (.slice (.int .i64)) .unit))))))))))))
theorem cmd_good {c : Cmd} (h : GoodD shCmd c) (hf : fewB c = true) : CmdR c := by
  simp only [fewB, Bool.and_eq_true, decide_eq_true_eq] at hf
  obtain ⟨⟨f1, f2⟩, f3⟩ := hf
  obtain ⟨k0, o1, o2, o3, o4, o5, k6, k7, k8, k9, k10, k11, k12, _⟩ := h
  refine ⟨⟨?_, Nat.le_trans f1 (by decide), fun p hp => ⟨wf_i64 (o5.2 p hp).1, wf_i64 (o5.2 p hp).2.1⟩⟩, wf_i64 k6, Nat.le_trans f2 (by decide), wf_i64 k8, ?_, Nat.le_trans f3 (by decide), fun n hn => wf_i64 (k12.2 n hn)⟩
  · intro n hn
    simp only [ordNums, List.mem_cons, List.not_mem_nil, or_false] at hn
    rcases hn with rfl | rfl | rfl | rfl
    · exact wf_i64 o1
    · exact wf_i64 o2
    · exact wf_i64 o3
    · exact wf_i64 o4
  · intro n hn
    simp only [cPlan, List.mem_cons, List.not_mem_nil, or_false] at hn
    rcases hn with rfl | rfl | rfl
    · exact wf_i64 k9
    · exact wf_i64 k10
    · exact wf_i64 k11
theorem pure_ScriptLines : ∀ d, GoodAll sig_haulierlaw42_ScriptLines.ins d → haulierlaw42_ScriptLines d = some (true, ()) := by
  intro d h
  exact lines_law (c := d.1) (s := d.2.1) (fun hf => cmd_good h.1 hf)
end Go.Rai
