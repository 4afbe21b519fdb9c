import PyProof.Rows.All
import Wide.All
import OpenK.AllK
import Wide.FinOn
import PySem.Challenge.RW_k15_0012
open PySem PySem.W PyProof.Rows
set_option Elab.async false
namespace Mine
theorem digits_cps : (Str.ofString "0123456789").cps.toList = [48, 49, 50, 51, 52, 53, 54, 55, 56, 57] := by decide +kernel
theorem digit_found {k : Int} (h0 : 0 ≤ k) : (!(Builtin.Str.occurrences (Str.ofString "0123456789") ⟨#[k.toNat]⟩ 0 (Str.ofString "0123456789").length 1).isEmpty) = decide (48 ≤ k ∧ k ≤ 57) := by
  rw [StrLaws.found_one, digits_cps, Bool.eq_iff_iff, decide_eq_true_eq, decide_eq_true_eq]
  simp only [List.mem_cons, List.not_mem_nil, or_false]
  omega
theorem in_digits {prog : Program} {w : World} {A : Around} {E : Value → Shared → Prop} {s : Shared} {k : Int} {u t : Tok} {Q : Value → Shared → Prop} (h0 : 0 ≤ k) (h : Q (.bool (decide (48 ≤ k ∧ k ≤ 57))) s) :
    wpAny (model prog w) A (compareOp .In (.str ⟨#[k.toNat]⟩ u) (.str (Str.ofString "0123456789") t)) Q E s :=
  PySem.P.in_str (by rw [digit_found h0]; exact h)
end Mine
open Mine
local macro_rules | `(tactic| walk_at "compareOp In str str") => `(tactic| (k_here; (with_reducible show wpAny _ _ (compareOp CmpOp.In (Value.str ⟨#[_]⟩ _) (Value.str _ _)) _ _ _); (try k_fmods); (try kmn_bounds); refine in_digits (by omega) ?_))
local macro_rules | `(tactic| walk_at "call builtin:chr") => `(tactic| (k_here; (with_reducible show wpAny _ _ (call (Value.builtin "chr") [Value.int _ _]) _ _ _); (try k_fmods); kmn_bounds; refine chr_of_range (by omega) (by omega) ?_))
set_option maxRecDepth 100000 in
set_option maxHeartbeats 8000000 in
theorem PySem.Challenge.cw_k15_0012_holds : PySem.Challenge.rw_k15_0012.Holds := by
  open_k
