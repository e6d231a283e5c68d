import PyProof.Rows.All
import Wide.All
import OpenK.AllK
import Wide.FinOn
import PySem.Challenge.RW_ui0507_01
open PySem PySem.W PyProof.Rows
set_option Elab.async false
namespace Mine
section
variable {prog : Program} {w : World} {A : Around} {E : Value → Shared → Prop} {s : Shared}
/-- one byte, n times: the ints of what comes -/
theorem mul_byte {v n : Int} {t u : Tok} {Q : Value → Shared → Prop} (hv : ((v.toNat.toUInt8.toNat : Nat) : Int) = v) (h0 : 0 ≤ n) (h1 : n ≤ 1048576)
    (h : ∀ (b : Array UInt8) (t' : Tok) (k : Nat), KBw.bInts b = List.replicate n.toNat v → (List.replicate n.toNat v).length ≤ 1048576 → Q (.bytes b t') { s with toks := k }) :
    wpAny (model prog w) A (binaryOp .Mult (.bytes (List.toArray [v.toNat.toUInt8]) t) (.int n u)) Q E s := by
  refine bytes_mul_any (List.cons_ne_nil _ _) (by omega) h1 (by simp) fun t' k => h _ t' k ?_ (by rw [List.length_replicate]; omega)
  have e : (List.replicate n.toNat [v.toNat.toUInt8]).flatten = List.replicate n.toNat v.toNat.toUInt8 := by
    induction n.toNat with
    | zero => rfl
    | succ k ih => rw [List.replicate_succ, List.flatten_cons, ih]; rfl
  rw [e, KBw.ints_list, List.map_replicate, hv]
end
end Mine
local macro_rules | `(tactic| walk_at "binaryOp Mult bytes int") => `(tactic| (k_here; (with_reducible show wpAny _ _ (binaryOp Operator.Mult (Value.bytes (List.toArray [_]) _) (Value.int _ _)) _ _ _); k_dflt (refine' Mine.mul_byte ?a ?b ?c ?_; (case a => assumption); (case b => l_fact); (case c => l_fact); k_whole); intro b9 t9 k9 hb9 hl9))
set_option maxRecDepth 100000 in
set_option maxHeartbeats 8000000 in
theorem PySem.Challenge.cw_ui0507_01_holds : PySem.Challenge.rw_ui0507_01.Holds := by
  open_k
