import PyProof.Rows.All
import Wide.All
import OpenK.AllK
import Wide.FinOn
import PySem.Challenge.RW_ui0507_04
open PySem PySem.W PyProof.Rows PySem.Spec PySem.Calls
set_option Elab.async false
namespace Mine
section
variable {prog : Program} {w : World} {A : Around} {E : Value → Shared → Prop} {s : Shared} {env : Env}
theorem st_mod3 {x : Str} {a : Int} {t : Tok} {Q : Unit → Shared → Prop} (h0 : a.fmod 3 = 0 → wpAny (model prog w) A (storeName env x (.int 0 t)) Q E s) (h1 : a.fmod 3 = 1 → wpAny (model prog w) A (storeName env x (.int 1 t)) Q E s)
    (h2 : a.fmod 3 = 2 → wpAny (model prog w) A (storeName env x (.int 2 t)) Q E s) : wpAny (model prog w) A (storeName env x (.int (a.fmod 3) t)) Q E s := by
  have hl := fmod_lo a (n := 3) (by decide)
  have hh := fmod_hi a (n := 3) (by decide)
  obtain h | h | h : a.fmod 3 = 0 ∨ a.fmod 3 = 1 ∨ a.fmod 3 = 2 := by omega
  · rw [h]; exact h0 h
  · rw [h]; exact h1 h
  · rw [h]; exact h2 h
theorem st_eq {x : Str} {a b : Int} {t : Tok} {Q : Unit → Shared → Prop} (e : a = b) (h : wpAny (model prog w) A (storeName env x (.int b t)) Q E s) : wpAny (model prog w) A (storeName env x (.int a t)) Q E s := by rw [e]; exact h
theorem size0 (n h : Int) : n * 1024 ^ ((0 : Int) + 1).toNat + h * 512 * 1024 ^ (0 : Int).toNat = (2 * n + h) * 512 := by
  have e1 : ((0 : Int) + 1).toNat = 1 := by decide
  have e2 : (0 : Int).toNat = 0 := by decide
  rw [e1, e2]; omega
theorem size1 (n h : Int) : n * 1024 ^ ((1 : Int) + 1).toNat + h * 512 * 1024 ^ (1 : Int).toNat = (2 * n + h) * 524288 := by
  have e1 : ((1 : Int) + 1).toNat = 2 := by decide
  have e2 : (1 : Int).toNat = 1 := by decide
  rw [e1, e2]; omega
theorem size2 (n h : Int) : n * 1024 ^ ((2 : Int) + 1).toNat + h * 512 * 1024 ^ (2 : Int).toNat = (2 * n + h) * 536870912 := by
  have e1 : ((2 : Int) + 1).toNat = 3 := by decide
  have e2 : (2 : Int).toNat = 2 := by decide
  rw [e1, e2]; omega
theorem str_small {a : Int} {t : Tok} {Q : Value → Shared → Prop} (h0 : 0 ≤ a) (h1 : a < 1000) (h : Q (.str (toString a) s.toks) { s with toks := s.toks + 1 }) : wpAny (model prog w) A (call (.type "str") [.int a t]) Q E s := by
  refine PySem.P.str_of_int ?_ h
  have : a.natAbs < 2 ^ 10 := by omega
  by_cases h0 : a.natAbs = 0
  · rw [h0]; decide
  · have := (Nat.log2_lt h0).mpr this
    omega
end
end Mine
local macro_rules | `(tactic| walk_at "storeName") => `(tactic| (k_here; (with_reducible show wpAny _ _ (storeName _ (Str.ofString "power") (Value.int (Int.fmod _ 3) _)) _ _ _); k_dflt (refine' Mine.st_mod3 ?_ ?_ ?_) <;> intro hP9))
local macro_rules | `(tactic| walk_at "storeName") => `(tactic| (k_here; (with_reducible show wpAny _ _ (storeName _ (Str.ofString "size") (Value.int _ _)) _ _ _); k_dflt (first | refine Mine.st_eq (Mine.size0 _ _) ?_ | refine Mine.st_eq (Mine.size1 _ _) ?_ | refine Mine.st_eq (Mine.size2 _ _) ?_)))
local macro_rules | `(tactic| walk_at "exec While BoolOp cons nil") => `(tactic| (k_here; k_dflt (refine whl_start 5 ?_)))
local macro_rules | `(tactic| walk_at "call type:str") => `(tactic| (k_here; (with_reducible show wpAny _ _ (call (Value.type "str") [Value.int _ _]) _ _ _); k_dflt (refine' Mine.str_small ?a ?b ?_; (case a => l_fact); (case b => l_fact); k_whole)))
set_option maxRecDepth 100000 in
set_option maxHeartbeats 8000000 in
theorem PySem.Challenge.cw_ui0507_04_holds : PySem.Challenge.rw_ui0507_04.Holds := by
  open_k
