import PyProof.Rows.All
import Wide.All
import OpenK.AllK
import Wide.FinOn
import PySem.Challenge.RW_ui0507_02
open PySem PySem.W PyProof.Rows
set_option Elab.async false
namespace Mine
section
variable {prog : Program} {w : World} {A : Around} {E : Value → Shared → Prop} {s : Shared}
/-- one byte, n times: the ints of what comes -/
theorem mul_byte {v n : Int} {t u : Tok} {Q : Value → Shared → Prop} (hv : ((v.toNat.toUInt8.toNat : Nat) : Int) = v) (h0 : 0 ≤ n) (h1 : n ≤ 1048576)
    (h : ∀ (b : Array UInt8) (t' : Tok) (k : Nat), KBw.bInts b = List.replicate n.toNat v → (List.replicate n.toNat v).length ≤ 1048576 → Q (.bytes b t') { s with toks := k }) :
    wpAny (model prog w) A (binaryOp .Mult (.bytes (List.toArray [v.toNat.toUInt8]) t) (.int n u)) Q E s := by
  refine bytes_mul_any (List.cons_ne_nil _ _) (by omega) h1 (by simp) fun t' k => h _ t' k ?_ (by rw [List.length_replicate]; omega)
  have e : (List.replicate n.toNat [v.toNat.toUInt8]).flatten = List.replicate n.toNat v.toNat.toUInt8 := by
    induction n.toNat with
    | zero => rfl
    | succ k ih => rw [List.replicate_succ, List.flatten_cons, ih]; rfl
  rw [e, KBw.ints_list, List.map_replicate, hv]
end
/-- one turn of the sum -/
abbrev adlerF (p : Int × Int) (k : Int) : Int × Int := ((p.1 + k).fmod 65521, (p.2 + (p.1 + k).fmod 65521).fmod 65521)
theorem adler_in (l : List Int) : ∀ p : Int × Int, (0 ≤ p.1 ∧ p.1 < 65521 ∧ 0 ≤ p.2 ∧ p.2 < 65521) →
    0 ≤ (l.foldl adlerF p).1 ∧ (l.foldl adlerF p).1 < 65521 ∧ 0 ≤ (l.foldl adlerF p).2 ∧ (l.foldl adlerF p).2 < 65521 := by
  induction l with
  | nil => exact fun p h => h
  | cons k l ih => exact fun p _ => ih _ ⟨fmod_lo _ (by decide), fmod_hi _ (by decide), fmod_lo _ (by decide), fmod_hi _ (by decide)⟩
theorem adler_back {q : Int × Int} (h : 0 ≤ q.1 ∧ q.1 < 65521 ∧ 0 ≤ q.2 ∧ q.2 < 65521) : (Builtin.bitAnd (q.2 * 65536 + q.1) 65535, (q.2 * 65536 + q.1).fdiv (2 ^ Int.toNat 16)) = q := by
  have e : ((2 : Int) ^ Int.toNat 16) = 65536 := by decide
  rw [bitAnd_m16, e, Int.fdiv_eq_ediv_of_nonneg _ (by decide)]
  exact Prod.ext (by show (q.2 * 65536 + q.1) % 65536 = q.1; omega) (by show (q.2 * 65536 + q.1) / 65536 = q.2; omega)
theorem adler_start : (Builtin.bitAnd 1 65535, Int.fdiv 1 (2 ^ Int.toNat 16)) = ((1 : Int), (0 : Int)) := by decide +kernel
theorem adler_end (a b : List Int) (p : Int × Int) (hp : p = (Builtin.bitAnd 1 65535, Int.fdiv 1 (2 ^ Int.toNat 16))) :
    (((b.foldl adlerF (Builtin.bitAnd ((a.foldl adlerF p).2 * 65536 + (a.foldl adlerF p).1) 65535, ((a.foldl adlerF p).2 * 65536 + (a.foldl adlerF p).1).fdiv (2 ^ Int.toNat 16))).2 * 65536 +
      (b.foldl adlerF (Builtin.bitAnd ((a.foldl adlerF p).2 * 65536 + (a.foldl adlerF p).1) 65535, ((a.foldl adlerF p).2 * 65536 + (a.foldl adlerF p).1).fdiv (2 ^ Int.toNat 16))).1 ==
      ((a ++ b).foldl adlerF p).2 * 65536 + ((a ++ b).foldl adlerF p).1) == true) = true := by
  rw [adler_back (adler_in a p (by rw [hp, adler_start]; decide)), List.foldl_append]
  simp
end Mine
local macro_rules | `(tactic| walk_at "binaryOp Mult bytes int") => `(tactic| (k_here; (with_reducible show wpAny _ _ (binaryOp Operator.Mult (Value.bytes (List.toArray [_]) _) (Value.int _ _)) _ _ _); k_dflt (refine' Mine.mul_byte ?a ?b ?c ?_; (case a => assumption); (case b => l_fact); (case c => l_fact); k_whole); intro b9 t9 k9 hb9 hl9))
set_option maxRecDepth 100000 in
set_option maxHeartbeats 8000000 in
theorem PySem.Challenge.cw_ui0507_02_holds : PySem.Challenge.rw_ui0507_02.Holds := by
  (k_with "end" => exact Mine.adler_end _ _ _ rfl)
  open_k
