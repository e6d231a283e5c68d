import PyProof.Rows.All
import Wide.All
import OpenK.AllK
import Wide.FinOn
import PySem.Challenge.RW_ui0507_23
open PySem PySem.W
set_option Elab.async false
set_option linter.all false
set_option compiler.extract_closed false
set_option genSizeOf false
set_option genInjectivity false

namespace Mine
section
set_option maxRecDepth 100000
abbrev vs (x : String) (t : Tok) : Value := .str (Str.ofString x) t
abbrev q (x : String) : Str := Str.ofString x
noncomputable def en (P : Params) (x : String) (t : Tok) (v : Value) : DictEntry := ⟨PyData.keyHash P (Str.ofString x), .str (Str.ofString x) t, v⟩
noncomputable def dA (o : Obj) (r : List DictEntry) (n : Nat) : Data := match o.data with | .dict es _ => .dict (es.toList ++ r).toArray n | d => d
noncomputable def dB (o : Obj) (c : List (Nat × DictEntry)) (r : List DictEntry) (n : Nat) : Data := match o.data with | .dict es _ => .dict ((c.foldl (fun l p => l.set p.1 p.2) es.toList) ++ r).toArray n | d => d
noncomputable def fA (o : Obj) (r : List Value) : Data := match o.data with | .fields vs => .fields (vs.toList ++ r).toArray | d => d
noncomputable def fo (st : Stmt) (qn : Str) (d kd doc pm : Value) (an : Option Addr) (cd ct : Value) (g b : Addr) : Data := match st with
  | .FunctionDef n a body _ _ _ sc _ _ _ => .func { name := n, qualname := qn, params := a, body := .stmts body, scope := sc, globals := g, closure := [], defaults := d, kwdefaults := kd, doc := doc, pyModule := pm, annotations := an, code := cd, closureTuple := ct, builtins := b }
  | _ => .plain
noncomputable def nul : Obj := ⟨.none, none, .fields #[], #[]⟩
noncomputable def tup0 : Obj := ⟨.type "tuple", none, .seq #[] 0, #[]⟩
noncomputable def vsL : List String → Nat → List Value
  | [], _ => []
  | x :: r, t => vs x t :: vsL r (t + 1)
noncomputable def fnB (a t n : Nat) (st : Stmt) (nm qn : String) (xs : List String) (l c : Int) (d md : Value) : List Obj := [tup0, nul, ⟨.type "tuple", none, .seq (vsL xs (t + 3)).toArray 0, #[]⟩, tup0, ⟨.none, none, fo st (q qn) .none .none .none .none none .none .none 0 0, #[]⟩,
  ⟨.type "code", none, .fields #[vs nm t, vs qn (t + 1), vs "/claim/cut.py" (t + 2), .int l 0, .int c 0, .int 0 0, .int 0 0, .int 3 0, .ref a, .bool true, .int 181 0, .ref (a + 1), .none, .ref (a + 2), .ref (a + 3), .ref (a + 4), .int (n : Nat) 0, .int l 0, vs "/claim/cut.py" (n + 1)], #[]⟩,
  ⟨.type "function", none, fo st (q qn) d .none .none md none (.ref (a + 5)) .none 3 0, #[]⟩]
noncomputable def S (k : Nat) : Stmt := PySem.Challenge.pw_ui0507_23.main.body[k]!
noncomputable def C (k j : Nat) : Stmt := match S k with | .ClassDef _ _ _ b _ _ _ _ _ _ _ => b[j]! | s => s
noncomputable def env : Env := { scope := PySem.Challenge.rw_ui0507_23.row.prog.main.scope, locals := mainNs, globals := mainNs, cells := [], code := .ref 13, frame := some 14 }
noncomputable def alt {α : Type} : Bool → List α → List α
  | _, [] => []
  | b, x :: r => match b with
    | true => x :: alt false r
    | false => alt true r
noncomputable def mkT : Nat → List Obj → BT
  | 0, _ => .nil
  | n + 1, l => match l with
    | [] => .nil
    | x :: r => .node x (mkT n (alt true r)) (mkT n (alt false r))
noncomputable def mkF (f : Nat → Obj) (len : Nat) : Nat → Nat → Nat → BT
  | 0, _, _ => .nil
  | n + 1, a, b => bif Nat.blt b len then .node (f b) (mkF f len n (2 * a) (a + b)) (mkF f len n (2 * a) (2 * a + b)) else .nil
noncomputable def insL : BT → Nat → List Obj → BT
  | T, _, [] => T
  | T, n, o :: r => insL (T.ins n o) (n + 1) r
noncomputable def setL : BT → List (Nat × Obj) → BT
  | T, [] => T
  | T, (i, o) :: r => setL (T.set i fun _ => o) r
noncomputable def shr (T : BT) (n tok : Nat) (os : OsState) : SharedT := { tree := T, n := n, life := { }, gens := { toList := [] }, drawn := { }, toks := tok, os := os }
noncomputable def ztq (P : Params) : Obj := ⟨(.type "tuple"), none, .seq #[] 0, #[]⟩
noncomputable def x12_0 (P : Params) : Obj := ⟨.none, none, .fields #[], #[]⟩
noncomputable def ztp (P : Params) : Obj := ⟨(.type "code"), none, .fields #[(vs "<module>" 182), (vs "<module>" 183), (vs "/claim/cut.py" 184), (.int 1 0), (.int 0 0), (.int 0 0), (.int 0 0), (.int 0 0), (.ref 11), (.bool false), (.int 181 0), (.ref 12), .none, .none, .none, .none, (.int 185 0), (.int 1 0), (vs "/claim/cut.py" 186)], #[]⟩
noncomputable def zto (P : Params) : Obj := ⟨(.type "frame"), none, .plain, #[some (.ref 13), some (.ref 3), some (.ref 3), none, some (vs "__main__" 164), none, some (.ref 0)]⟩
noncomputable def T0 (P : Params) : BT := (mkT 12 [boot_o_0 P, boot_o_1 P, boot_o_2 P, boot_o_3 P, boot_o_4 P, boot_o_5 P, boot_o_6 P, boot_o_7 P, boot_o_8 P, boot_o_9 P, boot_o_10 P, ztq P, x12_0 P, ztp P, zto P])
noncomputable def s0 (P : Params) (os : OsState) : SharedT := shr (T0 P) 15 187 os
noncomputable def goW (p : Program) (w : World) (n : Nat) (s : SharedT) (t : Thread) : Option (SharedT × Thread) := PySem.W.Fast.tw10295753902157049106 PySem.W.Fast.tw14364793385576792824 p w 11 (some (Value.ref 6)) 1 n s t
theorem goW_eq {p : Program} {w : World} {n : Nat} {s : SharedT} {t : Thread} : segGoT treeTable p w 11 (some (Value.ref 6)) 1 n s t = goW p w n s t := by
  unfold goW
  rw [← PySem.W.Fast.te10295753902157049106, ← PySem.W.Fast.te14364793385576792824]
noncomputable def runW (p : Program) (w : World) (n : Nat) (s : SharedT) (t : Thread) : Option (Flow × SharedT × Code × Pos) := PySem.W.Fast.tw10110043849684766642 PySem.W.Fast.tw14364793385576792824 p w 11 (some (Value.ref 6)) 1 n s t
theorem u2 {p : Program} {w : World} {n : Nat} {s : SharedT} {t : Thread} : segRunT treeTable p w 11 (some (Value.ref 6)) 1 n s t = runW p w n s t := by
  unfold runW
  rw [← PySem.W.Fast.te10110043849684766642, ← PySem.W.Fast.te14364793385576792824]
noncomputable def wF (w : World) : World := w.withFollow "special-get-raises" false
noncomputable def wT (w : World) : World := w.withFollow "special-get-raises" true
noncomputable def sts1 : List Stmt := (PySem.Challenge.pw_ui0507_23.main.body.drop 0).take 4
noncomputable def thr1 (b : List Stmt) : Thread := piecesOf sts1 env (Code.body b env) { line := 0, col := 0, endLine := 0, endCol := 0 } [topFrame { line := 0, col := 0, endLine := 0, endCol := 0 }]
noncomputable def sts2 : List Stmt := (PySem.Challenge.pw_ui0507_23.main.body.drop 4).take 3
noncomputable def thr2 (b : List Stmt) : Thread := piecesOf sts2 env (Code.body b env) { line := 12, col := 0, endLine := 13, endCol := 8 } [topFrame { line := 0, col := 0, endLine := 0, endCol := 0 }]
noncomputable def sts3 : List Stmt := (PySem.Challenge.pw_ui0507_23.main.body.drop 7).take 3
noncomputable def thr3 (b : List Stmt) : Thread := piecesOf sts3 env (Code.body b env) { line := 18, col := 0, endLine := 19, endCol := 8 } [topFrame { line := 0, col := 0, endLine := 0, endCol := 0 }]
noncomputable def sts4 : List Stmt := (PySem.Challenge.pw_ui0507_23.main.body.drop 10).take 1
noncomputable def thr4 (b : List Stmt) : Thread := piecesOf sts4 env (Code.body b env) { line := 27, col := 0, endLine := 72, endCol := 25 } [topFrame { line := 0, col := 0, endLine := 0, endCol := 0 }]
noncomputable def sts5 : List Stmt := (PySem.Challenge.pw_ui0507_23.main.body.drop 11).take 10
noncomputable def thr5 (b : List Stmt) : Thread := piecesOf sts5 env (Code.body b env) { line := 73, col := 0, endLine := 122, endCol := 28 } [topFrame { line := 0, col := 0, endLine := 0, endCol := 0 }]
noncomputable def sts6 : List Stmt := (PySem.Challenge.pw_ui0507_23.main.body.drop 21).take 1
noncomputable def thr6 (b : List Stmt) : Thread := piecesOf sts6 env (Code.body b env) { line := 189, col := 0, endLine := 199, endCol := 16 } [topFrame { line := 0, col := 0, endLine := 0, endCol := 0 }]
noncomputable def sts7 : List Stmt := (PySem.Challenge.pw_ui0507_23.main.body.drop 22).take 10
noncomputable def thr7 (b : List Stmt) : Thread := piecesOf sts7 env (Code.body b env) { line := 200, col := 0, endLine := 200, endCol := 6 } [topFrame { line := 0, col := 0, endLine := 0, endCol := 0 }]
noncomputable def sts8 : List Stmt := (PySem.Challenge.pw_ui0507_23.main.body.drop 32).take 16
noncomputable def thr8 (b : List Stmt) : Thread := piecesOf sts8 env (Code.body b env) { line := 241, col := 0, endLine := 253, endCol := 12 } [topFrame { line := 0, col := 0, endLine := 0, endCol := 0 }]
noncomputable def sts9 : List Stmt := (PySem.Challenge.pw_ui0507_23.main.body.drop 48).take 13
noncomputable def thr9 (b : List Stmt) : Thread := piecesOf sts9 env (Code.body b env) { line := 372, col := 0, endLine := 386, endCol := 16 } [topFrame { line := 0, col := 0, endLine := 0, endCol := 0 }]
noncomputable def sts10 : List Stmt := (PySem.Challenge.pw_ui0507_23.main.body.drop 61).take 3
noncomputable def thr10 (b : List Stmt) : Thread := piecesOf sts10 env (Code.body b env) { line := 464, col := 0, endLine := 468, endCol := 16 } [topFrame { line := 0, col := 0, endLine := 0, endCol := 0 }]
noncomputable def sts11 : List Stmt := (PySem.Challenge.pw_ui0507_23.main.body.drop 64).take 16
noncomputable def thr11 (b : List Stmt) : Thread := piecesOf sts11 env (Code.body b env) { line := 519, col := 0, endLine := 530, endCol := 21 } [topFrame { line := 0, col := 0, endLine := 0, endCol := 0 }]
noncomputable def sts12 : List Stmt := (PySem.Challenge.pw_ui0507_23.main.body.drop 80).take 12
noncomputable def thr12 (b : List Stmt) : Thread := piecesOf sts12 env (Code.body b env) { line := 658, col := 0, endLine := 662, endCol := 47 } [topFrame { line := 0, col := 0, endLine := 0, endCol := 0 }]
noncomputable def sts13 : List Stmt := (PySem.Challenge.pw_ui0507_23.main.body.drop 92).take 10
noncomputable def thr13 (b : List Stmt) : Thread := piecesOf sts13 env (Code.body b env) { line := 699, col := 0, endLine := 699, endCol := 13 } [topFrame { line := 0, col := 0, endLine := 0, endCol := 0 }]
noncomputable def sts14 : List Stmt := (PySem.Challenge.pw_ui0507_23.main.body.drop 102).take 8
noncomputable def thr14 (b : List Stmt) : Thread := piecesOf sts14 env (Code.body b env) { line := 729, col := 0, endLine := 729, endCol := 8 } [topFrame { line := 0, col := 0, endLine := 0, endCol := 0 }]
noncomputable def sts15 : List Stmt := (PySem.Challenge.pw_ui0507_23.main.body.drop 110).take 13
noncomputable def thr15 (b : List Stmt) : Thread := piecesOf sts15 env (Code.body b env) { line := 798, col := 0, endLine := 799, endCol := 55 } [topFrame { line := 0, col := 0, endLine := 0, endCol := 0 }]
noncomputable def sts16 : List Stmt := (PySem.Challenge.pw_ui0507_23.main.body.drop 123).take 1
noncomputable def thr16 (b : List Stmt) : Thread := piecesOf sts16 env (Code.body b env) { line := 880, col := 0, endLine := 880, endCol := 12 } [topFrame { line := 0, col := 0, endLine := 0, endCol := 0 }]
noncomputable def sts17 : List Stmt := (PySem.Challenge.pw_ui0507_23.main.body.drop 124).take 2
noncomputable def thr17 (b : List Stmt) : Thread := piecesOf sts17 env (Code.body b env) { line := 881, col := 0, endLine := 905, endCol := 44 } [topFrame { line := 0, col := 0, endLine := 0, endCol := 0 }]
noncomputable def sts18 : List Stmt := (PySem.Challenge.pw_ui0507_23.main.body.drop 126).take 10
noncomputable def thr18 (b : List Stmt) : Thread := piecesOf sts18 env (Code.body b env) { line := 913, col := 0, endLine := 939, endCol := 32 } [topFrame { line := 0, col := 0, endLine := 0, endCol := 0 }]
noncomputable def sts19 : List Stmt := (PySem.Challenge.pw_ui0507_23.main.body.drop 136).take 2
noncomputable def thr19 (b : List Stmt) : Thread := piecesOf sts19 env (Code.body b env) { line := 968, col := 0, endLine := 968, endCol := 9 } [topFrame { line := 0, col := 0, endLine := 0, endCol := 0 }]
noncomputable def sts20 : List Stmt := (PySem.Challenge.pw_ui0507_23.main.body.drop 138).take 3
noncomputable def thr20 (b : List Stmt) : Thread := piecesOf sts20 env (Code.body b env) { line := 984, col := 0, endLine := 1017, endCol := 67 } [topFrame { line := 0, col := 0, endLine := 0, endCol := 0 }]
noncomputable def sts21 : List Stmt := (PySem.Challenge.pw_ui0507_23.main.body.drop 141).take 3
noncomputable def thr21 (b : List Stmt) : Thread := piecesOf sts21 env (Code.body b env) { line := 1036, col := 0, endLine := 1036, endCol := 8 } [topFrame { line := 0, col := 0, endLine := 0, endCol := 0 }]
noncomputable def sts22 : List Stmt := (PySem.Challenge.pw_ui0507_23.main.body.drop 144).take 6
noncomputable def thr22 (b : List Stmt) : Thread := piecesOf sts22 env (Code.body b env) { line := 1039, col := 0, endLine := 1157, endCol := 60 } [topFrame { line := 0, col := 0, endLine := 0, endCol := 0 }]
noncomputable def x3_1 (P : Params) : Obj := ⟨(.type "dict"), none, dB (boot_o_3 P) [(0, en P "__name__" 165 (vs "packkit.errors" 194))] [en P "_wall" 193 (.ref 21), en P "is_digits" 203 (.ref 28), en P "PackError" 221 (.ref 38)] 12, #[]⟩
noncomputable def x12_1 (P : Params) : Obj := ⟨.none, none, .fields #[(.int 1 0), (.int 0 0), (.ref 20), (.int 5 0), (.int 0 0), (.ref 27), (.int 12 0), (.int 0 0), (.ref 34)], #[]⟩
noncomputable def ztn (P : Params) : Obj := ⟨(.type "tuple"), none, .seq #[] 0, #[]⟩
noncomputable def x16_1 (P : Params) : Obj := ⟨.none, none, .fields #[], #[]⟩
noncomputable def x17_1 (P : Params) : Obj := ⟨(.type "tuple"), none, .seq #[(vs "k" 190)] 0, #[]⟩
noncomputable def x18_1 (P : Params) : Obj := ⟨(.type "tuple"), none, .seq #[] 0, #[]⟩
noncomputable def x19_1 (P : Params) : Obj := ⟨.none, none, fo (S 0) (q "_wall") .none .none .none .none none .none .none 0 0, #[]⟩
noncomputable def x20_1 (P : Params) : Obj := ⟨(.type "code"), none, .fields #[(vs "_wall" 187), (vs "_wall" 188), (vs "/claim/cut.py" 189), (.int 1 0), (.int 1 0), (.int 0 0), (.int 0 0), (.int 3 0), (.ref 15), (.bool true), (.int 181 0), (.ref 16), .none, (.ref 17), (.ref 18), (.ref 19), (.int 191 0), (.int 1 0), (vs "/claim/cut.py" 192)], #[]⟩
noncomputable def x21_1 (P : Params) : Obj := ⟨(.type "function"), none, fo (S 0) (q "_wall") .none .none .none (vs "__main__" 164) none (.ref 20) .none 3 0, #[]⟩
noncomputable def x22_1 (P : Params) : Obj := ⟨(.type "tuple"), none, .seq #[] 0, #[]⟩
noncomputable def x23_1 (P : Params) : Obj := ⟨.none, none, .fields #[], #[]⟩
noncomputable def x24_1 (P : Params) : Obj := ⟨(.type "tuple"), none, .seq #[(vs "text" 199), (vs "sign" 200)] 0, #[]⟩
noncomputable def x25_1 (P : Params) : Obj := ⟨(.type "tuple"), none, .seq #[] 0, #[]⟩
noncomputable def x26_1 (P : Params) : Obj := ⟨.none, none, fo (S 2) (q "is_digits") .none .none .none .none none .none .none 0 0, #[]⟩
noncomputable def x27_1 (P : Params) : Obj := ⟨(.type "code"), none, .fields #[(vs "is_digits" 196), (vs "is_digits" 197), (vs "/claim/cut.py" 198), (.int 5 0), (.int 1 0), (.int 0 0), (.int 0 0), (.int 3 0), (.ref 22), (.bool true), (.int 181 0), (.ref 23), .none, (.ref 24), (.ref 25), (.ref 26), (.int 201 0), (.int 5 0), (vs "/claim/cut.py" 202)], #[]⟩
noncomputable def x28_1 (P : Params) : Obj := ⟨(.type "function"), none, fo (S 2) (q "is_digits") .none .none .none (vs "packkit.errors" 194) none (.ref 27) .none 3 0, #[]⟩
noncomputable def x29_1 (P : Params) : Obj := ⟨(.type "tuple"), none, .seq #[(.type "ValueError")] 0, #[]⟩
noncomputable def x30_1 (P : Params) : Obj := ⟨(.type "builtin_function_or_method"), none, .fields #[(.builtin "type.__prepare__"), (.type "type")], #[]⟩
noncomputable def ztm (P : Params) : Obj := ⟨(.type "dict"), none, .dict #[en P "__module__" 211 (vs "packkit.errors" 194), en P "__qualname__" 213 (vs "PackError" 212), en P "__firstlineno__" 215 (.int 12 214), en P "__static_attributes__" 216 (.ref 36)] 4, #[]⟩
noncomputable def x32_1 (P : Params) : Obj := ⟨(.type "tuple"), none, .seq #[] 0, #[]⟩
noncomputable def x33_1 (P : Params) : Obj := ⟨.none, none, .fields #[], #[]⟩
noncomputable def x34_1 (P : Params) : Obj := ⟨(.type "code"), none, .fields #[(vs "PackError" 206), (vs "PackError" 207), (vs "/claim/cut.py" 208), (.int 12 0), (.int 0 0), (.int 0 0), (.int 0 0), (.int 0 0), (.ref 32), (.bool false), (.int 181 0), (.ref 33), .none, .none, .none, .none, (.int 209 0), (.int 12 0), (vs "/claim/cut.py" 210)], #[]⟩
noncomputable def x35_1 (P : Params) : Obj := ⟨(.type "frame"), none, .plain, #[some (.ref 34), some (.ref 3), some (.ref 31), none, some (vs "packkit.errors" 194), none, some (.ref 0)]⟩
noncomputable def x36_1 (P : Params) : Obj := ⟨(.type "tuple"), none, .seq #[] 0, #[]⟩
noncomputable def ztl (P : Params) : Obj := ⟨(.type "dict"), none, .dict #[en P "__module__" 211 (vs "packkit.errors" 194), en P "__firstlineno__" 215 (.int 12 214), en P "__static_attributes__" 216 (.ref 36), en P "__weakref__" 218 (.ref 39), en P "__doc__" 219 .none] 3, #[]⟩
noncomputable def x38_1 (P : Params) : Obj := ⟨(.type "type"), none, .cls { name := (q "PackError"), bases := [(.type "ValueError")], mro := [(.ref 38), (.type "ValueError"), (.type "Exception"), (.type "BaseException"), (.type "object")], ns := 37, qualname := (q "PackError"), hasDict := true, slotNames := [], subclasses := [], abstract := false, collection := .none, hasDel := false }, #[some (.ref 29), none, some (vs "PackError" 204), some (vs "PackError" 212), some (.builtin "ValueError.__new__"), some (.bool true)]⟩
noncomputable def x39_1 (P : Params) : Obj := ⟨(.type "getset_descriptor"), none, .fields #[(vs "__weakref__" 217), (.ref 38), (.builtin "ExceptionGroup.__weakref__"), .none], #[]⟩
noncomputable def x40_1 (P : Params) : Obj := ⟨(.type "super"), none, .fields #[(.ref 38), (.ref 38), (.ref 38)], #[]⟩
noncomputable def x41_1 (P : Params) : Obj := ⟨(.type "builtin_function_or_method"), none, .fields #[(.builtin "object.__init_subclass__"), (.ref 38)], #[]⟩
noncomputable def T1 (P : Params) : BT := insL (setL (T0 P) [(3, (x3_1 P)), (12, (x12_1 P))]) 15 [(ztn P), (x16_1 P), (x17_1 P), (x18_1 P), (x19_1 P), (x20_1 P), (x21_1 P), (x22_1 P), (x23_1 P), (x24_1 P), (x25_1 P), (x26_1 P), (x27_1 P), (x28_1 P), (x29_1 P), (x30_1 P), (ztm P), (x32_1 P), (x33_1 P), (x34_1 P), (x35_1 P), (x36_1 P), (ztl P), (x38_1 P), (x39_1 P), (x40_1 P), (x41_1 P)]
noncomputable def s1 (P : Params) (os : OsState) : SharedT := shr (T1 P) 42 222 os
noncomputable def x3_2 (P : Params) : Obj := ⟨(.type "dict"), none, dA (x3_1 P) [en P "FormatError" 237 (.ref 51), en P "CheckError" 253 (.ref 63), en P "LimitError" 269 (.ref 75)] 15, #[]⟩
noncomputable def x12_2 (P : Params) : Obj := ⟨.none, none, fA (x12_1 P) [(.int 14 0), (.int 0 0), (.ref 47), (.int 16 0), (.int 0 0), (.ref 59), (.int 18 0), (.int 0 0), (.ref 71)], #[]⟩
noncomputable def x38_2 (P : Params) : Obj := ⟨(.type "type"), none, .cls { name := (q "PackError"), bases := [(.type "ValueError")], mro := [(.ref 38), (.type "ValueError"), (.type "Exception"), (.type "BaseException"), (.type "object")], ns := 37, qualname := (q "PackError"), hasDict := true, slotNames := [], subclasses := [(.ref 51), (.ref 63), (.ref 75)], abstract := false, collection := .none, hasDel := false }, #[some (.ref 29), none, some (vs "PackError" 204), some (vs "PackError" 212), some (.builtin "ValueError.__new__"), some (.bool true)]⟩
noncomputable def x42_2 (P : Params) : Obj := ⟨(.type "tuple"), none, .seq #[(.ref 38)] 0, #[]⟩
noncomputable def x43_2 (P : Params) : Obj := ⟨(.type "builtin_function_or_method"), none, .fields #[(.builtin "type.__prepare__"), (.type "type")], #[]⟩
noncomputable def ztj (P : Params) : Obj := ⟨(.type "dict"), none, .dict #[en P "__module__" 229 (vs "packkit.errors" 194), en P "__qualname__" 231 (vs "FormatError" 230), en P "__firstlineno__" 233 (.int 14 232), en P "__static_attributes__" 234 (.ref 49)] 4, #[]⟩
noncomputable def x45_2 (P : Params) : Obj := ⟨(.type "tuple"), none, .seq #[] 0, #[]⟩
noncomputable def x46_2 (P : Params) : Obj := ⟨.none, none, .fields #[], #[]⟩
noncomputable def x47_2 (P : Params) : Obj := ⟨(.type "code"), none, .fields #[(vs "FormatError" 224), (vs "FormatError" 225), (vs "/claim/cut.py" 226), (.int 14 0), (.int 0 0), (.int 0 0), (.int 0 0), (.int 0 0), (.ref 45), (.bool false), (.int 181 0), (.ref 46), .none, .none, .none, .none, (.int 227 0), (.int 14 0), (vs "/claim/cut.py" 228)], #[]⟩
noncomputable def x48_2 (P : Params) : Obj := ⟨(.type "frame"), none, .plain, #[some (.ref 47), some (.ref 3), some (.ref 44), none, some (vs "packkit.errors" 194), none, some (.ref 0)]⟩
noncomputable def x49_2 (P : Params) : Obj := ⟨(.type "tuple"), none, .seq #[] 0, #[]⟩
noncomputable def zti (P : Params) : Obj := ⟨(.type "dict"), none, .dict #[en P "__module__" 229 (vs "packkit.errors" 194), en P "__firstlineno__" 233 (.int 14 232), en P "__static_attributes__" 234 (.ref 49), en P "__doc__" 235 .none] 2, #[]⟩
noncomputable def zth (P : Params) : Obj := ⟨(.type "type"), none, .cls { name := (q "FormatError"), bases := [(.ref 38)], mro := [(.ref 51), (.ref 38), (.type "ValueError"), (.type "Exception"), (.type "BaseException"), (.type "object")], ns := 50, qualname := (q "FormatError"), hasDict := true, slotNames := [], subclasses := [], abstract := false, collection := .none, hasDel := false }, #[some (.ref 42), none, some (vs "FormatError" 222), some (vs "FormatError" 230), some (.builtin "ValueError.__new__"), some (.bool true)]⟩
noncomputable def x52_2 (P : Params) : Obj := ⟨(.type "super"), none, .fields #[(.ref 51), (.ref 51), (.ref 51)], #[]⟩
noncomputable def x53_2 (P : Params) : Obj := ⟨(.type "builtin_function_or_method"), none, .fields #[(.builtin "object.__init_subclass__"), (.ref 51)], #[]⟩
noncomputable def x54_2 (P : Params) : Obj := ⟨(.type "tuple"), none, .seq #[(.ref 38)] 0, #[]⟩
noncomputable def x55_2 (P : Params) : Obj := ⟨(.type "builtin_function_or_method"), none, .fields #[(.builtin "type.__prepare__"), (.type "type")], #[]⟩
noncomputable def ztg (P : Params) : Obj := ⟨(.type "dict"), none, .dict #[en P "__module__" 245 (vs "packkit.errors" 194), en P "__qualname__" 247 (vs "CheckError" 246), en P "__firstlineno__" 249 (.int 16 248), en P "__static_attributes__" 250 (.ref 61)] 4, #[]⟩
noncomputable def x57_2 (P : Params) : Obj := ⟨(.type "tuple"), none, .seq #[] 0, #[]⟩
noncomputable def x58_2 (P : Params) : Obj := ⟨.none, none, .fields #[], #[]⟩
noncomputable def x59_2 (P : Params) : Obj := ⟨(.type "code"), none, .fields #[(vs "CheckError" 240), (vs "CheckError" 241), (vs "/claim/cut.py" 242), (.int 16 0), (.int 0 0), (.int 0 0), (.int 0 0), (.int 0 0), (.ref 57), (.bool false), (.int 181 0), (.ref 58), .none, .none, .none, .none, (.int 243 0), (.int 16 0), (vs "/claim/cut.py" 244)], #[]⟩
noncomputable def x60_2 (P : Params) : Obj := ⟨(.type "frame"), none, .plain, #[some (.ref 59), some (.ref 3), some (.ref 56), none, some (vs "packkit.errors" 194), none, some (.ref 0)]⟩
noncomputable def x61_2 (P : Params) : Obj := ⟨(.type "tuple"), none, .seq #[] 0, #[]⟩
noncomputable def ztf (P : Params) : Obj := ⟨(.type "dict"), none, .dict #[en P "__module__" 245 (vs "packkit.errors" 194), en P "__firstlineno__" 249 (.int 16 248), en P "__static_attributes__" 250 (.ref 61), en P "__doc__" 251 .none] 2, #[]⟩
noncomputable def zte (P : Params) : Obj := ⟨(.type "type"), none, .cls { name := (q "CheckError"), bases := [(.ref 38)], mro := [(.ref 63), (.ref 38), (.type "ValueError"), (.type "Exception"), (.type "BaseException"), (.type "object")], ns := 62, qualname := (q "CheckError"), hasDict := true, slotNames := [], subclasses := [], abstract := false, collection := .none, hasDel := false }, #[some (.ref 54), none, some (vs "CheckError" 238), some (vs "CheckError" 246), some (.builtin "ValueError.__new__"), some (.bool true)]⟩
noncomputable def x64_2 (P : Params) : Obj := ⟨(.type "super"), none, .fields #[(.ref 63), (.ref 63), (.ref 63)], #[]⟩
noncomputable def x65_2 (P : Params) : Obj := ⟨(.type "builtin_function_or_method"), none, .fields #[(.builtin "object.__init_subclass__"), (.ref 63)], #[]⟩
noncomputable def x66_2 (P : Params) : Obj := ⟨(.type "tuple"), none, .seq #[(.ref 38)] 0, #[]⟩
noncomputable def x67_2 (P : Params) : Obj := ⟨(.type "builtin_function_or_method"), none, .fields #[(.builtin "type.__prepare__"), (.type "type")], #[]⟩
noncomputable def ztd (P : Params) : Obj := ⟨(.type "dict"), none, .dict #[en P "__module__" 261 (vs "packkit.errors" 194), en P "__qualname__" 263 (vs "LimitError" 262), en P "__firstlineno__" 265 (.int 18 264), en P "__static_attributes__" 266 (.ref 73)] 4, #[]⟩
noncomputable def x69_2 (P : Params) : Obj := ⟨(.type "tuple"), none, .seq #[] 0, #[]⟩
noncomputable def x70_2 (P : Params) : Obj := ⟨.none, none, .fields #[], #[]⟩
noncomputable def x71_2 (P : Params) : Obj := ⟨(.type "code"), none, .fields #[(vs "LimitError" 256), (vs "LimitError" 257), (vs "/claim/cut.py" 258), (.int 18 0), (.int 0 0), (.int 0 0), (.int 0 0), (.int 0 0), (.ref 69), (.bool false), (.int 181 0), (.ref 70), .none, .none, .none, .none, (.int 259 0), (.int 18 0), (vs "/claim/cut.py" 260)], #[]⟩
noncomputable def x72_2 (P : Params) : Obj := ⟨(.type "frame"), none, .plain, #[some (.ref 71), some (.ref 3), some (.ref 68), none, some (vs "packkit.errors" 194), none, some (.ref 0)]⟩
noncomputable def x73_2 (P : Params) : Obj := ⟨(.type "tuple"), none, .seq #[] 0, #[]⟩
noncomputable def ztc (P : Params) : Obj := ⟨(.type "dict"), none, .dict #[en P "__module__" 261 (vs "packkit.errors" 194), en P "__firstlineno__" 265 (.int 18 264), en P "__static_attributes__" 266 (.ref 73), en P "__doc__" 267 .none] 2, #[]⟩
noncomputable def ztb (P : Params) : Obj := ⟨(.type "type"), none, .cls { name := (q "LimitError"), bases := [(.ref 38)], mro := [(.ref 75), (.ref 38), (.type "ValueError"), (.type "Exception"), (.type "BaseException"), (.type "object")], ns := 74, qualname := (q "LimitError"), hasDict := true, slotNames := [], subclasses := [], abstract := false, collection := .none, hasDel := false }, #[some (.ref 66), none, some (vs "LimitError" 254), some (vs "LimitError" 262), some (.builtin "ValueError.__new__"), some (.bool true)]⟩
noncomputable def x76_2 (P : Params) : Obj := ⟨(.type "super"), none, .fields #[(.ref 75), (.ref 75), (.ref 75)], #[]⟩
noncomputable def x77_2 (P : Params) : Obj := ⟨(.type "builtin_function_or_method"), none, .fields #[(.builtin "object.__init_subclass__"), (.ref 75)], #[]⟩
noncomputable def T2 (P : Params) : BT := insL (setL (T1 P) [(3, (x3_2 P)), (12, (x12_2 P)), (38, (x38_2 P))]) 42 [(x42_2 P), (x43_2 P), (ztj P), (x45_2 P), (x46_2 P), (x47_2 P), (x48_2 P), (x49_2 P), (zti P), (zth P), (x52_2 P), (x53_2 P), (x54_2 P), (x55_2 P), (ztg P), (x57_2 P), (x58_2 P), (x59_2 P), (x60_2 P), (x61_2 P), (ztf P), (zte P), (x64_2 P), (x65_2 P), (x66_2 P), (x67_2 P), (ztd P), (x69_2 P), (x70_2 P), (x71_2 P), (x72_2 P), (x73_2 P), (ztc P), (ztb P), (x76_2 P), (x77_2 P)]
noncomputable def s2 (P : Params) (os : OsState) : SharedT := shr (T2 P) 78 270 os
noncomputable def x3_3 (P : Params) : Obj := ⟨(.type "dict"), none, dB (x3_2 P) [(0, en P "__name__" 165 (vs "packkit.bits" 297))] [en P "NameRefused" 296 (.ref 94), en P "BitWriter" 386 (.ref 162)] 17, #[]⟩
noncomputable def x12_3 (P : Params) : Obj := ⟨.none, none, fA (x12_2 P) [(.int 20 0), (.int 0 0), (.ref 83), (.int 27 0), (.int 0 0), (.ref 102)], #[]⟩
noncomputable def ztk (P : Params) : Obj := ⟨(.type "type"), none, .cls { name := (q "PackError"), bases := [(.type "ValueError")], mro := [(.ref 38), (.type "ValueError"), (.type "Exception"), (.type "BaseException"), (.type "object")], ns := 37, qualname := (q "PackError"), hasDict := true, slotNames := [], subclasses := [(.ref 51), (.ref 63), (.ref 75), (.ref 94)], abstract := false, collection := .none, hasDel := false }, #[some (.ref 29), none, some (vs "PackError" 204), some (vs "PackError" 212), some (.builtin "ValueError.__new__"), some (.bool true)]⟩
noncomputable def x78_3 (P : Params) : Obj := ⟨(.type "tuple"), none, .seq #[(.ref 38)] 0, #[]⟩
noncomputable def x79_3 (P : Params) : Obj := ⟨(.type "builtin_function_or_method"), none, .fields #[(.builtin "type.__prepare__"), (.type "type")], #[]⟩
noncomputable def zta (P : Params) : Obj := ⟨(.type "dict"), none, .dict #[en P "__module__" 277 (vs "packkit.errors" 194), en P "__qualname__" 279 (vs "NameRefused" 278), en P "__firstlineno__" 281 (.int 20 280), en P "__init__" 290 (.ref 91), en P "__static_attributes__" 293 (.ref 92)] 5, #[]⟩
noncomputable def x81_3 (P : Params) : Obj := ⟨(.type "tuple"), none, .seq #[] 0, #[]⟩
noncomputable def x82_3 (P : Params) : Obj := ⟨.none, none, .fields #[(.int 22 0), (.int 4 0), (.ref 90)], #[]⟩
noncomputable def x83_3 (P : Params) : Obj := ⟨(.type "code"), none, .fields #[(vs "NameRefused" 272), (vs "NameRefused" 273), (vs "/claim/cut.py" 274), (.int 20 0), (.int 0 0), (.int 0 0), (.int 0 0), (.int 0 0), (.ref 81), (.bool false), (.int 181 0), (.ref 82), .none, .none, .none, .none, (.int 275 0), (.int 20 0), (vs "/claim/cut.py" 276)], #[]⟩
noncomputable def x84_3 (P : Params) : Obj := ⟨(.type "frame"), none, .plain, #[some (.ref 83), some (.ref 3), some (.ref 80), none, some (vs "packkit.errors" 194), none, some (.ref 0)]⟩
noncomputable def x85_3 (P : Params) : Obj := ⟨(.type "tuple"), none, .seq #[] 0, #[]⟩
noncomputable def x86_3 (P : Params) : Obj := ⟨.none, none, .fields #[], #[]⟩
noncomputable def x87_3 (P : Params) : Obj := ⟨(.type "tuple"), none, .seq #[(vs "self" 285), (vs "name" 286), (vs "why" 287)] 0, #[]⟩
noncomputable def x88_3 (P : Params) : Obj := ⟨(.type "tuple"), none, .seq #[] 0, #[]⟩
noncomputable def x89_3 (P : Params) : Obj := ⟨.none, none, fo (C 7 0) (q "NameRefused.__init__") .none .none .none .none none .none .none 0 0, #[]⟩
noncomputable def x90_3 (P : Params) : Obj := ⟨(.type "code"), none, .fields #[(vs "__init__" 282), (vs "NameRefused.__init__" 283), (vs "/claim/cut.py" 284), (.int 22 0), (.int 3 0), (.int 0 0), (.int 0 0), (.int 3 0), (.ref 85), (.bool true), (.int 181 0), (.ref 86), .none, (.ref 87), (.ref 88), (.ref 89), (.int 288 0), (.int 22 0), (vs "/claim/cut.py" 289)], #[]⟩
noncomputable def x91_3 (P : Params) : Obj := ⟨(.type "function"), none, fo (C 7 0) (q "NameRefused.__init__") .none .none .none (vs "packkit.errors" 194) none (.ref 90) .none 3 0, #[]⟩
noncomputable def x92_3 (P : Params) : Obj := ⟨(.type "tuple"), none, .seq #[(vs "name" 291), (vs "why" 292)] 0, #[]⟩
noncomputable def t6 (P : Params) : Obj := ⟨(.type "dict"), none, .dict #[en P "__module__" 277 (vs "packkit.errors" 194), en P "__firstlineno__" 281 (.int 20 280), en P "__init__" 290 (.ref 91), en P "__static_attributes__" 293 (.ref 92), en P "__doc__" 294 .none] 2, #[]⟩
noncomputable def t5 (P : Params) : Obj := ⟨(.type "type"), none, .cls { name := (q "NameRefused"), bases := [(.ref 38)], mro := [(.ref 94), (.ref 38), (.type "ValueError"), (.type "Exception"), (.type "BaseException"), (.type "object")], ns := 93, qualname := (q "NameRefused"), hasDict := true, slotNames := [], subclasses := [], abstract := false, collection := .none, hasDel := false }, #[some (.ref 78), none, some (vs "NameRefused" 270), some (vs "NameRefused" 278), some (.builtin "ValueError.__new__"), some (.bool true)]⟩
noncomputable def x95_3 (P : Params) : Obj := ⟨(.type "super"), none, .fields #[(.ref 94), (.ref 94), (.ref 94)], #[]⟩
noncomputable def x96_3 (P : Params) : Obj := ⟨(.type "builtin_function_or_method"), none, .fields #[(.builtin "object.__init_subclass__"), (.ref 94)], #[]⟩
noncomputable def x97_3 (P : Params) : Obj := ⟨(.type "tuple"), none, .seq #[] 0, #[]⟩
noncomputable def x98_3 (P : Params) : Obj := ⟨(.type "builtin_function_or_method"), none, .fields #[(.builtin "type.__prepare__"), (.type "type")], #[]⟩
noncomputable def zsz (P : Params) : Obj := ⟨(.type "dict"), none, .dict #[en P "__module__" 306 (vs "packkit.bits" 297), en P "__qualname__" 308 (vs "BitWriter" 307), en P "__firstlineno__" 310 (.int 27 309), en P "__init__" 317 (.ref 110), en P "bits" 326 (.ref 117), en P "code" 336 (.ref 124), en P "unary" 344 (.ref 131), en P "gamma" 353 (.ref 138), en P "align" 360 (.ref 145), en P "length" 367 (.ref 152), en P "finish" 375 (.ref 159), en P "__static_attributes__" 379 (.ref 160)] 12, #[]⟩
noncomputable def zrx (P : Params) : Obj := ⟨(.type "tuple"), none, .seq #[] 0, #[]⟩
noncomputable def zrw (P : Params) : Obj := ⟨.none, none, .fields #[(.int 29 0), (.int 4 0), (.ref 109), (.int 34 0), (.int 4 0), (.ref 116), (.int 46 0), (.int 4 0), (.ref 123), (.int 52 0), (.int 4 0), (.ref 130), (.int 55 0), (.int 4 0), (.ref 137), (.int 62 0), (.int 4 0), (.ref 144), (.int 65 0), (.int 4 0), (.ref 151), (.int 68 0), (.int 4 0), (.ref 158)], #[]⟩
noncomputable def zrv (P : Params) : Obj := ⟨(.type "code"), none, .fields #[(vs "BitWriter" 301), (vs "BitWriter" 302), (vs "/claim/cut.py" 303), (.int 27 0), (.int 0 0), (.int 0 0), (.int 0 0), (.int 0 0), (.ref 100), (.bool false), (.int 181 0), (.ref 101), .none, .none, .none, .none, (.int 304 0), (.int 27 0), (vs "/claim/cut.py" 305)], #[]⟩
noncomputable def zru (P : Params) : Obj := ⟨(.type "frame"), none, .plain, #[some (.ref 102), some (.ref 3), some (.ref 99), none, some (vs "packkit.bits" 297), none, some (.ref 0)]⟩
noncomputable def zrt (P : Params) : Obj := ⟨(.type "tuple"), none, .seq #[] 0, #[]⟩
noncomputable def zrs (P : Params) : Obj := ⟨.none, none, .fields #[], #[]⟩
noncomputable def zrr (P : Params) : Obj := ⟨(.type "tuple"), none, .seq #[(vs "self" 314)] 0, #[]⟩
noncomputable def zrq (P : Params) : Obj := ⟨(.type "tuple"), none, .seq #[] 0, #[]⟩
noncomputable def zrp (P : Params) : Obj := ⟨.none, none, fo (C 9 0) (q "BitWriter.__init__") .none .none .none .none none .none .none 0 0, #[]⟩
noncomputable def ziq (P : Params) : Obj := ⟨(.type "code"), none, .fields #[(vs "__init__" 311), (vs "BitWriter.__init__" 312), (vs "/claim/cut.py" 313), (.int 29 0), (.int 1 0), (.int 0 0), (.int 0 0), (.int 3 0), (.ref 104), (.bool true), (.int 181 0), (.ref 105), .none, (.ref 106), (.ref 107), (.ref 108), (.int 315 0), (.int 29 0), (vs "/claim/cut.py" 316)], #[]⟩
noncomputable def zio (P : Params) : Obj := ⟨(.type "function"), none, fo (C 9 0) (q "BitWriter.__init__") .none .none .none (vs "packkit.bits" 297) none (.ref 109) .none 3 0, #[]⟩
noncomputable def zro (P : Params) : Obj := ⟨(.type "tuple"), none, .seq #[] 0, #[]⟩
noncomputable def zrn (P : Params) : Obj := ⟨.none, none, .fields #[], #[]⟩
noncomputable def zrm (P : Params) : Obj := ⟨(.type "tuple"), none, .seq #[(vs "self" 321), (vs "value" 322), (vs "count" 323)] 0, #[]⟩
noncomputable def zrl (P : Params) : Obj := ⟨(.type "tuple"), none, .seq #[] 0, #[]⟩
noncomputable def zrk (P : Params) : Obj := ⟨.none, none, fo (C 9 1) (q "BitWriter.bits") .none .none .none .none none .none .none 0 0, #[]⟩
noncomputable def zin (P : Params) : Obj := ⟨(.type "code"), none, .fields #[(vs "bits" 318), (vs "BitWriter.bits" 319), (vs "/claim/cut.py" 320), (.int 34 0), (.int 3 0), (.int 0 0), (.int 0 0), (.int 3 0), (.ref 111), (.bool true), (.int 181 0), (.ref 112), .none, (.ref 113), (.ref 114), (.ref 115), (.int 324 0), (.int 34 0), (vs "/claim/cut.py" 325)], #[]⟩
noncomputable def zim (P : Params) : Obj := ⟨(.type "function"), none, fo (C 9 1) (q "BitWriter.bits") .none .none .none (vs "packkit.bits" 297) none (.ref 116) .none 3 0, #[]⟩
noncomputable def zrj (P : Params) : Obj := ⟨(.type "tuple"), none, .seq #[] 0, #[]⟩
noncomputable def zri (P : Params) : Obj := ⟨.none, none, .fields #[], #[]⟩
noncomputable def zrh (P : Params) : Obj := ⟨(.type "tuple"), none, .seq #[(vs "self" 330), (vs "value" 331), (vs "count" 332), (vs "place" 333)] 0, #[]⟩
noncomputable def zrg (P : Params) : Obj := ⟨(.type "tuple"), none, .seq #[] 0, #[]⟩
noncomputable def zrf (P : Params) : Obj := ⟨.none, none, fo (C 9 2) (q "BitWriter.code") .none .none .none .none none .none .none 0 0, #[]⟩
noncomputable def zil (P : Params) : Obj := ⟨(.type "code"), none, .fields #[(vs "code" 327), (vs "BitWriter.code" 328), (vs "/claim/cut.py" 329), (.int 46 0), (.int 3 0), (.int 0 0), (.int 0 0), (.int 3 0), (.ref 118), (.bool true), (.int 181 0), (.ref 119), .none, (.ref 120), (.ref 121), (.ref 122), (.int 334 0), (.int 46 0), (vs "/claim/cut.py" 335)], #[]⟩
noncomputable def zik (P : Params) : Obj := ⟨(.type "function"), none, fo (C 9 2) (q "BitWriter.code") .none .none .none (vs "packkit.bits" 297) none (.ref 123) .none 3 0, #[]⟩
noncomputable def zre (P : Params) : Obj := ⟨(.type "tuple"), none, .seq #[] 0, #[]⟩
noncomputable def zrd (P : Params) : Obj := ⟨.none, none, .fields #[], #[]⟩
noncomputable def zrc (P : Params) : Obj := ⟨(.type "tuple"), none, .seq #[(vs "self" 340), (vs "count" 341)] 0, #[]⟩
noncomputable def zrb (P : Params) : Obj := ⟨(.type "tuple"), none, .seq #[] 0, #[]⟩
noncomputable def zra (P : Params) : Obj := ⟨.none, none, fo (C 9 3) (q "BitWriter.unary") .none .none .none .none none .none .none 0 0, #[]⟩
noncomputable def zqm (P : Params) : Obj := ⟨(.type "code"), none, .fields #[(vs "unary" 337), (vs "BitWriter.unary" 338), (vs "/claim/cut.py" 339), (.int 52 0), (.int 2 0), (.int 0 0), (.int 0 0), (.int 3 0), (.ref 125), (.bool true), (.int 181 0), (.ref 126), .none, (.ref 127), (.ref 128), (.ref 129), (.int 342 0), (.int 52 0), (vs "/claim/cut.py" 343)], #[]⟩
noncomputable def zql (P : Params) : Obj := ⟨(.type "function"), none, fo (C 9 3) (q "BitWriter.unary") .none .none .none (vs "packkit.bits" 297) none (.ref 130) .none 3 0, #[]⟩
noncomputable def zqk (P : Params) : Obj := ⟨(.type "tuple"), none, .seq #[] 0, #[]⟩
noncomputable def zqj (P : Params) : Obj := ⟨.none, none, .fields #[], #[]⟩
noncomputable def zqi (P : Params) : Obj := ⟨(.type "tuple"), none, .seq #[(vs "self" 348), (vs "number" 349), (vs "size" 350)] 0, #[]⟩
noncomputable def zqh (P : Params) : Obj := ⟨(.type "tuple"), none, .seq #[] 0, #[]⟩
noncomputable def zqg (P : Params) : Obj := ⟨.none, none, fo (C 9 4) (q "BitWriter.gamma") .none .none .none .none none .none .none 0 0, #[]⟩
noncomputable def zij (P : Params) : Obj := ⟨(.type "code"), none, .fields #[(vs "gamma" 345), (vs "BitWriter.gamma" 346), (vs "/claim/cut.py" 347), (.int 55 0), (.int 2 0), (.int 0 0), (.int 0 0), (.int 3 0), (.ref 132), (.bool true), (.int 181 0), (.ref 133), .none, (.ref 134), (.ref 135), (.ref 136), (.int 351 0), (.int 55 0), (vs "/claim/cut.py" 352)], #[]⟩
noncomputable def zii (P : Params) : Obj := ⟨(.type "function"), none, fo (C 9 4) (q "BitWriter.gamma") .none .none .none (vs "packkit.bits" 297) none (.ref 137) .none 3 0, #[]⟩
noncomputable def zqf (P : Params) : Obj := ⟨(.type "tuple"), none, .seq #[] 0, #[]⟩
noncomputable def zqe (P : Params) : Obj := ⟨.none, none, .fields #[], #[]⟩
noncomputable def zqd (P : Params) : Obj := ⟨(.type "tuple"), none, .seq #[(vs "self" 357)] 0, #[]⟩
noncomputable def zqc (P : Params) : Obj := ⟨(.type "tuple"), none, .seq #[] 0, #[]⟩
noncomputable def zqb (P : Params) : Obj := ⟨.none, none, fo (C 9 5) (q "BitWriter.align") .none .none .none .none none .none .none 0 0, #[]⟩
noncomputable def zqa (P : Params) : Obj := ⟨(.type "code"), none, .fields #[(vs "align" 354), (vs "BitWriter.align" 355), (vs "/claim/cut.py" 356), (.int 62 0), (.int 1 0), (.int 0 0), (.int 0 0), (.int 3 0), (.ref 139), (.bool true), (.int 181 0), (.ref 140), .none, (.ref 141), (.ref 142), (.ref 143), (.int 358 0), (.int 62 0), (vs "/claim/cut.py" 359)], #[]⟩
noncomputable def q8 (P : Params) : Obj := ⟨(.type "function"), none, fo (C 9 5) (q "BitWriter.align") .none .none .none (vs "packkit.bits" 297) none (.ref 144) .none 3 0, #[]⟩
noncomputable def q7 (P : Params) : Obj := ⟨(.type "tuple"), none, .seq #[] 0, #[]⟩
noncomputable def q3 (P : Params) : Obj := ⟨.none, none, .fields #[], #[]⟩
noncomputable def q0 (P : Params) : Obj := ⟨(.type "tuple"), none, .seq #[(vs "self" 364)] 0, #[]⟩
noncomputable def zpz (P : Params) : Obj := ⟨(.type "tuple"), none, .seq #[] 0, #[]⟩
noncomputable def zpy (P : Params) : Obj := ⟨.none, none, fo (C 9 6) (q "BitWriter.length") .none .none .none .none none .none .none 0 0, #[]⟩
noncomputable def zpx (P : Params) : Obj := ⟨(.type "code"), none, .fields #[(vs "length" 361), (vs "BitWriter.length" 362), (vs "/claim/cut.py" 363), (.int 65 0), (.int 1 0), (.int 0 0), (.int 0 0), (.int 3 0), (.ref 146), (.bool true), (.int 181 0), (.ref 147), .none, (.ref 148), (.ref 149), (.ref 150), (.int 365 0), (.int 65 0), (vs "/claim/cut.py" 366)], #[]⟩
noncomputable def zpw (P : Params) : Obj := ⟨(.type "function"), none, fo (C 9 6) (q "BitWriter.length") .none .none .none (vs "packkit.bits" 297) none (.ref 151) .none 3 0, #[]⟩
noncomputable def zpv (P : Params) : Obj := ⟨(.type "tuple"), none, .seq #[] 0, #[]⟩
noncomputable def zpu (P : Params) : Obj := ⟨.none, none, .fields #[], #[]⟩
noncomputable def zpt (P : Params) : Obj := ⟨(.type "tuple"), none, .seq #[(vs "self" 371), (vs "out" 372)] 0, #[]⟩
noncomputable def zps (P : Params) : Obj := ⟨(.type "tuple"), none, .seq #[] 0, #[]⟩
noncomputable def zpr (P : Params) : Obj := ⟨.none, none, fo (C 9 7) (q "BitWriter.finish") .none .none .none .none none .none .none 0 0, #[]⟩
noncomputable def zih (P : Params) : Obj := ⟨(.type "code"), none, .fields #[(vs "finish" 368), (vs "BitWriter.finish" 369), (vs "/claim/cut.py" 370), (.int 68 0), (.int 1 0), (.int 0 0), (.int 0 0), (.int 3 0), (.ref 153), (.bool true), (.int 181 0), (.ref 154), .none, (.ref 155), (.ref 156), (.ref 157), (.int 373 0), (.int 68 0), (vs "/claim/cut.py" 374)], #[]⟩
noncomputable def zig (P : Params) : Obj := ⟨(.type "function"), none, fo (C 9 7) (q "BitWriter.finish") .none .none .none (vs "packkit.bits" 297) none (.ref 158) .none 3 0, #[]⟩
noncomputable def zpq (P : Params) : Obj := ⟨(.type "tuple"), none, .seq #[(vs "_count" 376), (vs "_held" 377), (vs "_out" 378)] 0, #[]⟩
noncomputable def zif (P : Params) : Obj := ⟨(.type "dict"), none, .dict #[en P "__module__" 306 (vs "packkit.bits" 297), en P "__firstlineno__" 310 (.int 27 309), en P "__init__" 317 (.ref 110), en P "bits" 326 (.ref 117), en P "code" 336 (.ref 124), en P "unary" 344 (.ref 131), en P "gamma" 353 (.ref 138), en P "align" 360 (.ref 145), en P "length" 367 (.ref 152), en P "finish" 375 (.ref 159), en P "__static_attributes__" 379 (.ref 160), en P "__dict__" 381 (.ref 163), en P "__weakref__" 383 (.ref 164), en P "__doc__" 384 .none] 4, #[]⟩
noncomputable def zie (P : Params) : Obj := ⟨(.type "type"), none, .cls { name := (q "BitWriter"), bases := [(.type "object")], mro := [(.ref 162), (.type "object")], ns := 161, qualname := (q "BitWriter"), hasDict := true, slotNames := [], subclasses := [], abstract := false, collection := .none, hasDel := false }, #[none, none, some (vs "BitWriter" 299), some (vs "BitWriter" 307), some (.builtin "object.__new__"), some (.bool true)]⟩
noncomputable def zpp (P : Params) : Obj := ⟨(.type "getset_descriptor"), none, .fields #[(vs "__dict__" 380), (.ref 162), (.builtin "function.__dict__"), (.builtin "function.__dict__#set")], #[]⟩
noncomputable def zpo (P : Params) : Obj := ⟨(.type "getset_descriptor"), none, .fields #[(vs "__weakref__" 382), (.ref 162), (.builtin "ExceptionGroup.__weakref__"), .none], #[]⟩
noncomputable def zpn (P : Params) : Obj := ⟨(.type "super"), none, .fields #[(.ref 162), (.ref 162), (.ref 162)], #[]⟩
noncomputable def zpm (P : Params) : Obj := ⟨(.type "builtin_function_or_method"), none, .fields #[(.builtin "object.__init_subclass__"), (.ref 162)], #[]⟩
noncomputable def T3 (P : Params) : BT := insL (setL (T2 P) [(3, (x3_3 P)), (12, (x12_3 P)), (38, (ztk P))]) 78 [(x78_3 P), (x79_3 P), (zta P), (x81_3 P), (x82_3 P), (x83_3 P), (x84_3 P), (x85_3 P), (x86_3 P), (x87_3 P), (x88_3 P), (x89_3 P), (x90_3 P), (x91_3 P), (x92_3 P), (t6 P), (t5 P), (x95_3 P), (x96_3 P), (x97_3 P), (x98_3 P), (zsz P), (zrx P), (zrw P), (zrv P), (zru P), (zrt P), (zrs P), (zrr P), (zrq P), (zrp P), (ziq P), (zio P), (zro P), (zrn P), (zrm P), (zrl P), (zrk P), (zin P), (zim P), (zrj P), (zri P), (zrh P), (zrg P), (zrf P), (zil P), (zik P), (zre P), (zrd P), (zrc P), (zrb P), (zra P), (zqm P), (zql P), (zqk P), (zqj P), (zqi P), (zqh P), (zqg P), (zij P), (zii P), (zqf P), (zqe P), (zqd P), (zqc P), (zqb P), (zqa P), (q8 P), (q7 P), (q3 P), (q0 P), (zpz P), (zpy P), (zpx P), (zpw P), (zpv P), (zpu P), (zpt P), (zps P), (zpr P), (zih P), (zig P), (zpq P), (zif P), (zie P), (zpp P), (zpo P), (zpn P), (zpm P)]
noncomputable def s3 (P : Params) (os : OsState) : SharedT := shr (T3 P) 167 387 os
noncomputable def x3_4 (P : Params) : Obj := ⟨(.type "dict"), none, dA (x3_3 P) [en P "BitReader" 483 (.ref 239)] 18, #[]⟩
noncomputable def x12_4 (P : Params) : Obj := ⟨.none, none, fA (x12_3 P) [(.int 73 0), (.int 0 0), (.ref 172)], #[]⟩
noncomputable def zpl (P : Params) : Obj := ⟨(.type "tuple"), none, .seq #[] 0, #[]⟩
noncomputable def zpk (P : Params) : Obj := ⟨(.type "builtin_function_or_method"), none, .fields #[(.builtin "type.__prepare__"), (.type "type")], #[]⟩
noncomputable def zid (P : Params) : Obj := ⟨(.type "dict"), none, .dict #[en P "__module__" 394 (vs "packkit.bits" 297), en P "__qualname__" 396 (vs "BitReader" 395), en P "__firstlineno__" 398 (.int 73 397), en P "__init__" 406 (.ref 180), en P "left" 413 (.ref 187), en P "bit" 422 (.ref 194), en P "bits" 432 (.ref 201), en P "code" 442 (.ref 208), en P "unary" 449 (.ref 215), en P "gamma" 459 (.ref 222), en P "align" 466 (.ref 229), en P "place" 473 (.ref 236), en P "__static_attributes__" 476 (.ref 237)] 13, #[]⟩
noncomputable def zpj (P : Params) : Obj := ⟨(.type "tuple"), none, .seq #[] 0, #[]⟩
noncomputable def zpi (P : Params) : Obj := ⟨.none, none, .fields #[(.int 75 0), (.int 4 0), (.ref 179), (.int 79 0), (.int 4 0), (.ref 186), (.int 82 0), (.int 4 0), (.ref 193), (.int 90 0), (.int 4 0), (.ref 200), (.int 98 0), (.int 4 0), (.ref 207), (.int 104 0), (.int 4 0), (.ref 214), (.int 107 0), (.int 4 0), (.ref 221), (.int 116 0), (.int 4 0), (.ref 228), (.int 119 0), (.int 4 0), (.ref 235)], #[]⟩
noncomputable def zph (P : Params) : Obj := ⟨(.type "code"), none, .fields #[(vs "BitReader" 389), (vs "BitReader" 390), (vs "/claim/cut.py" 391), (.int 73 0), (.int 0 0), (.int 0 0), (.int 0 0), (.int 0 0), (.ref 170), (.bool false), (.int 181 0), (.ref 171), .none, .none, .none, .none, (.int 392 0), (.int 73 0), (vs "/claim/cut.py" 393)], #[]⟩
noncomputable def zpg (P : Params) : Obj := ⟨(.type "frame"), none, .plain, #[some (.ref 172), some (.ref 3), some (.ref 169), none, some (vs "packkit.bits" 297), none, some (.ref 0)]⟩
noncomputable def zpf (P : Params) : Obj := ⟨(.type "tuple"), none, .seq #[] 0, #[]⟩
noncomputable def zpe (P : Params) : Obj := ⟨.none, none, .fields #[], #[]⟩
noncomputable def zpd (P : Params) : Obj := ⟨(.type "tuple"), none, .seq #[(vs "self" 402), (vs "data" 403)] 0, #[]⟩
noncomputable def zpc (P : Params) : Obj := ⟨(.type "tuple"), none, .seq #[] 0, #[]⟩
noncomputable def zpb (P : Params) : Obj := ⟨.none, none, fo (C 10 0) (q "BitReader.__init__") .none .none .none .none none .none .none 0 0, #[]⟩
noncomputable def zpa (P : Params) : Obj := ⟨(.type "code"), none, .fields #[(vs "__init__" 399), (vs "BitReader.__init__" 400), (vs "/claim/cut.py" 401), (.int 75 0), (.int 2 0), (.int 0 0), (.int 0 0), (.int 3 0), (.ref 174), (.bool true), (.int 181 0), (.ref 175), .none, (.ref 176), (.ref 177), (.ref 178), (.int 404 0), (.int 75 0), (vs "/claim/cut.py" 405)], #[]⟩
noncomputable def p9 (P : Params) : Obj := ⟨(.type "function"), none, fo (C 10 0) (q "BitReader.__init__") .none .none .none (vs "packkit.bits" 297) none (.ref 179) .none 3 0, #[]⟩
noncomputable def p8 (P : Params) : Obj := ⟨(.type "tuple"), none, .seq #[] 0, #[]⟩
noncomputable def p7 (P : Params) : Obj := ⟨.none, none, .fields #[], #[]⟩
noncomputable def p6 (P : Params) : Obj := ⟨(.type "tuple"), none, .seq #[(vs "self" 410)] 0, #[]⟩
noncomputable def p5 (P : Params) : Obj := ⟨(.type "tuple"), none, .seq #[] 0, #[]⟩
noncomputable def p4 (P : Params) : Obj := ⟨.none, none, fo (C 10 1) (q "BitReader.left") .none .none .none .none none .none .none 0 0, #[]⟩
noncomputable def p0 (P : Params) : Obj := ⟨(.type "code"), none, .fields #[(vs "left" 407), (vs "BitReader.left" 408), (vs "/claim/cut.py" 409), (.int 79 0), (.int 1 0), (.int 0 0), (.int 0 0), (.int 3 0), (.ref 181), (.bool true), (.int 181 0), (.ref 182), .none, (.ref 183), (.ref 184), (.ref 185), (.int 411 0), (.int 79 0), (vs "/claim/cut.py" 412)], #[]⟩
noncomputable def zoz (P : Params) : Obj := ⟨(.type "function"), none, fo (C 10 1) (q "BitReader.left") .none .none .none (vs "packkit.bits" 297) none (.ref 186) .none 3 0, #[]⟩
noncomputable def zoy (P : Params) : Obj := ⟨(.type "tuple"), none, .seq #[] 0, #[]⟩
noncomputable def zox (P : Params) : Obj := ⟨.none, none, .fields #[], #[]⟩
noncomputable def zow (P : Params) : Obj := ⟨(.type "tuple"), none, .seq #[(vs "self" 417), (vs "byte" 418), (vs "value" 419)] 0, #[]⟩
noncomputable def zov (P : Params) : Obj := ⟨(.type "tuple"), none, .seq #[] 0, #[]⟩
noncomputable def zou (P : Params) : Obj := ⟨.none, none, fo (C 10 2) (q "BitReader.bit") .none .none .none .none none .none .none 0 0, #[]⟩
noncomputable def zot (P : Params) : Obj := ⟨(.type "code"), none, .fields #[(vs "bit" 414), (vs "BitReader.bit" 415), (vs "/claim/cut.py" 416), (.int 82 0), (.int 1 0), (.int 0 0), (.int 0 0), (.int 3 0), (.ref 188), (.bool true), (.int 181 0), (.ref 189), .none, (.ref 190), (.ref 191), (.ref 192), (.int 420 0), (.int 82 0), (vs "/claim/cut.py" 421)], #[]⟩
noncomputable def zos (P : Params) : Obj := ⟨(.type "function"), none, fo (C 10 2) (q "BitReader.bit") .none .none .none (vs "packkit.bits" 297) none (.ref 193) .none 3 0, #[]⟩
noncomputable def zor (P : Params) : Obj := ⟨(.type "tuple"), none, .seq #[] 0, #[]⟩
noncomputable def zoq (P : Params) : Obj := ⟨.none, none, .fields #[], #[]⟩
noncomputable def zop (P : Params) : Obj := ⟨(.type "tuple"), none, .seq #[(vs "self" 426), (vs "count" 427), (vs "value" 428), (vs "place" 429)] 0, #[]⟩
noncomputable def zoo (P : Params) : Obj := ⟨(.type "tuple"), none, .seq #[] 0, #[]⟩
noncomputable def zon (P : Params) : Obj := ⟨.none, none, fo (C 10 3) (q "BitReader.bits") .none .none .none .none none .none .none 0 0, #[]⟩
noncomputable def zom (P : Params) : Obj := ⟨(.type "code"), none, .fields #[(vs "bits" 423), (vs "BitReader.bits" 424), (vs "/claim/cut.py" 425), (.int 90 0), (.int 2 0), (.int 0 0), (.int 0 0), (.int 3 0), (.ref 195), (.bool true), (.int 181 0), (.ref 196), .none, (.ref 197), (.ref 198), (.ref 199), (.int 430 0), (.int 90 0), (vs "/claim/cut.py" 431)], #[]⟩
noncomputable def zol (P : Params) : Obj := ⟨(.type "function"), none, fo (C 10 3) (q "BitReader.bits") .none .none .none (vs "packkit.bits" 297) none (.ref 200) .none 3 0, #[]⟩
noncomputable def zok (P : Params) : Obj := ⟨(.type "tuple"), none, .seq #[] 0, #[]⟩
noncomputable def zoj (P : Params) : Obj := ⟨.none, none, .fields #[], #[]⟩
noncomputable def zoi (P : Params) : Obj := ⟨(.type "tuple"), none, .seq #[(vs "self" 436), (vs "count" 437), (vs "value" 438), (vs "k" 439)] 0, #[]⟩
noncomputable def zoh (P : Params) : Obj := ⟨(.type "tuple"), none, .seq #[] 0, #[]⟩
noncomputable def zog (P : Params) : Obj := ⟨.none, none, fo (C 10 4) (q "BitReader.code") .none .none .none .none none .none .none 0 0, #[]⟩
noncomputable def zof (P : Params) : Obj := ⟨(.type "code"), none, .fields #[(vs "code" 433), (vs "BitReader.code" 434), (vs "/claim/cut.py" 435), (.int 98 0), (.int 2 0), (.int 0 0), (.int 0 0), (.int 3 0), (.ref 202), (.bool true), (.int 181 0), (.ref 203), .none, (.ref 204), (.ref 205), (.ref 206), (.int 440 0), (.int 98 0), (vs "/claim/cut.py" 441)], #[]⟩
noncomputable def zoe (P : Params) : Obj := ⟨(.type "function"), none, fo (C 10 4) (q "BitReader.code") .none .none .none (vs "packkit.bits" 297) none (.ref 207) .none 3 0, #[]⟩
noncomputable def zod (P : Params) : Obj := ⟨(.type "tuple"), none, .seq #[] 0, #[]⟩
noncomputable def zoc (P : Params) : Obj := ⟨.none, none, .fields #[], #[]⟩
noncomputable def zob (P : Params) : Obj := ⟨(.type "tuple"), none, .seq #[(vs "self" 446)] 0, #[]⟩
noncomputable def zoa (P : Params) : Obj := ⟨(.type "tuple"), none, .seq #[] 0, #[]⟩
noncomputable def o8 (P : Params) : Obj := ⟨.none, none, fo (C 10 5) (q "BitReader.unary") .none .none .none .none none .none .none 0 0, #[]⟩
noncomputable def o6 (P : Params) : Obj := ⟨(.type "code"), none, .fields #[(vs "unary" 443), (vs "BitReader.unary" 444), (vs "/claim/cut.py" 445), (.int 104 0), (.int 1 0), (.int 0 0), (.int 0 0), (.int 3 0), (.ref 209), (.bool true), (.int 181 0), (.ref 210), .none, (.ref 211), (.ref 212), (.ref 213), (.int 447 0), (.int 104 0), (vs "/claim/cut.py" 448)], #[]⟩
noncomputable def o5 (P : Params) : Obj := ⟨(.type "function"), none, fo (C 10 5) (q "BitReader.unary") .none .none .none (vs "packkit.bits" 297) none (.ref 214) .none 3 0, #[]⟩
noncomputable def o4 (P : Params) : Obj := ⟨(.type "tuple"), none, .seq #[] 0, #[]⟩
noncomputable def znz (P : Params) : Obj := ⟨.none, none, .fields #[], #[]⟩
noncomputable def zny (P : Params) : Obj := ⟨(.type "tuple"), none, .seq #[(vs "self" 453), (vs "size" 454), (vs "value" 455), (vs "k" 456)] 0, #[]⟩
noncomputable def znx (P : Params) : Obj := ⟨(.type "tuple"), none, .seq #[] 0, #[]⟩
noncomputable def znw (P : Params) : Obj := ⟨.none, none, fo (C 10 6) (q "BitReader.gamma") .none .none .none .none none .none .none 0 0, #[]⟩
noncomputable def znv (P : Params) : Obj := ⟨(.type "code"), none, .fields #[(vs "gamma" 450), (vs "BitReader.gamma" 451), (vs "/claim/cut.py" 452), (.int 107 0), (.int 1 0), (.int 0 0), (.int 0 0), (.int 3 0), (.ref 216), (.bool true), (.int 181 0), (.ref 217), .none, (.ref 218), (.ref 219), (.ref 220), (.int 457 0), (.int 107 0), (vs "/claim/cut.py" 458)], #[]⟩
noncomputable def znu (P : Params) : Obj := ⟨(.type "function"), none, fo (C 10 6) (q "BitReader.gamma") .none .none .none (vs "packkit.bits" 297) none (.ref 221) .none 3 0, #[]⟩
noncomputable def znt (P : Params) : Obj := ⟨(.type "tuple"), none, .seq #[] 0, #[]⟩
noncomputable def zns (P : Params) : Obj := ⟨.none, none, .fields #[], #[]⟩
noncomputable def znr (P : Params) : Obj := ⟨(.type "tuple"), none, .seq #[(vs "self" 463)] 0, #[]⟩
noncomputable def znq (P : Params) : Obj := ⟨(.type "tuple"), none, .seq #[] 0, #[]⟩
noncomputable def znp (P : Params) : Obj := ⟨.none, none, fo (C 10 7) (q "BitReader.align") .none .none .none .none none .none .none 0 0, #[]⟩
noncomputable def zno (P : Params) : Obj := ⟨(.type "code"), none, .fields #[(vs "align" 460), (vs "BitReader.align" 461), (vs "/claim/cut.py" 462), (.int 116 0), (.int 1 0), (.int 0 0), (.int 0 0), (.int 3 0), (.ref 223), (.bool true), (.int 181 0), (.ref 224), .none, (.ref 225), (.ref 226), (.ref 227), (.int 464 0), (.int 116 0), (vs "/claim/cut.py" 465)], #[]⟩
noncomputable def znn (P : Params) : Obj := ⟨(.type "function"), none, fo (C 10 7) (q "BitReader.align") .none .none .none (vs "packkit.bits" 297) none (.ref 228) .none 3 0, #[]⟩
noncomputable def znm (P : Params) : Obj := ⟨(.type "tuple"), none, .seq #[] 0, #[]⟩
noncomputable def znl (P : Params) : Obj := ⟨.none, none, .fields #[], #[]⟩
noncomputable def znk (P : Params) : Obj := ⟨(.type "tuple"), none, .seq #[(vs "self" 470)] 0, #[]⟩
noncomputable def znj (P : Params) : Obj := ⟨(.type "tuple"), none, .seq #[] 0, #[]⟩
noncomputable def zni (P : Params) : Obj := ⟨.none, none, fo (C 10 8) (q "BitReader.place") .none .none .none .none none .none .none 0 0, #[]⟩
noncomputable def znh (P : Params) : Obj := ⟨(.type "code"), none, .fields #[(vs "place" 467), (vs "BitReader.place" 468), (vs "/claim/cut.py" 469), (.int 119 0), (.int 1 0), (.int 0 0), (.int 0 0), (.int 3 0), (.ref 230), (.bool true), (.int 181 0), (.ref 231), .none, (.ref 232), (.ref 233), (.ref 234), (.int 471 0), (.int 119 0), (vs "/claim/cut.py" 472)], #[]⟩
noncomputable def zng (P : Params) : Obj := ⟨(.type "function"), none, fo (C 10 8) (q "BitReader.place") .none .none .none (vs "packkit.bits" 297) none (.ref 235) .none 3 0, #[]⟩
noncomputable def znf (P : Params) : Obj := ⟨(.type "tuple"), none, .seq #[(vs "_at" 474), (vs "_data" 475)] 0, #[]⟩
noncomputable def zic (P : Params) : Obj := ⟨(.type "dict"), none, .dict #[en P "__module__" 394 (vs "packkit.bits" 297), en P "__firstlineno__" 398 (.int 73 397), en P "__init__" 406 (.ref 180), en P "left" 413 (.ref 187), en P "bit" 422 (.ref 194), en P "bits" 432 (.ref 201), en P "code" 442 (.ref 208), en P "unary" 449 (.ref 215), en P "gamma" 459 (.ref 222), en P "align" 466 (.ref 229), en P "place" 473 (.ref 236), en P "__static_attributes__" 476 (.ref 237), en P "__dict__" 478 (.ref 240), en P "__weakref__" 480 (.ref 241), en P "__doc__" 481 .none] 4, #[]⟩
noncomputable def zib (P : Params) : Obj := ⟨(.type "type"), none, .cls { name := (q "BitReader"), bases := [(.type "object")], mro := [(.ref 239), (.type "object")], ns := 238, qualname := (q "BitReader"), hasDict := true, slotNames := [], subclasses := [], abstract := false, collection := .none, hasDel := false }, #[none, none, some (vs "BitReader" 387), some (vs "BitReader" 395), some (.builtin "object.__new__"), some (.bool true)]⟩
noncomputable def zne (P : Params) : Obj := ⟨(.type "getset_descriptor"), none, .fields #[(vs "__dict__" 477), (.ref 239), (.builtin "function.__dict__"), (.builtin "function.__dict__#set")], #[]⟩
noncomputable def znd (P : Params) : Obj := ⟨(.type "getset_descriptor"), none, .fields #[(vs "__weakref__" 479), (.ref 239), (.builtin "ExceptionGroup.__weakref__"), .none], #[]⟩
noncomputable def znc (P : Params) : Obj := ⟨(.type "super"), none, .fields #[(.ref 239), (.ref 239), (.ref 239)], #[]⟩
noncomputable def znb (P : Params) : Obj := ⟨(.type "builtin_function_or_method"), none, .fields #[(.builtin "object.__init_subclass__"), (.ref 239)], #[]⟩
noncomputable def T4 (P : Params) : BT := insL (setL (T3 P) [(3, (x3_4 P)), (12, (x12_4 P))]) 167 [(zpl P), (zpk P), (zid P), (zpj P), (zpi P), (zph P), (zpg P), (zpf P), (zpe P), (zpd P), (zpc P), (zpb P), (zpa P), (p9 P), (p8 P), (p7 P), (p6 P), (p5 P), (p4 P), (p0 P), (zoz P), (zoy P), (zox P), (zow P), (zov P), (zou P), (zot P), (zos P), (zor P), (zoq P), (zop P), (zoo P), (zon P), (zom P), (zol P), (zok P), (zoj P), (zoi P), (zoh P), (zog P), (zof P), (zoe P), (zod P), (zoc P), (zob P), (zoa P), (o8 P), (o6 P), (o5 P), (o4 P), (znz P), (zny P), (znx P), (znw P), (znv P), (znu P), (znt P), (zns P), (znr P), (znq P), (znp P), (zno P), (znn P), (znm P), (znl P), (znk P), (znj P), (zni P), (znh P), (zng P), (znf P), (zic P), (zib P), (zne P), (znd P), (znc P), (znb P)]
noncomputable def s4 (P : Params) (os : OsState) : SharedT := shr (T4 P) 244 484 os
noncomputable def x3_5 (P : Params) : Obj := ⟨(.type "dict"), none, dB (x3_4 P) [(0, en P "__name__" 165 (vs "packkit.checks" 552))] [en P "number_bytes" 491 (.ref 250), en P "read_number" 502 (.ref 257), en P "fixed_bytes" 512 (.ref 264), en P "read_fixed" 523 (.ref 271), en P "text_data" 532 (.ref 278), en P "text_bytes" 540 (.ref 285), en P "read_text" 551 (.ref 292), en P "_POLY" 555 (.int 3988292384 554), en P "make_table" 565 (.ref 299)] 27, #[]⟩
noncomputable def x12_5 (P : Params) : Obj := ⟨.none, none, fA (x12_4 P) [(.int 123 0), (.int 0 0), (.ref 249), (.int 132 0), (.int 0 0), (.ref 256), (.int 148 0), (.int 0 0), (.ref 263), (.int 155 0), (.int 0 0), (.ref 270), (.int 162 0), (.int 0 0), (.ref 277), (.int 172 0), (.int 0 0), (.ref 284), (.int 175 0), (.int 0 0), (.ref 291), (.int 189 0), (.int 0 0), (.ref 298)], #[]⟩
noncomputable def x244_5 (P : Params) : Obj := ⟨(.type "tuple"), none, .seq #[] 0, #[]⟩
noncomputable def x245_5 (P : Params) : Obj := ⟨.none, none, .fields #[], #[]⟩
noncomputable def x246_5 (P : Params) : Obj := ⟨(.type "tuple"), none, .seq #[(vs "number" 487), (vs "out" 488)] 0, #[]⟩
noncomputable def x247_5 (P : Params) : Obj := ⟨(.type "tuple"), none, .seq #[] 0, #[]⟩
noncomputable def x248_5 (P : Params) : Obj := ⟨.none, none, fo (S 11) (q "number_bytes") .none .none .none .none none .none .none 0 0, #[]⟩
noncomputable def zna (P : Params) : Obj := ⟨(.type "code"), none, .fields #[(vs "number_bytes" 484), (vs "number_bytes" 485), (vs "/claim/cut.py" 486), (.int 123 0), (.int 1 0), (.int 0 0), (.int 0 0), (.int 3 0), (.ref 244), (.bool true), (.int 181 0), (.ref 245), .none, (.ref 246), (.ref 247), (.ref 248), (.int 489 0), (.int 123 0), (vs "/claim/cut.py" 490)], #[]⟩
noncomputable def n8 (P : Params) : Obj := ⟨(.type "function"), none, fo (S 11) (q "number_bytes") .none .none .none (vs "packkit.bits" 297) none (.ref 249) .none 3 0, #[]⟩
noncomputable def x251_5 (P : Params) : Obj := ⟨(.type "tuple"), none, .seq #[] 0, #[]⟩
noncomputable def x252_5 (P : Params) : Obj := ⟨.none, none, .fields #[], #[]⟩
noncomputable def x253_5 (P : Params) : Obj := ⟨(.type "tuple"), none, .seq #[(vs "data" 495), (vs "at" 496), (vs "value" 497), (vs "shift" 498), (vs "byte" 499)] 0, #[]⟩
noncomputable def x254_5 (P : Params) : Obj := ⟨(.type "tuple"), none, .seq #[] 0, #[]⟩
noncomputable def x255_5 (P : Params) : Obj := ⟨.none, none, fo (S 12) (q "read_number") .none .none .none .none none .none .none 0 0, #[]⟩
noncomputable def n7 (P : Params) : Obj := ⟨(.type "code"), none, .fields #[(vs "read_number" 492), (vs "read_number" 493), (vs "/claim/cut.py" 494), (.int 132 0), (.int 2 0), (.int 0 0), (.int 0 0), (.int 3 0), (.ref 251), (.bool true), (.int 181 0), (.ref 252), .none, (.ref 253), (.ref 254), (.ref 255), (.int 500 0), (.int 132 0), (vs "/claim/cut.py" 501)], #[]⟩
noncomputable def n6 (P : Params) : Obj := ⟨(.type "function"), none, fo (S 12) (q "read_number") .none .none .none (vs "packkit.bits" 297) none (.ref 256) .none 3 0, #[]⟩
noncomputable def x258_5 (P : Params) : Obj := ⟨(.type "tuple"), none, .seq #[] 0, #[]⟩
noncomputable def x259_5 (P : Params) : Obj := ⟨.none, none, .fields #[], #[]⟩
noncomputable def x260_5 (P : Params) : Obj := ⟨(.type "tuple"), none, .seq #[(vs "number" 506), (vs "size" 507), (vs "out" 508), (vs "k" 509)] 0, #[]⟩
noncomputable def x261_5 (P : Params) : Obj := ⟨(.type "tuple"), none, .seq #[] 0, #[]⟩
noncomputable def x262_5 (P : Params) : Obj := ⟨.none, none, fo (S 13) (q "fixed_bytes") .none .none .none .none none .none .none 0 0, #[]⟩
noncomputable def n5 (P : Params) : Obj := ⟨(.type "code"), none, .fields #[(vs "fixed_bytes" 503), (vs "fixed_bytes" 504), (vs "/claim/cut.py" 505), (.int 148 0), (.int 2 0), (.int 0 0), (.int 0 0), (.int 3 0), (.ref 258), (.bool true), (.int 181 0), (.ref 259), .none, (.ref 260), (.ref 261), (.ref 262), (.int 510 0), (.int 148 0), (vs "/claim/cut.py" 511)], #[]⟩
noncomputable def n4 (P : Params) : Obj := ⟨(.type "function"), none, fo (S 13) (q "fixed_bytes") .none .none .none (vs "packkit.bits" 297) none (.ref 263) .none 3 0, #[]⟩
noncomputable def x265_5 (P : Params) : Obj := ⟨(.type "tuple"), none, .seq #[] 0, #[]⟩
noncomputable def x266_5 (P : Params) : Obj := ⟨.none, none, .fields #[], #[]⟩
noncomputable def x267_5 (P : Params) : Obj := ⟨(.type "tuple"), none, .seq #[(vs "data" 516), (vs "at" 517), (vs "size" 518), (vs "value" 519), (vs "k" 520)] 0, #[]⟩
noncomputable def x268_5 (P : Params) : Obj := ⟨(.type "tuple"), none, .seq #[] 0, #[]⟩
noncomputable def x269_5 (P : Params) : Obj := ⟨.none, none, fo (S 14) (q "read_fixed") .none .none .none .none none .none .none 0 0, #[]⟩
noncomputable def n3 (P : Params) : Obj := ⟨(.type "code"), none, .fields #[(vs "read_fixed" 513), (vs "read_fixed" 514), (vs "/claim/cut.py" 515), (.int 155 0), (.int 3 0), (.int 0 0), (.int 0 0), (.int 3 0), (.ref 265), (.bool true), (.int 181 0), (.ref 266), .none, (.ref 267), (.ref 268), (.ref 269), (.int 521 0), (.int 155 0), (vs "/claim/cut.py" 522)], #[]⟩
noncomputable def n1 (P : Params) : Obj := ⟨(.type "function"), none, fo (S 14) (q "read_fixed") .none .none .none (vs "packkit.bits" 297) none (.ref 270) .none 3 0, #[]⟩
noncomputable def x272_5 (P : Params) : Obj := ⟨(.type "tuple"), none, .seq #[] 0, #[]⟩
noncomputable def x273_5 (P : Params) : Obj := ⟨.none, none, .fields #[], #[]⟩
noncomputable def x274_5 (P : Params) : Obj := ⟨(.type "tuple"), none, .seq #[(vs "text" 527), (vs "found" 528), (vs "data" 529)] 0, #[]⟩
noncomputable def x275_5 (P : Params) : Obj := ⟨(.type "tuple"), none, .seq #[] 0, #[]⟩
noncomputable def x276_5 (P : Params) : Obj := ⟨.none, none, fo (S 15) (q "text_data") .none .none .none .none none .none .none 0 0, #[]⟩
noncomputable def n0 (P : Params) : Obj := ⟨(.type "code"), none, .fields #[(vs "text_data" 524), (vs "text_data" 525), (vs "/claim/cut.py" 526), (.int 162 0), (.int 1 0), (.int 0 0), (.int 0 0), (.int 3 0), (.ref 272), (.bool true), (.int 181 0), (.ref 273), .none, (.ref 274), (.ref 275), (.ref 276), (.int 530 0), (.int 162 0), (vs "/claim/cut.py" 531)], #[]⟩
noncomputable def zmz (P : Params) : Obj := ⟨(.type "function"), none, fo (S 15) (q "text_data") .none .none .none (vs "packkit.bits" 297) none (.ref 277) .none 3 0, #[]⟩
noncomputable def x279_5 (P : Params) : Obj := ⟨(.type "tuple"), none, .seq #[] 0, #[]⟩
noncomputable def x280_5 (P : Params) : Obj := ⟨.none, none, .fields #[], #[]⟩
noncomputable def x281_5 (P : Params) : Obj := ⟨(.type "tuple"), none, .seq #[(vs "text" 536), (vs "data" 537)] 0, #[]⟩
noncomputable def x282_5 (P : Params) : Obj := ⟨(.type "tuple"), none, .seq #[] 0, #[]⟩
noncomputable def x283_5 (P : Params) : Obj := ⟨.none, none, fo (S 16) (q "text_bytes") .none .none .none .none none .none .none 0 0, #[]⟩
noncomputable def zmy (P : Params) : Obj := ⟨(.type "code"), none, .fields #[(vs "text_bytes" 533), (vs "text_bytes" 534), (vs "/claim/cut.py" 535), (.int 172 0), (.int 1 0), (.int 0 0), (.int 0 0), (.int 3 0), (.ref 279), (.bool true), (.int 181 0), (.ref 280), .none, (.ref 281), (.ref 282), (.ref 283), (.int 538 0), (.int 172 0), (vs "/claim/cut.py" 539)], #[]⟩
noncomputable def zmx (P : Params) : Obj := ⟨(.type "function"), none, fo (S 16) (q "text_bytes") .none .none .none (vs "packkit.bits" 297) none (.ref 284) .none 3 0, #[]⟩
noncomputable def x286_5 (P : Params) : Obj := ⟨(.type "tuple"), none, .seq #[] 0, #[]⟩
noncomputable def x287_5 (P : Params) : Obj := ⟨.none, none, .fields #[], #[]⟩
noncomputable def x288_5 (P : Params) : Obj := ⟨(.type "tuple"), none, .seq #[(vs "data" 544), (vs "at" 545), (vs "size" 546), (vs "piece" 547), (vs "text" 548)] 0, #[]⟩
noncomputable def x289_5 (P : Params) : Obj := ⟨(.type "tuple"), none, .seq #[] 0, #[]⟩
noncomputable def x290_5 (P : Params) : Obj := ⟨.none, none, fo (S 17) (q "read_text") .none .none .none .none none .none .none 0 0, #[]⟩
noncomputable def zmw (P : Params) : Obj := ⟨(.type "code"), none, .fields #[(vs "read_text" 541), (vs "read_text" 542), (vs "/claim/cut.py" 543), (.int 175 0), (.int 2 0), (.int 0 0), (.int 0 0), (.int 3 0), (.ref 286), (.bool true), (.int 181 0), (.ref 287), .none, (.ref 288), (.ref 289), (.ref 290), (.int 549 0), (.int 175 0), (vs "/claim/cut.py" 550)], #[]⟩
noncomputable def zmv (P : Params) : Obj := ⟨(.type "function"), none, fo (S 17) (q "read_text") .none .none .none (vs "packkit.bits" 297) none (.ref 291) .none 3 0, #[]⟩
noncomputable def x293_5 (P : Params) : Obj := ⟨(.type "tuple"), none, .seq #[] 0, #[]⟩
noncomputable def x294_5 (P : Params) : Obj := ⟨.none, none, .fields #[], #[]⟩
noncomputable def x295_5 (P : Params) : Obj := ⟨(.type "tuple"), none, .seq #[(vs "table" 559), (vs "byte" 560), (vs "value" 561), (vs "k" 562)] 0, #[]⟩
noncomputable def x296_5 (P : Params) : Obj := ⟨(.type "tuple"), none, .seq #[] 0, #[]⟩
noncomputable def x297_5 (P : Params) : Obj := ⟨.none, none, fo (S 20) (q "make_table") .none .none .none .none none .none .none 0 0, #[]⟩
noncomputable def x298_5 (P : Params) : Obj := ⟨(.type "code"), none, .fields #[(vs "make_table" 556), (vs "make_table" 557), (vs "/claim/cut.py" 558), (.int 189 0), (.int 0 0), (.int 0 0), (.int 0 0), (.int 3 0), (.ref 293), (.bool true), (.int 181 0), (.ref 294), .none, (.ref 295), (.ref 296), (.ref 297), (.int 563 0), (.int 189 0), (vs "/claim/cut.py" 564)], #[]⟩
noncomputable def x299_5 (P : Params) : Obj := ⟨(.type "function"), none, fo (S 20) (q "make_table") .none .none .none (vs "packkit.checks" 552) none (.ref 298) .none 3 0, #[]⟩
noncomputable def L5 (P : Params) : List Obj := [boot_o_0 P, boot_o_1 P, boot_o_2 P, x3_5 P, boot_o_4 P, boot_o_5 P, boot_o_6 P, boot_o_7 P, boot_o_8 P, boot_o_9 P, boot_o_10 P, ztq P, x12_5 P, ztp P, zto P, ztn P, x16_1 P, x17_1 P, x18_1 P, x19_1 P, x20_1 P, x21_1 P, x22_1 P, x23_1 P, x24_1 P, x25_1 P, x26_1 P, x27_1 P, x28_1 P, x29_1 P, x30_1 P, ztm P, x32_1 P, x33_1 P, x34_1 P, x35_1 P, x36_1 P, ztl P, ztk P, x39_1 P, x40_1 P, x41_1 P, x42_2 P, x43_2 P, ztj P, x45_2 P, x46_2 P, x47_2 P, x48_2 P, x49_2 P, zti P, zth P, x52_2 P, x53_2 P, x54_2 P, x55_2 P, ztg P, x57_2 P, x58_2 P, x59_2 P, x60_2 P, x61_2 P, ztf P, zte P, x64_2 P, x65_2 P, x66_2 P, x67_2 P, ztd P, x69_2 P, x70_2 P, x71_2 P, x72_2 P, x73_2 P, ztc P, ztb P, x76_2 P, x77_2 P, x78_3 P, x79_3 P, zta P, x81_3 P, x82_3 P, x83_3 P, x84_3 P, x85_3 P, x86_3 P, x87_3 P, x88_3 P, x89_3 P, x90_3 P, x91_3 P, x92_3 P, t6 P, t5 P, x95_3 P, x96_3 P, x97_3 P, x98_3 P, zsz P, zrx P, zrw P, zrv P, zru P, zrt P, zrs P, zrr P, zrq P, zrp P, ziq P, zio P, zro P, zrn P, zrm P, zrl P, zrk P, zin P, zim P, zrj P, zri P, zrh P, zrg P, zrf P, zil P, zik P, zre P, zrd P, zrc P, zrb P, zra P, zqm P, zql P, zqk P, zqj P, zqi P, zqh P, zqg P, zij P, zii P, zqf P, zqe P, zqd P, zqc P, zqb P, zqa P, q8 P, q7 P, q3 P, q0 P, zpz P, zpy P, zpx P, zpw P, zpv P, zpu P, zpt P, zps P, zpr P, zih P, zig P, zpq P, zif P, zie P, zpp P, zpo P, zpn P, zpm P, zpl P, zpk P, zid P, zpj P, zpi P, zph P, zpg P, zpf P, zpe P, zpd P, zpc P, zpb P, zpa P, p9 P, p8 P, p7 P, p6 P, p5 P, p4 P, p0 P, zoz P, zoy P, zox P, zow P, zov P, zou P, zot P, zos P, zor P, zoq P, zop P, zoo P, zon P, zom P, zol P, zok P, zoj P, zoi P, zoh P, zog P, zof P, zoe P, zod P, zoc P, zob P, zoa P, o8 P, o6 P, o5 P, o4 P, znz P, zny P, znx P, znw P, znv P, znu P, znt P, zns P, znr P, znq P, znp P, zno P, znn P, znm P, znl P, znk P, znj P, zni P, znh P, zng P, znf P, zic P, zib P, zne P, znd P, znc P, znb P, x244_5 P, x245_5 P, x246_5 P, x247_5 P, x248_5 P, zna P, n8 P, x251_5 P, x252_5 P, x253_5 P, x254_5 P, x255_5 P, n7 P, n6 P, x258_5 P, x259_5 P, x260_5 P, x261_5 P, x262_5 P, n5 P, n4 P, x265_5 P, x266_5 P, x267_5 P, x268_5 P, x269_5 P, n3 P, n1 P, x272_5 P, x273_5 P, x274_5 P, x275_5 P, x276_5 P, n0 P, zmz P, x279_5 P, x280_5 P, x281_5 P, x282_5 P, x283_5 P, zmy P, zmx P, x286_5 P, x287_5 P, x288_5 P, x289_5 P, x290_5 P, zmw P, zmv P, x293_5 P, x294_5 P, x295_5 P, x296_5 P, x297_5 P, x298_5 P, x299_5 P]
noncomputable def T5 (P : Params) : BT := mkF (fun i => (L5 P).getD i tup0) 300 12 1 0
noncomputable def s5 (P : Params) (os : OsState) : SharedT := shr (T5 P) 300 566 os
noncomputable def rowL : List Value := [.int 0 630, .int 1996959894 694, .int 3993919788 758, .int 2567524794 824, .int 124634137 887, .int 1886057615 952, .int 3915621685 1017, .int 2657392035 1084, .int 249268274 1147, .int 2044508324 1212, .int 3772115230 1277, .int 2547177864 1344, .int 162941995 1408, .int 2125561021 1474, .int 3887607047 1540, .int 2428444049 1608, .int 498536548 1671, .int 1789927666 1736, .int 4089016648 1801, .int 2227061214 1868, .int 450548861 1932, .int 1843258603 1998, .int 4107580753 2064, .int 2211677639 2132, .int 325883990 2196, .int 1684777152 2262, .int 4251122042 2328, .int 2321926636 2396, .int 335633487 2461, .int 1661365465 2528, .int 4195302755 2595, .int 2366115317 2664, .int 997073096 2727, .int 1281953886 2792, .int 3579855332 2857, .int 2724688242 2924, .int 1006888145 2988, .int 1258607687 3054, .int 3524101629 3120, .int 2768942443 3188, .int 901097722 3252, .int 1119000684 3318, .int 3686517206 3384, .int 2898065728 3452, .int 853044451 3517, .int 1172266101 3584, .int 3705015759 3651, .int 2882616665 3720, .int 651767980 3784, .int 1373503546 3850, .int 3369554304 3916, .int 3218104598 3984, .int 565507253 4049, .int 1454621731 4116, .int 3485111705 4183, .int 3099436303 4252, .int 671266974 4317, .int 1594198024 4384, .int 3322730930 4451, .int 2970347812 4520, .int 795835527 4586, .int 1483230225 4654, .int 3244367275 4722, .int 3060149565 4792, .int 1994146192 4855, .int 31158534 4918, .int 2563907772 4983, .int 4023717930 5048, .int 1907459465 5112, .int 112637215 5176, .int 2680153253 5242, .int 3904427059 5308, .int 2013776290 5372, .int 251722036 5436, .int 2517215374 5502, .int 3775830040 5568, .int 2137656763 5633, .int 141376813 5698, .int 2439277719 5765, .int 3865271297 5832, .int 1802195444 5896, .int 476864866 5960, .int 2238001368 6026, .int 4066508878 6092, .int 1812370925 6157, .int 453092731 6222, .int 2181625025 6289, .int 4111451223 6356, .int 1706088902 6421, .int 314042704 6486, .int 2344532202 6553, .int 4240017532 6620, .int 1658658271 6686, .int 366619977 6752, .int 2362670323 6820, .int 4224994405 6888, .int 1303535960 6952, .int 984961486 7016, .int 2747007092 7082, .int 3569037538 7148, .int 1256170817 7213, .int 1037604311 7278, .int 2765210733 7345, .int 3554079995 7412, .int 1131014506 7477, .int 879679996 7542, .int 2909243462 7609, .int 3663771856 7676, .int 1141124467 7742, .int 855842277 7808, .int 2852801631 7876, .int 3708648649 7944, .int 1342533948 8009, .int 654459306 8074, .int 3188396048 8141, .int 3373015174 8208, .int 1466479909 8274, .int 544179635 8340, .int 3110523913 8408, .int 3462522015 8476, .int 1591671054 8542, .int 702138776 8608, .int 2966460450 8676, .int 3352799412 8744, .int 1504918807 8811, .int 783551873 8878, .int 3082640443 8947, .int 3233442989 9016, .int 3988292384 9079, .int 2596254646 9144, .int 62317068 9207, .int 1957810842 9272, .int 3939845945 9336, .int 2647816111 9402, .int 81470997 9466, .int 1943803523 9532, .int 3814918930 9596, .int 2489596804 9662, .int 225274430 9726, .int 2053790376 9792, .int 3826175755 9857, .int 2466906013 9924, .int 167816743 9989, .int 2097651377 10056, .int 4027552580 10120, .int 2265490386 10186, .int 503444072 10250, .int 1762050814 10316, .int 4150417245 10381, .int 2154129355 10448, .int 426522225 10513, .int 1852507879 10580, .int 4275313526 10645, .int 2312317920 10712, .int 282753626 10777, .int 1742555852 10844, .int 4189708143 10910, .int 2394877945 10978, .int 397917763 11044, .int 1622183637 11112, .int 3604390888 11176, .int 2714866558 11242, .int 953729732 11306, .int 1340076626 11372, .int 3518719985 11437, .int 2797360999 11504, .int 1068828381 11569, .int 1219638859 11636, .int 3624741850 11701, .int 2936675148 11768, .int 906185462 11833, .int 1090812512 11900, .int 3747672003 11966, .int 2825379669 12034, .int 829329135 12100, .int 1181335161 12168, .int 3412177804 12233, .int 3160834842 12300, .int 628085408 12365, .int 1382605366 12432, .int 3423369109 12498, .int 3138078467 12566, .int 570562233 12632, .int 1426400815 12700, .int 3317316542 12766, .int 2998733608 12834, .int 733239954 12900, .int 1555261956 12968, .int 3268935591 13035, .int 3050360625 13104, .int 752459403 13171, .int 1541320221 13240, .int 2607071920 13304, .int 3965973030 13368, .int 1969922972 13432, .int 40735498 13496, .int 2617837225 13561, .int 3943577151 13626, .int 1913087877 13691, .int 83908371 13756, .int 2512341634 13821, .int 3803740692 13886, .int 2075208622 13951, .int 213261112 14016, .int 2463272603 14082, .int 3855990285 14148, .int 2094854071 14214, .int 198958881 14280, .int 2262029012 14345, .int 4057260610 14410, .int 1759359992 14475, .int 534414190 14540, .int 2176718541 14606, .int 4139329115 14672, .int 1873836001 14738, .int 414664567 14804, .int 2282248934 14870, .int 4279200368 14936, .int 1711684554 15002, .int 285281116 15068, .int 2405801727 15135, .int 4167216745 15202, .int 1634467795 15269, .int 376229701 15336, .int 2685067896 15401, .int 3608007406 15466, .int 1308918612 15531, .int 956543938 15596, .int 2808555105 15662, .int 3495958263 15728, .int 1231636301 15794, .int 1047427035 15860, .int 2932959818 15926, .int 3654703836 15992, .int 1088359270 16058, .int 936918000 16124, .int 2847714899 16191, .int 3736837829 16258, .int 1202900863 16325, .int 817233897 16392, .int 3183342108 16458, .int 3401237130 16524, .int 1404277552 16590, .int 615818150 16656, .int 3134207493 16723, .int 3453421203 16790, .int 1423857449 16857, .int 601450431 16924, .int 3009837614 16991, .int 3294710456 17058, .int 1567103746 17125, .int 711928724 17192, .int 3020668471 17260, .int 3272380065 17328, .int 1510334235 17396, .int 755167117 17464]
noncomputable def tkL : List (Nat × Nat) := [(573, 0), (635, 625), (699, 689), (763, 752), (829, 818), (892, 882), (957, 947), (1022, 1011), (1089, 1078), (1152, 1142), (1217, 1207), (1282, 1271), (1349, 1338), (1413, 1403), (1479, 1469), (1545, 1534), (1613, 1602), (1676, 1666), (1741, 1731), (1806, 1795), (1873, 1862), (1937, 1927), (2003, 1993), (2069, 2058), (2137, 2126), (2201, 2191), (2267, 2257), (2333, 2322), (2401, 2390), (2466, 2456), (2533, 2523), (2600, 2589), (2669, 2658), (2732, 2722), (2797, 2787), (2862, 2851), (2929, 2918), (2993, 2983), (3059, 3049), (3125, 3114), (3193, 3182), (3257, 3247), (3323, 3313), (3389, 3378), (3457, 3446), (3522, 3512), (3589, 3579), (3656, 3645), (3725, 3714), (3789, 3779), (3855, 3845), (3921, 3910), (3989, 3978), (4054, 4044), (4121, 4111), (4188, 4177), (4257, 4246), (4322, 4312), (4389, 4379), (4456, 4445), (4525, 4514), (4591, 4581), (4659, 4649), (4727, 4716), (4797, 4786), (4860, 4850), (4923, 4913), (4988, 4977), (5053, 5042), (5117, 5107), (5181, 5171), (5247, 5236), (5313, 5302), (5377, 5367), (5441, 5431), (5507, 5496), (5573, 5562), (5638, 5628), (5703, 5693), (5770, 5759), (5837, 5826), (5901, 5891), (5965, 5955), (6031, 6020), (6097, 6086), (6162, 6152), (6227, 6217), (6294, 6283), (6361, 6350), (6426, 6416), (6491, 6481), (6558, 6547), (6625, 6614), (6691, 6681), (6757, 6747), (6825, 6814), (6893, 6882), (6957, 6947), (7021, 7011), (7087, 7076), (7153, 7142), (7218, 7208), (7283, 7273), (7350, 7339), (7417, 7406), (7482, 7472), (7547, 7537), (7614, 7603), (7681, 7670), (7747, 7737), (7813, 7803), (7881, 7870), (7949, 7938), (8014, 8004), (8079, 8069), (8146, 8135), (8213, 8202), (8279, 8269), (8345, 8335), (8413, 8402), (8481, 8470), (8547, 8537), (8613, 8603), (8681, 8670), (8749, 8738), (8816, 8806), (8883, 8873), (8952, 8941), (9021, 9010), (9084, 9073), (9149, 9138), (9212, 9202), (9277, 9267), (9341, 9330), (9407, 9396), (9471, 9461), (9537, 9527), (9601, 9590), (9667, 9656), (9731, 9721), (9797, 9787), (9862, 9851), (9929, 9918), (9994, 9984), (10061, 10051), (10125, 10114), (10191, 10180), (10255, 10245), (10321, 10311), (10386, 10375), (10453, 10442), (10518, 10508), (10585, 10575), (10650, 10639), (10717, 10706), (10782, 10772), (10849, 10839), (10915, 10904), (10983, 10972), (11049, 11039), (11117, 11107), (11181, 11170), (11247, 11236), (11311, 11301), (11377, 11367), (11442, 11431), (11509, 11498), (11574, 11564), (11641, 11631), (11706, 11695), (11773, 11762), (11838, 11828), (11905, 11895), (11971, 11960), (12039, 12028), (12105, 12095), (12173, 12163), (12238, 12227), (12305, 12294), (12370, 12360), (12437, 12427), (12503, 12492), (12571, 12560), (12637, 12627), (12705, 12695), (12771, 12760), (12839, 12828), (12905, 12895), (12973, 12963), (13040, 13029), (13109, 13098), (13176, 13166), (13245, 13235), (13309, 13298), (13373, 13362), (13437, 13427), (13501, 13491), (13566, 13555), (13631, 13620), (13696, 13686), (13761, 13751), (13826, 13815), (13891, 13880), (13956, 13946), (14021, 14011), (14087, 14076), (14153, 14142), (14219, 14209), (14285, 14275), (14350, 14339), (14415, 14404), (14480, 14470), (14545, 14535), (14611, 14600), (14677, 14666), (14743, 14733), (14809, 14799), (14875, 14864), (14941, 14930), (15007, 14997), (15073, 15063), (15140, 15129), (15207, 15196), (15274, 15264), (15341, 15331), (15406, 15395), (15471, 15460), (15536, 15526), (15601, 15591), (15667, 15656), (15733, 15722), (15799, 15789), (15865, 15855), (15931, 15920), (15997, 15986), (16063, 16053), (16129, 16119), (16196, 16185), (16263, 16252), (16330, 16320), (16397, 16387), (16463, 16452), (16529, 16518), (16595, 16585), (16661, 16651), (16728, 16717), (16795, 16784), (16862, 16852), (16929, 16919), (16996, 16985), (17063, 17052), (17130, 17120), (17197, 17187), (17265, 17254), (17333, 17322), (17401, 17391)]
noncomputable def lc0 (P : Params) : Obj := ⟨.type "frame", none, .dict #[en P "table" 566 (.ref 301), en P "byte" 571 (.int 0 570), en P "value" 572 (.int 0 570)] 3, #[]⟩
noncomputable def lcN (P : Params) (b t k : Nat) : Obj := ⟨.type "frame", none, .dict #[en P "table" 566 (.ref 301), en P "byte" 571 (.int (b : Int) (t - 3)), en P "value" 572 (.int (b : Int) (t - 3)), en P "k" 577 (.int 7 k)] 4, #[]⟩
noncomputable def lc (P : Params) (b : Nat) : Obj := match b with
  | 0 => lc0 P
  | b + 1 => lcN P (b + 1) (tkL.getD (b + 1) (0, 0)).1 (tkL.getD (b + 1) (0, 0)).2
noncomputable def ls (b : Nat) : Obj := ⟨.type "list", none, .seq (rowL.take b).toArray b, #[]⟩
noncomputable def rng (a e s : Nat) (x : Int) : Obj := ⟨.type "range", none, .fields #[.int 0 a, .int x e, .int 1 s], #[]⟩
noncomputable def rg (r : Nat) : Obj := rng r (r - 1) (r + 1) 8
noncomputable def r256 : Obj := rng 568 567 569 256
noncomputable def rit (x y : Int) : Obj := ⟨.type "range_iterator", none, .fields #[.int x 0, .int y 0, .int 1 0], #[]⟩
noncomputable def oi (b : Nat) : Obj := rit ((b : Int) + 1) (255 - (b : Int))
noncomputable def ri : Obj := rit 8 0
noncomputable def se (a : Nat) : Obj := ⟨.type "StopIteration", none, .fields #[.ref a, .none, .none, .none, .bool false, .none], #[]⟩
noncomputable def top3 (T : BT) (P : Params) (b : Nat) : BT := ((T.set 300 fun _ => lc P b).set 301 fun _ => ls b).set 303 fun _ => oi b
noncomputable def fours : Nat → Nat → List (Nat × Nat) → List Obj
  | _, _, [] => []
  | j, n, p :: r => match n with
    | 0 => []
    | m + 1 => rg (p.1 + 1) :: ri :: tup0 :: se (306 + 4 * j) :: fours (j + 1) m r
noncomputable def tk (b : Nat) : Nat := (tkL.getD b (0, 0)).1
noncomputable def fF (k : Nat) : Obj := bif Nat.beq (k % 4) 0 then rg (tk (k / 4) + 1) else bif Nat.beq (k % 4) 1 then ri else bif Nat.beq (k % 4) 2 then tup0 else se (306 + 4 * (k / 4))
noncomputable def BB (P : Params) (b : Nat) : BT := mkF (fun i => bif Nat.blt i 300 then (L5 P).getD i tup0 else bif Nat.blt i 304 then [lc P b, ls b, r256, oi b].getD (i - 300) tup0 else fF (i - 304)) (304 + 4 * b) 12 1 0
noncomputable def aS (T : BT) (b k : Nat) (os : OsState) : SharedT := shr T (304 + 4 * b) k os
noncomputable def bS (T : BT) (b k : Nat) (os : OsState) : SharedT := shr (insL T (304 + 4 * b) [rg (k + 1), rit 0 8]) (306 + 4 * b) (k + 3) os
noncomputable def tB (P : Params) (b : Nat) : BT := bif Nat.beq (b % 64) 0 then BB P b else insL (top3 (BB P (64 * (b / 64))) P b) (304 + 256 * (b / 64)) (fours (64 * (b / 64)) (b % 64) (tkL.drop (64 * (b / 64))))
noncomputable def nAL : List Nat := [485, 492, 492, 505, 485, 498, 498, 512, 485, 498, 498, 512, 491, 505, 505, 519, 485, 498, 498, 512, 491, 505, 505, 519, 491, 505, 505, 519, 498, 512, 512, 526, 485, 498, 498, 512, 491, 505, 505, 519, 491, 505, 505, 519, 498, 512, 512, 526, 491, 505, 505, 519, 498, 512, 512, 526, 498, 512, 512, 526, 505, 519, 519, 533, 485, 484, 498, 498, 491, 491, 505, 505, 491, 491, 505, 505, 498, 498, 512, 512, 491, 491, 505, 505, 498, 498, 512, 512, 498, 498, 512, 512, 505, 505, 519, 519, 491, 491, 505, 505, 498, 498, 512, 512, 498, 498, 512, 512, 505, 505, 519, 519, 498, 498, 512, 512, 505, 505, 519, 519, 505, 505, 519, 519, 512, 512, 526, 526, 485, 498, 484, 498, 491, 505, 491, 505, 491, 505, 491, 505, 498, 512, 498, 512, 491, 505, 491, 505, 498, 512, 498, 512, 498, 512, 498, 512, 505, 519, 505, 519, 491, 505, 491, 505, 498, 512, 498, 512, 498, 512, 498, 512, 505, 519, 505, 519, 498, 512, 498, 512, 505, 519, 505, 519, 505, 519, 505, 519, 512, 526, 512, 526, 491, 491, 491, 491, 498, 498, 498, 498, 498, 498, 498, 498, 505, 505, 505, 505, 498, 498, 498, 498, 505, 505, 505, 505, 505, 505, 505, 505, 512, 512, 512, 512, 498, 498, 498, 498, 505, 505, 505, 505, 505, 505, 505, 505, 512, 512, 512, 512, 505, 505, 505, 505, 512, 512, 512, 512, 512, 512, 512, 512, 519, 519, 519]
noncomputable def na (b : Nat) : Nat := nAL.getD b 0
noncomputable def thrA (p : Program) (w : World) (b : List Stmt) (os : OsState) : Thread := match goW p (wF w) 92 (s5 w.params os) (thr6 b) with | some r => r.2 | none => thr6 b
noncomputable def thrB (p : Program) (w : World) (b : List Stmt) (os : OsState) (s : SharedT) : Thread := match goW p (wF w) 37 s (thrA p w b os) with | some r => r.2 | none => thr6 b
noncomputable def Ul (p : Program) (w : World) (b : List Stmt) (os : OsState) (x : Nat) : Option (SharedT × Thread) × Option (SharedT × Thread) × Option (SharedT × Thread) := (goW p (wF w) 37 (aS (tB w.params x) x (tk x) os) (thrA p w b os), goW p (wT w) 37 (aS (tB w.params x) x (tk x) os) (thrA p w b os), goW p w (na x) (bS (tB w.params x) x (tk x) os) (thrB p w b os (aS (tB w.params x) x (tk x) os)))
noncomputable def Ur (p : Program) (w : World) (b : List Stmt) (os : OsState) (x : Nat) : Option (SharedT × Thread) × Option (SharedT × Thread) × Option (SharedT × Thread) := (some (bS (tB w.params x) x (tk x) os, thrB p w b os (aS (tB w.params x) x (tk x) os)), some (bS (tB w.params x) x (tk x) os, thrB p w b os (aS (tB w.params x) x (tk x) os)), some (aS (tB w.params (x + 1)) (x + 1) (tk (x + 1)) os, thrA p w b os))
noncomputable def U (p : Program) (w : World) (b : List Stmt) (os : OsState) (x : Nat) : Prop := Ul p w b os x = Ur p w b os x
noncomputable def lcE (P : Params) : Obj := ⟨.type "frame", none, .dict #[en P "table" 566 (.ref 301), en P "byte" 571 (.int 255 17398), en P "value" 572 (.int 755167117 17464), en P "k" 577 (.int 7 17459)] 4, #[]⟩
noncomputable def gE (P : Params) : Obj := ⟨(.type "dict"), none, dA (x3_5 P) [en P "_TABLE" 17466 (.ref 301)] (match (x3_5 P).data with | .dict _ n => n + 1 | _ => 0), #[]⟩
noncomputable def T6 (P : Params) : BT := mkF (fun i => bif Nat.beq i 3 then gE P else bif Nat.blt i 300 then (L5 P).getD i tup0 else bif Nat.blt i 304 then [lcE P, ls 256, r256, rit 256 0].getD (i - 300) tup0 else bif Nat.blt i 1328 then fF (i - 304) else bif Nat.beq i 1328 then tup0 else se 1328) 1330 12 1 0
noncomputable def s6 (P : Params) (os : OsState) : SharedT := shr (T6 P) 1330 17467 os
noncomputable def x3_7 (P : Params) : Obj := ⟨(.type "dict"), none, dA (gE P) [en P "crc32" 17477 (.ref 1337), en P "adler32" 17489 (.ref 1345), en P "fletcher16" 17501 (.ref 1353), en P "xor8" 17512 (.ref 1361), en P "sum8" 17523 (.ref 1369), en P "KINDS" 17530 (.ref 1370), en P "_WIDTHS" 17549 (.ref 1371), en P "width" 17556 (.ref 1378), en P "first" 17563 (.ref 1385), en P "go_on" 17572 (.ref 1392)] 38, #[]⟩
noncomputable def x12_7 (P : Params) : Obj := ⟨.none, none, fA (x12_5 P) [(.int 201 0), (.int 0 0), (.ref 1336), (.int 206 0), (.int 0 0), (.ref 1344), (.int 213 0), (.int 0 0), (.ref 1352), (.int 220 0), (.int 0 0), (.ref 1360), (.int 225 0), (.int 0 0), (.ref 1368), (.int 232 0), (.int 0 0), (.ref 1377), (.int 236 0), (.int 0 0), (.ref 1384), (.int 241 0), (.int 0 0), (.ref 1391)], #[]⟩
noncomputable def m0 : Value := (vs "packkit.checks" 552)
noncomputable def T7 (P : Params) : BT := insL (setL (T6 P) [(3, (x3_7 P)), (12, (x12_7 P))]) 1330 ([⟨(.type "tuple"), none, .seq #[(.int 0 17467)] 0, #[]⟩] ++ ((fnB 1331 17468 17475 (S 22) "crc32" "crc32" ["data", "start", "value", "byte"] 201 2 (.ref 1330) m0) ++ ([⟨(.type "tuple"), none, .seq #[(.int 1 17478)] 0, #[]⟩] ++ ((fnB 1339 17479 17487 (S 23) "adler32" "adler32" ["data", "start", "low", "high", "byte"] 206 2 (.ref 1338) m0) ++ ([⟨(.type "tuple"), none, .seq #[(.int 0 17490)] 0, #[]⟩] ++ ((fnB 1347 17491 17499 (S 24) "fletcher16" "fletcher16" ["data", "start", "low", "high", "byte"] 213 2 (.ref 1346) m0) ++ ([⟨(.type "tuple"), none, .seq #[(.int 0 17502)] 0, #[]⟩] ++ ((fnB 1355 17503 17510 (S 25) "xor8" "xor8" ["data", "start", "value", "byte"] 220 2 (.ref 1354) m0) ++ ([⟨(.type "tuple"), none, .seq #[(.int 0 17513)] 0, #[]⟩] ++ ((fnB 1363 17514 17521 (S 26) "sum8" "sum8" ["data", "start", "value", "byte"] 225 2 (.ref 1362) m0) ++ ([⟨(.type "list"), none, .seq #[(vs "none" 17524), (vs "xor8" 17525), (vs "sum8" 17526), (vs "fletcher16" 17527), (vs "adler32" 17528), (vs "crc32" 17529)] 0, #[]⟩, ⟨(.type "dict"), none, .dict #[en P "none" 17531 (.int 0 17532), en P "xor8" 17533 (.int 1 17534), en P "sum8" 17535 (.int 1 17536), en P "fletcher16" 17537 (.int 2 17538), en P "adler32" 17539 (.int 4 17540), en P "crc32" 17541 (.int 4 17542)] 6, #[]⟩] ++ ((fnB 1372 17550 17554 (S 29) "width" "width" ["kind"] 232 1 .none m0) ++ ((fnB 1379 17557 17561 (S 30) "first" "first" ["kind"] 236 1 .none m0) ++ (fnB 1386 17564 17570 (S 31) "go_on" "go_on" ["kind", "value", "data"] 241 3 .none m0))))))))))))))
noncomputable def s7 (P : Params) (os : OsState) : SharedT := shr (T7 P) 1393 17573 os
noncomputable def x3_8 (P : Params) : Obj := ⟨(.type "dict"), none, dB (x3_7 P) [(0, en P "__name__" 165 (vs "packkit.huffman" 17631))] [en P "check" 17580 (.ref 1399), en P "_MOST" 17584 (.int 130 17583), en P "split_runs" 17595 (.ref 1406), en P "_literals" 17605 (.ref 1413), en P "pack" 17617 (.ref 1420), en P "pack_runs" 17618 (.ref 1420), en P "unpack" 17629 (.ref 1427), en P "unpack_runs" 17630 (.ref 1427), en P "LIMIT" 17634 (.int 15 17633), en P "count_bytes" 17643 (.ref 1434), en P "_depths" 17660 (.ref 1441), en P "code_lengths" 17666 (.ref 1447), en P "kraft" 17675 (.ref 1454), en P "canonical" 17688 (.ref 1461)] 52, #[]⟩
noncomputable def x12_8 (P : Params) : Obj := ⟨.none, none, fA (x12_7 P) [(.int 254 0), (.int 0 0), (.ref 1398), (.int 258 0), (.int 0 0), (.ref 1405), (.int 269 0), (.int 0 0), (.ref 1412), (.int 276 0), (.int 0 0), (.ref 1419), (.int 293 0), (.int 0 0), (.ref 1426), (.int 314 0), (.int 0 0), (.ref 1433), (.int 319 0), (.int 0 0), (.ref 1440), (.int 342 0), (.int 0 0), (.ref 1446), (.int 366 0), (.int 0 0), (.ref 1453), (.int 372 0), (.int 0 0), (.ref 1460)], #[]⟩
noncomputable def m1 : Value := (vs "packkit.runs" 17581)
noncomputable def m2 : Value := (vs "packkit.huffman" 17631)
noncomputable def T8 (P : Params) : BT := insL (setL (T7 P) [(3, (x3_8 P)), (12, (x12_8 P))]) 1393 ((fnB 1393 17573 17578 (S 32) "check" "check" ["kind", "data"] 254 2 .none m0) ++ ((fnB 1400 17585 17593 (S 35) "split_runs" "split_runs" ["data", "runs", "i", "total", "j"] 258 1 .none m1) ++ ((fnB 1407 17596 17603 (S 36) "_literals" "_literals" ["out", "held", "at", "piece"] 269 2 .none m1) ++ ((fnB 1414 17606 17615 (S 37) "pack" "pack" ["data", "out", "held", "byte", "count", "part"] 276 1 .none m1) ++ ((fnB 1421 17619 17627 (S 39) "unpack" "unpack" ["data", "out", "at", "total", "head"] 293 1 .none m1) ++ ((fnB 1428 17635 17641 (S 43) "count_bytes" "count_bytes" ["data", "counts", "byte"] 314 1 .none m2) ++ ((fnB 1435 17644 17658 (S 44) "_depths" "_depths" ["weights", "heap", "order", "weight", "leaf", "depths", "one", "two", "joined", "item", "place"] 319 1 .none m2) ++ ([⟨(.type "tuple"), none, .seq #[(.int 15 17633)] 0, #[]⟩, tup0, nul, ⟨.none, none, fo (S 45) (q "code_lengths") .none .none .none .none none .none .none 0 0, #[]⟩, ⟨(.type "code"), none, .fields #[(vs "code_lengths" 17661), (vs "code_lengths" 17662), (vs "/claim/cut.py" 17663), (.int 342 0), (.int 2 0), (.int 0 0), (.int 0 0), (.int 3 0), (.ref 1443), (.bool true), (.int 181 0), (.ref 1444), .none, .none, .none, (.ref 1445), (.int 17664 0), (.int 342 0), (vs "/claim/cut.py" 17665)], #[]⟩, ⟨(.type "function"), none, fo (S 45) (q "code_lengths") (.ref 1442) .none .none (vs "packkit.huffman" 17631) none (.ref 1446) .none 3 0, #[]⟩] ++ ((fnB 1448 17667 17673 (S 46) "kraft" "kraft" ["lengths", "total", "length"] 366 1 .none m2) ++ (fnB 1455 17676 17686 (S 47) "canonical" "canonical" ["lengths", "codes", "order", "symbol", "code", "before", "length"] 372 1 .none m2))))))))))
noncomputable def s8 (P : Params) (os : OsState) : SharedT := shr (T8 P) 1462 17689 os
noncomputable def x3_9 (P : Params) : Obj := ⟨(.type "dict"), none, dB (x3_8 P) [(0, en P "__name__" 165 (vs "packkit.lz77" 17783)), (42, en P "pack" 17617 (.ref 1510)), (44, en P "unpack" 17629 (.ref 1517))] [en P "Decoder" 17731 (.ref 1485), en P "write_lengths" 17742 (.ref 1496), en P "read_lengths" 17753 (.ref 1503), en P "pack_huffman" 17768 (.ref 1510), en P "unpack_huffman" 17782 (.ref 1517), en P "WINDOW" 17786 (.int 4096 17785), en P "LEAST" 17788 (.int 3 17787), en P "MOST_lz77" 17790 (.int 258 17789), en P "CHAIN" 17792 (.int 32 17791), en P "_common" 17803 (.ref 1524)] 62, #[]⟩
noncomputable def x12_9 (P : Params) : Obj := ⟨.none, none, fA (x12_8 P) [(.int 387 0), (.int 0 0), (.ref 1467), (.int 405 0), (.int 0 0), (.ref 1495), (.int 419 0), (.int 0 0), (.ref 1502), (.int 431 0), (.int 0 0), (.ref 1509), (.int 444 0), (.int 0 0), (.ref 1516), (.int 464 0), (.int 0 0), (.ref 1523)], #[]⟩
noncomputable def m3 : Value := (vs "packkit.lz77" 17783)
noncomputable def T9 (P : Params) : BT := insL (setL (T8 P) [(3, (x3_9 P)), (12, (x12_9 P))]) 1462 ([tup0, ⟨(.type "builtin_function_or_method"), none, .fields #[(.builtin "type.__prepare__"), (.type "type")], #[]⟩, ⟨(.type "dict"), none, .dict #[en P "__module__" 17696 (vs "packkit.huffman" 17631), en P "__qualname__" 17698 (vs "Decoder" 17697), en P "__firstlineno__" 17700 (.int 387 17699), en P "__init__" 17712 (.ref 1475), en P "symbol" 17722 (.ref 1482), en P "__static_attributes__" 17724 (.ref 1483)] 6, #[]⟩, tup0, ⟨.none, none, .fields #[(.int 389 0), (.int 4 0), (.ref 1474), (.int 398 0), (.int 4 0), (.ref 1481)], #[]⟩, ⟨(.type "code"), none, .fields #[(vs "Decoder" 17691), (vs "Decoder" 17692), (vs "/claim/cut.py" 17693), (.int 387 0), (.int 0 0), (.int 0 0), (.int 0 0), (.int 0 0), (.ref 1465), (.bool false), (.int 181 0), (.ref 1466), .none, .none, .none, .none, (.int 17694 0), (.int 387 0), (vs "/claim/cut.py" 17695)], #[]⟩, ⟨(.type "frame"), none, .plain, #[some (.ref 1467), some (.ref 3), some (.ref 1464), none, some (vs "packkit.huffman" 17631), none, some (.ref 0)]⟩] ++ ((fnB 1469 17701 17710 (C 48 0) "__init__" "Decoder.__init__" ["self", "lengths", "codes", "symbol", "code", "length"] 389 2 .none m2) ++ ((fnB 1476 17713 17720 (C 48 1) "symbol" "Decoder.symbol" ["self", "reader", "code", "length"] 398 2 .none m2) ++ ([⟨(.type "tuple"), none, .seq #[(vs "_table" 17723)] 0, #[]⟩, ⟨(.type "dict"), none, .dict #[en P "__module__" 17696 (vs "packkit.huffman" 17631), en P "__firstlineno__" 17700 (.int 387 17699), en P "__init__" 17712 (.ref 1475), en P "symbol" 17722 (.ref 1482), en P "__static_attributes__" 17724 (.ref 1483), en P "__dict__" 17726 (.ref 1486), en P "__weakref__" 17728 (.ref 1487), en P "__doc__" 17729 .none] 4, #[]⟩, ⟨(.type "type"), none, .cls { name := (q "Decoder"), bases := [(.type "object")], mro := [(.ref 1485), (.type "object")], ns := 1484, qualname := (q "Decoder"), hasDict := true, slotNames := [], subclasses := [], abstract := false, collection := .none, hasDel := false }, #[none, none, some (vs "Decoder" 17689), some (vs "Decoder" 17697), some (.builtin "object.__new__"), some (.bool true)]⟩, ⟨(.type "getset_descriptor"), none, .fields #[(vs "__dict__" 17725), (.ref 1485), (.builtin "function.__dict__"), (.builtin "function.__dict__#set")], #[]⟩, ⟨(.type "getset_descriptor"), none, .fields #[(vs "__weakref__" 17727), (.ref 1485), (.builtin "ExceptionGroup.__weakref__"), .none], #[]⟩, ⟨(.type "super"), none, .fields #[(.ref 1485), (.ref 1485), (.ref 1485)], #[]⟩, ⟨(.type "builtin_function_or_method"), none, .fields #[(.builtin "object.__init_subclass__"), (.ref 1485)], #[]⟩] ++ ((fnB 1490 17732 17740 (S 49) "write_lengths" "write_lengths" ["writer", "lengths", "i", "total", "j"] 405 2 .none m2) ++ ((fnB 1497 17743 17751 (S 50) "read_lengths" "read_lengths" ["reader", "total", "lengths", "length", "count"] 419 2 .none m2) ++ ((fnB 1504 17754 17765 (S 51) "pack" "pack" ["data", "head", "lengths", "codes", "writer", "byte", "code", "length"] 431 1 .none m2) ++ ((fnB 1511 17769 17779 (S 53) "unpack" "unpack" ["data", "size", "at", "reader", "decoder", "out", "k"] 444 1 .none m2) ++ (fnB 1518 17793 17801 (S 60) "_common" "_common" ["data", "i", "j", "most", "count"] 464 4 .none m3)))))))))
noncomputable def s9 (P : Params) (os : OsState) : SharedT := shr (T9 P) 1525 17804 os
noncomputable def x3_10 (P : Params) : Obj := ⟨(.type "dict"), none, dA (x3_9 P) [en P "Finder" 17860 (.ref 1555), en P "tokens" 17874 (.ref 1567), en P "expand" 17885 (.ref 1574)] 65, #[]⟩
noncomputable def zqz (P : Params) : Obj := ⟨.none, none, fA (x12_9 P) [(.int 469 0), (.int 0 0), (.ref 1530), (.int 502 0), (.int 0 0), (.ref 1566), (.int 519 0), (.int 0 0), (.ref 1573)], #[]⟩
noncomputable def T10 (P : Params) : BT := insL (setL (T9 P) [(3, (x3_10 P)), (12, (zqz P))]) 1525 ([tup0, ⟨(.type "builtin_function_or_method"), none, .fields #[(.builtin "type.__prepare__"), (.type "type")], #[]⟩, ⟨(.type "dict"), none, .dict #[en P "__module__" 17811 (vs "packkit.lz77" 17783), en P "__qualname__" 17813 (vs "Finder" 17812), en P "__firstlineno__" 17815 (.int 469 17814), en P "__init__" 17824 (.ref 1538), en P "add" 17833 (.ref 1545), en P "best" 17849 (.ref 1552), en P "__static_attributes__" 17853 (.ref 1553)] 7, #[]⟩, tup0, ⟨.none, none, .fields #[(.int 471 0), (.int 4 0), (.ref 1537), (.int 476 0), (.int 4 0), (.ref 1544), (.int 483 0), (.int 4 0), (.ref 1551)], #[]⟩, ⟨(.type "code"), none, .fields #[(vs "Finder" 17806), (vs "Finder" 17807), (vs "/claim/cut.py" 17808), (.int 469 0), (.int 0 0), (.int 0 0), (.int 0 0), (.int 0 0), (.ref 1528), (.bool false), (.int 181 0), (.ref 1529), .none, .none, .none, .none, (.int 17809 0), (.int 469 0), (vs "/claim/cut.py" 17810)], #[]⟩, ⟨(.type "frame"), none, .plain, #[some (.ref 1530), some (.ref 3), some (.ref 1527), none, some (vs "packkit.lz77" 17783), none, some (.ref 0)]⟩] ++ ((fnB 1532 17816 17822 (C 61 0) "__init__" "Finder.__init__" ["self", "data", "window"] 471 3 .none m3) ++ ((fnB 1539 17825 17831 (C 61 1) "add" "Finder.add" ["self", "at", "key"] 476 2 .none m3) ++ ((fnB 1546 17834 17847 (C 61 2) "best" "Finder.best" ["self", "at", "key", "most", "found", "tried", "places", "k", "distance", "length"] 483 2 .none m3) ++ ([⟨(.type "tuple"), none, .seq #[(vs "_data" 17850), (vs "_places" 17851), (vs "_window" 17852)] 0, #[]⟩, ⟨(.type "dict"), none, .dict #[en P "__module__" 17811 (vs "packkit.lz77" 17783), en P "__firstlineno__" 17815 (.int 469 17814), en P "__init__" 17824 (.ref 1538), en P "add" 17833 (.ref 1545), en P "best" 17849 (.ref 1552), en P "__static_attributes__" 17853 (.ref 1553), en P "__dict__" 17855 (.ref 1556), en P "__weakref__" 17857 (.ref 1557), en P "__doc__" 17858 .none] 4, #[]⟩, ⟨(.type "type"), none, .cls { name := (q "Finder"), bases := [(.type "object")], mro := [(.ref 1555), (.type "object")], ns := 1554, qualname := (q "Finder"), hasDict := true, slotNames := [], subclasses := [], abstract := false, collection := .none, hasDel := false }, #[none, none, some (vs "Finder" 17804), some (vs "Finder" 17812), some (.builtin "object.__new__"), some (.bool true)]⟩, ⟨(.type "getset_descriptor"), none, .fields #[(vs "__dict__" 17854), (.ref 1555), (.builtin "function.__dict__"), (.builtin "function.__dict__#set")], #[]⟩, ⟨(.type "getset_descriptor"), none, .fields #[(vs "__weakref__" 17856), (.ref 1555), (.builtin "ExceptionGroup.__weakref__"), .none], #[]⟩, ⟨(.type "super"), none, .fields #[(.ref 1555), (.ref 1555), (.ref 1555)], #[]⟩, ⟨(.type "builtin_function_or_method"), none, .fields #[(.builtin "object.__init_subclass__"), (.ref 1555)], #[]⟩, ⟨(.type "tuple"), none, .seq #[(.int 4096 17785)] 0, #[]⟩] ++ ((fnB 1561 17861 17872 (S 62) "tokens" "tokens" ["data", "window", "finder", "out", "at", "distance", "length", "k"] 502 2 (.ref 1560) m3) ++ (fnB 1568 17875 17883 (S 63) "expand" "expand" ["toks", "out", "tok", "distance", "k"] 519 1 .none m3)))))))
noncomputable def s10 (P : Params) (os : OsState) : SharedT := shr (T10 P) 1575 17886 os
noncomputable def x3_11 (P : Params) : Obj := ⟨(.type "dict"), none, dB (x3_10 P) [(0, en P "__name__" 165 (vs "packkit.pairs" 17934)), (42, en P "pack" 17617 (.ref 1596)), (44, en P "unpack" 17629 (.ref 1603))] [en P "write_tokens" 17899 (.ref 1581), en P "read_tokens" 17914 (.ref 1588), en P "pack_lz77" 17923 (.ref 1596), en P "unpack_lz77" 17933 (.ref 1603), en P "ROUNDS" 17937 (.int 64 17936), en P "MOST_pairs" 17941 (.int 67108864 17940), en P "count_pairs" 17951 (.ref 1610), en P "best_pair" 17962 (.ref 1617), en P "replace_pair" 17973 (.ref 1624), en P "unused" 17982 (.ref 1631), en P "shorten" 17996 (.ref 1639), en P "lengthen" 18009 (.ref 1646), en P "grown" 18015 (.ref 1651)] 78, #[]⟩
noncomputable def zqy (P : Params) : Obj := ⟨.none, none, fA (zqz P) [(.int 531 0), (.int 0 0), (.ref 1580), (.int 552 0), (.int 0 0), (.ref 1587), (.int 583 0), (.int 0 0), (.ref 1595), (.int 586 0), (.int 0 0), (.ref 1602), (.int 593 0), (.int 0 0), (.ref 1609), (.int 604 0), (.int 0 0), (.ref 1616), (.int 613 0), (.int 0 0), (.ref 1623), (.int 624 0), (.int 0 0), (.ref 1630), (.int 632 0), (.int 0 0), (.ref 1638), (.int 647 0), (.int 0 0), (.ref 1645), (.int 658 0), (.int 0 0), (.ref 1650)], #[]⟩
noncomputable def m4 : Value := (vs "packkit.pairs" 17934)
noncomputable def T11 (P : Params) : BT := insL (setL (T10 P) [(3, (x3_11 P)), (12, (zqy P))]) 1575 ((fnB 1575 17886 17897 (S 64) "write_tokens" "write_tokens" ["toks", "parts", "at", "group", "marks", "body", "k", "tok"] 531 1 .none m3) ++ ((fnB 1582 17900 17912 (S 65) "read_tokens" "read_tokens" ["data", "total", "out", "at", "done", "marks", "k", "distance", "length"] 552 2 .none m3) ++ ([⟨(.type "tuple"), none, .seq #[(.int 4096 17785)] 0, #[]⟩] ++ ((fnB 1590 17915 17920 (S 66) "pack" "pack" ["data", "window"] 583 2 (.ref 1589) m3) ++ ((fnB 1597 17924 17930 (S 68) "unpack" "unpack" ["data", "total", "at"] 586 1 .none m3) ++ ((fnB 1604 17942 17949 (S 73) "count_pairs" "count_pairs" ["row", "counts", "i", "pair"] 593 1 .none m4) ++ ((fnB 1611 17952 17960 (S 74) "best_pair" "best_pair" ["row", "best", "most", "counts", "pair"] 604 1 .none m4) ++ ((fnB 1618 17963 17971 (S 75) "replace_pair" "replace_pair" ["row", "pair", "byte", "out", "i"] 613 3 .none m4) ++ ((fnB 1625 17974 17980 (S 76) "unused" "unused" ["row", "seen", "byte"] 624 1 .none m4) ++ ([⟨(.type "tuple"), none, .seq #[(.int 64 17936)] 0, #[]⟩] ++ ((fnB 1633 17983 17994 (S 77) "shorten" "shorten" ["data", "rounds", "row", "rules", "used", "pair", "count", "byte"] 632 2 (.ref 1632) m4) ++ ((fnB 1640 17997 18007 (S 78) "lengthen" "lengthen" ["rules", "row", "byte", "one", "two", "out", "value"] 647 2 .none m4) ++ [tup0, nul, ⟨.none, none, fo (S 79) (q "grown") .none .none .none .none none .none .none 0 0, #[]⟩, ⟨(.type "code"), none, .fields #[(vs "grown" 18010), (vs "grown" 18011), (vs "/claim/cut.py" 18012), (.int 658 0), (.int 2 0), (.int 0 0), (.int 0 0), (.int 3 0), (.ref 1647), (.bool true), (.int 181 0), (.ref 1648), .none, .none, .none, (.ref 1649), (.int 18013 0), (.int 658 0), (vs "/claim/cut.py" 18014)], #[]⟩, ⟨(.type "function"), none, fo (S 79) (q "grown") .none .none .none (vs "packkit.pairs" 17934) none (.ref 1650) .none 3 0, #[]⟩]))))))))))))
noncomputable def s11 (P : Params) (os : OsState) : SharedT := shr (T11 P) 1652 18016 os
noncomputable def x3_12 (P : Params) : Obj := ⟨(.type "dict"), none, dB (x3_11 P) [(0, en P "__name__" 165 (vs "packkit.methods" 18060)), (42, en P "pack" 17617 (.ref 1658)), (44, en P "unpack" 17629 (.ref 1679))] [en P "pack_pairs" 18029 (.ref 1658), en P "read_rules" 18040 (.ref 1665), en P "size" 18049 (.ref 1672), en P "unpack_pairs" 18059 (.ref 1679), en P "_store" 18068 (.ref 1686), en P "_both" 18075 (.ref 1693), en P "_unboth" 18082 (.ref 1700), en P "NAMES" 18089 (.ref 1701), en P "THERE_methods" 18102 (.ref 1702)] 87, #[]⟩
noncomputable def zqx (P : Params) : Obj := ⟨.none, none, fA (zqy P) [(.int 663 0), (.int 0 0), (.ref 1657), (.int 673 0), (.int 0 0), (.ref 1664), (.int 682 0), (.int 0 0), (.ref 1671), (.int 685 0), (.int 0 0), (.ref 1678), (.int 692 0), (.int 0 0), (.ref 1685), (.int 694 0), (.int 0 0), (.ref 1692), (.int 696 0), (.int 0 0), (.ref 1699)], #[]⟩
noncomputable def m5 : Value := (vs "packkit.methods" 18060)
noncomputable def T12 (P : Params) : BT := insL (setL (T11 P) [(3, (x3_12 P)), (12, (zqx P))]) 1652 ((fnB 1652 18016 18026 (S 80) "pack" "pack" ["data", "rules", "row", "parts", "byte", "one", "two"] 663 1 .none m4) ++ ((fnB 1659 18030 18038 (S 82) "read_rules" "read_rules" ["data", "count", "at", "rules", "k"] 673 1 .none m4) ++ ((fnB 1666 18041 18047 (S 83) "size" "size" ["data", "rules", "row"] 682 1 .none m4) ++ ((fnB 1673 18050 18056 (S 84) "unpack" "unpack" ["data", "rules", "row"] 685 1 .none m4) ++ ((fnB 1680 18062 18066 (S 87) "_store" "_store" ["data"] 692 1 .none m5) ++ ((fnB 1687 18069 18073 (S 88) "_both" "_both" ["data"] 694 1 .none m5) ++ ((fnB 1694 18076 18080 (S 89) "_unboth" "_unboth" ["data"] 696 1 .none m5) ++ [⟨(.type "list"), none, .seq #[(vs "store" 18083), (vs "runs" 18084), (vs "huffman" 18085), (vs "lz" 18086), (vs "pairs" 18087), (vs "lzhuff" 18088)] 0, #[]⟩, ⟨(.type "dict"), none, .dict #[en P "store" 18090 (.ref 1686), en P "runs" 18091 (.ref 1420), en P "huffman" 18092 (.ref 1510), en P "lz" 18093 (.ref 1596), en P "pairs" 18094 (.ref 1658), en P "lzhuff" 18095 (.ref 1693)] 6, #[]⟩])))))))
noncomputable def s12 (P : Params) (os : OsState) : SharedT := shr (T12 P) 1703 18103 os
noncomputable def x3_13 (P : Params) : Obj := ⟨(.type "dict"), none, dB (x3_12 P) [(0, en P "__name__" 165 (vs "packkit.blocks" 18165)), (42, en P "pack" 17617 (.ref 1710)), (44, en P "unpack" 17629 (.ref 1717))] [en P "BACK_methods" 18115 (.ref 1703), en P "pack_methods" 18124 (.ref 1710), en P "unpack_methods" 18133 (.ref 1717), en P "number_of" 18140 (.ref 1724), en P "name_of" 18147 (.ref 1731), en P "sizes" 18153 (.ref 1736), en P "shortest" 18164 (.ref 1743)] 94, #[]⟩
noncomputable def zqw (P : Params) : Obj := ⟨.none, none, fA (zqx P) [(.int 701 0), (.int 0 0), (.ref 1709), (.int 706 0), (.int 0 0), (.ref 1716), (.int 711 0), (.int 0 0), (.ref 1723), (.int 715 0), (.int 0 0), (.ref 1730), (.int 719 0), (.int 0 0), (.ref 1735), (.int 721 0), (.int 0 0), (.ref 1742)], #[]⟩
noncomputable def T13 (P : Params) : BT := insL (setL (T12 P) [(3, (x3_13 P)), (12, (zqw P))]) 1703 ([⟨(.type "dict"), none, .dict #[en P "store" 18103 (.ref 1686), en P "runs" 18104 (.ref 1427), en P "huffman" 18105 (.ref 1517), en P "lz" 18106 (.ref 1603), en P "pairs" 18107 (.ref 1679), en P "lzhuff" 18108 (.ref 1700)] 6, #[]⟩] ++ ((fnB 1704 18116 18121 (S 93) "pack" "pack" ["name", "data"] 701 2 .none m5) ++ ((fnB 1711 18125 18130 (S 95) "unpack" "unpack" ["name", "data"] 706 2 .none m5) ++ ((fnB 1718 18134 18138 (S 97) "number_of" "number_of" ["name"] 711 1 .none m5) ++ ((fnB 1725 18141 18145 (S 98) "name_of" "name_of" ["number"] 715 1 .none m5) ++ ([tup0, nul, ⟨.none, none, fo (S 99) (q "sizes") .none .none .none .none none .none .none 0 0, #[]⟩, ⟨(.type "code"), none, .fields #[(vs "sizes" 18148), (vs "sizes" 18149), (vs "/claim/cut.py" 18150), (.int 719 0), (.int 1 0), (.int 0 0), (.int 0 0), (.int 3 0), (.ref 1732), (.bool true), (.int 181 0), (.ref 1733), .none, .none, .none, (.ref 1734), (.int 18151 0), (.int 719 0), (vs "/claim/cut.py" 18152)], #[]⟩, ⟨(.type "function"), none, fo (S 99) (q "sizes") .none .none .none (vs "packkit.methods" 18060) none (.ref 1735) .none 3 0, #[]⟩] ++ (fnB 1737 18154 18162 (S 100) "shortest" "shortest" ["data", "best", "least", "name", "size"] 721 1 .none m5)))))))
noncomputable def s13 (P : Params) (os : OsState) : SharedT := shr (T13 P) 1744 18167 os
noncomputable def x3_14 (P : Params) : Obj := ⟨(.type "dict"), none, dA (x3_13 P) [en P "Block" 18227 (.ref 1781), en P "make_block" 18237 (.ref 1792), en P "read_block" 18251 (.ref 1799), en P "cut" 18260 (.ref 1806), en P "make_blocks" 18266 (.ref 1811), en P "blocks_to_bytes" 18272 (.ref 1816), en P "read_blocks" 18284 (.ref 1823), en P "join" 18290 (.ref 1828)] 102, #[]⟩
noncomputable def zqv (P : Params) : Obj := ⟨.none, none, fA (zqw P) [(.int 730 0), (.int 0 0), (.ref 1749), (.int 758 0), (.int 0 0), (.ref 1791), (.int 766 0), (.int 0 0), (.ref 1798), (.int 780 0), (.int 0 0), (.ref 1805), (.int 787 0), (.int 0 0), (.ref 1810), (.int 789 0), (.int 0 0), (.ref 1815), (.int 791 0), (.int 0 0), (.ref 1822), (.int 798 0), (.int 0 0), (.ref 1827)], #[]⟩
noncomputable def m6 : Value := (vs "packkit.blocks" 18165)
noncomputable def T14 (P : Params) : BT := insL (setL (T13 P) [(3, (x3_14 P)), (12, (zqv P))]) 1744 ([tup0, ⟨(.type "builtin_function_or_method"), none, .fields #[(.builtin "type.__prepare__"), (.type "type")], #[]⟩, ⟨(.type "dict"), none, .dict #[en P "__module__" 18174 (vs "packkit.blocks" 18165), en P "__qualname__" 18176 (vs "Block" 18175), en P "__firstlineno__" 18178 (.int 730 18177), en P "__init__" 18190 (.ref 1757), en P "to_bytes" 18199 (.ref 1764), en P "data" 18207 (.ref 1771), en P "__repr__" 18214 (.ref 1778), en P "__static_attributes__" 18220 (.ref 1779)] 8, #[]⟩, tup0, ⟨.none, none, .fields #[(.int 732 0), (.int 4 0), (.ref 1756), (.int 739 0), (.int 4 0), (.ref 1763), (.int 746 0), (.int 4 0), (.ref 1770), (.int 756 0), (.int 4 0), (.ref 1777)], #[]⟩, ⟨(.type "code"), none, .fields #[(vs "Block" 18169), (vs "Block" 18170), (vs "/claim/cut.py" 18171), (.int 730 0), (.int 0 0), (.int 0 0), (.int 0 0), (.int 0 0), (.ref 1747), (.bool false), (.int 181 0), (.ref 1748), .none, .none, .none, .none, (.int 18172 0), (.int 730 0), (vs "/claim/cut.py" 18173)], #[]⟩, ⟨(.type "frame"), none, .plain, #[some (.ref 1749), some (.ref 3), some (.ref 1746), none, some (vs "packkit.blocks" 18165), none, some (.ref 0)]⟩] ++ ((fnB 1751 18179 18188 (C 102 0) "__init__" "Block.__init__" ["self", "method", "kind", "size", "value", "body"] 732 6 .none m6) ++ ((fnB 1758 18191 18197 (C 102 1) "to_bytes" "Block.to_bytes" ["self", "head", "parts"] 739 1 .none m6) ++ ((fnB 1765 18200 18205 (C 102 2) "data" "Block.data" ["self", "data"] 746 1 .none m6) ++ ((fnB 1772 18208 18212 (C 102 3) "__repr__" "Block.__repr__" ["self"] 756 1 .none m6) ++ ([⟨(.type "tuple"), none, .seq #[(vs "body" 18215), (vs "kind" 18216), (vs "method" 18217), (vs "size" 18218), (vs "value" 18219)] 0, #[]⟩, ⟨(.type "dict"), none, .dict #[en P "__module__" 18174 (vs "packkit.blocks" 18165), en P "__firstlineno__" 18178 (.int 730 18177), en P "__init__" 18190 (.ref 1757), en P "to_bytes" 18199 (.ref 1764), en P "data" 18207 (.ref 1771), en P "__repr__" 18214 (.ref 1778), en P "__static_attributes__" 18220 (.ref 1779), en P "__dict__" 18222 (.ref 1782), en P "__weakref__" 18224 (.ref 1783), en P "__doc__" 18225 .none] 4, #[]⟩, ⟨(.type "type"), none, .cls { name := (q "Block"), bases := [(.type "object")], mro := [(.ref 1781), (.type "object")], ns := 1780, qualname := (q "Block"), hasDict := true, slotNames := [], subclasses := [], abstract := false, collection := .none, hasDel := false }, #[none, none, some (vs "Block" 18167), some (vs "Block" 18175), some (.builtin "object.__new__"), some (.bool true)]⟩, ⟨(.type "getset_descriptor"), none, .fields #[(vs "__dict__" 18221), (.ref 1781), (.builtin "function.__dict__"), (.builtin "function.__dict__#set")], #[]⟩, ⟨(.type "getset_descriptor"), none, .fields #[(vs "__weakref__" 18223), (.ref 1781), (.builtin "ExceptionGroup.__weakref__"), .none], #[]⟩, ⟨(.type "super"), none, .fields #[(.ref 1781), (.ref 1781), (.ref 1781)], #[]⟩, ⟨(.type "builtin_function_or_method"), none, .fields #[(.builtin "object.__init_subclass__"), (.ref 1781)], #[]⟩] ++ ((fnB 1786 18228 18235 (S 103) "make_block" "make_block" ["data", "method", "kind", "body"] 758 3 .none m6) ++ ((fnB 1793 18238 18249 (S 104) "read_block" "read_block" ["data", "at", "head", "method", "kind", "size", "length", "value"] 766 2 .none m6) ++ ([tup0, nul, ⟨(.type "tuple"), none, .seq #[(vs "data" 18255), (vs "size" 18256), (vs "at" 18257)] 0, #[]⟩, tup0, ⟨.none, none, fo (S 105) (q "cut") .none .none .none .none none .none .none 0 0, #[]⟩, ⟨(.type "code"), none, .fields #[(vs "cut" 18252), (vs "cut" 18253), (vs "/claim/cut.py" 18254), (.int 780 0), (.int 2 0), (.int 0 0), (.int 0 0), (.int 35 0), (.ref 1800), (.bool true), (.int 181 0), (.ref 1801), .none, (.ref 1802), (.ref 1803), (.ref 1804), (.int 18258 0), (.int 780 0), (vs "/claim/cut.py" 18259)], #[]⟩, ⟨(.type "function"), none, fo (S 105) (q "cut") .none .none .none (vs "packkit.blocks" 18165) none (.ref 1805) .none 3 0, #[]⟩, tup0, nul, ⟨.none, none, fo (S 106) (q "make_blocks") .none .none .none .none none .none .none 0 0, #[]⟩, ⟨(.type "code"), none, .fields #[(vs "make_blocks" 18261), (vs "make_blocks" 18262), (vs "/claim/cut.py" 18263), (.int 787 0), (.int 4 0), (.int 0 0), (.int 0 0), (.int 3 0), (.ref 1807), (.bool true), (.int 181 0), (.ref 1808), .none, .none, .none, (.ref 1809), (.int 18264 0), (.int 787 0), (vs "/claim/cut.py" 18265)], #[]⟩, ⟨(.type "function"), none, fo (S 106) (q "make_blocks") .none .none .none (vs "packkit.blocks" 18165) none (.ref 1810) .none 3 0, #[]⟩, tup0, nul, ⟨.none, none, fo (S 107) (q "blocks_to_bytes") .none .none .none .none none .none .none 0 0, #[]⟩, ⟨(.type "code"), none, .fields #[(vs "blocks_to_bytes" 18267), (vs "blocks_to_bytes" 18268), (vs "/claim/cut.py" 18269), (.int 789 0), (.int 1 0), (.int 0 0), (.int 0 0), (.int 3 0), (.ref 1812), (.bool true), (.int 181 0), (.ref 1813), .none, .none, .none, (.ref 1814), (.int 18270 0), (.int 789 0), (vs "/claim/cut.py" 18271)], #[]⟩, ⟨(.type "function"), none, fo (S 107) (q "blocks_to_bytes") .none .none .none (vs "packkit.blocks" 18165) none (.ref 1815) .none 3 0, #[]⟩] ++ ((fnB 1817 18273 18282 (S 108) "read_blocks" "read_blocks" ["data", "at", "count", "blocks", "k", "block"] 791 2 .none m6) ++ [tup0, nul, ⟨.none, none, fo (S 109) (q "join") .none .none .none .none none .none .none 0 0, #[]⟩, ⟨(.type "code"), none, .fields #[(vs "join" 18285), (vs "join" 18286), (vs "/claim/cut.py" 18287), (.int 798 0), (.int 1 0), (.int 0 0), (.int 0 0), (.int 3 0), (.ref 1824), (.bool true), (.int 181 0), (.ref 1825), .none, .none, .none, (.ref 1826), (.int 18288 0), (.int 798 0), (vs "/claim/cut.py" 18289)], #[]⟩, ⟨(.type "function"), none, fo (S 109) (q "join") .none .none .none (vs "packkit.blocks" 18165) none (.ref 1827) .none 3 0, #[]⟩]))))))))))
noncomputable def s14 (P : Params) (os : OsState) : SharedT := shr (T14 P) 1829 18291 os
noncomputable def x3_15 (P : Params) : Obj := ⟨(.type "dict"), none, dB (x3_14 P) [(0, en P "__name__" 165 (vs "packkit.filters" 18291))] [en P "_step" 18299 (.ref 1835), en P "difference" 18310 (.ref 1842), en P "undifference" 18321 (.ref 1849), en P "mixed" 18332 (.ref 1856), en P "unmixed" 18343 (.ref 1863), en P "planes" 18353 (.ref 1870), en P "unplanes" 18365 (.ref 1877), en P "to_front" 18377 (.ref 1884), en P "unto_front" 18389 (.ref 1891), en P "turned" 18397 (.ref 1898), en P "THERE_filters" 18408 (.ref 1899), en P "BACK_filters" 18419 (.ref 1900)] 114, #[]⟩
noncomputable def zqu (P : Params) : Obj := ⟨.none, none, fA (zqv P) [(.int 801 0), (.int 0 0), (.ref 1834), (.int 804 0), (.int 0 0), (.ref 1841), (.int 813 0), (.int 0 0), (.ref 1848), (.int 822 0), (.int 0 0), (.ref 1855), (.int 831 0), (.int 0 0), (.ref 1862), (.int 840 0), (.int 0 0), (.ref 1869), (.int 846 0), (.int 0 0), (.ref 1876), (.int 857 0), (.int 0 0), (.ref 1883), (.int 867 0), (.int 0 0), (.ref 1890), (.int 876 0), (.int 0 0), (.ref 1897)], #[]⟩
noncomputable def m7 : Value := (vs "packkit.filters" 18291)
noncomputable def T15 (P : Params) : BT := insL (setL (T14 P) [(3, (x3_15 P)), (12, (zqu P))]) 1829 ((fnB 1829 18293 18297 (S 111) "_step" "_step" ["step"] 801 1 .none m7) ++ ((fnB 1836 18300 18308 (S 112) "difference" "difference" ["data", "step", "out", "i", "before"] 804 2 .none m7) ++ ((fnB 1843 18311 18319 (S 113) "undifference" "undifference" ["data", "step", "out", "i", "before"] 813 2 .none m7) ++ ((fnB 1850 18322 18330 (S 114) "mixed" "mixed" ["data", "step", "out", "i", "before"] 822 2 .none m7) ++ ((fnB 1857 18333 18341 (S 115) "unmixed" "unmixed" ["data", "step", "out", "i", "before"] 831 2 .none m7) ++ ((fnB 1864 18344 18351 (S 116) "planes" "planes" ["data", "step", "parts", "lead"] 840 2 .none m7) ++ ((fnB 1871 18354 18363 (S 117) "unplanes" "unplanes" ["data", "step", "out", "at", "lead", "place"] 846 2 .none m7) ++ ((fnB 1878 18366 18375 (S 118) "to_front" "to_front" ["data", "step", "row", "out", "byte", "place"] 857 2 .none m7) ++ ((fnB 1885 18378 18387 (S 119) "unto_front" "unto_front" ["data", "step", "row", "out", "place", "byte"] 867 2 .none m7) ++ ((fnB 1892 18390 18395 (S 120) "turned" "turned" ["data", "step"] 876 2 .none m7) ++ [⟨(.type "dict"), none, .dict #[en P "difference" 18398 (.ref 1842), en P "mixed" 18399 (.ref 1856), en P "planes" 18400 (.ref 1870), en P "front" 18401 (.ref 1884), en P "turned" 18402 (.ref 1898)] 5, #[]⟩, ⟨(.type "dict"), none, .dict #[en P "difference" 18409 (.ref 1849), en P "mixed" 18410 (.ref 1863), en P "planes" 18411 (.ref 1877), en P "front" 18412 (.ref 1891), en P "turned" 18413 (.ref 1898)] 5, #[]⟩]))))))))))
noncomputable def s15 (P : Params) (os : OsState) : SharedT := shr (T15 P) 1901 18420 os
noncomputable def x3_16 (P : Params) : Obj := ⟨(.type "dict"), none, dA (x3_15 P) [en P "Filter" 18490 (.ref 1953)] 115, #[]⟩
noncomputable def zqt (P : Params) : Obj := ⟨.none, none, fA (zqu P) [(.int 881 0), (.int 0 0), (.ref 1906)], #[]⟩
noncomputable def T16 (P : Params) : BT := insL (setL (T15 P) [(3, (x3_16 P)), (12, (zqt P))]) 1901 ([tup0, ⟨(.type "builtin_function_or_method"), none, .fields #[(.builtin "type.__prepare__"), (.type "type")], #[]⟩, ⟨(.type "dict"), none, .dict #[en P "__module__" 18427 (vs "packkit.filters" 18291), en P "__qualname__" 18429 (vs "Filter" 18428), en P "__firstlineno__" 18431 (.int 881 18430), en P "__init__" 18441 (.ref 1915), en P "there" 18449 (.ref 1922), en P "back" 18457 (.ref 1929), en P "show" 18464 (.ref 1936), en P "__eq__" 18472 (.ref 1943), en P "__repr__" 18479 (.ref 1950), en P "__static_attributes__" 18482 (.ref 1951)] 10, #[]⟩, tup0, ⟨.none, none, .fields #[(.int 883 0), (.int 4 0), (.ref 1914), (.int 890 0), (.int 4 0), (.ref 1921), (.int 893 0), (.int 4 0), (.ref 1928), (.int 896 0), (.int 4 0), (.ref 1935), (.int 901 0), (.int 4 0), (.ref 1942), (.int 904 0), (.int 4 0), (.ref 1949)], #[]⟩, ⟨(.type "code"), none, .fields #[(vs "Filter" 18422), (vs "Filter" 18423), (vs "/claim/cut.py" 18424), (.int 881 0), (.int 0 0), (.int 0 0), (.int 0 0), (.int 0 0), (.ref 1904), (.bool false), (.int 181 0), (.ref 1905), .none, .none, .none, .none, (.int 18425 0), (.int 881 0), (vs "/claim/cut.py" 18426)], #[]⟩, ⟨(.type "frame"), none, .plain, #[some (.ref 1906), some (.ref 3), some (.ref 1903), none, some (vs "packkit.filters" 18291), none, some (.ref 0)]⟩, ⟨(.type "tuple"), none, .seq #[(.int 1 18432)] 0, #[]⟩] ++ ((fnB 1909 18433 18439 (C 123 0) "__init__" "Filter.__init__" ["self", "name", "step"] 883 3 (.ref 1908) m7) ++ ((fnB 1916 18442 18447 (C 123 1) "there" "Filter.there" ["self", "data"] 890 2 .none m7) ++ ((fnB 1923 18450 18455 (C 123 2) "back" "Filter.back" ["self", "data"] 893 2 .none m7) ++ ((fnB 1930 18458 18462 (C 123 3) "show" "Filter.show" ["self"] 896 1 .none m7) ++ ((fnB 1937 18465 18470 (C 123 4) "__eq__" "Filter.__eq__" ["self", "other"] 901 2 .none m7) ++ ((fnB 1944 18473 18477 (C 123 5) "__repr__" "Filter.__repr__" ["self"] 904 1 .none m7) ++ [⟨(.type "tuple"), none, .seq #[(vs "name" 18480), (vs "step" 18481)] 0, #[]⟩, ⟨(.type "dict"), none, .dict #[en P "__module__" 18427 (vs "packkit.filters" 18291), en P "__firstlineno__" 18431 (.int 881 18430), en P "__init__" 18441 (.ref 1915), en P "there" 18449 (.ref 1922), en P "back" 18457 (.ref 1929), en P "show" 18464 (.ref 1936), en P "__eq__" 18472 (.ref 1943), en P "__repr__" 18479 (.ref 1950), en P "__static_attributes__" 18482 (.ref 1951), en P "__dict__" 18484 (.ref 1954), en P "__weakref__" 18486 (.ref 1955), en P "__doc__" 18487 .none, en P "__hash__" 18488 .none] 5, #[]⟩, ⟨(.type "type"), none, .cls { name := (q "Filter"), bases := [(.type "object")], mro := [(.ref 1953), (.type "object")], ns := 1952, qualname := (q "Filter"), hasDict := true, slotNames := [], subclasses := [], abstract := false, collection := .none, hasDel := false }, #[none, none, some (vs "Filter" 18420), some (vs "Filter" 18428), some (.builtin "object.__new__"), some (.bool true)]⟩, ⟨(.type "getset_descriptor"), none, .fields #[(vs "__dict__" 18483), (.ref 1953), (.builtin "function.__dict__"), (.builtin "function.__dict__#set")], #[]⟩, ⟨(.type "getset_descriptor"), none, .fields #[(vs "__weakref__" 18485), (.ref 1953), (.builtin "ExceptionGroup.__weakref__"), .none], #[]⟩, ⟨(.type "super"), none, .fields #[(.ref 1953), (.ref 1953), (.ref 1953)], #[]⟩, ⟨(.type "builtin_function_or_method"), none, .fields #[(.builtin "object.__init_subclass__"), (.ref 1953)], #[]⟩])))))))
noncomputable def s16 (P : Params) (os : OsState) : SharedT := shr (T16 P) 1958 18491 os
noncomputable def x3_17 (P : Params) : Obj := ⟨(.type "dict"), none, dA (x3_16 P) [en P "read_filter" 18500 (.ref 1964), en P "Chain" 18569 (.ref 2015)] 117, #[]⟩
noncomputable def zqs (P : Params) : Obj := ⟨.none, none, fA (zqt P) [(.int 906 0), (.int 0 0), (.ref 1963), (.int 913 0), (.int 0 0), (.ref 1970)], #[]⟩
noncomputable def T17 (P : Params) : BT := insL (setL (T16 P) [(3, (x3_17 P)), (12, (zqs P))]) 1958 ((fnB 1958 18491 18498 (S 124) "read_filter" "read_filter" ["text", "name", "mark", "step"] 906 1 .none m7) ++ ([tup0, ⟨(.type "builtin_function_or_method"), none, .fields #[(.builtin "type.__prepare__"), (.type "type")], #[]⟩, ⟨(.type "dict"), none, .dict #[en P "__module__" 18508 (vs "packkit.filters" 18291), en P "__qualname__" 18510 (vs "Chain" 18509), en P "__firstlineno__" 18512 (.int 913 18511), en P "__init__" 18520 (.ref 1979), en P "there" 18529 (.ref 1986), en P "back" 18538 (.ref 1993), en P "show" 18544 (.ref 1998), en P "__eq__" 18552 (.ref 2005), en P "__len__" 18559 (.ref 2012), en P "__static_attributes__" 18561 (.ref 2013)] 10, #[]⟩, tup0, ⟨.none, none, .fields #[(.int 915 0), (.int 4 0), (.ref 1978), (.int 920 0), (.int 4 0), (.ref 1985), (.int 925 0), (.int 4 0), (.ref 1992), (.int 930 0), (.int 4 0), (.ref 1997), (.int 935 0), (.int 4 0), (.ref 2004), (.int 938 0), (.int 4 0), (.ref 2011)], #[]⟩, ⟨(.type "code"), none, .fields #[(vs "Chain" 18503), (vs "Chain" 18504), (vs "/claim/cut.py" 18505), (.int 913 0), (.int 0 0), (.int 0 0), (.int 0 0), (.int 0 0), (.ref 1968), (.bool false), (.int 181 0), (.ref 1969), .none, .none, .none, .none, (.int 18506 0), (.int 913 0), (vs "/claim/cut.py" 18507)], #[]⟩, ⟨(.type "frame"), none, .plain, #[some (.ref 1970), some (.ref 3), some (.ref 1967), none, some (vs "packkit.filters" 18291), none, some (.ref 0)]⟩, ⟨(.type "tuple"), none, .seq #[.none] 0, #[]⟩] ++ ((fnB 1973 18513 18518 (C 125 0) "__init__" "Chain.__init__" ["self", "filters"] 915 2 (.ref 1972) m7) ++ ((fnB 1980 18521 18527 (C 125 1) "there" "Chain.there" ["self", "data", "one"] 920 2 .none m7) ++ ((fnB 1987 18530 18536 (C 125 2) "back" "Chain.back" ["self", "data", "one"] 925 2 .none m7) ++ ([tup0, nul, ⟨.none, none, fo (C 125 3) (q "Chain.show") .none .none .none .none none .none .none 0 0, #[]⟩, ⟨(.type "code"), none, .fields #[(vs "show" 18539), (vs "Chain.show" 18540), (vs "/claim/cut.py" 18541), (.int 930 0), (.int 1 0), (.int 0 0), (.int 0 0), (.int 3 0), (.ref 1994), (.bool true), (.int 181 0), (.ref 1995), .none, .none, .none, (.ref 1996), (.int 18542 0), (.int 930 0), (vs "/claim/cut.py" 18543)], #[]⟩, ⟨(.type "function"), none, fo (C 125 3) (q "Chain.show") .none .none .none (vs "packkit.filters" 18291) none (.ref 1997) .none 3 0, #[]⟩] ++ ((fnB 1999 18545 18550 (C 125 4) "__eq__" "Chain.__eq__" ["self", "other"] 935 2 .none m7) ++ ((fnB 2006 18553 18557 (C 125 5) "__len__" "Chain.__len__" ["self"] 938 1 .none m7) ++ [⟨(.type "tuple"), none, .seq #[(vs "filters" 18560)] 0, #[]⟩, ⟨(.type "dict"), none, .dict #[en P "__module__" 18508 (vs "packkit.filters" 18291), en P "__firstlineno__" 18512 (.int 913 18511), en P "__init__" 18520 (.ref 1979), en P "there" 18529 (.ref 1986), en P "back" 18538 (.ref 1993), en P "show" 18544 (.ref 1998), en P "__eq__" 18552 (.ref 2005), en P "__len__" 18559 (.ref 2012), en P "__static_attributes__" 18561 (.ref 2013), en P "__dict__" 18563 (.ref 2016), en P "__weakref__" 18565 (.ref 2017), en P "__doc__" 18566 .none, en P "__hash__" 18567 .none] 5, #[]⟩, ⟨(.type "type"), none, .cls { name := (q "Chain"), bases := [(.type "object")], mro := [(.ref 2015), (.type "object")], ns := 2014, qualname := (q "Chain"), hasDict := true, slotNames := [], subclasses := [], abstract := false, collection := .none, hasDel := false }, #[none, none, some (vs "Chain" 18501), some (vs "Chain" 18509), some (.builtin "object.__new__"), some (.bool true)]⟩, ⟨(.type "getset_descriptor"), none, .fields #[(vs "__dict__" 18562), (.ref 2015), (.builtin "function.__dict__"), (.builtin "function.__dict__#set")], #[]⟩, ⟨(.type "getset_descriptor"), none, .fields #[(vs "__weakref__" 18564), (.ref 2015), (.builtin "ExceptionGroup.__weakref__"), .none], #[]⟩, ⟨(.type "super"), none, .fields #[(.ref 2015), (.ref 2015), (.ref 2015)], #[]⟩, ⟨(.type "builtin_function_or_method"), none, .fields #[(.builtin "object.__init_subclass__"), (.ref 2015)], #[]⟩]))))))))
noncomputable def s17 (P : Params) (os : OsState) : SharedT := shr (T17 P) 2020 18570 os
noncomputable def x3_18 (P : Params) : Obj := ⟨(.type "dict"), none, dB (x3_17 P) [(0, en P "__name__" 165 (vs "packkit.entries" 18612))] [en P "read_chain" 18575 (.ref 2024), en P "MOST_names" 18579 (.int 255 18578), en P "parts" 18586 (.ref 2031), en P "is_name" 18596 (.ref 2038), en P "need_name" 18603 (.ref 2045), en P "stands_in" 18611 (.ref 2052), en P "BLOCK" 18615 (.int 4096 18614), en P "MOST_SIZE" 18621 (.int 999999999 18620)] 125, #[]⟩
noncomputable def zqr (P : Params) : Obj := ⟨.none, none, fA (zqs P) [(.int 940 0), (.int 0 0), (.ref 2023), (.int 946 0), (.int 0 0), (.ref 2030), (.int 948 0), (.int 0 0), (.ref 2037), (.int 959 0), (.int 0 0), (.ref 2044), (.int 962 0), (.int 0 0), (.ref 2051)], #[]⟩
noncomputable def m8 : Value := (vs "packkit.names" 18576)
noncomputable def T18 (P : Params) : BT := insL (setL (T17 P) [(3, (x3_18 P)), (12, (zqr P))]) 2020 ([tup0, nul, ⟨.none, none, fo (S 126) (q "read_chain") .none .none .none .none none .none .none 0 0, #[]⟩, ⟨(.type "code"), none, .fields #[(vs "read_chain" 18570), (vs "read_chain" 18571), (vs "/claim/cut.py" 18572), (.int 940 0), (.int 1 0), (.int 0 0), (.int 0 0), (.int 3 0), (.ref 2020), (.bool true), (.int 181 0), (.ref 2021), .none, .none, .none, (.ref 2022), (.int 18573 0), (.int 940 0), (vs "/claim/cut.py" 18574)], #[]⟩, ⟨(.type "function"), none, fo (S 126) (q "read_chain") .none .none .none (vs "packkit.filters" 18291) none (.ref 2023) .none 3 0, #[]⟩] ++ ((fnB 2025 18580 18584 (S 129) "parts" "parts" ["name"] 946 1 .none m8) ++ ((fnB 2032 18587 18594 (S 130) "is_name" "is_name" ["text", "part", "sign", "code"] 948 1 .none m8) ++ ((fnB 2039 18597 18601 (S 131) "need_name" "need_name" ["text"] 959 1 .none m8) ++ (fnB 2046 18604 18609 (S 132) "stands_in" "stands_in" ["name", "folder"] 962 2 .none m8)))))
noncomputable def s18 (P : Params) (os : OsState) : SharedT := shr (T18 P) 2053 18622 os
noncomputable def x3_19 (P : Params) : Obj := ⟨(.type "dict"), none, dA (x3_18 P) [en P "Settings" 18666 (.ref 2077), en P "Entry" 18753 (.ref 2147)] 127, #[]⟩
noncomputable def zqq (P : Params) : Obj := ⟨.none, none, fA (zqr P) [(.int 969 0), (.int 0 0), (.ref 2058), (.int 984 0), (.int 0 0), (.ref 2087)], #[]⟩
noncomputable def m9 : Value := (vs "packkit.entries" 18612)
noncomputable def T19 (P : Params) : BT := insL (setL (T18 P) [(3, (x3_19 P)), (12, (zqq P))]) 2053 ([tup0, ⟨(.type "builtin_function_or_method"), none, .fields #[(.builtin "type.__prepare__"), (.type "type")], #[]⟩, ⟨(.type "dict"), none, .dict #[en P "__module__" 18629 (vs "packkit.entries" 18612), en P "__qualname__" 18631 (vs "Settings" 18630), en P "__firstlineno__" 18633 (.int 969 18632), en P "__init__" 18647 (.ref 2067), en P "show" 18654 (.ref 2074), en P "__static_attributes__" 18659 (.ref 2075)] 6, #[]⟩, tup0, ⟨.none, none, .fields #[(.int 971 0), (.int 4 0), (.ref 2066), (.int 982 0), (.int 4 0), (.ref 2073)], #[]⟩, ⟨(.type "code"), none, .fields #[(vs "Settings" 18624), (vs "Settings" 18625), (vs "/claim/cut.py" 18626), (.int 969 0), (.int 0 0), (.int 0 0), (.int 0 0), (.int 0 0), (.ref 2056), (.bool false), (.int 181 0), (.ref 2057), .none, .none, .none, .none, (.int 18627 0), (.int 969 0), (vs "/claim/cut.py" 18628)], #[]⟩, ⟨(.type "frame"), none, .plain, #[some (.ref 2058), some (.ref 3), some (.ref 2055), none, some (vs "packkit.entries" 18612), none, some (.ref 0)]⟩, ⟨(.type "tuple"), none, .seq #[(vs "best" 18634), (vs "-" 18635), (vs "crc32" 18636), (.int 4096 18614)] 0, #[]⟩] ++ ((fnB 2061 18637 18645 (C 136 0) "__init__" "Settings.__init__" ["self", "method", "chain", "kind", "size"] 971 5 (.ref 2060) m9) ++ ((fnB 2068 18648 18652 (C 136 1) "show" "Settings.show" ["self"] 982 1 .none m9) ++ ([⟨(.type "tuple"), none, .seq #[(vs "chain" 18655), (vs "kind" 18656), (vs "method" 18657), (vs "size" 18658)] 0, #[]⟩, ⟨(.type "dict"), none, .dict #[en P "__module__" 18629 (vs "packkit.entries" 18612), en P "__firstlineno__" 18633 (.int 969 18632), en P "__init__" 18647 (.ref 2067), en P "show" 18654 (.ref 2074), en P "__static_attributes__" 18659 (.ref 2075), en P "__dict__" 18661 (.ref 2078), en P "__weakref__" 18663 (.ref 2079), en P "__doc__" 18664 .none] 4, #[]⟩, ⟨(.type "type"), none, .cls { name := (q "Settings"), bases := [(.type "object")], mro := [(.ref 2077), (.type "object")], ns := 2076, qualname := (q "Settings"), hasDict := true, slotNames := [], subclasses := [], abstract := false, collection := .none, hasDel := false }, #[none, none, some (vs "Settings" 18622), some (vs "Settings" 18630), some (.builtin "object.__new__"), some (.bool true)]⟩, ⟨(.type "getset_descriptor"), none, .fields #[(vs "__dict__" 18660), (.ref 2077), (.builtin "function.__dict__"), (.builtin "function.__dict__#set")], #[]⟩, ⟨(.type "getset_descriptor"), none, .fields #[(vs "__weakref__" 18662), (.ref 2077), (.builtin "ExceptionGroup.__weakref__"), .none], #[]⟩, ⟨(.type "super"), none, .fields #[(.ref 2077), (.ref 2077), (.ref 2077)], #[]⟩, ⟨(.type "builtin_function_or_method"), none, .fields #[(.builtin "object.__init_subclass__"), (.ref 2077)], #[]⟩, tup0, ⟨(.type "builtin_function_or_method"), none, .fields #[(.builtin "type.__prepare__"), (.type "type")], #[]⟩, ⟨(.type "dict"), none, .dict #[en P "__module__" 18674 (vs "packkit.entries" 18612), en P "__qualname__" 18676 (vs "Entry" 18675), en P "__firstlineno__" 18678 (.int 984 18677), en P "__init__" 18688 (.ref 2095), en P "size" 18697 (.ref 2102), en P "packed" 18706 (.ref 2109), en P "data" 18713 (.ref 2116), en P "methods" 18720 (.ref 2123), en P "renamed" 18728 (.ref 2130), en P "to_bytes" 18735 (.ref 2137), en P "__repr__" 18742 (.ref 2144), en P "__static_attributes__" 18746 (.ref 2145)] 12, #[]⟩, tup0, ⟨.none, none, .fields #[(.int 986 0), (.int 4 0), (.ref 2094), (.int 992 0), (.int 4 0), (.ref 2101), (.int 998 0), (.int 4 0), (.ref 2108), (.int 1004 0), (.int 4 0), (.ref 2115), (.int 1007 0), (.int 4 0), (.ref 2122), (.int 1010 0), (.int 4 0), (.ref 2129), (.int 1013 0), (.int 4 0), (.ref 2136), (.int 1016 0), (.int 4 0), (.ref 2143)], #[]⟩, ⟨(.type "code"), none, .fields #[(vs "Entry" 18669), (vs "Entry" 18670), (vs "/claim/cut.py" 18671), (.int 984 0), (.int 0 0), (.int 0 0), (.int 0 0), (.int 0 0), (.ref 2085), (.bool false), (.int 181 0), (.ref 2086), .none, .none, .none, .none, (.int 18672 0), (.int 984 0), (vs "/claim/cut.py" 18673)], #[]⟩, ⟨(.type "frame"), none, .plain, #[some (.ref 2087), some (.ref 3), some (.ref 2084), none, some (vs "packkit.entries" 18612), none, some (.ref 0)]⟩] ++ ((fnB 2089 18679 18686 (C 137 0) "__init__" "Entry.__init__" ["self", "name", "chain", "blocks"] 986 4 .none m9) ++ ((fnB 2096 18689 18695 (C 137 1) "size" "Entry.size" ["self", "total", "block"] 992 1 .none m9) ++ ((fnB 2103 18698 18704 (C 137 2) "packed" "Entry.packed" ["self", "total", "block"] 998 1 .none m9) ++ ((fnB 2110 18707 18711 (C 137 3) "data" "Entry.data" ["self"] 1004 1 .none m9) ++ ((fnB 2117 18714 18718 (C 137 4) "methods" "Entry.methods" ["self"] 1007 1 .none m9) ++ ((fnB 2124 18721 18726 (C 137 5) "renamed" "Entry.renamed" ["self", "name"] 1010 2 .none m9) ++ ((fnB 2131 18729 18733 (C 137 6) "to_bytes" "Entry.to_bytes" ["self"] 1013 1 .none m9) ++ ((fnB 2138 18736 18740 (C 137 7) "__repr__" "Entry.__repr__" ["self"] 1016 1 .none m9) ++ [⟨(.type "tuple"), none, .seq #[(vs "blocks" 18743), (vs "chain" 18744), (vs "name" 18745)] 0, #[]⟩, ⟨(.type "dict"), none, .dict #[en P "__module__" 18674 (vs "packkit.entries" 18612), en P "__firstlineno__" 18678 (.int 984 18677), en P "__init__" 18688 (.ref 2095), en P "size" 18697 (.ref 2102), en P "packed" 18706 (.ref 2109), en P "data" 18713 (.ref 2116), en P "methods" 18720 (.ref 2123), en P "renamed" 18728 (.ref 2130), en P "to_bytes" 18735 (.ref 2137), en P "__repr__" 18742 (.ref 2144), en P "__static_attributes__" 18746 (.ref 2145), en P "__dict__" 18748 (.ref 2148), en P "__weakref__" 18750 (.ref 2149), en P "__doc__" 18751 .none] 4, #[]⟩, ⟨(.type "type"), none, .cls { name := (q "Entry"), bases := [(.type "object")], mro := [(.ref 2147), (.type "object")], ns := 2146, qualname := (q "Entry"), hasDict := true, slotNames := [], subclasses := [], abstract := false, collection := .none, hasDel := false }, #[none, none, some (vs "Entry" 18667), some (vs "Entry" 18675), some (.builtin "object.__new__"), some (.bool true)]⟩, ⟨(.type "getset_descriptor"), none, .fields #[(vs "__dict__" 18747), (.ref 2147), (.builtin "function.__dict__"), (.builtin "function.__dict__#set")], #[]⟩, ⟨(.type "getset_descriptor"), none, .fields #[(vs "__weakref__" 18749), (.ref 2147), (.builtin "ExceptionGroup.__weakref__"), .none], #[]⟩, ⟨(.type "super"), none, .fields #[(.ref 2147), (.ref 2147), (.ref 2147)], #[]⟩, ⟨(.type "builtin_function_or_method"), none, .fields #[(.builtin "object.__init_subclass__"), (.ref 2147)], #[]⟩]))))))))))))
noncomputable def s19 (P : Params) (os : OsState) : SharedT := shr (T19 P) 2152 18754 os
noncomputable def x3_20 (P : Params) : Obj := ⟨(.type "dict"), none, dB (x3_19 P) [(0, en P "__name__" 165 (vs "packkit.container" 18776))] [en P "make_entry" 18763 (.ref 2159), en P "read_entry" 18775 (.ref 2166)] 129, #[]⟩
noncomputable def zqp (P : Params) : Obj := ⟨.none, none, fA (zqq P) [(.int 1018 0), (.int 0 0), (.ref 2158), (.int 1023 0), (.int 0 0), (.ref 2165)], #[]⟩
noncomputable def T20 (P : Params) : BT := insL (setL (T19 P) [(3, (x3_20 P)), (12, (zqp P))]) 2152 ([⟨(.type "tuple"), none, .seq #[.none] 0, #[]⟩] ++ ((fnB 2153 18754 18761 (S 138) "make_entry" "make_entry" ["name", "data", "settings", "turned"] 1018 3 (.ref 2152) m9) ++ (fnB 2160 18764 18773 (S 139) "read_entry" "read_entry" ["data", "at", "name", "chain", "found", "blocks"] 1023 2 .none m9)))
noncomputable def s20 (P : Params) (os : OsState) : SharedT := shr (T20 P) 2167 18778 os
noncomputable def x3_21 (P : Params) : Obj := ⟨(.type "dict"), none, dA (x3_20 P) [en P "MAGIC" 18779 (.bytes #[80, 67, 75, 84] 18778), en P "VERSION" 18781 (.int 1 18780), en P "Container" 19025 (.ref 2361)] 132, #[]⟩
noncomputable def zqo (P : Params) : Obj := ⟨.none, none, fA (zqp P) [(.int 1039 0), (.int 0 0), (.ref 2172)], #[]⟩
noncomputable def m10 : Value := (vs "packkit.container" 18776)
noncomputable def T21 (P : Params) : BT := insL (setL (T20 P) [(3, (x3_21 P)), (12, (zqo P))]) 2167 ([tup0, ⟨(.type "builtin_function_or_method"), none, .fields #[(.builtin "type.__prepare__"), (.type "type")], #[]⟩, ⟨(.type "dict"), none, .dict #[en P "__module__" 18789 (vs "packkit.container" 18776), en P "__qualname__" 18791 (vs "Container" 18790), en P "__firstlineno__" 18793 (.int 1039 18792), en P "__init__" 18801 (.ref 2181), en P "names" 18808 (.ref 2188), en P "has" 18816 (.ref 2195), en P "entry" 18824 (.ref 2202), en P "read" 18832 (.ref 2209), en P "_need_room" 18842 (.ref 2216), en P "add" 18852 (.ref 2224), en P "put" 18862 (.ref 2232), en P "drop" 18870 (.ref 2239), en P "rename" 18879 (.ref 2246), en P "move" 18888 (.ref 2253), en P "take" 18896 (.ref 2260), en P "size" 18905 (.ref 2267), en P "packed" 18914 (.ref 2274), en P "walk" 18921 (.ref 2281), en P "find" 18929 (.ref 2288), en P "inside" 18937 (.ref 2295), en P "damaged" 18944 (.ref 2302), en P "copy" 18953 (.ref 2309), en P "sort" 18962 (.ref 2316), en P "repack" 18970 (.ref 2323), en P "to_bytes" 18986 (.ref 2330), en P "__len__" 18993 (.ref 2337), en P "__contains__" 19001 (.ref 2344), en P "__iter__" 19008 (.ref 2351), en P "__repr__" 19015 (.ref 2358), en P "__static_attributes__" 19018 (.ref 2359)] 30, #[]⟩, tup0, ⟨.none, none, .fields #[(.int 1041 0), (.int 4 0), (.ref 2180), (.int 1047 0), (.int 4 0), (.ref 2187), (.int 1050 0), (.int 4 0), (.ref 2194), (.int 1053 0), (.int 4 0), (.ref 2201), (.int 1058 0), (.int 4 0), (.ref 2208), (.int 1061 0), (.int 4 0), (.ref 2215), (.int 1068 0), (.int 4 0), (.ref 2223), (.int 1075 0), (.int 4 0), (.ref 2231), (.int 1078 0), (.int 4 0), (.ref 2238), (.int 1081 0), (.int 4 0), (.ref 2245), (.int 1084 0), (.int 4 0), (.ref 2252), (.int 1087 0), (.int 4 0), (.ref 2259), (.int 1091 0), (.int 4 0), (.ref 2266), (.int 1097 0), (.int 4 0), (.ref 2273), (.int 1103 0), (.int 4 0), (.ref 2280), (.int 1106 0), (.int 4 0), (.ref 2287), (.int 1109 0), (.int 4 0), (.ref 2294), (.int 1112 0), (.int 4 0), (.ref 2301), (.int 1115 0), (.int 4 0), (.ref 2308), (.int 1121 0), (.int 4 0), (.ref 2315), (.int 1127 0), (.int 4 0), (.ref 2322), (.int 1130 0), (.int 4 0), (.ref 2329), (.int 1147 0), (.int 4 0), (.ref 2336), (.int 1150 0), (.int 4 0), (.ref 2343), (.int 1153 0), (.int 4 0), (.ref 2350), (.int 1156 0), (.int 4 0), (.ref 2357)], #[]⟩, ⟨(.type "code"), none, .fields #[(vs "Container" 18784), (vs "Container" 18785), (vs "/claim/cut.py" 18786), (.int 1039 0), (.int 0 0), (.int 0 0), (.int 0 0), (.int 0 0), (.ref 2170), (.bool false), (.int 181 0), (.ref 2171), .none, .none, .none, .none, (.int 18787 0), (.int 1039 0), (vs "/claim/cut.py" 18788)], #[]⟩, ⟨(.type "frame"), none, .plain, #[some (.ref 2172), some (.ref 3), some (.ref 2169), none, some (vs "packkit.container" 18776), none, some (.ref 0)]⟩, ⟨(.type "tuple"), none, .seq #[.none] 0, #[]⟩] ++ ((fnB 2175 18794 18799 (C 143 0) "__init__" "Container.__init__" ["self", "settings"] 1041 2 (.ref 2174) m10) ++ ((fnB 2182 18802 18806 (C 143 1) "names" "Container.names" ["self"] 1047 1 .none m10) ++ ((fnB 2189 18809 18814 (C 143 2) "has" "Container.has" ["self", "name"] 1050 2 .none m10) ++ ((fnB 2196 18817 18822 (C 143 3) "entry" "Container.entry" ["self", "name"] 1053 2 .none m10) ++ ((fnB 2203 18825 18830 (C 143 4) "read" "Container.read" ["self", "name"] 1058 2 .none m10) ++ ((fnB 2210 18833 18840 (C 143 5) "_need_room" "Container._need_room" ["self", "name", "others", "other"] 1061 3 .none m10) ++ ([⟨(.type "tuple"), none, .seq #[.none] 0, #[]⟩] ++ ((fnB 2218 18843 18850 (C 143 6) "add" "Container.add" ["self", "name", "data", "settings"] 1068 4 (.ref 2217) m10) ++ ([⟨(.type "tuple"), none, .seq #[.none] 0, #[]⟩] ++ ((fnB 2226 18853 18860 (C 143 7) "put" "Container.put" ["self", "name", "data", "settings"] 1075 4 (.ref 2225) m10) ++ ((fnB 2233 18863 18868 (C 143 8) "drop" "Container.drop" ["self", "name"] 1078 2 .none m10) ++ ((fnB 2240 18871 18877 (C 143 9) "rename" "Container.rename" ["self", "old", "new"] 1081 3 .none m10) ++ ((fnB 2247 18880 18886 (C 143 10) "move" "Container.move" ["self", "folder", "to"] 1084 3 .none m10) ++ ((fnB 2254 18889 18894 (C 143 11) "take" "Container.take" ["self", "entry"] 1087 2 .none m10) ++ ((fnB 2261 18897 18903 (C 143 12) "size" "Container.size" ["self", "total", "name"] 1091 1 .none m10) ++ ((fnB 2268 18906 18912 (C 143 13) "packed" "Container.packed" ["self", "total", "name"] 1097 1 .none m10) ++ ((fnB 2275 18915 18919 (C 143 14) "walk" "Container.walk" ["self"] 1103 1 .none m10) ++ ((fnB 2282 18922 18927 (C 143 15) "find" "Container.find" ["self", "pattern"] 1106 2 .none m10) ++ ((fnB 2289 18930 18935 (C 143 16) "inside" "Container.inside" ["self", "folder"] 1109 2 .none m10) ++ ((fnB 2296 18938 18942 (C 143 17) "damaged" "Container.damaged" ["self"] 1112 1 .none m10) ++ ((fnB 2303 18945 18951 (C 143 18) "copy" "Container.copy" ["self", "other", "name"] 1115 1 .none m10) ++ ((fnB 2310 18954 18960 (C 143 19) "sort" "Container.sort" ["self", "kept", "name"] 1121 1 .none m10) ++ ((fnB 2317 18963 18968 (C 143 20) "repack" "Container.repack" ["self", "settings"] 1127 2 .none m10) ++ ((fnB 2324 18971 18984 (C 143 21) "to_bytes" "Container.to_bytes" ["self", "parts", "at", "places", "name", "piece", "listing", "place", "size", "body"] 1130 1 .none m10) ++ ((fnB 2331 18987 18991 (C 143 22) "__len__" "Container.__len__" ["self"] 1147 1 .none m10) ++ ((fnB 2338 18994 18999 (C 143 23) "__contains__" "Container.__contains__" ["self", "name"] 1150 2 .none m10) ++ ((fnB 2345 19002 19006 (C 143 24) "__iter__" "Container.__iter__" ["self"] 1153 1 .none m10) ++ ((fnB 2352 19009 19013 (C 143 25) "__repr__" "Container.__repr__" ["self"] 1156 1 .none m10) ++ [⟨(.type "tuple"), none, .seq #[(vs "_entries" 19016), (vs "settings" 19017)] 0, #[]⟩, ⟨(.type "dict"), none, .dict #[en P "__module__" 18789 (vs "packkit.container" 18776), en P "__firstlineno__" 18793 (.int 1039 18792), en P "__init__" 18801 (.ref 2181), en P "names" 18808 (.ref 2188), en P "has" 18816 (.ref 2195), en P "entry" 18824 (.ref 2202), en P "read" 18832 (.ref 2209), en P "_need_room" 18842 (.ref 2216), en P "add" 18852 (.ref 2224), en P "put" 18862 (.ref 2232), en P "drop" 18870 (.ref 2239), en P "rename" 18879 (.ref 2246), en P "move" 18888 (.ref 2253), en P "take" 18896 (.ref 2260), en P "size" 18905 (.ref 2267), en P "packed" 18914 (.ref 2274), en P "walk" 18921 (.ref 2281), en P "find" 18929 (.ref 2288), en P "inside" 18937 (.ref 2295), en P "damaged" 18944 (.ref 2302), en P "copy" 18953 (.ref 2309), en P "sort" 18962 (.ref 2316), en P "repack" 18970 (.ref 2323), en P "to_bytes" 18986 (.ref 2330), en P "__len__" 18993 (.ref 2337), en P "__contains__" 19001 (.ref 2344), en P "__iter__" 19008 (.ref 2351), en P "__repr__" 19015 (.ref 2358), en P "__static_attributes__" 19018 (.ref 2359), en P "__dict__" 19020 (.ref 2362), en P "__weakref__" 19022 (.ref 2363), en P "__doc__" 19023 .none] 4, #[]⟩, ⟨(.type "type"), none, .cls { name := (q "Container"), bases := [(.type "object")], mro := [(.ref 2361), (.type "object")], ns := 2360, qualname := (q "Container"), hasDict := true, slotNames := [], subclasses := [], abstract := false, collection := .none, hasDel := false }, #[none, none, some (vs "Container" 18782), some (vs "Container" 18790), some (.builtin "object.__new__"), some (.bool true)]⟩, ⟨(.type "getset_descriptor"), none, .fields #[(vs "__dict__" 19019), (.ref 2361), (.builtin "function.__dict__"), (.builtin "function.__dict__#set")], #[]⟩, ⟨(.type "getset_descriptor"), none, .fields #[(vs "__weakref__" 19021), (.ref 2361), (.builtin "ExceptionGroup.__weakref__"), .none], #[]⟩, ⟨(.type "super"), none, .fields #[(.ref 2361), (.ref 2361), (.ref 2361)], #[]⟩, ⟨(.type "builtin_function_or_method"), none, .fields #[(.builtin "object.__init_subclass__"), (.ref 2361)], #[]⟩])))))))))))))))))))))))))))))
noncomputable def s21 (P : Params) (os : OsState) : SharedT := shr (T21 P) 2366 19026 os
noncomputable def x3_22 (P : Params) : Obj := ⟨(.type "dict"), none, dB (x3_21 P) [(0, en P "__name__" 165 (vs "law_ui0507_23" 19072))] [en P "_whole" 19035 (.ref 2372), en P "directory" 19051 (.ref 2379), en P "from_bytes" 19071 (.ref 2387), en P "_law_cell" 19081 (.ref 2394), en P "law" 19094 (.ref 2401)] 137, #[]⟩
noncomputable def zqn (P : Params) : Obj := ⟨.none, none, fA (zqo P) [(.int 1158 0), (.int 0 0), (.ref 2371), (.int 1168 0), (.int 0 0), (.ref 2378), (.int 1183 0), (.int 0 0), (.ref 2386), (.int 1206 0), (.int 0 0), (.ref 2393), (.int 1210 0), (.int 0 0), (.ref 2400)], #[]⟩
noncomputable def m11 : Value := (vs "law_ui0507_23" 19072)
noncomputable def T22 (P : Params) : BT := insL (setL (T21 P) [(3, (x3_22 P)), (12, (zqn P))]) 2366 ((fnB 2366 19026 19033 (S 144) "_whole" "_whole" ["data", "body", "told", "end"] 1158 1 .none m10) ++ ((fnB 2373 19036 19049 (S 145) "directory" "directory" ["data", "body", "at", "end", "count", "rows", "k", "name", "place", "size"] 1168 1 .none m10) ++ ([⟨(.type "tuple"), none, .seq #[.none] 0, #[]⟩] ++ ((fnB 2381 19052 19069 (S 146) "from_bytes" "from_bytes" ["data", "settings", "container", "rows", "at", "name", "place", "size", "found", "entry", "error", "body", "told", "end"] 1183 2 (.ref 2380) m10) ++ ((fnB 2388 19074 19079 (S 148) "_law_cell" "_law_cell" ["script", "k"] 1206 2 .none m11) ++ (fnB 2395 19082 19092 (S 149) "law" "law" ["script", "box", "row", "turn", "place", "found", "got"] 1210 1 .none m11))))))
noncomputable def s22 (P : Params) (os : OsState) : SharedT := shr (T22 P) 2402 19095 os
end
end Mine
open PyProof.Rows PySem.Calls
namespace Mine
section
set_option maxRecDepth 100000
set_option maxHeartbeats 0
theorem pi {α β : Type} {a c : α} {b d : β} (h : (a, b) = (c, d)) : a = c ∧ b = d := Prod.mk.inj h
theorem g0 (p : Program) (w : World) (b : List Stmt) (os : OsState) : (Ul p w b os 0, Ul p w b os 1, Ul p w b os 2, Ul p w b os 3, Ul p w b os 4, Ul p w b os 5, Ul p w b os 6, Ul p w b os 7) = (Ur p w b os 0, Ur p w b os 1, Ur p w b os 2, Ur p w b os 3, Ur p w b os 4, Ur p w b os 5, Ur p w b os 6, Ur p w b os 7) := by kernel_rfl
theorem g8 (p : Program) (w : World) (b : List Stmt) (os : OsState) : (Ul p w b os 8, Ul p w b os 9, Ul p w b os 10, Ul p w b os 11, Ul p w b os 12, Ul p w b os 13, Ul p w b os 14, Ul p w b os 15) = (Ur p w b os 8, Ur p w b os 9, Ur p w b os 10, Ur p w b os 11, Ur p w b os 12, Ur p w b os 13, Ur p w b os 14, Ur p w b os 15) := by kernel_rfl
theorem g16 (p : Program) (w : World) (b : List Stmt) (os : OsState) : (Ul p w b os 16, Ul p w b os 17, Ul p w b os 18, Ul p w b os 19, Ul p w b os 20, Ul p w b os 21, Ul p w b os 22, Ul p w b os 23) = (Ur p w b os 16, Ur p w b os 17, Ur p w b os 18, Ur p w b os 19, Ur p w b os 20, Ur p w b os 21, Ur p w b os 22, Ur p w b os 23) := by kernel_rfl
theorem g24 (p : Program) (w : World) (b : List Stmt) (os : OsState) : (Ul p w b os 24, Ul p w b os 25, Ul p w b os 26, Ul p w b os 27, Ul p w b os 28, Ul p w b os 29, Ul p w b os 30, Ul p w b os 31) = (Ur p w b os 24, Ur p w b os 25, Ur p w b os 26, Ur p w b os 27, Ur p w b os 28, Ur p w b os 29, Ur p w b os 30, Ur p w b os 31) := by kernel_rfl
theorem g32 (p : Program) (w : World) (b : List Stmt) (os : OsState) : (Ul p w b os 32, Ul p w b os 33, Ul p w b os 34, Ul p w b os 35, Ul p w b os 36, Ul p w b os 37, Ul p w b os 38, Ul p w b os 39) = (Ur p w b os 32, Ur p w b os 33, Ur p w b os 34, Ur p w b os 35, Ur p w b os 36, Ur p w b os 37, Ur p w b os 38, Ur p w b os 39) := by kernel_rfl
theorem g40 (p : Program) (w : World) (b : List Stmt) (os : OsState) : (Ul p w b os 40, Ul p w b os 41, Ul p w b os 42, Ul p w b os 43, Ul p w b os 44, Ul p w b os 45, Ul p w b os 46, Ul p w b os 47) = (Ur p w b os 40, Ur p w b os 41, Ur p w b os 42, Ur p w b os 43, Ur p w b os 44, Ur p w b os 45, Ur p w b os 46, Ur p w b os 47) := by kernel_rfl
theorem g48 (p : Program) (w : World) (b : List Stmt) (os : OsState) : (Ul p w b os 48, Ul p w b os 49, Ul p w b os 50, Ul p w b os 51, Ul p w b os 52, Ul p w b os 53, Ul p w b os 54, Ul p w b os 55) = (Ur p w b os 48, Ur p w b os 49, Ur p w b os 50, Ur p w b os 51, Ur p w b os 52, Ur p w b os 53, Ur p w b os 54, Ur p w b os 55) := by kernel_rfl
theorem g56 (p : Program) (w : World) (b : List Stmt) (os : OsState) : (Ul p w b os 56, Ul p w b os 57, Ul p w b os 58, Ul p w b os 59, Ul p w b os 60, Ul p w b os 61, Ul p w b os 62, Ul p w b os 63) = (Ur p w b os 56, Ur p w b os 57, Ur p w b os 58, Ur p w b os 59, Ur p w b os 60, Ur p w b os 61, Ur p w b os 62, Ur p w b os 63) := by kernel_rfl
theorem g64 (p : Program) (w : World) (b : List Stmt) (os : OsState) : (Ul p w b os 64, Ul p w b os 65, Ul p w b os 66, Ul p w b os 67, Ul p w b os 68, Ul p w b os 69, Ul p w b os 70, Ul p w b os 71) = (Ur p w b os 64, Ur p w b os 65, Ur p w b os 66, Ur p w b os 67, Ur p w b os 68, Ur p w b os 69, Ur p w b os 70, Ur p w b os 71) := by kernel_rfl
theorem g72 (p : Program) (w : World) (b : List Stmt) (os : OsState) : (Ul p w b os 72, Ul p w b os 73, Ul p w b os 74, Ul p w b os 75, Ul p w b os 76, Ul p w b os 77, Ul p w b os 78, Ul p w b os 79) = (Ur p w b os 72, Ur p w b os 73, Ur p w b os 74, Ur p w b os 75, Ur p w b os 76, Ur p w b os 77, Ur p w b os 78, Ur p w b os 79) := by kernel_rfl
theorem g80 (p : Program) (w : World) (b : List Stmt) (os : OsState) : (Ul p w b os 80, Ul p w b os 81, Ul p w b os 82, Ul p w b os 83, Ul p w b os 84, Ul p w b os 85, Ul p w b os 86, Ul p w b os 87) = (Ur p w b os 80, Ur p w b os 81, Ur p w b os 82, Ur p w b os 83, Ur p w b os 84, Ur p w b os 85, Ur p w b os 86, Ur p w b os 87) := by kernel_rfl
theorem g88 (p : Program) (w : World) (b : List Stmt) (os : OsState) : (Ul p w b os 88, Ul p w b os 89, Ul p w b os 90, Ul p w b os 91, Ul p w b os 92, Ul p w b os 93, Ul p w b os 94, Ul p w b os 95) = (Ur p w b os 88, Ur p w b os 89, Ur p w b os 90, Ur p w b os 91, Ur p w b os 92, Ur p w b os 93, Ur p w b os 94, Ur p w b os 95) := by kernel_rfl
theorem g96 (p : Program) (w : World) (b : List Stmt) (os : OsState) : (Ul p w b os 96, Ul p w b os 97, Ul p w b os 98, Ul p w b os 99, Ul p w b os 100, Ul p w b os 101, Ul p w b os 102, Ul p w b os 103) = (Ur p w b os 96, Ur p w b os 97, Ur p w b os 98, Ur p w b os 99, Ur p w b os 100, Ur p w b os 101, Ur p w b os 102, Ur p w b os 103) := by kernel_rfl
theorem g104 (p : Program) (w : World) (b : List Stmt) (os : OsState) : (Ul p w b os 104, Ul p w b os 105, Ul p w b os 106, Ul p w b os 107, Ul p w b os 108, Ul p w b os 109, Ul p w b os 110, Ul p w b os 111) = (Ur p w b os 104, Ur p w b os 105, Ur p w b os 106, Ur p w b os 107, Ur p w b os 108, Ur p w b os 109, Ur p w b os 110, Ur p w b os 111) := by kernel_rfl
theorem g112 (p : Program) (w : World) (b : List Stmt) (os : OsState) : (Ul p w b os 112, Ul p w b os 113, Ul p w b os 114, Ul p w b os 115, Ul p w b os 116, Ul p w b os 117, Ul p w b os 118, Ul p w b os 119) = (Ur p w b os 112, Ur p w b os 113, Ur p w b os 114, Ur p w b os 115, Ur p w b os 116, Ur p w b os 117, Ur p w b os 118, Ur p w b os 119) := by kernel_rfl
theorem g120 (p : Program) (w : World) (b : List Stmt) (os : OsState) : (Ul p w b os 120, Ul p w b os 121, Ul p w b os 122, Ul p w b os 123, Ul p w b os 124, Ul p w b os 125, Ul p w b os 126, Ul p w b os 127) = (Ur p w b os 120, Ur p w b os 121, Ur p w b os 122, Ur p w b os 123, Ur p w b os 124, Ur p w b os 125, Ur p w b os 126, Ur p w b os 127) := by kernel_rfl
theorem g128 (p : Program) (w : World) (b : List Stmt) (os : OsState) : (Ul p w b os 128, Ul p w b os 129, Ul p w b os 130, Ul p w b os 131, Ul p w b os 132, Ul p w b os 133, Ul p w b os 134, Ul p w b os 135) = (Ur p w b os 128, Ur p w b os 129, Ur p w b os 130, Ur p w b os 131, Ur p w b os 132, Ur p w b os 133, Ur p w b os 134, Ur p w b os 135) := by kernel_rfl
theorem g136 (p : Program) (w : World) (b : List Stmt) (os : OsState) : (Ul p w b os 136, Ul p w b os 137, Ul p w b os 138, Ul p w b os 139, Ul p w b os 140, Ul p w b os 141, Ul p w b os 142, Ul p w b os 143) = (Ur p w b os 136, Ur p w b os 137, Ur p w b os 138, Ur p w b os 139, Ur p w b os 140, Ur p w b os 141, Ur p w b os 142, Ur p w b os 143) := by kernel_rfl
theorem g144 (p : Program) (w : World) (b : List Stmt) (os : OsState) : (Ul p w b os 144, Ul p w b os 145, Ul p w b os 146, Ul p w b os 147, Ul p w b os 148, Ul p w b os 149, Ul p w b os 150, Ul p w b os 151) = (Ur p w b os 144, Ur p w b os 145, Ur p w b os 146, Ur p w b os 147, Ur p w b os 148, Ur p w b os 149, Ur p w b os 150, Ur p w b os 151) := by kernel_rfl
theorem g152 (p : Program) (w : World) (b : List Stmt) (os : OsState) : (Ul p w b os 152, Ul p w b os 153, Ul p w b os 154, Ul p w b os 155, Ul p w b os 156, Ul p w b os 157, Ul p w b os 158, Ul p w b os 159) = (Ur p w b os 152, Ur p w b os 153, Ur p w b os 154, Ur p w b os 155, Ur p w b os 156, Ur p w b os 157, Ur p w b os 158, Ur p w b os 159) := by kernel_rfl
theorem g160 (p : Program) (w : World) (b : List Stmt) (os : OsState) : (Ul p w b os 160, Ul p w b os 161, Ul p w b os 162, Ul p w b os 163, Ul p w b os 164, Ul p w b os 165, Ul p w b os 166, Ul p w b os 167) = (Ur p w b os 160, Ur p w b os 161, Ur p w b os 162, Ur p w b os 163, Ur p w b os 164, Ur p w b os 165, Ur p w b os 166, Ur p w b os 167) := by kernel_rfl
theorem g168 (p : Program) (w : World) (b : List Stmt) (os : OsState) : (Ul p w b os 168, Ul p w b os 169, Ul p w b os 170, Ul p w b os 171, Ul p w b os 172, Ul p w b os 173, Ul p w b os 174, Ul p w b os 175) = (Ur p w b os 168, Ur p w b os 169, Ur p w b os 170, Ur p w b os 171, Ur p w b os 172, Ur p w b os 173, Ur p w b os 174, Ur p w b os 175) := by kernel_rfl
theorem g176 (p : Program) (w : World) (b : List Stmt) (os : OsState) : (Ul p w b os 176, Ul p w b os 177, Ul p w b os 178, Ul p w b os 179, Ul p w b os 180, Ul p w b os 181, Ul p w b os 182, Ul p w b os 183) = (Ur p w b os 176, Ur p w b os 177, Ur p w b os 178, Ur p w b os 179, Ur p w b os 180, Ur p w b os 181, Ur p w b os 182, Ur p w b os 183) := by kernel_rfl
theorem g184 (p : Program) (w : World) (b : List Stmt) (os : OsState) : (Ul p w b os 184, Ul p w b os 185, Ul p w b os 186, Ul p w b os 187, Ul p w b os 188, Ul p w b os 189, Ul p w b os 190, Ul p w b os 191) = (Ur p w b os 184, Ur p w b os 185, Ur p w b os 186, Ur p w b os 187, Ur p w b os 188, Ur p w b os 189, Ur p w b os 190, Ur p w b os 191) := by kernel_rfl
theorem g192 (p : Program) (w : World) (b : List Stmt) (os : OsState) : (Ul p w b os 192, Ul p w b os 193, Ul p w b os 194, Ul p w b os 195, Ul p w b os 196, Ul p w b os 197, Ul p w b os 198, Ul p w b os 199) = (Ur p w b os 192, Ur p w b os 193, Ur p w b os 194, Ur p w b os 195, Ur p w b os 196, Ur p w b os 197, Ur p w b os 198, Ur p w b os 199) := by kernel_rfl
theorem g200 (p : Program) (w : World) (b : List Stmt) (os : OsState) : (Ul p w b os 200, Ul p w b os 201, Ul p w b os 202, Ul p w b os 203, Ul p w b os 204, Ul p w b os 205, Ul p w b os 206, Ul p w b os 207) = (Ur p w b os 200, Ur p w b os 201, Ur p w b os 202, Ur p w b os 203, Ur p w b os 204, Ur p w b os 205, Ur p w b os 206, Ur p w b os 207) := by kernel_rfl
theorem g208 (p : Program) (w : World) (b : List Stmt) (os : OsState) : (Ul p w b os 208, Ul p w b os 209, Ul p w b os 210, Ul p w b os 211, Ul p w b os 212, Ul p w b os 213, Ul p w b os 214, Ul p w b os 215) = (Ur p w b os 208, Ur p w b os 209, Ur p w b os 210, Ur p w b os 211, Ur p w b os 212, Ur p w b os 213, Ur p w b os 214, Ur p w b os 215) := by kernel_rfl
theorem g216 (p : Program) (w : World) (b : List Stmt) (os : OsState) : (Ul p w b os 216, Ul p w b os 217, Ul p w b os 218, Ul p w b os 219, Ul p w b os 220, Ul p w b os 221, Ul p w b os 222, Ul p w b os 223) = (Ur p w b os 216, Ur p w b os 217, Ur p w b os 218, Ur p w b os 219, Ur p w b os 220, Ur p w b os 221, Ur p w b os 222, Ur p w b os 223) := by kernel_rfl
theorem g224 (p : Program) (w : World) (b : List Stmt) (os : OsState) : (Ul p w b os 224, Ul p w b os 225, Ul p w b os 226, Ul p w b os 227, Ul p w b os 228, Ul p w b os 229, Ul p w b os 230, Ul p w b os 231) = (Ur p w b os 224, Ur p w b os 225, Ur p w b os 226, Ur p w b os 227, Ur p w b os 228, Ur p w b os 229, Ur p w b os 230, Ur p w b os 231) := by kernel_rfl
theorem g232 (p : Program) (w : World) (b : List Stmt) (os : OsState) : (Ul p w b os 232, Ul p w b os 233, Ul p w b os 234, Ul p w b os 235, Ul p w b os 236, Ul p w b os 237, Ul p w b os 238, Ul p w b os 239) = (Ur p w b os 232, Ur p w b os 233, Ur p w b os 234, Ur p w b os 235, Ur p w b os 236, Ur p w b os 237, Ur p w b os 238, Ur p w b os 239) := by kernel_rfl
theorem g240 (p : Program) (w : World) (b : List Stmt) (os : OsState) : (Ul p w b os 240, Ul p w b os 241, Ul p w b os 242, Ul p w b os 243, Ul p w b os 244, Ul p w b os 245, Ul p w b os 246, Ul p w b os 247) = (Ur p w b os 240, Ur p w b os 241, Ur p w b os 242, Ur p w b os 243, Ur p w b os 244, Ur p w b os 245, Ur p w b os 246, Ur p w b os 247) := by kernel_rfl
theorem g248 (p : Program) (w : World) (b : List Stmt) (os : OsState) : (Ul p w b os 248, Ul p w b os 249, Ul p w b os 250, Ul p w b os 251, Ul p w b os 252, Ul p w b os 253, Ul p w b os 254) = (Ur p w b os 248, Ur p w b os 249, Ur p w b os 250, Ur p w b os 251, Ur p w b os 252, Ur p w b os 253, Ur p w b os 254) := by kernel_rfl
theorem W8 {p : Program} {w : World} {b : List Stmt} {os : OsState} (x : Nat) (h : (Ul p w b os x, Ul p w b os (x + 1), Ul p w b os (x + 2), Ul p w b os (x + 3), Ul p w b os (x + 4), Ul p w b os (x + 5), Ul p w b os (x + 6), Ul p w b os (x + 7)) = (Ur p w b os x, Ur p w b os (x + 1), Ur p w b os (x + 2), Ur p w b os (x + 3), Ur p w b os (x + 4), Ur p w b os (x + 5), Ur p w b os (x + 6), Ur p w b os (x + 7))) : ∀ i, i < 8 → U p w b os (x + i)
  | 0, _ => (pi h).1 | 1, _ => (pi (pi h).2).1 | 2, _ => (pi (pi (pi h).2).2).1 | 3, _ => (pi (pi (pi (pi h).2).2).2).1 | 4, _ => (pi (pi (pi (pi (pi h).2).2).2).2).1 | 5, _ => (pi (pi (pi (pi (pi (pi h).2).2).2).2).2).1 | 6, _ => (pi (pi (pi (pi (pi (pi (pi h).2).2).2).2).2).2).1 | 7, _ => (pi (pi (pi (pi (pi (pi (pi h).2).2).2).2).2).2).2
theorem W7 {p : Program} {w : World} {b : List Stmt} {os : OsState} (x : Nat) (h : (Ul p w b os x, Ul p w b os (x + 1), Ul p w b os (x + 2), Ul p w b os (x + 3), Ul p w b os (x + 4), Ul p w b os (x + 5), Ul p w b os (x + 6)) = (Ur p w b os x, Ur p w b os (x + 1), Ur p w b os (x + 2), Ur p w b os (x + 3), Ur p w b os (x + 4), Ur p w b os (x + 5), Ur p w b os (x + 6))) : ∀ i, i < 7 → U p w b os (x + i)
  | 0, _ => (pi h).1 | 1, _ => (pi (pi h).2).1 | 2, _ => (pi (pi (pi h).2).2).1 | 3, _ => (pi (pi (pi (pi h).2).2).2).1 | 4, _ => (pi (pi (pi (pi (pi h).2).2).2).2).1 | 5, _ => (pi (pi (pi (pi (pi (pi h).2).2).2).2).2).1 | 6, _ => (pi (pi (pi (pi (pi (pi h).2).2).2).2).2).2
theorem r1 (p : Program) (w : World) (b : List Stmt) (os : OsState) : runW p w 255 (s0 w.params os) (thr1 b) = some (.next, s1 w.params os, Code.body b env, { line := 12, col := 0, endLine := 13, endCol := 8 }) := by kernel_rfl
theorem r2 (p : Program) (w : World) (b : List Stmt) (os : OsState) : runW p w 640 (s1 w.params os) (thr2 b) = some (.next, s2 w.params os, Code.body b env, { line := 18, col := 0, endLine := 19, endCol := 8 }) := by kernel_rfl
theorem r3 (p : Program) (w : World) (b : List Stmt) (os : OsState) : runW p w 706 (s2 w.params os) (thr3 b) = some (.next, s3 w.params os, Code.body b env, { line := 27, col := 0, endLine := 72, endCol := 25 }) := by kernel_rfl
theorem r4 (p : Program) (w : World) (b : List Stmt) (os : OsState) : runW p w 483 (s3 w.params os) (thr4 b) = some (.next, s4 w.params os, Code.body b env, { line := 73, col := 0, endLine := 122, endCol := 28 }) := by kernel_rfl
theorem r5 (p : Program) (w : World) (b : List Stmt) (os : OsState) : runW p w 273 (s4 w.params os) (thr5 b) = some (.next, s5 w.params os, Code.body b env, { line := 189, col := 0, endLine := 199, endCol := 16 }) := by kernel_rfl
theorem last (p : Program) (w : World) (b : List Stmt) (os : OsState) : goW p (wF w) 37 (aS (tB w.params 255) 255 (tk 255) os) (thrA p w b os) = some ((bS (tB w.params 255) 255 (tk 255) os), thrB p w b os (aS (tB w.params 255) 255 (tk 255) os)) ∧
    goW p (wT w) 37 (aS (tB w.params 255) 255 (tk 255) os) (thrA p w b os) = some ((bS (tB w.params 255) 255 (tk 255) os), thrB p w b os (aS (tB w.params 255) 255 (tk 255) os)) ∧
    runW p w 517 (bS (tB w.params 255) 255 (tk 255) os) (thrB p w b os (aS (tB w.params 255) 255 (tk 255) os)) = some (.next, s6 w.params os, Code.body b env, { line := 200, col := 0, endLine := 200, endCol := 6 }) := ⟨by kernel_rfl, by kernel_rfl, by kernel_rfl⟩
theorem start_ (p : Program) (w : World) (b : List Stmt) (os : OsState) : goW p (wF w) 92 (s5 w.params os) (thr6 b) = some ((aS (tB w.params 0) 0 (tk 0) os), thrA p w b os) ∧ goW p (wT w) 92 (s5 w.params os) (thr6 b) = some ((aS (tB w.params 0) 0 (tk 0) os), thrA p w b os) := ⟨by kernel_rfl, by kernel_rfl⟩
theorem r7 (p : Program) (w : World) (b : List Stmt) (os : OsState) : runW p (wF w) 378 (s6 w.params os) (thr7 b) = some (.next, s7 w.params os, Code.body b env, { line := 241, col := 0, endLine := 253, endCol := 12 }) ∧ runW p (wT w) 378 (s6 w.params os) (thr7 b) = some (.next, s7 w.params os, Code.body b env, { line := 241, col := 0, endLine := 253, endCol := 12 }) := ⟨by kernel_rfl, by kernel_rfl⟩
theorem r8 (p : Program) (w : World) (b : List Stmt) (os : OsState) : runW p w 384 (s7 w.params os) (thr8 b) = some (.next, s8 w.params os, Code.body b env, { line := 372, col := 0, endLine := 386, endCol := 16 }) := by kernel_rfl
theorem r9 (p : Program) (w : World) (b : List Stmt) (os : OsState) : runW p w 496 (s8 w.params os) (thr9 b) = some (.next, s9 w.params os, Code.body b env, { line := 464, col := 0, endLine := 468, endCol := 16 }) := by kernel_rfl
theorem r10 (p : Program) (w : World) (b : List Stmt) (os : OsState) : runW p w 371 (s9 w.params os) (thr10 b) = some (.next, s10 w.params os, Code.body b env, { line := 519, col := 0, endLine := 530, endCol := 21 }) := by kernel_rfl
theorem r11 (p : Program) (w : World) (b : List Stmt) (os : OsState) : runW p w 420 (s10 w.params os) (thr11 b) = some (.next, s11 w.params os, Code.body b env, { line := 658, col := 0, endLine := 662, endCol := 47 }) := by kernel_rfl
theorem r12 (p : Program) (w : World) (b : List Stmt) (os : OsState) : runW p (wF w) 369 (s11 w.params os) (thr12 b) = some (.next, s12 w.params os, Code.body b env, { line := 699, col := 0, endLine := 699, endCol := 13 }) ∧ runW p (wT w) 369 (s11 w.params os) (thr12 b) = some (.next, s12 w.params os, Code.body b env, { line := 699, col := 0, endLine := 699, endCol := 13 }) := ⟨by kernel_rfl, by kernel_rfl⟩
theorem r13 (p : Program) (w : World) (b : List Stmt) (os : OsState) : runW p (wF w) 313 (s12 w.params os) (thr13 b) = some (.next, s13 w.params os, Code.body b env, { line := 729, col := 0, endLine := 729, endCol := 8 }) ∧ runW p (wT w) 313 (s12 w.params os) (thr13 b) = some (.next, s13 w.params os, Code.body b env, { line := 729, col := 0, endLine := 729, endCol := 8 }) := ⟨by kernel_rfl, by kernel_rfl⟩
theorem r14 (p : Program) (w : World) (b : List Stmt) (os : OsState) : runW p w 538 (s13 w.params os) (thr14 b) = some (.next, s14 w.params os, Code.body b env, { line := 798, col := 0, endLine := 799, endCol := 55 }) := by kernel_rfl
theorem r15 (p : Program) (w : World) (b : List Stmt) (os : OsState) : runW p (wF w) 515 (s14 w.params os) (thr15 b) = some (.next, s15 w.params os, Code.body b env, { line := 880, col := 0, endLine := 880, endCol := 12 }) ∧ runW p (wT w) 515 (s14 w.params os) (thr15 b) = some (.next, s15 w.params os, Code.body b env, { line := 880, col := 0, endLine := 880, endCol := 12 }) := ⟨by kernel_rfl, by kernel_rfl⟩
theorem r16 (p : Program) (w : World) (b : List Stmt) (os : OsState) : runW p w 391 (s15 w.params os) (thr16 b) = some (.next, s16 w.params os, Code.body b env, { line := 881, col := 0, endLine := 905, endCol := 44 }) := by kernel_rfl
theorem r17 (p : Program) (w : World) (b : List Stmt) (os : OsState) : runW p w 419 (s16 w.params os) (thr17 b) = some (.next, s17 w.params os, Code.body b env, { line := 913, col := 0, endLine := 939, endCol := 32 }) := by kernel_rfl
theorem r18 (p : Program) (w : World) (b : List Stmt) (os : OsState) : runW p w 204 (s17 w.params os) (thr18 b) = some (.next, s18 w.params os, Code.body b env, { line := 968, col := 0, endLine := 968, endCol := 9 }) := by kernel_rfl
theorem r19 (p : Program) (w : World) (b : List Stmt) (os : OsState) : runW p w 716 (s18 w.params os) (thr19 b) = some (.next, s19 w.params os, Code.body b env, { line := 984, col := 0, endLine := 1017, endCol := 67 }) := by kernel_rfl
theorem r20 (p : Program) (w : World) (b : List Stmt) (os : OsState) : runW p w 77 (s19 w.params os) (thr20 b) = some (.next, s20 w.params os, Code.body b env, { line := 1036, col := 0, endLine := 1036, endCol := 8 }) := by kernel_rfl
theorem r21 (p : Program) (w : World) (b : List Stmt) (os : OsState) : runW p w 1059 (s20 w.params os) (thr21 b) = some (.next, s21 w.params os, Code.body b env, { line := 1039, col := 0, endLine := 1157, endCol := 60 }) := by kernel_rfl
theorem r22 (p : Program) (w : World) (b : List Stmt) (os : OsState) : runW p w 188 (s21 w.params os) (thr22 b) = some (.next, s22 w.params os, Code.body b env, { line := 1210, col := 0, endLine := 1225, endCol := 34 }) := by kernel_rfl
theorem run1 {p : Program} {w : World} {n : Nat} {s s' : SharedT} {t : Thread} {f : Flow} {c : Code} {q : Pos} (h : runW p w n s t = some (f, s', c, q)) : segRun treeTable p w 11 (some (Value.ref 6)) 1 n s.abs t = some (f, s'.abs, c, q) := segRun_of (u2.trans h)
theorem run2 {p : Program} {w : World} {n : Nat} {s s' : SharedT} {t : Thread} {f : Flow} {c : Code} {q : Pos} (h : runW p (wF w) n s t = some (f, s', c, q) ∧ runW p (wT w) n s t = some (f, s', c, q)) : segRun treeTable p w 11 (some (Value.ref 6)) 1 n s.abs t = some (f, s'.abs, c, q) := by
  refine run1 ?_
  have e := World.withFollow_self w "special-get-raises"
  cases hh : w.params.followText "special-get-raises" with
  | false => rw [hh] at e; have h1 := h.1; unfold wF at h1; rw [e] at h1; exact h1
  | true => rw [hh] at e; have h1 := h.2; unfold wT at h1; rw [e] at h1; exact h1

noncomputable def GoS (p : Program) (w : World) (n : Nat) (s : SharedT) (t : Thread) (s' : SharedT) (t' : Thread) : Prop := segGo treeTable p w 11 (some (Value.ref 6)) 1 n s.abs t = some (s'.abs, t')
theorem zgh {tb : String → Option Builtin} {p : Program} {w : World} {n₀ : Nat} {ann : Option Value} {b : Nat} : ∀ {n m : Nat} {s s' : Shared} {t t' : Thread} {r : Shared × Thread}, segGo tb p w n₀ ann b n s t = some (s', t') → segGo tb p w n₀ ann b m s' t' = some r → segGo tb p w n₀ ann b (n + m) s t = some r
  | 0, m, s, s', t, t', r, h, k => by
    obtain ⟨rfl, rfl⟩ : s = s' ∧ t = t' := by simpa [segGo] using h
    rw [Nat.zero_add]; exact k
  | n + 1, m, s, s', t, t', r, h, k => by
    rw [show n + 1 + m = n + m + 1 by omega]
    unfold segGo at h ⊢
    cases he : endAt b t with
    | some f => rw [he] at h; cases h
    | none =>
      rw [he] at h
      cases hk : stepOk n₀ ann t with
      | false => rw [hk] at h; cases h
      | true =>
        rw [hk] at h
        cases hs : step (denote tb) p w s t with
        | halt o s₂ => rw [hs] at h; cases h
        | go s₂ t₂ => rw [hs] at h; exact zgh h k
theorem GoS.trans {p : Program} {w : World} {n m : Nat} {s s' s'' : SharedT} {t t' t'' : Thread} (h : GoS p w n s t s' t') (k : GoS p w m s' t' s'' t'') : GoS p w (n + m) s t s'' t'' := zgh h k
theorem GoS.run {p : Program} {w : World} {n N : Nat} {s s' : SharedT} {t t' : Thread} {r : Flow × Shared × Code × Pos} (h : GoS p w n s t s' t') (k : segRun treeTable p w 11 (some (Value.ref 6)) 1 N s'.abs t' = some r) : segRun treeTable p w 11 (some (Value.ref 6)) 1 (n + N) s.abs t = some r := seg_go h k
theorem one_ {p : Program} {w : World} {n : Nat} {s s' : SharedT} {t t' : Thread} (h : goW p w n s t = some (s', t')) : GoS p w n s t s' t' := segGo_of (goW_eq.trans h)
theorem two_ {p : Program} {w : World} {n : Nat} {s s' : SharedT} {t t' : Thread} (hF : goW p (wF w) n s t = some (s', t')) (hT : goW p (wT w) n s t = some (s', t')) : GoS p w n s t s' t' := by
  refine one_ ?_
  have e := World.withFollow_self w "special-get-raises"
  cases h : w.params.followText "special-get-raises" with
  | false => rw [h] at e; unfold wF at hF; rw [e] at hF; exact hF
  | true => rw [h] at e; unfold wT at hT; rw [e] at hT; exact hT
theorem U.go {p : Program} {w : World} {b : List Stmt} {os : OsState} {x : Nat} (h : U p w b os x) : GoS p w (37 + na x) (aS (tB w.params x) x (tk x) os) (thrA p w b os) (aS (tB w.params (x + 1)) (x + 1) (tk (x + 1)) os) (thrA p w b os) := (two_ (pi h).1 (pi (pi h).2).1).trans (one_ (pi (pi h).2).2)
theorem GoS.cast {p : Program} {w : World} {n m : Nat} {s s' : SharedT} {t t' : Thread} (h : GoS p w n s t s' t') (e : n = m) : GoS p w m s t s' t' := e ▸ h
theorem allW (p : Program) (w : World) (b : List Stmt) (os : OsState) : ∀ y, y < 31 → ∀ i, i < 8 → U p w b os (8 * y + i)
  | 0, _ => W8 0 (g0 p w b os) | 1, _ => W8 8 (g8 p w b os) | 2, _ => W8 16 (g16 p w b os) | 3, _ => W8 24 (g24 p w b os) | 4, _ => W8 32 (g32 p w b os) | 5, _ => W8 40 (g40 p w b os) | 6, _ => W8 48 (g48 p w b os) | 7, _ => W8 56 (g56 p w b os) | 8, _ => W8 64 (g64 p w b os) | 9, _ => W8 72 (g72 p w b os) | 10, _ => W8 80 (g80 p w b os) | 11, _ => W8 88 (g88 p w b os) | 12, _ => W8 96 (g96 p w b os) | 13, _ => W8 104 (g104 p w b os) | 14, _ => W8 112 (g112 p w b os) | 15, _ => W8 120 (g120 p w b os) | 16, _ => W8 128 (g128 p w b os) | 17, _ => W8 136 (g136 p w b os) | 18, _ => W8 144 (g144 p w b os) | 19, _ => W8 152 (g152 p w b os) | 20, _ => W8 160 (g160 p w b os) | 21, _ => W8 168 (g168 p w b os) | 22, _ => W8 176 (g176 p w b os) | 23, _ => W8 184 (g184 p w b os) | 24, _ => W8 192 (g192 p w b os) | 25, _ => W8 200 (g200 p w b os) | 26, _ => W8 208 (g208 p w b os) | 27, _ => W8 216 (g216 p w b os) | 28, _ => W8 224 (g224 p w b os) | 29, _ => W8 232 (g232 p w b os) | 30, _ => W8 240 (g240 p w b os) | y + 31, h => absurd h (by omega)
theorem allU (p : Program) (w : World) (b : List Stmt) (os : OsState) {x : Nat} (h : x < 255) : U p w b os x := by
  by_cases h2 : x < 248
  · have h1 := allW p w b os (x / 8) (by omega) (x % 8) (by omega)
    rwa [show 8 * (x / 8) + x % 8 = x by omega] at h1
  · have h1 := W7 248 (g248 p w b os) (x - 248) (by omega)
    rwa [show 248 + (x - 248) = x by omega] at h1
noncomputable def sumN : Nat → Nat
  | 0 => 37 + na 0
  | n + 1 => sumN n + (37 + na (n + 1))
theorem loopN (p : Program) (w : World) (b : List Stmt) (os : OsState) : ∀ n, n < 255 → GoS p w (sumN n) (aS (tB w.params 0) 0 (tk 0) os) (thrA p w b os) (aS (tB w.params (n + 1)) (n + 1) (tk (n + 1)) os) (thrA p w b os)
  | 0, h => (allU p w b os h).go
  | n + 1, h => (loopN p w b os n (Nat.lt_of_succ_lt h)).trans (allU p w b os h).go
set_option maxRecDepth 100000 in
theorem loop_ (p : Program) (w : World) (b : List Stmt) (os : OsState) : GoS p w 138212 (aS (tB w.params 0) 0 (tk 0) os) (thrA p w b os) (aS (tB w.params 255) 255 (tk 255) os) (thrA p w b os) := GoS.cast (loopN p w b os 254 (by decide)) (by decide +kernel)
theorem table_ (p : Program) (w : World) (b : List Stmt) (os : OsState) : segRun treeTable p w 11 (some (Value.ref 6)) 1 (92 + 138212 + 37 + 517) (s5 w.params os).abs (thr6 b) = some (.next, (s6 w.params os).abs, Code.body b env, { line := 200, col := 0, endLine := 200, endCol := 6 }) := by
  obtain ⟨z1, z2⟩ := start_ p w b os
  obtain ⟨l1, l2, l3⟩ := last p w b os
  exact (((two_ z1 z2).trans (loop_ p w b os)).trans (two_ l1 l2)).run (run1 l3)
noncomputable def P6 : Program := PySem.Challenge.rw_ui0507_23.row.prog
noncomputable def H1 (P : Params) : Heap := absHeap (T22 P) 2402 { }
theorem body_ : behindTheImports P6 = sts1 ++ (sts2 ++ (sts3 ++ (sts4 ++ (sts5 ++ (sts6 ++ (sts7 ++ (sts8 ++ (sts9 ++ (sts10 ++ (sts11 ++ (sts12 ++ (sts13 ++ (sts14 ++ (sts15 ++ (sts16 ++ (sts17 ++ (sts18 ++ (sts19 ++ (sts20 ++ (sts21 ++ (sts22 ++ []))))))))))))))))))))) := by kernel_rfl
theorem pre_ (w : World) (os : OsState) : topGo treeTable P6 w 11 (some (Value.ref 6)) 12 ⟨boot_heap w.params, { toList := [] }, boot_drawn, boot_toks, os⟩ (topStub P6) =
    some ((s0 w.params os).abs, ⟨denote treeTable (.body (behindTheImports P6) env), .body (behindTheImports P6) env, { line := 0, col := 0, endLine := 0, endCol := 0 }, [topFrame { line := 0, col := 0, endLine := 0, endCol := 0 }]⟩) := by kernel_rfl
theorem block_ (w : World) (b : List Stmt) (os : OsState) : segRun treeTable P6 w 11 (some (Value.ref 6)) 1 1 (s0 w.params os).abs (blockOf (behindTheImports P6) env (.body b env) { line := 0, col := 0, endLine := 0, endCol := 0 } [topFrame { line := 0, col := 0, endLine := 0, endCol := 0 }]) =
    some (.next, (s0 w.params os).abs, .body b env, { line := 0, col := 0, endLine := 0, endCol := 0 }) := by kernel_rfl
theorem fin_ (w : World) (c : Code) (os : OsState) (q : Pos) : topRun treeTable P6 w 11 (some (Value.ref 6)) 2 (s22 w.params os).abs ⟨doneF .next, c, q, [topFrame { line := 0, col := 0, endLine := 0, endCol := 0 }]⟩ = some ⟨H1 w.params, { toList := [] }, { }, 19095, os⟩ := by kernel_rfl
theorem run_ (w : World) (os : OsState) : topRun treeTable P6 w 11 (some (Value.ref 6)) (12 + (1 + (255 + (640 + (706 + (483 + (273 + (92 + 138212 + 37 + 517 + (378 + (384 + (496 + (371 + (420 + (369 + (313 + (538 + (515 + (391 + (419 + (204 + (716 + (77 + (1059 + (188 + 2)))))))))))))))))))))))) ⟨boot_heap w.params, { toList := [] }, boot_drawn, boot_toks, os⟩ (topStub P6) = some ⟨H1 w.params, { toList := [] }, { }, 19095, os⟩ := by
  refine go_top (pre_ w os) (piece_block (block_ w _ os) ?_)
  rw [body_]
  refine piece_app (run1 (r1 P6 w _ os)) ?_
  refine piece_app (run1 (r2 P6 w _ os)) ?_
  refine piece_app (run1 (r3 P6 w _ os)) ?_
  refine piece_app (run1 (r4 P6 w _ os)) ?_
  refine piece_app (run1 (r5 P6 w _ os)) ?_
  refine piece_app (table_ P6 w _ os) ?_
  refine piece_app (run2 (r7 P6 w _ os)) ?_
  refine piece_app (run1 (r8 P6 w _ os)) ?_
  refine piece_app (run1 (r9 P6 w _ os)) ?_
  refine piece_app (run1 (r10 P6 w _ os)) ?_
  refine piece_app (run1 (r11 P6 w _ os)) ?_
  refine piece_app (run2 (r12 P6 w _ os)) ?_
  refine piece_app (run2 (r13 P6 w _ os)) ?_
  refine piece_app (run1 (r14 P6 w _ os)) ?_
  refine piece_app (run2 (r15 P6 w _ os)) ?_
  refine piece_app (run1 (r16 P6 w _ os)) ?_
  refine piece_app (run1 (r17 P6 w _ os)) ?_
  refine piece_app (run1 (r18 P6 w _ os)) ?_
  refine piece_app (run1 (r19 P6 w _ os)) ?_
  refine piece_app (run1 (r20 P6 w _ os)) ?_
  refine piece_app (run1 (r21 P6 w _ os)) ?_
  refine piece_app (run1 (r22 P6 w _ os)) ?_
  exact piece_nil (fin_ w _ os _)
noncomputable def q6 : Program := { P6 with main := { P6.main with body := [0, 2, 3, 4, 5, 6, 7, 9, 10, 11, 12, 13, 14, 15, 16, 17, 19, 20, 21, 27, 28, 29, 30, 31, 32, 34, 35, 36, 38, 40, 42, 43, 44, 46, 47, 48, 49, 50, 52, 54, 56, 57, 58, 59, 60, 61, 63, 64, 65, 67, 69, 71, 72, 73, 74, 75, 76, 78, 79, 81, 82, 83, 85, 87, 88, 89, 90, 91, 92, 93, 94, 95, 96, 97, 98, 99, 100, 102, 103, 104, 105, 106, 107, 108, 109, 111, 112, 113, 114, 115, 116, 117, 118, 119, 120, 121, 122, 123, 124, 125, 126, 128, 129, 130, 131, 132, 134, 135, 136, 137, 139, 141, 142, 143, 144, 145, 148, 149].filterMap fun i => P6.main.body[i]? } }
noncomputable def zbo : List Str := [Str.ofString "_TABLE", Str.ofString "crc32", Str.ofString "adler32", Str.ofString "fletcher16", Str.ofString "xor8", Str.ofString "sum8", Str.ofString "KINDS", Str.ofString "_WIDTHS", Str.ofString "pack_runs", Str.ofString "unpack_runs", Str.ofString "code_lengths", Str.ofString "pack_huffman", Str.ofString "unpack_huffman", Str.ofString "tokens", Str.ofString "pack_lz77", Str.ofString "unpack_lz77", Str.ofString "MOST_pairs", Str.ofString "shorten", Str.ofString "pack_pairs", Str.ofString "unpack_pairs", Str.ofString "NAMES", Str.ofString "THERE_methods", Str.ofString "BACK_methods", Str.ofString "pack_methods", Str.ofString "unpack_methods", Str.ofString "THERE_filters", Str.ofString "BACK_filters", Str.ofString "MOST_SIZE", Str.ofString "Settings", Str.ofString "make_entry", Str.ofString "from_bytes"]
theorem open6 : ∀ w : World, (fencedOpening treeTable P6 w 400000).map (fun s => (s.heap, s.gens, s.drawn, s.toks)) = some (boot_heap w.params, { toList := [] }, boot_drawn, boot_toks) := boot_open (by kernel_rfl) (by decide) (fun s => by kernel_rfl)
theorem size6 : ∀ w : World, ((boot_heap w.params).isNs mainGlobals && ({ toList := [] } : Array GenState).size == 0, (boot_heap w.params).objs.size, (boot_heap w.params).nsMap mainGlobals (Str.ofString "__annotations__")) = (true, 11, some (.ref 6)) := fun w => by kernel_rfl
noncomputable def S6 (P : Params) (os : OsState) : Shared := ⟨H1 P, { toList := [] }, { }, 19095, os⟩
theorem look1a (w : World) : staticsOk (importedModules P6.main.body) (boot_heap w.params) (H1 w.params) = true := by kernel_rfl
theorem zjh (w : World) : namesBound P6 (H1 w.params) = true := by kernel_rfl
theorem look1c (w : World) (os : OsState) : gensDone (S6 w.params os) = true := by kernel_rfl
theorem look1d (w : World) : laidKept (boot_heap w.params) (H1 w.params) = true := by kernel_rfl
noncomputable def Xt6 (s : Shared) : Bool := xlAt q6 [] s && recOk (RowW.records PySem.Challenge.rw_ui0507_23.row.toRowW) s
theorem k1 (w : World) (os : OsState) : seen ((recsOf q6).map (·.name)) (ownsOf q6) [] { (S6 w.params os) with gens := #[] } = expectedOf q6 := by
  rw [PySem.W.Fast.te5160383126252970620]
  kernel_rfl
theorem k2 (w : World) (os : OsState) : (S6 w.params os).heap.bltView = bltViewBooted := by kernel_rfl
theorem k3a (w : World) (os : OsState) : (S6 w.params os).heap.keysOk (looseW q6 zbo) ((recsOf q6).map (·.name)) ((litsOf q6).map (·.1)) ((clssOf q6 (looseW q6 zbo)).map (·.name)) = true := by kernel_rfl
theorem k3b (w : World) (os : OsState) : (S6 w.params os).heap.accountedOkI (importedModules P6.main.body) = true := by kernel_rfl
theorem k3c (w : World) (os : OsState) : tablesOk q6 (S6 w.params os).heap = true := by
  rw [PySem.W.Fast.te10994771534591457954]
  kernel_rfl
theorem k3d (w : World) (os : OsState) : Xt6 (S6 w.params os) = true := by kernel_rfl
theorem k3e (w : World) (os : OsState) : ((S6 w.params os).heap.isNs mainGlobals && (S6 w.params os).heap.isNs builtinsNs && (S6 w.params os).gens.size == 0) = true := by kernel_rfl
theorem k4 (w : World) (os : OsState) : tabsOk q6 (S6 w.params os) = true := by
  rw [PySem.W.Fast.te479339242167458305]
  kernel_rfl
theorem k5 (w : World) (os : OsState) : pinSeenD q6 (drecsOf q6) (S6 w.params os) = pinGoodD (drecsOf q6) := by
  rw [PySem.W.Fast.te16090120013241838585]
  kernel_rfl
theorem k6 (w : World) (os : OsState) : plainSeenE q6 (looseW q6 zbo) (S6 w.params os) = plainGoodE q6 (looseW q6 zbo) := by
  rw [PySem.W.Fast.te2386780881361962483]
  kernel_rfl
theorem k7 (w : World) (os : OsState) : plainSeenD q6 zbo (S6 w.params os) = plainGoodD q6 zbo := by
  rw [PySem.W.Fast.te11698064438423848299]
  kernel_rfl
theorem k8 (w : World) (os : OsState) : wideSeen q6 (S6 w.params os) = wideGood q6 := by
  rw [PySem.W.Fast.te7317090234206586261]
  kernel_rfl
theorem k9 (w : World) (os : OsState) : clsSeenW q6 zbo (S6 w.params os) = clsGoodW q6 zbo := by
  rw [PySem.W.Fast.te7369524293546568484]
  kernel_rfl
theorem look2 (w : World) (os : OsState) : openSeen q6 zbo (importedModules P6.main.body) Xt6 true (S6 w.params os) = openGood q6 zbo := by
  obtain ⟨e1, e2, e3⟩ : (S6 w.params os).heap.isNs mainGlobals = true ∧ (S6 w.params os).heap.isNs builtinsNs = true ∧ ((S6 w.params os).gens.size == 0) = true := by
    have h := k3e w os
    simp only [Bool.and_eq_true] at h
    exact ⟨h.1.1, h.1.2, h.2⟩
  refine looks_pair (k1 w os) (looks_pair (k2 w os) (looks_pair ?_ (looks_pair (k4 w os) (looks_pair (k5 w os) (looks_pair (k6 w os) (looks_pair (k7 w os) (looks_pair (k8 w os) (k9 w os))))))))
  rw [k3a, k3b, k3c, k3d, e1, e2]
  exact e3
theorem get_abs (t : BT) (n : Nat) (life : Life) (a : Addr) : (absHeap t n life).get? a = bif Nat.blt a n then alive ((t.get a).getD default) else none := by
  by_cases h : a < n
  · have e : Nat.blt a n = true := Nat.ble_eq.mpr h
    rw [e]
    unfold Heap.get?
    rw [absHeap_at, if_pos h]
    generalize (t.get a).getD default = o
    obtain ⟨c, d, dt, sl⟩ := o
    cases dt <;> rfl
  · have e : Nat.blt a n = false := by
      cases q : Nat.blt a n with
      | false => rfl
      | true => exact absurd (Nat.ble_eq.mp q) h
    rw [e]
    exact abs_get_none h
theorem obs_map (as : List Addr) (P : Params) (os : OsState) : as.map (S6 P os).heap.get? = as.map fun a => bif Nat.blt a 2402 then alive (((T22 P).get a).getD default) else none := by
  refine List.map_congr_left fun a _ => ?_
  exact get_abs (T22 P) 2402 {} a
theorem said : OpenLaw.wellSaid PySem.Challenge.rw_ui0507_23 = true := by
  rw [PySem.W.Fast.te9446332074065402090]
  kernel_rfl
theorem left6 {α : Type} {Yf : Shared → α} {Ya : World → α} (hY : ∀ (w : World) (os : OsState), Yf (S6 w.params os) = Ya w) : LeftO P6 q6 zbo Xt6 Yf Ya 400000 true :=
  LeftO.of_pieces (H₀ := boot_heap) (H₁ := H1) open6 size6 run_ (by decide) (fun w => funext fun os => looks_pair (by
    show (staticsOk _ _ _ && namesBound _ _ && gensDone _ && laidKept _ _) = true
    rw [look1a, zjh, look1d]
    exact look1c w os) (looks_pair (look2 w os) (hY w os)))
end
end Mine
open PySem.Spec
namespace Mine
noncomputable def Fun (prog : Program) (w : World) (K : Frag) (p : Program) (loose : List Str) (mean : ExcName → Option Value) (mg mb : Str → Option Value) (k : Nat) (f : Addr) (vs : List Value) (news : List (Addr × Obj)) (R : Value → List (Addr × Obj) → Prop) : Prop :=
  ∀ (dp un : Nat) (gd : Option (List Code)) (cn : Str) (cs : Scope) (a : Addr) (ccd : Value) (cl : List (Str × Addr)) (outer : List Env) (A₀ : Around) (base h₀ : Heap) (L : Addr) (m : Str → Option Value) (s : Shared) (Q E : Value → Shared → Prop),
    Below A₀ base outer h₀ → Fr h₀ L s.heap m → K.In h₀ → News h₀ L s.heap news → Top p loose mean mg mb h₀ → cs.kind = .function → dp + k < recursionLimit → un + 8 * k < cLine →
    (∀ r news' h' tk', R r news' → Fr h₀ L h' m → News h₀ L h' news' → Q r { s with heap := h', toks := tk' }) →
    wpAny (model prog w) (ktrTop dp un gd cn cs L a ccd cl outer) (call (.ref f) vs) Q E s
theorem bring {α : Type} {prog : Program} {w : World} {A : Around} {tree : Sem α} {Q : α → Shared → Prop} {E : Value → Shared → Prop} {s : Shared} {K : Frag} {h₀ : Heap} {p : Program} {loose : List Str} {mean : ExcName → Option Value} {mg mb : Str → Option Value}
    (C : Program → World → Frag → Program → List Str → (ExcName → Option Value) → (Str → Option Value) → (Str → Option Value) → Prop) (_X : K.In h₀) (_T : Top p loose mean mg mb h₀) (ctr : C prog w K p loose mean mg mb) (h : C prog w K p loose mean mg mb → wpAny (model prog w) A tree Q E s) : wpAny (model prog w) A tree Q E s := h ctr
section
variable {prog : Program} {w : World} {A : Around} {E : Value → Shared → Prop} {s : Shared} {env : Env} {h₀ : Heap} {target : Expr} {body : List Stmt} {Q : Flow → Shared → Prop}
end
section
variable {prog : Program} {w : World} {K : Frag} {p : Program} {loose : List Str} {mean : ExcName → Option Value} {mg mb : Str → Option Value} {k : Nat} {f : Addr} {vs : List Value} {news : List (Addr × Obj)} {R : Value → List (Addr × Obj) → Prop}
theorem Fun.use {dp un : Nat} {gd : Option (List Code)} {cn : Str} {cs : Scope} {a : Addr} {ccd : Value} {cl : List (Str × Addr)} {outer : List Env} {A₀ : Around} {base h₀ : Heap} {L : Addr} {m : Str → Option Value} {s : Shared} {Q E : Value → Shared → Prop}
    (C : Fun prog w K p loose mean mg mb k f vs news R) (B : Below A₀ base outer h₀) (F : Fr h₀ L s.heap m) (X : K.In h₀) (N : News h₀ L s.heap news) (T : Top p loose mean mg mb h₀) (hk : cs.kind = .function) (hd : dp + k < recursionLimit) (hu : un + 8 * k < cLine)
    (ret : ∀ r news' h' tk', R r news' → Fr h₀ L h' m → News h₀ L h' news' → Q r { s with heap := h', toks := tk' }) :
    wpAny (model prog w) (ktrTop dp un gd cn cs L a ccd cl outer) (call (.ref f) vs) Q E s := C _ _ _ _ _ _ _ _ _ _ _ _ _ _ _ _ _ B F X N T hk hd hu ret
end
noncomputable def put (O : Addr) (o : Obj) (news : List (Addr × Obj)) : List (Addr × Obj) := news.map fun p => if p.1 = O then (O, o) else p
section
variable {prog : Program} {w : World} {A : Around} {E : Value → Shared → Prop} {s : Shared} {h₀ : Heap} {L D b : Addr} {m : Str → Option Value} {news : List (Addr × Obj)} {its its2 : Array Value} {n n2 : Nat}
theorem zgy {g : Obj → List (Addr × Obj)} {Q : Value → Shared → Prop} (F : Fr h₀ L s.heap m) (N : News h₀ L s.heap news) (hb : (b, listOf its2 n2) ∈ news) (U : UpdF D (listOf its n) news g) (hz : its.size + its2.size ≤ sizeLine)
    (h : ∀ h' n', Fr h₀ L h' m → News h₀ L h' (g (listOf (its ++ its2) n')) → Q .none { s with heap := h' }) : wpAny (model prog w) A (call (.builtin "list.extend") [.ref D, .ref b]) Q E s := by
  obtain ⟨pre, post, rfl, hg, a, c⟩ := U.split
  obtain ⟨ys, rfl⟩ : ∃ ys : List Value, its = ys.toArray := ⟨its.toList, by rw [Array.toArray_toList]⟩
  refine extend_in F N a c (N _ hb).1 (fun h' n' F' N' => h h' n' F' ?_) (by rw [List.size_toArray] at hz; exact hz)
  rw [hg]
  have e : ys.toArray ++ its2 = (ys ++ its2.toList).toArray := by simp
  rw [e]
  exact N'
end

noncomputable def RgJ {σ : Type} (Led : σ → List (Addr × Obj)) (ps : σ → List (Str × Value)) (x : Str) (stored : List Str) (m₀ : Str → Option Value) (P : Nat → σ → Prop) (i : Nat) (m : Str → Option Value) (nx : List (Addr × Obj)) : Prop :=
  ∃ c, nx = Led c ∧ P i c ∧ (∀ p ∈ ps c, m p.1 = some p.2) ∧ (∀ z, z ≠ x → (∀ p ∈ ps c, z ≠ p.1) → stored.contains z = false → m z = m₀ z)
theorem rg_end {σ : Type} {Led : σ → List (Addr × Obj)} {ps : σ → List (Str × Value)} {x : Str} {stored : List Str} {m₀ m' : Str → Option Value} {P : Nat → σ → Prop} {i : Nat} {h₀ h' : Heap} {L : Addr} {own news' : List (Addr × Obj)} {s₁ : Shared} {tk : Nat} (c' : σ)
    (F : Fr h₀ L h' m') (N : News h₀ L h' news') (hn : ∀ p ∈ Led c', p ∈ news') (ho : ∀ p ∈ own, p ∈ news') (ha : ∀ p ∈ own, ∀ q ∈ Led c', p.1 ≠ q.1) (hk : ∀ p ∈ ps c', m' p.1 = some p.2) (hr : ∀ z, z ≠ x → (∀ p ∈ ps c', z ≠ p.1) → stored.contains z = false → m' z = m₀ z) (hp : P i c') :
    InvEndG h₀ L (RgJ Led ps x stored m₀ P i) own s₁ { s₁ with heap := h', toks := tk } :=
  InvEndG.intro F N ⟨c', rfl, hp, hk, hr⟩ (fun p hp b hb => by obtain ⟨q, hq, rfl⟩ := List.mem_map.mp hb; exact ha p hp q hq) hn ho
section
variable {prog : Program} {w : World} {A : Around} {E : Value → Shared → Prop} {s : Shared} {env : Env} {h₀ : Heap} {x : Str} {body : List Stmt} {Q : Flow → Shared → Prop}
theorem rg_for {σ : Type} {r : Addr} {a₀ b₀ : Int} {t₀ u₀ v₀ : Tok} {n : Nat} {m₀ : Str → Option Value} {news : List (Addr × Obj)} (Led : σ → List (Addr × Obj)) (ps : σ → List (Str × Value)) (stored : List Str) (P : Nat → σ → Prop) (c₀ : σ)
    (hh : A.handled = none) (hr : IsRange s.heap r a₀ b₀ 1 t₀ u₀ v₀) (hsmall : Builtin.Range.small a₀ b₀ 1 = true) (hsz : Builtin.Range.rangeSize a₀ b₀ 1 = (n : Int)) (F : Fr h₀ env.locals s.heap m₀) (N : News h₀ env.locals s.heap news) (hn : ∀ p ∈ Led c₀, p ∈ news) (hk : ∀ p ∈ ps c₀, m₀ p.1 = some p.2) (hp : P 0 c₀)
    (turn : ∀ (c : σ) (i : Nat) t (u : Str → Option Value) h tk own, i < n → P i c → (∀ p ∈ own, ∀ q ∈ Led c, p.1 ≠ q.1) →
      Fr h₀ env.locals h (fun y => if y = x then some (.int (a₀ + i) t) else kstB (fun z => if stored.contains z then u z else m₀ z) (ps c) y) → News h₀ env.locals h (Led c ++ own) →
      wpAny (model prog w) A (execs body env) (InvPostG h₀ env.locals (RgJ Led ps x stored m₀ P (i + 1)) own { s with heap := h, toks := tk } Q) E { s with heap := h, toks := tk })
    (done : ∀ (c : σ) (u : Str → Option Value) h tk, P n c → Fr h₀ env.locals h (fun y => if y = x then u y else kstB (fun z => if stored.contains z then u z else m₀ z) (ps c) y) → News h₀ env.locals h (Led c) → Q .next { s with heap := h, toks := tk }) :
    wpAny (model prog w) A (pyIter (.ref r)) (fun it s₂ => LoopAtV prog w A h₀ env x body Q E it s₂) E s := by
  refine wpAny_pyIter_range hr hsmall ?_
  have W : Walks prog w A s.heap.objs.size [s.heap.objs.size] [s.heap.objs.size] n (fun i v => i < n ∧ ∃ t, v = .int (a₀ + i * 1) t)
      (fun i h => IsRangeIter h s.heap.objs.size (a₀ + (i : Nat) * 1) ((n : Int) - (i : Nat)) 1) := (Walks.range hh _ a₀ 1 n).bound
  refine kdr_loop (RgJ Led ps x stored m₀ P) W (fun _ h => h) (fun _ h => h) ?_ ?_ ?_ ?_ (by show IsRangeIter _ _ _ _ _; rw [hsz]; simpa using Heap.get?_push_size _ rfl) (F.push _) (fun p hp => ⟨Heap.get?_push_of_some _ (N p (hn p hp)).1, (N p (hn p hp)).2⟩) ⟨c₀, rfl, hp, hk, fun _ _ _ _ => rfl⟩ ?_ ?_
  · intro i h hi b hb
    rw [List.mem_singleton.mp hb]
    exact ⟨_, hi⟩
  · intro hm
    exact absurd F.ns.lt ((List.mem_singleton.mp hm) ▸ Nat.lt_irrefl _)
  · intro b hb
    rw [List.mem_singleton.mp hb]
    exact next_is_new F
  · intro p hp hI
    exact absurd (Heap.lt_size (N p (hn p hp)).1) ((List.mem_singleton.mp hI) ▸ Nat.lt_irrefl _)
  · rintro i v m₁ nx h tk own hi ⟨_, t, rfl⟩ hoff ⟨c, rfl, hp', h1, h2⟩ F₁ N₁
    have e1 : a₀ + (i : Int) * 1 = a₀ + (i : Int) := by omega
    rw [e1] at F₁
    exact turn c i t m₁ h tk own hi hp' (fun p hp q hq => hoff p hp q.1 (List.mem_map.mpr ⟨q, hq, rfl⟩)) (kst_fr h1 h2 F₁) N₁
  · rintro m₁ nx h tk ⟨c, rfl, hp', h1, h2⟩ F₁ N₁
    exact done c m₁ h tk hp' (kst_frOut h1 h2 F₁) N₁
end



theorem zli {a : Int} {b : Int} {k : Nat} (h0 : 0 ≤ a) (h1 : a < 2 ^ k) (hb : 0 ≤ b) : Builtin.bitOr a (b * 2 ^ k) = a + b * 2 ^ k := by
  obtain ⟨x, rfl⟩ := Int.eq_ofNat_of_zero_le h0
  obtain ⟨y, rfl⟩ := Int.eq_ofNat_of_zero_le hb
  have e : ((y : Int) * 2 ^ k) = ((y * 2 ^ k : Nat) : Int) := by simp
  have hx : x < 2 ^ k := by
    have e2 : ((2 ^ k : Nat) : Int) = (2 : Int) ^ k := by simp
    rw [← e2] at h1
    exact Int.ofNat_lt.mp h1
  rw [e, bitOr_and, bitAnd_pp (Int.natCast_nonneg _) (Int.natCast_nonneg _)]
  have z : x &&& y * 2 ^ k = 0 := by
    refine Nat.eq_of_testBit_eq fun i => ?_
    rw [Nat.testBit_and, Nat.zero_testBit]
    by_cases hi : i < k
    · rw [← Nat.shiftLeft_eq, Nat.testBit_shiftLeft]
      simp [Nat.not_le.mpr hi]
    · have hxi : x.testBit i = false := Nat.testBit_lt_two_pow (Nat.lt_of_lt_of_le hx (Nat.pow_le_pow_right (by decide) (by omega)))
      rw [hxi]; rfl
  rw [Int.toNat_natCast, Int.toNat_natCast, z]
  simp

section
variable {prog : Program} {w : World} {A : Around} {E : Value → Shared → Prop} {Q : Flow → Shared → Prop} {s : Shared} {env : Env} {h₀ : Heap} {L : Addr}
end
section
variable {prog : Program} {w : World} {A : Around} {E : Value → Shared → Prop} {Q : Flow → Shared → Prop} {s : Shared} {env : Env} {h₀ : Heap} {L : Addr}
end

section
open Builtin
theorem ztv {b : Array UInt8} {t : Tok} {id : String} : Bytes.takeBuffer? id (.bytes b t) 0 = pure (some (b, none)) := by
  have e0 : ((0 : Int) == Bytes.fullReadOnly) = false := by decide
  unfold Bytes.takeBuffer?
  rw [KBy.special_eq KBy.look_buffer, KBy.own_buffer, e0, KBy.buffer_eq]
  kernel_rfl
theorem l6 {b : Array UInt8} {t : Tok} {id : String} : Bytes.takeBufferQuiet? id (.bytes b t) 0 = pure (some (b, none)) := by
  unfold Bytes.takeBufferQuiet?
  rw [ztv]
  rfl
theorem zdc (bs : List (Array UInt8)) (b : Array UInt8) : Bytes.joined #[] (bs ++ [b]) = Bytes.joined #[] bs ++ b := by
  unfold Bytes.joined
  rw [List.zipIdx_append, List.foldl_append]
  simp
theorem zhq : ∀ (bs : List (Array UInt8)), (Bytes.joined #[] bs).size = (bs.map Array.size).sum := by
  intro bs
  have key : ∀ n, n ≤ bs.length → (Bytes.joined #[] (bs.take n)).size = ((bs.take n).map Array.size).sum := by
    intro n
    induction n with
    | zero => intro _; rfl
    | succ n ih =>
      intro hn
      have e : bs.take (n + 1) = bs.take n ++ [bs[n]] := by rw [List.take_add_one]; simp [List.getElem?_eq_getElem (show n < bs.length by omega)]
      rw [e, zdc, Array.size_append, ih (by omega), List.map_append, List.sum_append]
      simp
  simpa using key bs.length (Nat.le_refl _)
theorem zfb : ∀ (bs : List (Array UInt8)) (n : Nat), (bs.foldl (fun a b => a + b.size) n) = n + (bs.map Array.size).sum
  | [], n => by simp
  | b :: bs, n => by rw [List.foldl_cons, zfb bs, List.map_cons, List.sum_cons]; omega
section
variable {prog : Program} {w : World} {A : Around} {E : Value → Shared → Prop} {s : Shared}
theorem jlg : ∀ (taken : List (Value × Option Value)) (keep : List Value) {Q : Unit → Shared → Prop}, (∀ p ∈ taken, p.2 = none) → Q () s → wpAny (model prog w) A (Bytes.joinLetGo taken keep) Q E s
  | [], _, Q, _, h => wpAny_pure h
  | (x, u) :: r, keep, Q, hn, h => by
    have hu : u = none := hn _ (.head _)
    subst hu
    unfold Bytes.joinLetGo
    exact wpAny_bind (wpAny_letGo (jlg r keep (fun p hp => hn p (.tail _ hp)) h))
inductive JoinI (vs : List Value) (bs : List (Array UInt8)) (s₀ : Shared) (l : List Nat) (b : Array (Array UInt8) × List (Value × Option Value)) (s' : Shared) : Prop
  | mk (e : s' = s₀) (i : Nat) (hl : l = List.range' i (vs.length - i)) (hi : i ≤ vs.length) (hb : b.1.toList = bs.take i) (ht : ∀ p ∈ b.2, p.2 = none ∧ p.1.onHeap = false)
theorem one_not {β : Type} {its : Array Value} (h : its.size ≠ 1) (f : Value → β) (g : Array Value → β) : Bytes.joinM.match_1 (fun _ => β) its f g = g its := by
  rcases its with ⟨_ | ⟨x, _ | ⟨y, r⟩⟩⟩
  · rfl
  · exact absurd rfl h
  · rfl
theorem zmq {l : Addr} {its : Array Value} {t0 : Tok} {vs : List Value} {bs : List (Array UInt8)} {R : Value → Shared → Prop} (hi : s.heap.IsList l its) (hv : its.toList = vs)
    (hb : ∀ (i : Nat) (v : Value), vs[i]? = some v → ∃ t : Tok, v = Value.bytes (bs.getD i #[]) t) (hl : bs.length = vs.length) (hz : (bs.map Array.size).sum ≤ sizeLine)
    (h : ∀ t k, R (.bytes (Bytes.joined #[] bs) t) { s with toks := k }) :
    wpAny (model prog w) A (Builtin.«bytes.join» ⟨[.bytes #[] t0, .ref l], []⟩) (fun fin s' => ∃ v, fin = .done (.ret v) ∧ R v s') E s := by
  obtain ⟨o, ho, hc, n, hd⟩ := id hi
  have hT : s.TypeIs (.ref l) "list" := ⟨o, ho, hc⟩
  have hsz : its.size = vs.length := by rw [← hv]; simp
  show wpAny _ _ (Bytes.joinM .bytes _) _ _ _
  unfold Bytes.joinM
  dsimp only
  refine wpAny_bind (m := selfAndOne _ _) (wpAny_pure ?_)
  dsimp only
  rw [if_pos (by rfl)]
  refine wpAny_bind ?_
  unfold Bytes.joinItems
  refine wpAny_bind (wpAny_typeOf hT ?_)
  rw [if_pos (by rfl)]
  refine wpAny_pure ?_
  refine wpAny_bind (wpAny_seqItems ho hd ?_)
  dsimp only
  rw [if_pos (by rfl)]
  by_cases h1 : its.size = 1
  · obtain ⟨x, rfl⟩ : ∃ x, vs = [x] := List.length_eq_one_iff.mp (by rw [← hsz]; exact h1)
    obtain ⟨t, hx⟩ := hb 0 x rfl
    obtain ⟨b, hbs⟩ : ∃ b, bs = [b] := List.length_eq_one_iff.mp hl
    subst hx
    obtain ⟨xs⟩ := its
    obtain rfl : xs = _ := hv
    show wpAny (model prog w) A (typeOf (Value.bytes (bs.getD 0 #[]) t) >>= fun r => if (r == Value.type "bytes") = true then (rule "bytes.join.one-item" >>= fun _ => ret (Value.bytes (bs.getD 0 #[]) t)) else _) _ _ _
    refine wpAny_bind (wpAny_typeOf (T := "bytes") (s := s) rfl ?_)
    rw [if_pos (by rfl)]
    refine wpAny_bind (wpAny_rule (wpAny_pure ⟨_, rfl, ?_⟩))
    have := h t s.toks
    rw [hbs] at this ⊢
    simpa [Bytes.joined] using this
  rw [one_not h1]
  refine wpAny_bind ?_
  rw [Std.Legacy.Range.forIn_eq_forIn_range']
  refine wpAny_forIn_list _ (JoinI vs bs s) _ ?turn ?fin _ _ ⟨rfl, 0, ?_, Nat.zero_le _, by simp, fun _ h => (nomatch h)⟩
  case turn =>
    rintro i rest ⟨ps, tk⟩ s' ⟨rfl, j, hlj, hj, hp, ht⟩
    have hlt : j < vs.length := by
      rcases Nat.lt_or_ge j vs.length with q | q
      · exact q
      · rw [Nat.sub_eq_zero_of_le q] at hlj; cases hlj
    obtain ⟨r, hr⟩ : ∃ r, vs.length - j = r + 1 := ⟨vs.length - j - 1, by omega⟩
    rw [hr, List.range'_succ] at hlj
    injection hlj with hij hrest
    subst hij
    obtain ⟨t, hx⟩ := hb i vs[i] (List.getElem?_eq_getElem hlt)
    have hget : its.getD i Value.none = Value.bytes (bs.getD i #[]) t := by
      rw [← hx]
      have hlt' : i < its.size := by omega
      simp only [Array.getD, hlt', dif_pos]
      show its[i] = _
      simp [← hv]
    refine wpAny_bind (wpAny_seqItems ho hd ?_)
    dsimp only at hp ht ⊢
    have hany : (Bytes.Kind.bytes == Bytes.Kind.bytearray || tk.any fun x => x.fst.onHeap) = false := by
      have : (tk.any fun x => x.fst.onHeap) = false := by
        rw [List.any_eq_false]
        intro p hp'
        rw [(ht p hp').2]
        exact Bool.false_ne_true
      rw [this]; rfl
    rw [if_neg (by rw [hany]; exact Bool.false_ne_true), hget]
    refine wpAny_bind (wpAny_holding (wpAny_of_eq l6 ?_))
    dsimp only
    refine wpAny_bind (wpAny_seqItems ho hd ?_)
    dsimp only
    rw [if_neg (by simp)]
    refine wpAny_pure ⟨rfl, i + 1, ?_, hlt, ?_, ?_⟩
    · show rest = _
      rw [hrest]; congr 1; omega
    · have hb' : i < bs.length := by omega
      show (ps.push _).toList = _
      rw [Array.toList_push, hp, List.take_add_one]
      simp [List.getD, List.getElem?_eq_getElem hb']
    · intro p hp'
      rcases List.mem_append.mp hp' with q | q
      · exact ht p q
      · rw [List.mem_singleton.mp q]; exact ⟨rfl, rfl⟩
  case fin =>
    rintro ⟨ps, tk⟩ s' ⟨rfl, j, hlj, hj, hp, ht⟩
    have hjn : j = vs.length := by
      rcases Nat.lt_or_ge j vs.length with q | q
      · obtain ⟨r, hr⟩ : ∃ r, vs.length - j = r + 1 := ⟨vs.length - j - 1, by omega⟩
        rw [hr, List.range'_succ] at hlj; cases hlj
      · omega
    have hps : ps.toList = bs := by show ps.toList = bs; rw [show ps.toList = bs.take j from hp, hjn, ← hl, List.take_length]
    refine wpAny_bind (wpAny_of_eq (a := #[]) rfl ?_)
    dsimp only
    have hfold : ps.foldl (fun a b => a + b.size) ((#[] : Array UInt8).size * (ps.size - 1)) = (bs.map Array.size).sum := by
      rw [← Array.foldl_toList, hps, zfb]
      simp
    have hlong : Bytes.tooLong (ps.foldl (fun a b => a + b.size) ((#[] : Array UInt8).size * (ps.size - 1))) = false := by
      rw [hfold]
      unfold Bytes.tooLong
      exact decide_eq_false (by omega)
    rw [if_neg (by rw [hlong]; exact Bool.false_ne_true), hps]
    refine wpAny_bind (m := mkBytes _) (wpAny_mkBytes ?_ (by rw [zhq]; exact hz))
    refine wpAny_bind (wpAny_holding (wpAny_point ?_))
    refine wpAny_bind (jlg _ _ (fun p hp' => (ht p hp').1) ?_)
    exact wpAny_pure ⟨_, rfl, h _ _⟩
  · rw [hsz]; simp [Std.Legacy.Range.size]
end
end
section
set_option maxRecDepth 100000
theorem zdr : Slot "bytes" "join" "bytes.join" :=
  .of (owner := "bytes") (n := "join") (by rw [typeLookup_type, builtinLookup_eq_fast]; kernel_rfl) (by decide +kernel) (by decide +kernel) (by decide +kernel)
    (by first | exact .inl (by decide +kernel) | exact .inr (by decide +kernel)) (by rw [isSubtype_type]; kernel_rfl)
theorem zhe : typeOf (.builtin "bytes.join") = pure (.type "method_descriptor") := by show builtinType _ = _; rw [builtinType_eq_fast]; kernel_rfl
theorem zfz : entryFor table "bytes.join" = some Builtin.«bytes.join» := entryFor_of_tree (by kernel_rfl)
theorem zhz (a b : Value) : argsOk "bytes.join" ⟨[a, b], []⟩ := by
  unfold argsOk; rw [signature?_of (id := "bytes.join") (n := ['n', 'i', 'o', 'j']) (o := ['s', 'e', 't', 'y', 'b']) (by kernel_rfl) FB.owner_bytes]; kernel_rfl
end
noncomputable def BsAre (vs : List Value) (ks : List (List Int)) : Prop := vs.length = ks.length ∧ ∀ (i : Nat) (v : Value), vs[i]? = some v → ∃ b t, v = Value.bytes b t ∧ KBw.bInts b = ks.getD i []
theorem BsAre.nil : BsAre [] [] := ⟨rfl, fun i v h => by simp at h⟩
theorem BsAre.snoc {vs : List Value} {ks : List (List Int)} {b : Array UInt8} {t : Tok} {k : List Int} (h : BsAre vs ks) (hb : KBw.bInts b = k) : BsAre (vs ++ [.bytes b t]) (ks ++ [k]) := by
  refine ⟨by rw [List.length_append, List.length_append, h.1]; rfl, fun i v e => ?_⟩
  rcases Nat.lt_or_ge i vs.length with q | q
  · rw [List.getElem?_append_left q] at e
    obtain ⟨c, u, e1, e2⟩ := h.2 i v e
    have q' : i < ks.length := by rw [← h.1]; exact q
    exact ⟨c, u, e1, by rw [e2]; simp [List.getD, List.getElem?_append_left q']⟩
  · rw [List.getElem?_append_right q] at e
    have hi : i = vs.length := by
      rcases Nat.lt_or_ge (i - vs.length) 1 with w | w
      · omega
      · rw [List.getElem?_eq_none (by simpa using w)] at e; cases e
    subst hi
    simp only [Nat.sub_self, List.getElem?_cons_zero, Option.some.injEq] at e
    exact ⟨b, t, e.symm, by rw [hb]; simp [List.getD, h.1]⟩
theorem BsAre.app {vs us : List Value} {ks js : List (List Int)} (h : BsAre vs ks) (g : BsAre us js) : BsAre (vs ++ us) (ks ++ js) := by
  refine ⟨by rw [List.length_append, List.length_append, h.1, g.1], fun i v e => ?_⟩
  rcases Nat.lt_or_ge i vs.length with q | q
  · rw [List.getElem?_append_left q] at e
    obtain ⟨c, u, e1, e2⟩ := h.2 i v e
    have q' : i < ks.length := by rw [← h.1]; exact q
    exact ⟨c, u, e1, by rw [e2]; simp [List.getD, List.getElem?_append_left q']⟩
  · rw [List.getElem?_append_right q] at e
    obtain ⟨c, u, e1, e2⟩ := g.2 _ v e
    have q' : ks.length ≤ i := by rw [← h.1]; exact q
    exact ⟨c, u, e1, by rw [e2, h.1]; simp [List.getD, List.getElem?_append_right q']⟩
theorem zkq (a b : Array UInt8) : KBw.bInts (a ++ b) = KBw.bInts a ++ KBw.bInts b := by simp [KBw.bInts]
theorem zhx (a : Array UInt8) : a.size = (KBw.bInts a).length := by simp [KBw.bInts]
theorem BsAre.bs {vs : List Value} {ks : List (List Int)} (h : BsAre vs ks) : ∃ bs : List (Array UInt8), bs.map KBw.bInts = ks ∧ ∀ (i : Nat) (v : Value), vs[i]? = some v → ∃ t : Tok, v = Value.bytes (bs.getD i #[]) t := by
  induction vs generalizing ks with
  | nil => exact ⟨[], by rw [List.length_eq_zero_iff.mp h.1.symm]; rfl, fun i v e => by simp at e⟩
  | cons v vs ih =>
    obtain ⟨k, ks, rfl⟩ : ∃ k r, ks = k :: r := by
      cases ks with
      | nil => exact absurd h.1 (by simp)
      | cons k r => exact ⟨k, r, rfl⟩
    obtain ⟨b, t, e1, e2⟩ := h.2 0 v rfl
    obtain ⟨bs, f1, f2⟩ := ih (ks := ks) ⟨by simpa using h.1, fun i u e => by simpa using h.2 (i + 1) u (by simpa using e)⟩
    refine ⟨b :: bs, by rw [List.map_cons, f1, e2]; rfl, fun i u e => ?_⟩
    cases i with
    | zero =>
      simp only [List.getElem?_cons_zero, Option.some.injEq] at e
      exact ⟨t, by rw [← e, e1]; rfl⟩
    | succ i => simpa using f2 i u (by simpa using e)
theorem zfu : ∀ (bs : List (Array UInt8)), KBw.bInts (Builtin.Bytes.joined #[] bs) = (bs.map KBw.bInts).flatten := by
  intro bs
  have key : ∀ n, n ≤ bs.length → KBw.bInts (Builtin.Bytes.joined #[] (bs.take n)) = ((bs.take n).map KBw.bInts).flatten := by
    intro n
    induction n with
    | zero => intro _; rfl
    | succ n ih =>
      intro hn
      have e : bs.take (n + 1) = bs.take n ++ [bs[n]] := by rw [List.take_add_one]; simp [List.getElem?_eq_getElem (show n < bs.length by omega)]
      rw [e, zdc, zkq, ih (by omega), List.map_append, List.flatten_append]
      simp
  simpa using key bs.length (Nat.le_refl _)
section
variable {prog : Program} {w : World} {A : Around} {E : Value → Shared → Prop} {s : Shared}
theorem zkn {l : Addr} {its : Array Value} {t0 : Tok} {vs : List Value} {ks : List (List Int)} {Q : Value → Shared → Prop} (hi : s.heap.IsList l its) (hv : its.toList = vs) (hb : BsAre vs ks) (hz : ks.flatten.length ≤ 16777216)
    (h : ∀ b t k, KBw.bInts b = ks.flatten → Q (.bytes b t) { s with toks := k }) : wpAny (model prog w) A (call (.builtin "bytes.join") [.bytes #[] t0, .ref l]) Q E s := by
  obtain ⟨bs, e1, e2⟩ := hb.bs
  have hl : bs.length = vs.length := by rw [hb.1, ← e1, List.length_map]
  have hs : (bs.map Array.size).sum = ks.flatten.length := by
    rw [← e1, List.length_flatten, List.map_map]
    congr 1
    exact List.map_congr_left fun b _ => zhx b
  refine call_meets (S := fun _ R s' => s' = s ∧ ∀ b t k, KBw.bInts b = ks.flatten → R (.ok (.ret (.bytes b t))) { s with toks := k }) zdr (typeIs_bytes _ _ _) zfz (zhz _ _) ?_ ⟨rfl, h⟩
  refine .of_wp fun prog w A R s' hS => ?_
  obtain ⟨rfl, h⟩ := hS
  refine zmq hi hv e2 hl (by rw [hs, sizeLine_eq]; exact hz) fun t k => ?_
  exact h _ t k (by rw [zfu, e1])
theorem zfl {M : Model} {b : Array UInt8} {t : Tok} {pl : Sem Bool} {Q : Value × List Value → Shared → Prop} (h : Q (.builtin "bytes.join", [.bytes b t]) s) : wpAny M A (getMethod (.bytes b t) "join" pl) Q E s := by
  with_reducible exact KBd.method_of (.bytes b t) (typeIs_bytes _ _ _) zdr zhe KBd.noRef h
end
section
variable {prog : Program} {w : World} {A : Around} {E : Value → Shared → Prop} {s : Shared} {h₀ : Heap} {L R : Addr} {m : Str → Option Value} {news : List (Addr × Obj)} {vs : List Value} {ns : List Int} {n : Nat}
end

noncomputable def TupI (news : List (Addr × Obj)) (v : Value) (k : Int × Int) : Prop :=
  ∃ a o its n t u r, v = .ref a ∧ (a, o) ∈ news ∧ o.cls = .type "tuple" ∧ o.data = .seq its n ∧ its.toList = .int k.1 t :: .int k.2 u :: r
section
variable {prog : Program} {w : World} {A : Around} {E : Value → Shared → Prop} {s : Shared} {h₀ : Heap} {L : Addr} {m : Str → Option Value} {news : List (Addr × Obj)}
theorem zis {vs : List Value} {ks : List (Int × Int)} {Q : SortKind → Shared → Prop} (h2 : 2 ≤ vs.length) (hl : vs.length = ks.length) (ht : ∀ (i : Nat) (v : Value) (k : Int × Int), vs[i]? = some v → ks[i]? = some k → TupI news v k) (N : News h₀ L s.heap news) (h : Q (tuples' true) s) :
    wpAny (model prog w) A (keyKind' vs.toArray) Q E s := by
  have key : ∀ (vs : List Value) (ks : List (Int × Int)), vs.length = ks.length → (∀ (i : Nat) (v : Value) (k : Int × Int), vs[i]? = some v → ks[i]? = some k → TupI news v k) → ∃ fs : List Value, KatTups s.heap vs fs ∧ fs.length = vs.length ∧ ∀ f ∈ fs, ∃ (x : Int) (t : Tok), f = .int x t := by
    intro vs
    induction vs with
    | nil => intro ks _ _; exact ⟨[], KatTups.nil, rfl, fun _ h => (nomatch h)⟩
    | cons v vs ih =>
      intro ks hl ht
      cases ks with
      | nil => simp at hl
      | cons k ks =>
        obtain ⟨fs, f1, f2, f3⟩ := ih ks (by simpa using hl) fun i v' k' e1 e2 => ht (i + 1) v' k' (by simpa using e1) (by simpa using e2)
        obtain ⟨a, o, its, n, t, u, r, e, hm, hc, hd, hits⟩ := ht 0 v k rfl rfl
        subst e
        refine ⟨.int k.1 t :: fs, KatTups.cons (N.get hm) hc hd (by rw [← Array.getElem?_toList, hits]; rfl) f1, by simp [f2], fun f hf => ?_⟩
        rcases List.mem_cons.mp hf with rfl | hf
        · exact ⟨_, _, rfl⟩
        · exact f3 f hf
  obtain ⟨fs, f1, f2, f3⟩ := key vs ks hl ht
  refine kat_kind (T := .type "int") f1 (by omega) (fun v hv => ?_) rfl h
  obtain ⟨x, t, rfl⟩ := f3 v hv
  exact Looks.now
theorem zhi {a : Addr} {vs : List Value} {n : Nat} {P : PySem.Fin → Shared → Prop} (F : Fr h₀ L s.heap m) (N : News h₀ L s.heap news) (ho : s.heap.get? a = some (seqObj "list" vs.toArray n)) (haL : a ≠ L) (ha0 : h₀.get? a = none) (hna : ∀ p ∈ news, p.1 ≠ a)
    (h2 : vs.length < 2) (h : ∀ c h', Fr h₀ L h' m → News h₀ L h' ((a, listOf vs.toArray c) :: news) → P (.done (.ret .none)) { s with heap := h' }) :
    wpAny (model prog w) A (Builtin.«list.sort» ⟨[.ref a], []⟩) P E s := by
  have ha : a < s.heap.objs.size := Heap.lt_size ho
  have s1 := Heap.SameBut.update s.heap a (Obj.mapSeq fun _ => (#[] : Array Value))
  obtain ⟨e1, ho1⟩ : ∃ e1, (s.heap.update a (Obj.mapSeq fun _ => (#[] : Array Value))).get? a = some (seqObj "list" #[] e1) := ⟨_, get?_update_seq ho fun _ => #[]⟩
  have F3 : Fr h₀ L (((s.heap.update a (Obj.mapSeq fun _ => (#[] : Array Value))).push (seqObj "tuple" vs.toArray 0)).push (seqObj "list" #[] 0)) m := ((kas_fr F s1 haL ha0).push _).push _
  have N2 : News h₀ L (((s.heap.update a (Obj.mapSeq fun _ => (#[] : Array Value))).push (seqObj "tuple" vs.toArray 0)).push (seqObj "list" #[] 0)) news :=
    (kas_news N s1 hna).grown fun b x e => Heap.get?_push_of_some _ (Heap.get?_push_of_some _ e)
  have ho3 : (((s.heap.update a (Obj.mapSeq fun _ => (#[] : Array Value))).push (seqObj "tuple" vs.toArray 0)).push (seqObj "list" #[] 0)).get? a = some (seqObj "list" #[] e1) := Heap.get?_push_of_some _ (Heap.get?_push_of_some _ ho1)
  rw [list_sort_plain]
  refine wpAny_bind (listItems_at ho rfl ?_)
  refine wpAny_bind (listUpdate_at ho rfl ?_ (by rw [List.size_toArray, sizeLine_eq]; omega) (Nat.zero_le _))
  refine wpAny_bind (seqEpoch_at ho1 rfl ?_)
  refine wpAny_bind (wpAny_newTuple ?_ (by show vs.length ≤ _; rw [sizeLine_eq]; omega))
  refine wpAny_bind (wpAny_newList ?_ (Nat.zero_le _))
  refine wpAny_holding ?_
  show wpAny (model prog w) A _ P E { s with heap := ((s.heap.update a (Obj.mapSeq fun _ => (#[] : Array Value))).push (seqObj "tuple" vs.toArray 0)).push (seqObj "list" #[] 0) }
  dsimp only
  have hn2 : vs.toArray.size < 2 := by rw [List.size_toArray]; omega
  rw [if_pos hn2, if_pos hn2]
  refine wpAny_bind (wpAny_pure ?_)
  rw [StateT.run_pure]
  refine wpAny_bind (wpAny_pure ?_)
  dsimp only
  have hout : (arrOf (SortSt.mk' general' (vs.toArray.zip vs.toArray) #[] 7 none)).map (·.2) = vs.toArray := by
    show (vs.toArray.zip vs.toArray).map (·.2) = _
    rcases vs with _ | ⟨v, _ | ⟨v', r⟩⟩
    · simp
    · simp
    · exact absurd h2 (by simp only [List.length_cons]; omega)
  rw [hout]
  have s2 := Heap.SameBut.update (((s.heap.update a (Obj.mapSeq fun _ => (#[] : Array Value))).push (seqObj "tuple" vs.toArray 0)).push (seqObj "list" #[] 0)) a (Obj.mapSeq fun _ => vs.toArray)
  obtain ⟨c2, hc2⟩ : ∃ c2, ((((s.heap.update a (Obj.mapSeq fun _ => (#[] : Array Value))).push (seqObj "tuple" vs.toArray 0)).push (seqObj "list" #[] 0)).update a (Obj.mapSeq fun _ => vs.toArray)).get? a = some (seqObj "list" vs.toArray c2) := ⟨_, get?_update_seq ho3 fun _ => vs.toArray⟩
  refine wpAny_bind (seqEpoch_at ho3 rfl ?_)
  refine wpAny_bind (listUpdate_at ho3 rfl ?_ (Nat.zero_le _) (by rw [List.size_toArray, sizeLine_eq]; omega))
  simp only [bne_self_eq_false, Bool.false_eq_true, if_false]
  refine wpAny_pure (h c2 _ (kas_fr F3 s2 haL ha0) fun p hp => ?_)
  rcases List.mem_cons.mp hp with rfl | hp
  · exact ⟨hc2, haL, ha0⟩
  · exact kas_news N2 s2 hna p hp
end


section
variable {prog : Program} {w : World} {A : Around} {E : Value → Shared → Prop} {s : Shared} {h₀ : Heap} {L : Addr} {m : Str → Option Value} {news : List (Addr × Obj)}
theorem zcu {sl : Addr} {u : Tok} {Q : Int × Int × Nat → Shared → Prop} (hs : s.heap.IsSliceOf sl .none (.int 2 u) .none) (h : Q (0, 1, 2) s) :
    wpAny (model prog w) A (Builtin.Slice.sliceApplied (.ref sl) (pure (3 : Int))) Q E s := by
  obtain ⟨os, hos, hcs, hds⟩ := id hs
  unfold Builtin.Slice.sliceApplied Builtin.Slice.sliceFields
  refine wpAny_bind (wpAny_bind (wpAny_field hos hds (x := .none) rfl (wpAny_bind (wpAny_field hos hds (x := .int 2 u) rfl (wpAny_bind (wpAny_field hos hds (x := .none) rfl (wpAny_pure ?_)))))))
  refine wpAny_bind (slicePart_none ?_)
  show wpAny _ _ (if ((1 : Int) == 0) = true then _ else _) _ _ s
  rw [if_neg (by decide)]
  refine wpAny_bind (slicePart_none (wpAny_bind (slicePart_int (wpAny_bind (wpAny_pure ?_)))))
  show wpAny _ _ (match Builtin.Slice.sliceAdjust none (some (2 : Int)) 1 (3 : Int) with | (lo, hi) => pure (lo, (1 : Int), Builtin.Slice.slicePlaces lo hi 1)) _ _ s
  have e : Builtin.Slice.sliceAdjust none (some (2 : Int)) 1 (3 : Int) = (0, 2) := by decide
  rw [e]
  show wpAny _ _ (pure ((0 : Int), (1 : Int), Builtin.Slice.slicePlaces 0 2 1)) _ _ s
  have e2 : Builtin.Slice.slicePlaces 0 2 1 = 2 := by decide
  rw [e2]
  exact wpAny_pure h
theorem zco {t sl : Addr} {x y z : Value} {u : Tok} {Q : Value → Shared → Prop} (ht : IsTup s.heap t #[x, y, z]) (hs : s.heap.IsSliceOf sl .none (.int 2 u) .none)
    (h : Q (.ref s.heap.objs.size) { s with heap := s.heap.push { cls := .type "tuple", data := .seq #[x, y] } }) : wpAny (model prog w) A (getItem (.ref t) (.ref sl)) Q E s := by
  have hdrop : sizeOk (.seq #[x, y]) := by
    show (#[x, y] : Array Value).size ≤ sizeLine
    rw [sizeLine_eq]
    show 2 ≤ 16777216
    omega
  obtain ⟨os, hos, hcs, hds⟩ := id hs
  have hTs : s.TypeIs (.ref sl) "slice" := ⟨os, hos, hcs⟩
  unfold getItem
  try with_reducible refine wpAny_holding ?_
  first | refine wpAny_bind (wpAny_pure ?_) | skip
  refine wpAny_bind (wpAny_sequenceKey ht.typeIs (by decide) ?_)
  refine wpAny_bind (wpAny_callSpecial?_slot (name := Str.ofString "__getitem__") ht.typeIs slot_tuple_getitem
    (wpAny_call_entry slot_tuple_getitem ht.typeIs entry_tuple_getitem ?_ (args_tuple_getitem _ _)))
  show wpAny _ _ (Builtin.Tuple.tupleItemsOf (.ref t) >>= _) _ _ s
  refine wpAny_bind (tupleItemsOf_ ht ?_)
  refine wpAny_bind (wpAny_typeOf hTs ?_)
  rw [if_pos (by decide)]
  refine wpAny_bind (zcu hs ?_)
  show wpAny _ _ (if (((0 : Int) == 0 && (1 : Int) == 1 && (2 : Nat) == 3) = true) then _ else _) _ _ s
  rw [if_neg (by decide)]
  have e : ((List.range 2).filterMap fun (k : Nat) => (#[x, y, z] : Array Value)[((0 : Int) + (k : Int) * 1).toNat]?).toArray = #[x, y] := rfl
  first
    | exact wpAny_bind (m := Builtin.Tuple.tupleExact _) (wpAny_newObj_type (wpAny_pure ⟨_, rfl, wpAny_pure h⟩) hdrop)
    | exact wpAny_bind (m := Builtin.Tuple.tupleExact _) (wpAny_newObj_type (wpAny_bind (wpAny_pure (wpAny_pure ⟨_, rfl, wpAny_pure h⟩))) hdrop)
    | exact wpAny_bind (wpAny_bind (m := Builtin.Tuple.tupleExact _) (wpAny_newObj_type (wpAny_pure (wpAny_pure ⟨_, rfl, wpAny_pure h⟩)) hdrop))
    | exact wpAny_bind (wpAny_bind (m := Builtin.Tuple.tupleExact _) (wpAny_newObj_type (wpAny_pure ⟨_, rfl, wpAny_pure h⟩) hdrop))
theorem ziz {value slice : Expr} {t : Addr} {o : Obj} {x y z : Value} {n : Nat} {u : Tok} {Q : Value → Shared → Prop}
    (F : Fr h₀ L s.heap m) (N : News h₀ L s.heap news) (hm : (t, o) ∈ news) (ho : o = { cls := .type "tuple", data := .seq #[x, y, z] n })
    (h : ∀ D h', Fr h₀ L h' m → News h₀ L h' ((D, { cls := .type "tuple", data := .seq #[x, y] }) :: news) → (∀ p ∈ news, p.1 < D) → Q (.ref D) { s with heap := h' })
    (hs : subscripted slice false (.ref t) (.ref s.heap.objs.size) = operate [.ref s.heap.objs.size, .ref t] (getItem (.ref t) (.ref s.heap.objs.size)) := by with_unfolding_all rfl)
    (hg : ∀ r, letTemporaryGo value (.ref t) r = pure () := by intro _; with_unfolding_all rfl) :
    wpAny (model prog w) A (subscriptTail value slice (.ref t) (.ref s.heap.objs.size)) Q E { s with heap := s.heap.push { cls := .type "slice", data := .fields #[.none, .int 2 u, .none] } } := by
  subst ho
  have ht : IsTup s.heap t #[x, y, z] := ⟨_, (N _ hm).1, rfl, n, rfl⟩
  have ht' : IsTup (s.heap.push { cls := .type "slice", data := .fields #[.none, .int 2 u, .none] }) t #[x, y, z] := ht.keeps fun _ _ e => Heap.get?_push_of_some _ e
  refine subscriptTail_ops (s := { s with heap := s.heap.push { cls := .type "slice", data := .fields #[.none, .int 2 u, .none] } }) ht'.typeIs slot_tuple_getitem.lookup
    (zco ht' (Heap.IsSliceOf.new ..) ?_) hs hg
  have N1 := News.push (F.push { cls := .type "slice", data := .fields #[.none, .int 2 u, .none] }) (N.grown fun _ _ e => Heap.get?_push_of_some _ e) { cls := .type "tuple", data := .seq #[x, y] }
  exact h _ _ ((F.push _).push _) N1 fun p hp => by
    rw [Heap.size_push]
    exact Nat.lt_succ_of_lt (Heap.lt_size (N p hp).1)
theorem zdy {a b : Addr} {oa ob : Obj} {x y x' y' : Int} {t u t' u' : Tok} {na nb : Nat} {P : PySem.Fin → Shared → Prop} (ha : s.heap.get? a = some oa) (da : oa.data = .seq #[.int x t, .int y u] na) (hb : s.heap.get? b = some ob) (cb : ob.cls = .type "tuple") (db : ob.data = .seq #[.int x' t', .int y' u'] nb)
    (h : P (.done (.ret (.bool (decide (x < x' ∨ (x = x' ∧ y < y')))))) s) : wpAny (model prog w) A (Builtin.«tuple.__lt__» ⟨[.ref a, .ref b], []⟩) P E s := by
  have hTb : s.TypeIs (.ref b) "tuple" := ⟨ob, hb, cb⟩
  show wpAny _ _ (isInstance (.ref b) (.type "tuple") >>= _) _ _ s
  refine wpAny_bind (wpAny_isInstance hTb isSubtype_tuple_tuple ?_)
  simp only [Bool.not_true, Bool.false_eq_true, if_false]
  refine wpAny_bind (wpAny_tupleItemsOf ha da ?_)
  refine wpAny_bind (wpAny_tupleItemsOf hb db ?_)
  show wpAny _ _ (forIn [(Value.int x t, Value.int x' t'), (Value.int y u, Value.int y' u')] _ _ >>= _) _ _ s
  rw [List.forIn_cons]
  refine wpAny_bind (wpAny_bind ?_)
  refine wpAny_bind (wpAny_eqBool_int ?_)
  by_cases e : x = x'
  · rw [show (x == x') = true by simpa using e]
    simp only [Bool.not_true, Bool.false_eq_true, if_false]
    refine wpAny_pure ?_
    dsimp only
    rw [List.forIn_cons]
    refine wpAny_bind ?_
    refine wpAny_bind (wpAny_eqBool_int ?_)
    by_cases e2 : y = y'
    · rw [show (y == y') = true by simpa using e2]
      simp only [Bool.not_true, Bool.false_eq_true, if_false]
      refine wpAny_pure ?_
      dsimp only
      rw [List.forIn_nil]
      refine wpAny_pure ?_
      dsimp only
      have e3 : decide (x < x' ∨ (x = x' ∧ y < y')) = false := by rw [decide_eq_false_iff_not]; omega
      rw [e3] at h
      exact wpAny_pure h
    · rw [show (y == y') = false by simpa using e2]
      simp only [Bool.not_false, if_true]
      refine wpAny_bind (wpAny_rule ?_)
      refine wpAny_bind (lt_int ?_)
      have e3 : decide (x < x' ∨ (x = x' ∧ y < y')) = decide (y < y') := by rw [decide_eq_decide]; omega
      rw [e3] at h
      exact wpAny_bind (wpAny_pure (wpAny_pure (wpAny_pure (wpAny_pure h))))
  · rw [show (x == x') = false by simpa using e]
    simp only [Bool.not_false, if_true]
    refine wpAny_bind (wpAny_rule ?_)
    refine wpAny_bind (lt_int ?_)
    have e3 : decide (x < x' ∨ (x = x' ∧ y < y')) = decide (x < x') := by rw [decide_eq_decide]; omega
    rw [e3] at h
    exact wpAny_bind (wpAny_pure (wpAny_pure (wpAny_pure (wpAny_pure h))))
theorem lt_tup {a b : Addr} {oa ob : Obj} {x y x' y' : Int} {t u t' u' : Tok} {na nb : Nat} {Q : Value → Shared → Prop} (hu : A.units < cLine) (N : News h₀ L s.heap news) (ha : (a, oa) ∈ news) (ea : oa = { cls := .type "tuple", data := .seq #[.int x t, .int y u] na }) (hb : (b, ob) ∈ news) (eb : ob = { cls := .type "tuple", data := .seq #[.int x' t', .int y' u'] nb })
    (h : Q (.bool (decide (x < x' ∨ (x = x' ∧ y < y')))) s) : wpAny (model prog w) A (compareOp .Lt (.ref a) (.ref b)) Q E s := by
  subst ea
  subst eb
  have hTa : s.TypeIs (.ref a) "tuple" := ⟨_, (N _ ha).1, rfl⟩
  have hTb : s.TypeIs (.ref b) "tuple" := ⟨_, (N _ hb).1, rfl⟩
  refine wpAny_richCompare_same_room (op := .Lt) hTa hTb PySem.F.slot_tuple_lt ?_ hu
  refine wpAny_call_entry PySem.F.slot_tuple_lt hTa PySem.F.entry_tuple_lt ?_ (PySem.F.args_tuple_lt_2 _ _)
  exact zdy (N _ ha).1 rfl (N _ hb).1 rfl rfl ⟨_, rfl, by simp, h⟩
end
section
variable {prog : Program} {w : World} {A : Around} {E : Value → Shared → Prop} {s : Shared} {env : Env} {h₀ : Heap} {target : Expr} {body : List Stmt} {Q : Flow → Shared → Prop}
end
section
variable {prog : Program} {w : World} {A : Around} {E : Value → Shared → Prop} {s : Shared} {env : Env} {h₀ : Heap} {L : Addr} {target : Expr} {body : List Stmt} {Q : Flow → Shared → Prop}
end
noncomputable def IDict (prog : Program) (w : World) (o : Obj) (c : List (Int × Int)) : Prop := ∃ kvs, o.IsDictOf (intKind prog w) kvs ∧ PyProof.V.FlatPairs PyData.int kvs (kdfD c)
section
variable {prog : Program} {w : World} {A : Around} {E : Value → Shared → Prop} {s : Shared} {env : Env} {h₀ : Heap} {L : Addr} {target : Expr} {body : List Stmt} {Q : Flow → Shared → Prop}
end
section
variable {prog : Program} {w : World} {A : Around} {E : Value → Shared → Prop} {s : Shared} {h₀ : Heap} {L d : Addr} {m : Str → Option Value} {news : List (Addr × Obj)} {o : Obj} {c : List (Int × Int)}
end
section
variable {prog : Program} {w : World} {A : Around} {E : Value → Shared → Prop} {s : Shared} {env : Env} {h₀ : Heap} {L : Addr} {body : List Stmt} {Q : Flow → Shared → Prop}
end
section
variable {prog : Program} {w : World} {A : Around} {E : Value → Shared → Prop} {s : Shared} {h₀ : Heap} {L d : Addr} {news : List (Addr × Obj)} {o : Obj}
end
section
variable {prog : Program} {w : World} {A : Around} {E : Value → Shared → Prop} {Q : Flow → Shared → Prop} {s : Shared} {env : Env} {h₀ : Heap} {L : Addr}
end
section
variable {prog : Program} {w : World} {A : Around} {E : Value → Shared → Prop} {Q : Flow → Shared → Prop} {s : Shared} {env : Env} {h₀ : Heap} {L : Addr}
end
section
variable {prog : Program} {w : World} {A : Around} {E : Value → Shared → Prop} {s : Shared} {h₀ : Heap} {L : Addr} {m : Str → Option Value} {news : List (Addr × Obj)}
end
section
variable {prog : Program} {w : World} {A : Around} {E : Value → Shared → Prop} {s : Shared} {h₀ : Heap} {L d : Addr} {m : Str → Option Value} {news : List (Addr × Obj)} {o : Obj} {c : List (Int × Int)}
theorem kdu_max {T : String} {r : Addr} {n : Nat} {P : Nat → Value → Prop} {OK : Heap → Prop} {Q : Value → Shared → Prop} (K : KdlSrc prog w T r d n P OK) (hh : A.handled = none) (F : Fr h₀ L s.heap m) (N : News h₀ L s.heap news) (hok : OK s.heap) (val : Nat → Int) (hval : ∀ (i : Nat) (v : Value), P i v → ∃ t : Tok, v = Value.int (val i) t) (hn : 0 < n)
    (h : ∀ (h' : Heap) (tk : Nat) (t' : Tok) (j : Nat), j < n → (∀ i, i < n → val i ≤ val j) → Fr h₀ L h' m → News h₀ L h' news → Q (.int (val j) t') { s with heap := h', toks := tk }) :
    wpAny (model prog w) A (call (.builtin "max") [.ref r]) Q E s := by
  refine call_max_walkS ?_
  obtain ⟨oI, St, hit, W, st⟩ := K.iter A.in1 s hh hok
  refine hit _ _ ⟨s.heap.objs.size, _, _, _, n, P, _, _, rfl, W.toS, st, fun b hb => ?_, hn, CmpOf.ints_gt val hval, fun v s' hP hm => ?_⟩
  · show b < (s.heap.push oI).objs.size
    rw [size_push']
    rcases List.mem_cons.mp hb with e | hb
    · rw [e]; exact Nat.lt_succ_self _
    · rw [List.mem_singleton.mp hb]; exact Nat.lt_succ_of_lt (K.there _ hok).2
  · have hk : ∀ b o, s.heap.get? b = some o → s'.heap.get? b = some o := fun b o e =>
      hm.heap b o (fun hI => absurd (Heap.lt_size e) (by rw [List.mem_singleton.mp hI]; exact Nat.lt_irrefl _)) (Heap.get?_push_of_some _ e)
    obtain ⟨h1, h2⟩ := argBest_gt val (n - 1)
    obtain ⟨t', rfl⟩ := hval _ _ hP
    rw [Moved.eq_with hm]
    exact h s'.heap s'.toks t' _ (by omega) (fun i hi => h2 i (by omega)) (F.keeps hk) fun p hp => ⟨hk _ _ (N p hp).1, (N p hp).2⟩
theorem f8 {Q : Value → Shared → Prop} (F : Fr h₀ L s.heap m) (N : News h₀ L s.heap news) (hm : (d, o) ∈ news) (hd : IDict prog w o c) (lo : (d == sysModules) = false)
    (h : ∀ (v : Addr) h', Fr h₀ L h' m → News h₀ L h' ((v, { cls := .type "dict_values", data := .fields #[.ref d] }) :: news) → (∀ q ∈ news, q.1 < v) → Q (.ref v) { s with heap := h' }) :
    wpAny (model prog w) A (call (.builtin "dict.values") [.ref d]) Q E s := by
  obtain ⟨kvs, h1, h2⟩ := hd
  exact kdl_view_values F N hm h1 lo h
theorem f9 {name : Str} {id : String} {pl : Sem Bool} {Q : Value × List Value → Shared → Prop} (hid : dictMethodId name = some id) (N : News h₀ L s.heap news) (hm : (d, o) ∈ news) (hd : IDict prog w o c) (lo : (d == sysModules) = false) (h : Q (.builtin id, [.ref d]) s) :
    wpAny (model prog w) A (getMethod (.ref d) name pl) Q E s := by
  obtain ⟨kvs, h1, h2⟩ := hd
  exact getMethod_tab_any hid (TabAt.ofObj lo (N _ hm).1 h1 h2) h
theorem zjs {v : Addr} {Q : Value → Shared → Prop} (hh : A.handled = none) (F : Fr h₀ L s.heap m) (N : News h₀ L s.heap ((v, { cls := .type "dict_values", data := .fields #[.ref d] }) :: news)) (hm : (d, o) ∈ news) (hd : IDict prog w o c) (hc : 0 < c.length)
    (h : ∀ h' tk t M, M ∈ c.map (·.2) → (∀ a ∈ c.map (·.2), a ≤ M) → Fr h₀ L h' m → News h₀ L h' news → Q (.int M t) { s with heap := h', toks := tk }) : wpAny (model prog w) A (call (.builtin "max") [.ref v]) Q E s := by
  obtain ⟨kvs, h1, hf⟩ := hd
  have hD : s.heap.DictOf (intKind prog w) d kvs := Heap.dictOf_iff.mpr ⟨o, (N _ (.tail _ hm)).1, h1⟩
  obtain ⟨ep, hat⟩ := hD.dictAt
  have hlen : kvs.length = c.length := by rw [← hf.length, kdfD_length]
  refine kdu_max (kdl_values (knd := PySem.intKind prog w) (kvs := kvs) (ep := ep)) hh F (fun p hp => N p (.tail _ hp)) ⟨⟨_, (N _ (.head _)).1, rfl, rfl⟩, hat⟩ (fun i => ((c[i]?).map (·.2)).getD 0) (fun i x hx => ?_) (by omega) fun h' tk t j hj hall F' N' => ?_
  · obtain ⟨k, hx⟩ := hx
    obtain ⟨p, hp, t, rfl⟩ := kdy_valAt hf hx
    exact ⟨t, by simp [hp]⟩
  · have hj' : j < c.length := by omega
    refine h h' tk t _ ?_ (fun a ha => ?_) F' N'
    · simp only [List.getElem?_eq_getElem hj', Option.map_some, Option.getD_some]
      exact List.mem_map.mpr ⟨_, List.getElem_mem hj', rfl⟩
    · obtain ⟨p, hp, rfl⟩ := List.mem_map.mp ha
      obtain ⟨i, hi, rfl⟩ := List.getElem_of_mem hp
      have := hall i (by omega)
      simpa [List.getElem?_eq_getElem hi] using this
end
section
variable {prog : Program} {w : World} {A : Around} {E : Value → Shared → Prop} {s : Shared} {env : Env} {h₀ : Heap} {x : Str} {body : List Stmt} {Q : Flow → Shared → Prop}
end
section
variable {prog : Program} {w : World} {A : Around} {E : Value → Shared → Prop} {s : Shared} {env : Env} {h₀ : Heap} {L : Addr} {body : List Stmt}
end
section
variable {prog : Program} {w : World} {A : Around} {E : Value → Shared → Prop} {s : Shared} {h₀ : Heap} {L : Addr} {m : Str → Option Value} {env : Env}
open LCg LCp
end
section
variable {prog : Program} {w : World} {A : Around} {E : Value → Shared → Prop} {Q : Flow → Shared → Prop} {s : Shared} {env : Env} {h₀ : Heap} {L : Addr}
end
section
variable {prog : Program} {w : World} {A : Around} {E : Value → Shared → Prop} {s : Shared} {env : Env} {h₀ : Heap} {L : Addr} {body : List Stmt} {Q : Flow → Shared → Prop}
end
section
variable {prog : Program} {w : World} {A : Around} {E : Value → Shared → Prop} {s : Shared} {h₀ : Heap} {L : Addr} {m : Str → Option Value} {news : List (Addr × Obj)}
end
section
variable {prog : Program} {w : World} {A : Around} {E : Value → Shared → Prop} {s : Shared} {h₀ : Heap} {L : Addr} {m : Str → Option Value} {news : List (Addr × Obj)}
end
section
variable {prog : Program} {w : World} {A : Around} {E : Value → Shared → Prop} {Q : Flow → Shared → Prop} {s : Shared} {env : Env} {h₀ : Heap} {L : Addr}
end

open PySem.SeqAt
section
variable {prog : Program} {w : World} {A : Around} {E : Value → Shared → Prop} {s : Shared} {h₀ : Heap} {L : Addr} {news : List (Addr × Obj)}
end
section
variable {prog : Program} {w : World} {A : Around} {E : Value → Shared → Prop} {s : Shared} {h₀ : Heap} {L : Addr} {news : List (Addr × Obj)}
end
section
variable {prog : Program} {w : World} {A : Around} {E : Value → Shared → Prop} {s : Shared} {h₀ : Heap} {L : Addr} {news : List (Addr × Obj)}
end

noncomputable def pLt (p q : Int × Int) : Bool := decide (p.1 < q.1 ∨ (p.1 = q.1 ∧ p.2 < q.2))
section
variable {prog : Program} {w : World} {A : Around} {E : Value → Shared → Prop} {s : Shared} {h₀ : Heap} {L : Addr} {m : Str → Option Value} {news : List (Addr × Obj)}
theorem zmt {vs : List Value} {ks : List (Int × Int)} {i j : Nat} {C : Bool → Shared → Prop} (hl : vs.length = ks.length) (hk : ks.Nodup) (ht : ∀ (i : Nat) (v : Value) (k : Int × Int), vs[i]? = some v → ks[i]? = some k → TupI news v k) (N : News h₀ L s.heap news)
    (hi : i < vs.length) (hj : j < vs.length) (hij : i ≠ j) (h : C (pLt (ks.getD i (0, 0)) (ks.getD j (0, 0))) s) : kas_ask prog w A (tuples' true) vs i j C s := by
  have hi' : i < ks.length := by omega
  have hj' : j < ks.length := by omega
  obtain ⟨a, o, its, n, t, u, r, e, hm, hc, hd, hits⟩ := ht i vs[i] ks[i] (List.getElem?_eq_getElem hi) (List.getElem?_eq_getElem hi')
  obtain ⟨a', o', its', n', t', u', r', e', hm', hc', hd', hits'⟩ := ht j vs[j] ks[j] (List.getElem?_eq_getElem hj) (List.getElem?_eq_getElem hj')
  have hne : ks[i] ≠ ks[j] := fun q => hij ((List.getElem_inj hk).mp q)
  have e1 : ks.getD i (0, 0) = ks[i] := by simp [List.getD, List.getElem?_eq_getElem hi']
  have e2 : ks.getD j (0, 0) = ks[j] := by simp [List.getD, List.getElem?_eq_getElem hj']
  rw [e1, e2] at h
  unfold kas_ask
  have g1 : vs.getD i Value.none = .ref a := by rw [← e]; simp [List.getD, List.getElem?_eq_getElem hi]
  have g2 : vs.getD j Value.none = .ref a' := by rw [← e']; simp [List.getD, List.getElem?_eq_getElem hj]
  rw [g1, g2]
  generalize ks[i] = p at *
  generalize ks[j] = q at *
  obtain ⟨x, y⟩ := p
  obtain ⟨x', y'⟩ := q
  refine kat_lt (N.get hm) hd (N.get hm') hd' ?_
  rw [hits, hits', List.zip_cons_cons, List.zip_cons_cons]
  refine kat_cons (wpAny_eqBool_int ?_)
  by_cases hx : x = x'
  · rw [show (x == x') = true by simpa using hx]
    refine kat_yes (kat_cons (wpAny_eqBool_int ?_))
    by_cases hy : y = y'
    · exact absurd (by rw [hx, hy]) hne
    · rw [show (y == y') = false by simpa using hy]
      refine kat_no ?_
      have e : pLt (x, y) (x', y') = decide (y < y') := by
        unfold pLt
        rw [decide_eq_decide]
        constructor
        · rintro (q | q)
          · exact absurd q (by show ¬ x < x'; omega)
          · exact q.2
        · exact fun q => .inr ⟨hx, q⟩
      rw [e] at h
      exact kat_one _ _ (lt_int h)
  · rw [show (x == x') = false by simpa using hx]
    refine kat_no ?_
    have e : pLt (x, y) (x', y') = decide (x < x') := by
      unfold pLt
      rw [decide_eq_decide]
      constructor
      · rintro (q | q)
        · exact q
        · exact absurd q.1 hx
      · exact fun q => .inl q
    rw [e] at h
    exact oneLt_int h
end
noncomputable def GRow (a b : Array GenState) : Prop := a.size ≤ b.size ∧ (∀ (i : Nat) (x : GenState), a[i]? = some x → b[i]? = some x) ∧ ∀ (i : Nat) (x : GenState), a.size ≤ i → b[i]? = some x → x = .finished
theorem GRow.refl (a : Array GenState) : GRow a a := ⟨Nat.le_refl _, fun _ _ e => e, fun i x h e => by obtain ⟨h', _⟩ := Array.getElem?_eq_some_iff.mp e; omega⟩
theorem GRow.trans {a b c : Array GenState} (h : GRow a b) (h' : GRow b c) : GRow a c := ⟨Nat.le_trans h.1 h'.1, fun i x e => h'.2.1 i x (h.2.1 i x e), fun i x hi e => by
  by_cases hb : i < b.size
  · have e1 := h'.2.1 i b[i] (Array.getElem?_eq_getElem hb)
    rw [e] at e1
    exact (Option.some.inj e1) ▸ h.2.2 i _ hi (Array.getElem?_eq_getElem hb)
  · exact h'.2.2 i x (by omega) e⟩
theorem GRow.bare {a b : Array GenState} (h : GRow a b) (ha : AllBare a) : AllBare b := by
  intro y hy
  obtain ⟨i, hi, rfl⟩ := Array.mem_iff_getElem.mp hy
  by_cases q : i < a.size
  · have e1 := h.2.1 i a[i] (Array.getElem?_eq_getElem q)
    rw [Array.getElem?_eq_getElem hi] at e1
    exact (Option.some.inj e1) ▸ ha _ (Array.getElem_mem q)
  · rw [h.2.2 i _ (by omega) (Array.getElem?_eq_getElem hi)]; rfl
section
variable {prog : Program} {w : World} {A : Around} {E : Value → Shared → Prop} {s : Shared}
noncomputable def GenR (B4 : Shared → Shared → Prop) : Nat → Shared → Shared → Prop := fun n s₀ s₁ => n = 0 ∧ B4 s₀ s₁
noncomputable def GenY (V : Value → Prop) (B2 : Shared → Shared → Prop) (C : Shared → Prop) : Protocol := fun _ s₀ v s' kap => V v ∧ B2 s₀ s' ∧ ∀ s'', C s'' → kap (.send .none) s''
abbrev GenE (B4 : Shared → Shared → Prop) : GenEnd := fun n s₀ r s₁ => r = .ok (.ret .none) ∧ GenR B4 n s₀ s₁
section
variable {env : Env} {st1 st2 st3 : Stmt} {test e : Expr} {yp ep wp : Pos} {B1 B2 B3 B4 : Shared → Shared → Prop} {C : Shared → Prop} {V : Value → Prop} {n : Nat} {s₀ : Shared} {c : Code} {fs : List Frame}
abbrev zaz (st1 st2 st3 : Stmt) (test e : Expr) (yp ep wp : Pos) : List Stmt := [st1, st2, .While test [.Expr (.Yield (some e) yp) ep, st3] [] wp]
abbrev cutTurn (st3 : Stmt) (e : Expr) (yp ep : Pos) : List Stmt := [.Expr (.Yield (some e) yp) ep, st3]
theorem zss {Y : Protocol} {R : GenEnd} {wb : List Stmt} (tno : ∀ A' E' s₀ s, B3 s₀ s → wpAny (model prog w) A' (isTrue test env (eval test env)) (fun b s' => b = false ∧ B4 s₀ s') E' s)
    (h : ∀ s', B4 s₀ s' → Seg (model prog w) A R Y n s₀ (.whileLoop test wb [] env) (leafOf (.ok .next)) fs s') (h3 : B3 s₀ s) :
    Seg (model prog w) A R Y n s₀ (.whileLoop test wb [] env) ((model prog w).den (.whileLoop test wb [] env)) fs s := by
  refine seg_whileLoop (wpAny_mono (tno _ _ s₀ s h3) (fun b s' hb => ?_) fun _ _ x => x)
  obtain ⟨rfl, h4⟩ := hb
  rw [if_neg Bool.false_ne_true]
  exact seg_execs_nil (h s' h4)
theorem cut_yes {wb : List Stmt} (hwb : wb = cutTurn st3 e yp ep) (hfs : splitAtGen fs = none) (hfg : fs.any Frame.guarded = false)
    (tyes : ∀ A' E' s₀ s, B1 s₀ s → wpAny (model prog w) A' (isTrue test env (eval test env)) (fun b s' => b = true ∧ B1 s₀ s') E' s)
    (ty : ∀ A' E' s₀ s, B1 s₀ s → wpAny (model prog w) A' (eval e env) (fun v s' => V v ∧ B2 s₀ s') E' s)
    (t3 : ∀ A' E' s, C s → wpAny (model prog w) A' (exec st3 env) (fun f s' => f = .next ∧ B3 s s') E' s)
    (tno : ∀ A' E' s₀ s, B3 s₀ s → wpAny (model prog w) A' (isTrue test env (eval test env)) (fun b s' => b = false ∧ B4 s₀ s') E' s)
    (h : ∀ s₁ s', B4 s₁ s' → Seg (model prog w) A (GenE B4) (GenY V B2 C) 0 s₁ (.whileLoop test wb [] env) (leafOf (.ok .next)) fs s') (h1 : B1 s₀ s) (hco : env.scope.isCoroutine = false) (hi : interactive env = false) :
    Seg (model prog w) A (GenE B4) (GenY V B2 C) 1 s₀ (.whileLoop test wb [] env) ((model prog w).den (.whileLoop test wb [] env)) fs s := by
  subst hwb
  refine seg_whileLoop (wpAny_mono (tyes _ _ s₀ s h1) (fun b s' hb => ?_) fun _ _ x => x)
  obtain ⟨rfl, h1'⟩ := hb
  rw [if_pos rfl]
  refine seg_execs_cons (seg_Expr_Yield hfs rfl hfg (wpAny_mono (ty _ _ s₀ s' h1') (fun v s₂ hv => ?_) fun _ _ x => x) hco hi)
  intro kap hk
  refine ⟨hv.1, hv.2, fun s'' h2 => hk .none s'' ?_⟩
  show Seg (model prog w) A (GenE B4) (GenY V B2 C) 0 s'' _ ((execs [st3] env).wrap _ _ _ _) fs s''
  refine seg_execs_cons (seg_wrap (wpAny_mono (t3 _ _ s'' h2) (fun f s₃ hf => ?_) fun _ _ x => x))
  obtain ⟨rfl, h3⟩ := hf
  refine seg_execs_nil ?_
  exact seg_again rfl (zss tno (fun s' => h _ s') h3)
theorem zhb {R : GenEnd} {Y : Protocol} {m : Nat} {K : Flow → Sem Fin} {H : Value → Sem Fin} {gd : Bool → Bool} {lv : List Value → List Value} {p : Pos} {c' : Code}
    (h : Seg (model prog w) A R Y m s₀ c (K .next) fs s) :
    Seg (model prog w) A R Y m s₀ c' (leafOf (.ok .next)) (.ret (fun r => ((match r with | .ok f => (.pure f : Sem Flow) | .error e => .raise e).onRaise fun (x : Value) => do
        if (← field x 1) == Value.none then unsupported "frame.own-activation:exception-without-traceback"
        setFlight x env.frame).wrap K H gd lv) none (gd false) (lv []) c p [] :: fs) s := by
  refine seg_leaf _ ?_
  exact h
theorem zhl {a : Addr} {g : Nat} {Q : Option Value → Shared → Prop} (hh : A.handled = none) (hl : s.heap.NoLimit) (hroom : A.depth < recursionLimit) (hg : s.heap.IsGen a g)
    (hgs : s.gens[g]? = some (.fresh (.func (zaz st1 st2 st3 test e yp ep wp) env))) (hco : env.scope.isCoroutine = false) (hi : interactive env = false)
    (t1 : ∀ A' E', wpAny (model prog w) A' (exec st1 env) (fun f s' => f = .next ∧ wpAny (model prog w) A' (exec st2 env) (fun f s' => f = .next ∧ B1 (s.setGen g .running) s') E' s') E' (s.setGen g .running))
    (tyes : ∀ A' E' s₀ s, B1 s₀ s → wpAny (model prog w) A' (isTrue test env (eval test env)) (fun b s' => b = true ∧ B1 s₀ s') E' s)
    (ty : ∀ A' E' s₀ s, B1 s₀ s → wpAny (model prog w) A' (eval e env) (fun v s' => V v ∧ B2 s₀ s') E' s)
    (t3 : ∀ A' E' s, C s → wpAny (model prog w) A' (exec st3 env) (fun f s' => f = .next ∧ B3 s s') E' s)
    (tno : ∀ A' E' s₀ s, B3 s₀ s → wpAny (model prog w) A' (isTrue test env (eval test env)) (fun b s' => b = false ∧ B4 s₀ s') E' s)
    (hQ : ∀ v s₁ gs', V v → B2 (s.setGen g .running) s₁ → (∀ s'', C s'' → gs'.Goes (model prog w) A.in1 (GenE B4) (GenY V B2 C) 0 (.send .none) s'') → Q (some v) (s₁.setGen g gs')) :
    wpAny (model prog w) A (pyNext (.ref a)) Q E s := by
  refine wpAny_pyNext_gen (n := 1) (P := GenR B4) (Y := GenY V B2 C) hh hl hroom hg hgs ⟨rfl, ?_⟩ (fun v s₁ gs' hv => ?_) (fun s₁ hp h' hk => ?_)
  · refine seg_func (seg_execs_cons (seg_wrap (wpAny_mono (t1 _ _) (fun f s₁ hf => ?_) fun _ _ x => x)))
    obtain ⟨rfl, hf⟩ := hf
    refine seg_execs_cons (seg_wrap (wpAny_mono hf (fun f s₂ hf => ?_) fun _ _ x => x))
    obtain ⟨rfl, h1⟩ := hf
    refine seg_execs_cons (seg_While fun p => ?_)
    refine cut_yes rfl rfl rfl tyes ty t3 tno (fun s₁ s' h4 => zhb ?_) h1 hco hi
    exact seg_execs_nil (seg_end (.ok (.ret .none)) ⟨rfl, rfl, h4⟩)
  · exact hQ v s₁ gs' hv.1 hv.2.1 hv.2.2
  · exact absurd hp.1 (Nat.succ_ne_zero 0)
theorem zje {a : Addr} {g : Nat} {gs' : GenState} {Q : Option Value → Shared → Prop} (hh : A.handled = none) (hl : s.heap.NoLimit) (hroom : A.depth < recursionLimit) (hg : s.heap.IsGen a g)
    (hgs : s.gens[g]? = some gs') (hgo : ∀ s'', C s'' → gs'.Goes (model prog w) A.in1 (GenE B4) (GenY V B2 C) 0 (.send .none) s'') (h2 : C (s.setGen g .running)) (hC : ∀ s₀ s, B2 s₀ s → C s)
    (hQ : ∀ s₁, B4 (s.setGen g .running) s₁ → ∀ h', (∀ b o, s₁.heap.get? b = some o → h'.get? b = some o) → Q none { s₁.setGen g .finished with heap := h' }) :
    wpAny (model prog w) A (pyNext (.ref a)) Q E s := by
  refine wpAny_pyNext_gen (n := 0) (P := GenR B4) (Y := GenY V B2 C) hh hl hroom hg hgs (hgo _ h2) (fun v s₁ gs'' hv => ?_) (fun s₁ hp h' hk => hQ s₁ hp.2 h' hk)
  exact (hv.2.2 s₁ (hC _ _ hv.2.1)).elim
theorem zhm {a : Addr} {g : Nat} {Q : Option Value → Shared → Prop} (hh : A.handled = none) (hl : s.heap.NoLimit) (hroom : A.depth < recursionLimit) (hg : s.heap.IsGen a g)
    (hgs : s.gens[g]? = some (.fresh (.func (zaz st1 st2 st3 test e yp ep wp) env)))
    (t1 : ∀ A' E', wpAny (model prog w) A' (exec st1 env) (fun f s' => f = .next ∧ wpAny (model prog w) A' (exec st2 env) (fun f s' => f = .next ∧ B3 (s.setGen g .running) s') E' s') E' (s.setGen g .running))
    (tno : ∀ A' E' s₀ s, B3 s₀ s → wpAny (model prog w) A' (isTrue test env (eval test env)) (fun b s' => b = false ∧ B4 s₀ s') E' s)
    (hQ : ∀ s₁, B4 (s.setGen g .running) s₁ → ∀ h', (∀ b o, s₁.heap.get? b = some o → h'.get? b = some o) → Q none { s₁.setGen g .finished with heap := h' }) :
    wpAny (model prog w) A (pyNext (.ref a)) Q E s := by
  refine wpAny_pyNext_gen (n := 0) (P := GenR B4) (Y := GenY (fun _ => True) (fun _ _ => False) fun _ => False) hh hl hroom hg hgs ⟨rfl, ?_⟩ (fun v s₁ gs'' hv => hv.2.1.elim) (fun s₁ hp h' hk => hQ s₁ hp.2 h' hk)
  refine seg_func (seg_execs_cons (seg_wrap (wpAny_mono (t1 _ _) (fun f s₁ hf => ?_) fun _ _ x => x)))
  obtain ⟨rfl, hf⟩ := hf
  refine seg_execs_cons (seg_wrap (wpAny_mono hf (fun f s₂ hf => ?_) fun _ _ x => x))
  obtain ⟨rfl, h1⟩ := hf
  refine seg_execs_cons (seg_While fun p => ?_)
  refine zss tno (fun s' h4 => zhb ?_) h1
  exact seg_execs_nil (seg_end (.ok (.ret .none)) ⟨rfl, rfl, h4⟩)
end
end
noncomputable def DictRaw (h : Heap) (a : Addr) (es : Array DictEntry) (ep : Nat) : Prop := ∃ o, h.get? a = some o ∧ o.ExactDict ∧ o.data = .dict es ep
theorem DictRaw.typeIs {s : Shared} {a : Addr} {es : Array DictEntry} {ep : Nat} (x : DictRaw s.heap a es ep) : s.TypeIs (.ref a) "dict" := let ⟨o, ho, hc, _⟩ := x; ⟨o, ho, hc.1⟩
theorem DictRaw.lt {h : Heap} {a : Addr} {es : Array DictEntry} {ep : Nat} (x : DictRaw h a es ep) : a < h.objs.size := let ⟨_, ho, _⟩ := x; Heap.lt_size ho
theorem DictRaw.at {h h' : Heap} {a : Addr} {es : Array DictEntry} {ep : Nat} (x : DictRaw h a es ep) (e : ∀ o, h.get? a = some o → h'.get? a = some o) : DictRaw h' a es ep := let ⟨o, ho, r⟩ := x; ⟨o, e _ ho, r⟩
section
variable {prog : Program} {w : World} {A : Around} {E : Value → Shared → Prop} {s : Shared} {d it : Addr} {es : Array DictEntry} {ep i : Nat}
theorem zle {Q : Value → Shared → Prop} (lo : (d == sysModules) = false) (hm : DictRaw s.heap d es ep)
    (hQ : Q (.ref s.heap.objs.size) { s with heap := s.heap.push { cls := .type "dict_keyiterator", data := .fields #[.ref d, .int 0 0, .int es.size 0, .int ep 0] } }) : wpAny (model prog w) A (pyIter (.ref d)) Q E s := by
  obtain ⟨o, ho, hc, hdat⟩ := id hm
  have hT := hm.typeIs
  refine wpAny_pyIter_slot hT F.slot_dict_iter (wpAny_call_entry F.slot_dict_iter hT F.entry_dict_iter ?_ (F.args_dict_iter_1 _))
  unfold Builtin.«dict.__iter__»
  refine wpAny_bind ?_
  unfold Builtin.Dict.dictSlotNone
  refine wpAny_bind (wpAny_notOrdered_dict hT ?_)
  show wpAny _ _ (pure (Value.ref d)) _ _ s
  refine wpAny_pure ?_
  show wpAny _ _ (Builtin.Dict.showsAll d >>= _) _ _ s
  unfold Builtin.Dict.showsAll
  rw [if_neg (by rw [lo]; exact Bool.false_ne_true)]
  refine wpAny_bind (wpAny_pure (wpAny_bind (wpAny_dictEntries ho hdat (wpAny_bind (wpAny_dictEpoch ho hdat ?_)))))
  refine wpAny_bind (wpAny_newObj_type (wpAny_pure ⟨_, rfl, "dict_keyiterator", _, ⟨_, Heap.get?_push_size _ rfl, rfl⟩, F.slot_dict_keyiterator_next.lookup, ?_⟩))
  simpa [rawInt] using hQ
theorem zlf {Q : Option Value → Shared → Prop} (hit : s.heap.IsKeyIter it d i es.size ep) (hm : DictRaw s.heap d es ep) (hlt : i < es.size)
    (hQ : ∀ h', h'.IsKeyIter it d (i + 1) es.size ep → Heap.SameBut it s.heap h' → Q (some es[i].key) { s with heap := h' }) : wpAny (model prog w) A (pyNext (.ref it)) Q E s := by
  obtain ⟨o, ho, hc, hd⟩ := id hit
  obtain ⟨od, hod, hcd, hdd⟩ := id hm
  have hown : Builtin.Dict_items.ownsTuple "dict_keyiterator" = false := by decide
  unfold pyNext
  refine wpAny_bind (wpAny_attempt (wpAny_callSpecial?_slot (name := Str.ofString "__next__") hit.typeIs F.slot_dict_keyiterator_next
    (wpAny_call_entry F.slot_dict_keyiterator_next hit.typeIs F.entry_dict_keyiterator_next ?_ (F.args_dict_keyiterator_next_1 _))))
  refine wpAny_bind (wpAny_pure (wpAny_bind (wpAny_bind ?_)))
  first | refine wpAny_bind (wpAny_typeNameOfWhole_keyiter hit.typeIs (wpAny_pure ?_)) | refine wpAny_bind (wpAny_typeNameOf_keyiter hit.typeIs (wpAny_pure ?_))
  refine wpAny_bind (wpAny_fieldsOf ho hd ?_)
  simp only [hown, Bool.false_eq_true, if_false]
  show wpAny _ _ (if (Value.ref d == Value.none) = true then _ else _) _ _ s
  rw [if_neg (show ¬ ((Value.ref d == Value.none) = true) from Bool.false_ne_true)]
  refine wpAny_bind (wpAny_pure (wpAny_bind (wpAny_dictEntries hod hdd ?_)))
  rw [if_neg (by simp)]
  refine wpAny_bind (wpAny_pure (wpAny_bind (wpAny_dictEpoch hod hdd ?_)))
  rw [if_neg (by simp)]
  refine wpAny_pure ?_
  simp only [show ¬ ((i : Int) < 0) from by omega, if_false, Int.toNat_natCast, Array.getElem?_eq_getElem hlt]
  refine wpAny_bind ?_
  first | refine wpAny_bind (wpAny_typeNameOfWhole_keyiter hit.typeIs (wpAny_pure ?_)) | refine wpAny_bind (wpAny_typeNameOf_keyiter hit.typeIs (wpAny_pure ?_))
  refine wpAny_bind (wpAny_isOneOf_keyiter hit.typeIs ?_)
  show wpAny _ _ (setField (.ref it) 1 (rawInt ((i : Int) + 1)) >>= _) _ _ s
  refine wpAny_bind (wpAny_setField ho hd (by simp) ?_)
  have hit' : (s.heap.update it (Obj.mapFields (·.setIfInBounds 1 (rawInt ((i : Int) + 1))))).IsKeyIter it d (i + 1) es.size ep :=
    ⟨_, Heap.get?_update_self _ ho (Obj.isFreed_of_fields (Obj.data_mapFields hd _)), (Obj.cls_mapFields ..).trans hc, by rw [Obj.data_mapFields hd]; simp [rawInt]⟩
  refine wpAny_bind (wpAny_holding (wpAny_bind (wpAny_isOneOf_keyiter (s := { s with heap := s.heap.update it (Obj.mapFields (·.setIfInBounds 1 (rawInt ((i : Int) + 1)))) }) hit'.typeIs ?_)))
  show wpAny _ _ (pure es[i].key) _ _ _
  exact wpAny_pure (wpAny_pure ⟨_, rfl, wpAny_pure (hQ _ hit' (Heap.SameBut.update ..))⟩)
theorem zld {Q : Option Value → Shared → Prop} (hh : A.handled = none) (hit : s.heap.IsKeyIter it d i es.size ep) (hm : DictRaw s.heap d es ep) (hge : es.size ≤ i)
    (hQ : ∀ h', Heap.ExtBut it s.heap h' → Q none { s with heap := h' }) : wpAny (model prog w) A (pyNext (.ref it)) Q E s := by
  obtain ⟨o, ho, hc, hd⟩ := id hit
  obtain ⟨od, hod, hcd, hdd⟩ := id hm
  have hown : Builtin.Dict_items.ownsTuple "dict_keyiterator" = false := by decide
  unfold pyNext
  refine wpAny_bind (wpAny_attempt (wpAny_callSpecial?_slot (name := Str.ofString "__next__") hit.typeIs F.slot_dict_keyiterator_next
    (wpAny_call_entry F.slot_dict_keyiterator_next hit.typeIs F.entry_dict_keyiterator_next ?_ (F.args_dict_keyiterator_next_1 _))))
  refine wpAny_bind (wpAny_pure (wpAny_bind (wpAny_bind ?_)))
  first | refine wpAny_bind (wpAny_typeNameOfWhole_keyiter hit.typeIs (wpAny_pure ?_)) | refine wpAny_bind (wpAny_typeNameOf_keyiter hit.typeIs (wpAny_pure ?_))
  refine wpAny_bind (wpAny_fieldsOf ho hd ?_)
  simp only [hown, Bool.false_eq_true, if_false]
  show wpAny _ _ (if (Value.ref d == Value.none) = true then _ else _) _ _ s
  rw [if_neg (show ¬ ((Value.ref d == Value.none) = true) from Bool.false_ne_true)]
  refine wpAny_bind (wpAny_pure (wpAny_bind (wpAny_dictEntries hod hdd ?_)))
  rw [if_neg (by simp)]
  refine wpAny_bind (wpAny_pure (wpAny_bind (wpAny_dictEpoch hod hdd ?_)))
  rw [if_neg (by simp)]
  refine wpAny_pure ?_
  simp only [show ¬ ((i : Int) < 0) from by omega, if_false, Int.toNat_natCast, Array.getElem?_eq_none hge]
  refine wpAny_bind ?_
  first | refine wpAny_bind (wpAny_typeNameOfWhole_keyiter hit.typeIs (wpAny_pure ?_)) | refine wpAny_bind (wpAny_typeNameOf_keyiter hit.typeIs (wpAny_pure ?_))
  show wpAny _ _ (setField (.ref it) 0 .none >>= _) _ _ s
  refine wpAny_bind (wpAny_setField ho hd (by simp) ?_)
  show wpAny _ _ (newExc (.type "StopIteration") [] >>= _) _ _ _
  refine wpAny_bind ?_
  simp only [newExc, newTuple]
  refine wpAny_bind (wpAny_newObj_type ?_ (by size_fits))
  refine wpAny_bind (m := firstArgMember _ _) (wpAny_of_eq (a := Value.none) (by first | rfl | (simp only [firstArgMember]; rfl)) ?_)
  refine wpAny_newObj_type ?_ (by size_fits)
  simp only [raiseNew]
  refine wpAny_bind (wpAny_handled ?_)
  rw [show A.in1.handled = none from hh]
  refine wpAny_bind (wpAny_pure (wpAny_throw ?_))
  refine wpAny_bind (wpAny_isInstance (T := "StopIteration") (b := true) ⟨_, Heap.get?_push_size _ rfl, rfl⟩ isSubtype_stop ?_)
  exact wpAny_pure (hQ _ (((Heap.SameBut.update ..).extBut.push _).push _))
end
theorem j9 {prog : Program} {w : World} {A : Around} (hh : A.handled = none) (I d : Addr) (hne : d ≠ I) (es : Array DictEntry) (ep : Nat) :
    Walks prog w A I [I, d] [I] es.size (fun i v => ∃ e, es[i]? = some e ∧ v = e.key) (fun i h => h.IsKeyIter I d i es.size ep ∧ DictRaw h d es ep) where
  sub := fun b hb => by simp at hb; simp [hb]
  frame := fun _ _ _ st hk => ⟨st.1.at fun o e => hk I (by simp) o e, st.2.at fun o e => hk d (by simp) o e⟩
  item := fun i s Q E hi st hQ => by
    refine zlf st.1 st.2 hi fun h' hit' hs' => ?_
    exact hQ _ h' s.toks ⟨_, Array.getElem?_eq_getElem hi, rfl⟩ ⟨hit', st.2.at fun o e => (hs'.2 d hne).trans e⟩ fun b o hb e => hs'.extBut b o (fun h => hb (by simp [h])) e
  done := fun s Q E st hQ => zld hh st.1 st.2 (Nat.le_refl _) fun h' he' => hQ h' s.toks fun b o hb e => he' b o (fun h => hb (by simp [h])) e
  self := fun _ _ _ _ st hQ => wpAny_pyIter_keyiter st.1 hQ

section
variable {prog : Program} {w : World} {A : Around} {E : Value → Shared → Prop} {Q : Flow → Shared → Prop} {s : Shared} {env : Env} {h₀ : Heap} {L : Addr}
end

section
variable {prog : Program} {w : World} {A : Around} {E : Value → Shared → Prop} {Q : Flow → Shared → Prop} {s : Shared} {env : Env} {h₀ : Heap} {L : Addr}
end

theorem d2 : ∀ (n a b : Nat), a < 2 ^ n → (a ^^^ b) + 2 * (a &&& b) = a + b
  | 0, a, b, h => by
    have : a = 0 := by simpa using h
    subst this; simp
  | n + 1, a, b, h => by
    have ih := d2 n (a / 2) (b / 2) (by rw [Nat.pow_succ] at h; omega)
    have e1 : (a ^^^ b) / 2 = (a / 2) ^^^ (b / 2) := Nat.xor_div_two
    have e2 : (a &&& b) / 2 = (a / 2) &&& (b / 2) := Nat.and_div_two
    have e3 : (a ^^^ b) % 2 = (a % 2 + b % 2) % 2 := by
      have h1 := @Nat.xor_mod_two_eq_one a b
      have ha := Nat.mod_two_eq_zero_or_one a
      have hb := Nat.mod_two_eq_zero_or_one b
      have hx := Nat.mod_two_eq_zero_or_one (a ^^^ b)
      rcases ha with ha | ha <;> rcases hb with hb | hb <;> rcases hx with hx | hx <;> simp_all
    have e4 : (a &&& b) % 2 = (a % 2) * (b % 2) := by
      have h1 := @Nat.and_mod_two_eq_one a b
      have ha := Nat.mod_two_eq_zero_or_one a
      have hb := Nat.mod_two_eq_zero_or_one b
      have hx := Nat.mod_two_eq_zero_or_one (a &&& b)
      rcases ha with ha | ha <;> rcases hb with hb | hb <;> rcases hx with hx | hx <;> simp_all
    have ha := Nat.mod_two_eq_zero_or_one a
    have hb := Nat.mod_two_eq_zero_or_one b
    rcases ha with ha | ha <;> rcases hb with hb | hb <;> rw [ha, hb] at e3 e4 <;> omega
theorem zdq (a b : Nat) : Builtin.bitXor (a : Int) (b : Int) = ((a ^^^ b : Nat) : Int) := by
  rw [bitXor_and, bitAnd_pp (Int.natCast_nonneg _) (Int.natCast_nonneg _), Int.toNat_natCast, Int.toNat_natCast]
  have := d2 a a b (Nat.lt_two_pow_self)
  omega
theorem and255 (a : Nat) : Builtin.bitAnd (a : Int) 255 = ((a % 256 : Nat) : Int) := by rw [bitAnd_m8]; omega
noncomputable def zcr (v : Nat) : Nat := if v % 2 = 1 then (v / 2) ^^^ 3988292384 else v / 2
noncomputable def zbg (b : Nat) : Nat := zcr (zcr (zcr (zcr (zcr (zcr (zcr (zcr b)))))))
noncomputable def zst : List Nat := [0, 65, 195, 130, 134, 199, 69, 4, 77, 12, 142, 207, 203, 138, 8, 73, 154, 219, 89, 24, 28, 93, 223, 158, 215, 150, 20, 85, 81, 16, 146, 211, 117, 52, 182, 247, 243, 178, 48, 113, 56, 121, 251, 186, 190, 255, 125, 60, 239, 174, 44, 109, 105, 40, 170, 235, 162, 227, 97, 32, 36, 101, 231, 166, 234, 171, 41, 104, 108, 45, 175, 238, 167, 230, 100, 37, 33, 96, 226, 163, 112, 49, 179, 242, 246, 183, 53, 116, 61, 124, 254, 191, 187, 250, 120, 57, 159, 222, 92, 29, 25, 88, 218, 155, 210, 147, 17, 80, 84, 21, 151, 214, 5, 68, 198, 135, 131, 194, 64, 1, 72, 9, 139, 202, 206, 143, 13, 76, 149, 212, 86, 23, 19, 82, 208, 145, 216, 153, 27, 90, 94, 31, 157, 220, 15, 78, 204, 141, 137, 200, 74, 11, 66, 3, 129, 192, 196, 133, 7, 70, 224, 161, 35, 98, 102, 39, 165, 228, 173, 236, 110, 47, 43, 106, 232, 169, 122, 59, 185, 248, 252, 189, 63, 126, 55, 118, 244, 181, 177, 240, 114, 51, 127, 62, 188, 253, 249, 184, 58, 123, 50, 115, 241, 176, 180, 245, 119, 54, 229, 164, 38, 103, 99, 34, 160, 225, 168, 233, 107, 42, 46, 111, 237, 172, 10, 75, 201, 136, 140, 205, 79, 14, 71, 6, 132, 197, 193, 128, 2, 67, 144, 209, 83, 18, 22, 87, 213, 148, 221, 156, 30, 95, 91, 26, 152, 217]
theorem zhu : ((List.range 256).all fun i => zst.getD (zbg i / 2 ^ 24) 0 == i && decide (zbg i < 2 ^ 32)) = true := by decide +kernel
theorem zdh {i : Nat} (h : i < 256) : zst.getD (zbg i / 2 ^ 24) 0 = i ∧ zbg i < 2 ^ 32 := by
  have h1 := List.all_eq_true.mp zhu i (List.mem_range.mpr h)
  rw [Bool.and_eq_true] at h1
  exact ⟨by simpa using h1.1, of_decide_eq_true h1.2⟩
theorem zhv {i j : Nat} (hi : i < 256) (hj : j < 256) (h : zbg i / 2 ^ 24 = zbg j / 2 ^ 24) : i = j := by
  rw [← (zdh hi).1, h, (zdh hj).1]
noncomputable def zal (v b : Nat) : Nat := (v / 256) ^^^ zbg ((v ^^^ b) % 256)
theorem zbc {v b : Nat} (h : v < 2 ^ 32) : zal v b < 2 ^ 32 :=
  Nat.xor_lt_two_pow (by omega) (zdh (Nat.mod_lt _ (by decide))).2
theorem zdi {v b : Nat} (h : v < 2 ^ 32) : zal v b / 2 ^ 24 = zbg ((v ^^^ b) % 256) / 2 ^ 24 := by
  rw [zal, ← Nat.shiftRight_eq_div_pow, Nat.shiftRight_xor_distrib, Nat.shiftRight_eq_div_pow, Nat.shiftRight_eq_div_pow, show v / 256 / 2 ^ 24 = 0 by omega, Nat.zero_xor]
theorem zdx (v b : Nat) : (v ^^^ b) % 256 = (v % 256) ^^^ (b % 256) := Nat.xor_mod_two_pow (n := 8)
theorem d1 {a b c : Nat} (h : a ^^^ b = a ^^^ c) : b = c := by
  have h2 : a ^^^ (a ^^^ b) = a ^^^ (a ^^^ c) := by rw [h]
  rw [← Nat.xor_assoc, ← Nat.xor_assoc, Nat.xor_self, Nat.zero_xor, Nat.zero_xor] at h2
  exact h2
theorem zdj {v v' b b' : Nat} (h : v < 2 ^ 32) (h' : v' < 2 ^ 32) (e : zal v b = zal v' b') : (v ^^^ b) % 256 = (v' ^^^ b') % 256 ∧ v / 256 = v' / 256 := by
  have e1 : (v ^^^ b) % 256 = (v' ^^^ b') % 256 := zhv (Nat.mod_lt _ (by decide)) (Nat.mod_lt _ (by decide)) (by rw [← zdi h, ← zdi h', e])
  refine ⟨e1, ?_⟩
  rw [zal, zal, e1, Nat.xor_comm, Nat.xor_comm (v' / 256)] at e
  exact d1 e
theorem zga {v v' b : Nat} (h : v < 2 ^ 32) (h' : v' < 2 ^ 32) (e : zal v b = zal v' b) : v = v' := by
  obtain ⟨e1, e2⟩ := zdj h h' e
  rw [zdx, zdx, Nat.xor_comm, Nat.xor_comm (v' % 256)] at e1
  have := d1 e1
  omega
theorem zff {v b b' : Nat} (h : v < 2 ^ 32) (hb : b < 256) (hb' : b' < 256) (e : zal v b = zal v b') : b = b' := by
  obtain ⟨e1, _⟩ := zdj h h e
  rw [zdx, zdx] at e1
  have := d1 e1
  omega
noncomputable def b7 (v : Nat) (l : List Nat) : Nat := l.foldl zal v
theorem zdk : ∀ (l : List Nat) {v : Nat}, v < 2 ^ 32 → b7 v l < 2 ^ 32
  | [], _, h => h
  | _ :: r, _, h => zdk r (zbc h)
theorem zdt : ∀ (l : List Nat) {v v' : Nat}, v < 2 ^ 32 → v' < 2 ^ 32 → b7 v l = b7 v' l → v = v'
  | [], _, _, _, _, e => e
  | b :: r, _, _, h, h', e => zga (b := b) h h' (zdt r (zbc h) (zbc h') e)
theorem zht {p r : List Nat} {b b' v : Nat} (h : v < 2 ^ 32) (hb : b < 256) (hb' : b' < 256) (e : b7 v (p ++ b :: r) = b7 v (p ++ b' :: r)) : b = b' := by
  unfold b7 at e
  rw [List.foldl_append, List.foldl_append, List.foldl_cons, List.foldl_cons] at e
  have h1 : b7 v p < 2 ^ 32 := zdk p h
  exact zff h1 hb hb' (zdt r (zbc h1) (zbc h1) e)

noncomputable def crcZ (ks : List Int) (x : Nat) : Nat := b7 (x ^^^ 4294967295) (ks.map Int.toNat) ^^^ 4294967295
theorem crcZ_lt (ks : List Int) {x : Nat} (h : x < 2 ^ 32) : crcZ ks x < 2 ^ 32 := Nat.xor_lt_two_pow (zdk _ (Nat.xor_lt_two_pow h (by decide))) (by decide)
structure CrS where
  c : Nat
  t : Tok
noncomputable def crPs (c : CrS) : List (Str × Value) := [(Str.ofString "value", .int c.c c.t)]
noncomputable def crP (v₀ : Nat) (pre : List Int) (c : CrS) : Prop := c.c = b7 v₀ (pre.map Int.toNat) ∧ c.c < 2 ^ 32
section
variable {prog : Program} {w : World} {A : Around} {E : Value → Shared → Prop} {Q : Flow → Shared → Prop} {s : Shared} {env : Env} {h₀ : Heap} {L : Addr}
theorem cr_for {body : List Stmt} {m₀ : Str → Option Value} {ks : List Int} {news : List (Addr × Obj)} {b : Array UInt8} {tb t₀ : Tok} {v₀ : Int} {n₀ : Nat}
    (hb : KBw.bInts b = ks) (hh : A.handled = none) (F : Fr h₀ env.locals s.heap m₀) (N : News h₀ env.locals s.heap news) (hv : m₀ (Str.ofString "value") = some (.int v₀ t₀)) (h0 : v₀ = n₀) (h1 : n₀ < 2 ^ 32)
    (turn : ∀ (c : Nat) (t tn : Tok) (pre : List Int) (n : Nat) (u : Str → Option Value) h tk own, n < 256 → c < 2 ^ 32 → c = b7 n₀ (pre.map Int.toNat) →
      Fr h₀ env.locals h (fun y => if y = Str.ofString "byte" then some (.int n tn) else if y = Str.ofString "value" then some (.int c t) else if ([] : List Str).contains y then u y else m₀ y) → News h₀ env.locals h (news ++ own) →
      wpAny (model prog w) A (execs body env) (InvPostN h₀ env.locals (KstS (fun _ => news) crPs (fun _ => True) (Str.ofString "byte") [] m₀ (crP n₀) (pre ++ [(n : Int)])) own (news.map (·.1)) { s with heap := h, toks := tk } Q) E { s with heap := h, toks := tk })
    (done : ∀ (c : Nat) (t : Tok) (u : Str → Option Value) h tk, c < 2 ^ 32 → c = b7 n₀ (ks.map Int.toNat) → Fr h₀ env.locals h (fun y => if y = Str.ofString "byte" then u y else if y = Str.ofString "value" then some (.int c t) else if ([] : List Str).contains y then u y else m₀ y) → News h₀ env.locals h news → Q .next { s with heap := h, toks := tk }) :
    wpAny (model prog w) A (pyIter (.bytes b tb)) (fun it s₂ => LoopAtV prog w A h₀ env (Str.ofString "byte") body Q E it s₂) E s := by
  refine KStb.kst_bytes (fun _ => news) crPs (fun _ => True) [] (crP n₀) ⟨n₀, t₀⟩ hb rfl hh F N trivial ?_ ⟨rfl, h1⟩ ?_ ?_
  · intro p hp
    rw [List.mem_singleton.mp hp, ← h0]
    exact hv
  · rintro ⟨c, t⟩ pre post n tn u h tk own he hl hn0 hn1 _ _ ⟨p1, p2⟩ F₁ N₁
    obtain ⟨n, rfl⟩ := Int.eq_ofNat_of_zero_le hn0
    exact turn c t tn pre n u h tk own (by omega) p2 p1 F₁ N₁
  · rintro ⟨c, t⟩ u h tk _ _ ⟨p1, p2⟩ F₁ N₁
    exact done c t u h tk p2 p1 F₁ N₁
theorem cr_end {m₀ m' : Str → Option Value} {news own : List (Addr × Obj)} {pre : List Int} {n₀ n c : Nat} {x : Int} {t' : Tok} {h' : Heap} {tk : Nat} {s₁ : Shared}
    (F : Fr h₀ L h' m') (N : News h₀ L h' (news ++ own)) (hm : m' (Str.ofString "value") = some (.int x t')) (hx : x = (zal c n : Nat))
    (hr : ∀ z, z ≠ Str.ofString "byte" → z ≠ Str.ofString "value" → m' z = m₀ z) (hn : n < 256) (h1 : c < 2 ^ 32) (h2 : c = b7 n₀ (pre.map Int.toNat)) :
    InvEndN h₀ L (KstS (fun _ => news) crPs (fun _ => True) (Str.ofString "byte") [] m₀ (crP n₀) (pre ++ [(n : Int)])) own (news.map (·.1)) s₁ { s₁ with heap := h', toks := tk } := by
  refine kst_end (⟨zal c n, t'⟩ : CrS) F N (fun p hp => List.mem_append.mpr (.inl hp)) (fun p hp => List.mem_append.mpr (.inr hp)) rfl trivial ?_ ?_ ⟨?_, zbc h1⟩
  · intro p hp
    rw [List.mem_singleton.mp hp]
    show m' _ = some (.int ((zal c n : Nat) : Int) t')
    rw [← hx]
    exact hm
  · intro z h3 h4 _
    exact hr z h3 (h4 _ (.head _))
  · show zal c n = _
    rw [h2, b7, b7, List.map_append, List.foldl_append]
    simp
end
theorem u5 : ((List.range 256).all fun i => match rowL[i]? with | some (.int v _) => v == (zbg i : Int) | _ => false) = true := by decide +kernel
theorem u6 {i : Nat} (h : i < 256) : ∃ t, rowL[i]? = some (.int (zbg i : Nat) t) := by
  have h1 := List.all_eq_true.mp u5 i (List.mem_range.mpr h)
  split at h1
  · rename_i v t e
    exact ⟨t, by rw [e, show v = (zbg i : Int) by simpa using h1]⟩
  · cases h1
section
variable {prog : Program} {w : World} {A : Around} {E : Value → Shared → Prop} {s : Shared} {h₀ : Heap} {L : Addr} {K : Frag} {m : Str → Option Value}
theorem l8 {a : Addr} {value slice : Expr} {k : Int} {u : Tok} {i : Nat} {Q : Value → Shared → Prop} (F : Fr h₀ L s.heap m) (X₀ : K.In h₀) (hl : K.lookup a = some ⟨.type "list", none, .seq rowL.toArray 256, #[]⟩)
    (hk : k = i) (hi : i < 256) (h : ∀ t, Q (.int (zbg i : Nat) t) s)
    (hs : subscripted slice false (.ref a) (.int k u) = operate [.ref a, .int k u] (getItem (.ref a) (.int k u)) := by with_unfolding_all rfl) :
    wpAny (model prog w) A (subscriptTail value slice (.ref a) (.int k u)) Q E s := by
  obtain ⟨t, ht⟩ := u6 hi
  refine topList_K F X₀ hl (by omega) (by omega) (v := .int (zbg i : Nat) t) ?_ (h t) hs
  rw [hk, Int.toNat_natCast]
  exact ht
end
noncomputable def CrOut (z : Nat) (news : List (Addr × Obj)) (r : Value) (news' : List (Addr × Obj)) : Prop := ∃ x t, r = .int x t ∧ news' = news ∧ x = (z : Int)
noncomputable def CrC (f : Addr) (prog : Program) (w : World) (K : Frag) (p : Program) (loose : List Str) (mean : ExcName → Option Value) (mg mb : Str → Option Value) : Prop :=
  ∀ (b : Array UInt8) (ks : List Int) (tb : Tok) (news : List (Addr × Obj)), KBw.bInts b = ks → ks.length ≤ 1000 →
    Fun prog w K p loose mean mg mb 20 f [.bytes b tb] news (CrOut (crcZ ks 0) news)
theorem xor_M (x : Nat) : Builtin.bitXor (x : Int) 4294967295 = ((x ^^^ 4294967295 : Nat) : Int) := zdq x 4294967295
theorem step_x {c n : Nat} : Builtin.bitXor ((c : Int).fdiv (2 ^ (8 : Int).toNat)) ((zbg ((c ^^^ n) % 256) : Nat) : Int) = (zal c n : Nat) := by
  have e : (c : Int).fdiv (2 ^ (8 : Int).toNat) = ((c / 256 : Nat) : Int) := by
    have : ((2 : Int) ^ (8 : Int).toNat) = 256 := by decide
    rw [this, Int.fdiv_eq_ediv_of_nonneg _ (by decide)]
    omega
  rw [e, zdq, zal]
theorem idx_x {c n : Nat} : Builtin.bitAnd (Builtin.bitXor (c : Int) (n : Int)) 255 = (((c ^^^ n) % 256 : Nat) : Int) := by rw [zdq, and255]
theorem xor_0 : Builtin.bitXor 0 4294967295 = ((0 ^^^ 4294967295 : Nat) : Int) := zdq 0 4294967295
theorem cr_val {c x : Nat} {ks : List Int} (h : c = b7 (x ^^^ 4294967295) (ks.map Int.toNat)) : Builtin.bitXor (c : Int) 4294967295 = (crcZ ks x : Nat) := by rw [xor_M, crcZ, h]


section
variable {prog : Program} {w : World} {A : Around} {E : Value → Shared → Prop} {Q : Flow → Shared → Prop} {s : Shared} {env : Env} {h₀ : Heap} {L : Addr}
end

section
variable {prog : Program} {w : World} {A : Around} {E : Value → Shared → Prop} {Q : Flow → Shared → Prop} {s : Shared} {env : Env} {h₀ : Heap} {L : Addr}
end

section
variable {prog : Program} {w : World} {A : Around} {E : Value → Shared → Prop} {s : Shared} {env : Env} {h₀ : Heap} {L : Addr} {target : Expr} {body : List Stmt}
end

section
variable {prog : Program} {w : World} {A : Around} {E : Value → Shared → Prop} {Q : Flow → Shared → Prop} {s : Shared} {env : Env} {h₀ : Heap} {L : Addr}
end

section
variable {prog : Program} {w : World} {A : Around} {E : Value → Shared → Prop} {s : Shared} {R : Result → Shared → Prop} {b : Array UInt8} {t : Tok} {acc : Array Value}
theorem zmc {S I : Addr} (hh : A.handled = none) (hne : S ≠ I) (hn : acc.size + b.size ≤ sizeLine) (res : Value) {h₁ : Heap}
    (hR : ∀ h' tk c vs, (∀ x o, x ≠ S → x ≠ I → h₁.get? x = some o → h'.get? x = some o) → h'.get? S = some { cls := .type "list", dict := none, data := .seq (acc ++ vs.toArray) c, slots := #[] } → IntsAre vs (KBw.bInts b) → R (.ok (.ret res)) { s with heap := h', toks := tk }) :
    ∀ (k i : Nat) (h : Heap) (tk c : Nat) (vs : List Value), b.size - i = k → i ≤ b.size → KBw.IsBytesIter h I b t i → (∀ x o, x ≠ S → x ≠ I → h₁.get? x = some o → h.get? x = some o) →
      h.get? S = some { cls := .type "list", dict := none, data := .seq (acc ++ vs.toArray) c, slots := #[] } → IntsAre vs ((KBw.bInts b).take i) →
      codeAny (model prog w) A (.builtin "list.extend.loop" ⟨[.ref S, .ref I, res], []⟩) R { s with heap := h, toks := tk } := by
  intro k
  induction k with
  | zero =>
    intro i h tk c vs hk hi hit hkeep hS hI
    have hin : i = b.size := by omega
    subst hin
    refine codeAny_builtin PySem.F.entry_extend_loop ?_
    rw [Around.under_plainId PySem.F.plain_extend_loop _]
    show wpAny _ A.in1 (pyNext (.ref I) >>= _) _ _ _
    refine wpAny_bind (KBw.next_end (s := { s with heap := h, toks := tk }) (A := A.in1) hh hit (by simp) fun h' he => ?_)
    rw [← KBw.ints_length b, List.take_length] at hI
    exact wpAny_pure (hR h' tk c vs (fun x o h1 h2 e => he x o h2 (hkeep x o h1 h2 e)) (he S _ hne hS) hI)
  | succ k ih =>
    intro i h tk c vs hk hi hit hkeep hS hI
    have hlt : i < b.size := by omega
    have hb : b[i]? = some b[i] := by simp [hlt]
    have hlen : vs.length = i := by
      rw [hI.length, List.length_take, KBw.ints_length]; omega
    refine codeAny_builtin PySem.F.entry_extend_loop ?_
    rw [Around.under_plainId PySem.F.plain_extend_loop _]
    show wpAny _ A.in1 (pyNext (.ref I) >>= _) _ _ _
    refine wpAny_bind (KBw.next_item (s := { s with heap := h, toks := tk }) (A := A.in1) hit hb fun h' hit' hs' => ?_)
    have hS' : h'.get? S = _ := hs'.extBut S _ hne hS
    have up : ∀ x o, x ≠ S → h'.get? x = some o → (h'.update S (Obj.mapSeq (·.push (Value.int (b[i].toNat : Int) tk)))).get? x = some o := fun x o hx e => (Heap.get?_update_other _ _ (Ne.symm hx)).trans e
    show wpAny _ A.in1 (updateSeq S (·.push (Value.int (b[i].toNat : Int) tk)) >>= _) _ _ _
    refine wpAny_bind ?_
    have hz : (acc ++ vs.toArray).size ≤ sizeLine := by simp only [Array.size_append, List.size_toArray, hlen]; omega
    have hI' : IntsAre (vs ++ [Value.int (b[i].toNat : Int) tk]) ((KBw.bInts b).take (i + 1)) := by
      have e : (KBw.bInts b).take (i + 1) = (KBw.bInts b).take i ++ [(b[i].toNat : Int)] := by
        rw [List.take_add_one, KBw.ints_get hb]; rfl
      rw [e]
      exact hI.append (.cons _ _ .nil)
    have hS₂ := Heap.get?_update_self (Obj.mapSeq (·.push (Value.int (b[i].toNat : Int) tk))) hS' rfl
    have e : acc ++ (vs ++ [Value.int (b[i].toNat : Int) tk]).toArray = (acc ++ vs.toArray).push (Value.int (b[i].toNat : Int) tk) := by simp [Array.append_push]
    have hS₃ : (h'.update S (Obj.mapSeq (·.push (Value.int (b[i].toNat : Int) tk)))).get? S = some { cls := .type "list", dict := none, data := .seq (acc ++ (vs ++ [Value.int (b[i].toNat : Int) tk]).toArray) (if ((acc ++ vs.toArray).push (Value.int (b[i].toNat : Int) tk)).size == (acc ++ vs.toArray).size then c else c + 1), slots := #[] } := by
      rw [e]; exact hS₂
    refine wpAny_updateSeq hS' rfl (wpAny_pure ⟨plainId_quiet PySem.F.plain_extend_loop _, ih (i + 1) _ (tk + 1) _ (vs ++ [Value.int (b[i].toNat : Int) tk]) (by omega) hlt ?_ (fun x o h1 h2 e => up x o h1 (hs'.extBut x o h2 (hkeep x o h1 h2 e))) hS₃ hI'⟩) hz (by show ((acc ++ vs.toArray).push (Value.int (b[i].toNat : Int) tk)).size ≤ sizeLine + 1; rw [Array.size_push]; omega)
    obtain ⟨o, ho, r⟩ := hit'
    exact ⟨o, up I o (Ne.symm hne) ho, r⟩
theorem zgc : typeLookup (.type "bytes") "__len__" = pure (some (.builtin "bytes.__len__")) := by rw [typeLookup_type, builtinLookup_eq_fast]; kernel_rfl
set_option maxRecDepth 100000 in
theorem zmb (hh : A.handled = none) (S : Addr) (res : Value) (c₀ : Nat) (hS : s.heap.get? S = some { cls := .type "list", data := .seq acc c₀ }) (hn : acc.size + b.size ≤ sizeLine)
    (hR : ∀ h' tk c vs, (∀ x o, x ≠ S → s.heap.get? x = some o → h'.get? x = some o) → h'.get? S = some { cls := .type "list", dict := none, data := .seq (acc ++ vs.toArray) c, slots := #[] } → IntsAre vs (KBw.bInts b) → R (.ok (.ret res)) { s with heap := h', toks := tk }) :
    wpAny (model prog w) A.in1 (Builtin.List.listExtendWith (.ref S) (.bytes b t) res)
      (fun fin s' => match fin with | .done f => R (.ok f) s' | .again c' => c'.quiet = true ∧ codeAny (model prog w) A c' R s') (fun e s' => R (.error e) s') s := by
  have hSI : S ≠ s.heap.objs.size := Nat.ne_of_lt (Heap.lt_size hS)
  unfold Builtin.List.listExtendWith
  refine wpAny_bind (wpAny_typeOf (T := "bytes") (v := .bytes b t) (PySem.W.typeIs_bytes s b t) ?_)
  have h1 : Builtin.List.listSameRef (.ref S) (.bytes b t) = false := rfl
  have h2 : (Value.type "bytes" == Value.type "list") = false := by decide
  have h3 : (Value.type "bytes" == Value.type "tuple") = false := by decide
  simp only [h1, h2, h3, Bool.or_false, Bool.false_eq_true, if_false]
  refine wpAny_bind (KBw.pyIter_bytes ?_)
  refine wpAny_bind (wpAny_holding ?_)
  unfold Builtin.List.listLengthHint
  refine wpAny_bind (wpAny_specialOf (T := "bytes") (v := .bytes b t) (PySem.W.typeIs_bytes _ b t) zgc ?_)
  generalize hid : ("bytes.__len__" : String) = id0
  wp_delta
  rw [show splitId id0 = some ("bytes", "__len__") from by subst hid; decide +kernel]
  subst hid
  refine wpAny_bind (wpAny_isInstance (T := "bytes") (b := true) (PySem.W.typeIs_bytes _ b t) (by rw [isSubtype_type]; kernel_rfl) ?_)
  refine wpAny_ite_split (fun hab => absurd hab (by decide)) (fun _ => ?_)
  refine wpAny_ite_split (fun _ => ?_) (fun hab => absurd (by decide +kernel) hab)
  refine wpAny_bind (wpAny_typeOf (PySem.W.typeIs_bytes _ b t) ?_)
  refine wpAny_pure ?_
  rw [if_neg (by decide)]
  refine wpAny_pure ⟨plainId_quiet PySem.F.plain_extend_loop _, zmc (acc := acc) (b := b) (t := t) hh hSI hn res (h₁ := s.heap) (fun h' tk c vs hk hS' hI => hR h' tk c vs (fun x o hx e => hk x o hx (Nat.ne_of_lt (Heap.lt_size e)) e) hS' hI) b.size 0 _ _ c₀ [] rfl (Nat.zero_le _) ⟨_, Heap.get?_push_size _ rfl, rfl, rfl⟩ (fun x o _ _ e => Heap.get?_push_of_some _ e) ?_ .nil⟩
  have e : acc ++ ([] : List Value).toArray = acc := by simp
  rw [e]
  exact Heap.get?_push_of_some _ hS
end
section
variable {prog : Program} {w : World} {A : Around} {E : Value → Shared → Prop} {s : Shared} {h₀ : Heap} {L D : Addr} {m : Str → Option Value} {news : List (Addr × Obj)} {its : Array Value} {n : Nat} {b : Array UInt8} {t : Tok}
end
section
variable {prog : Program} {w : World} {A : Around} {E : Value → Shared → Prop} {s : Shared} {b : Array UInt8} {t : Tok}
theorem zho {R : Result → Shared → Prop} (hh : A.handled = none) (S : Addr) (hS : s.heap.get? S = some { cls := .type "list", data := .seq #[] }) (hn : b.size ≤ sizeLine)
    (hR : ∀ h' tk c vs, (∀ x o, x ≠ S → s.heap.get? x = some o → h'.get? x = some o) → h'.get? S = some { cls := .type "list", dict := none, data := .seq (List.toArray vs) c, slots := #[] } → IntsAre vs (KBw.bInts b) → R (.ok (.ret .none)) { s with heap := h', toks := tk }) :
    wpAny (model prog w) A.in1 (Builtin.«list.__init__» ⟨[.ref S, .bytes b t], []⟩)
      (fun fin s' => match fin with | .done f => R (.ok f) s' | .again c' => c'.quiet = true ∧ codeAny (model prog w) A c' R s') (fun e s' => R (.error e) s') s := by
  show wpAny _ _ (do let old ← Builtin.List.listItems (.ref S); Builtin.List.listUpdate (.ref S) (fun _ => #[]); letGo old.toList.reverse; Builtin.List.listExtendWith (.ref S) (.bytes b t) .none) _ _ s
  refine wpAny_bind ?_
  unfold Builtin.List.listItems
  refine wpAny_bind (wpAny_seqItems hS rfl (wpAny_pure ?_))
  show wpAny _ _ (updateSeq S (fun _ => #[]) >>= fun _ => letGo (#[] : Array Value).toList.reverse >>= fun _ => Builtin.List.listExtendWith (.ref S) (.bytes b t) .none) _ _ s
  refine wpAny_bind (wpAny_updateSeq hS rfl ?_)
  have hS₂ := Heap.get?_update_self (Obj.mapSeq (fun _ => (#[] : Array Value))) hS rfl
  have oth : ∀ x o, x ≠ S → s.heap.get? x = some o → (s.heap.update S (Obj.mapSeq (fun _ => (#[] : Array Value)))).get? x = some o :=
    fun x o hx e => (Heap.get?_update_other _ _ (Ne.symm hx)).trans e
  refine wpAny_bind (wpAny_letGo ?_)
  refine zmb (acc := #[]) hh S .none _ hS₂ (by simpa using hn) fun h' tk c vs hk hS' hI => ?_
  refine hR h' tk c vs (fun x o hx e => hk x o hx (oth x o hx e)) ?_ hI
  have e : (#[] : Array Value) ++ vs.toArray = vs.toArray := by simp
  rw [e] at hS'
  exact hS'
theorem list_B {h₀ : Heap} {L : Addr} {m : Str → Option Value} {news : List (Addr × Obj)} {ls : List Int} {Q : Value → Shared → Prop} (hh : A.handled = none) (F : Fr h₀ L s.heap m) (N : News h₀ L s.heap news) (hb : KBw.bInts b = ls) (hz : ls.length ≤ 1000000)
    (h : ∀ D c h' tk vs, Fr h₀ L h' m → News h₀ L h' ((D, listOf (List.toArray vs) c) :: news) → (∀ q ∈ news, q.1 < D) → IntsAre vs ls → Q (.ref D) { s with heap := h', toks := tk }) : wpAny (model prog w) A (call (.type "list") [.bytes b t]) Q E s := by
  subst hb
  rw [KBw.ints_length] at hz
  refine callType_codes (Q₁ := fun obj s₁ => obj = .ref s.heap.objs.size ∧ s₁ = { s with heap := s.heap.push { cls := .type "list", data := .seq #[] } }) PySem.F.called_list (PySem.F.typeCall_list_1 _) PySem.F.entry_list_init
    (code_list_new _ ⟨rfl, rfl⟩) fun obj s₁ h₁ => ?_
  obtain ⟨rfl, rfl⟩ := h₁
  have hS : (s.heap.push { cls := .type "list", data := .seq #[] }).get? s.heap.objs.size = some { cls := .type "list", data := .seq #[] } := Heap.get?_push_size _ rfl
  refine ⟨⟨_, hS, rfl⟩, PySem.F.args_list_init_2 _ _, zho (A := A.in1) hh _ hS (by rw [sizeLine_eq]; omega) fun h' tk c vs hk hS' hI => ?_⟩
  have keep : ∀ x o, s.heap.get? x = some o → h'.get? x = some o := fun x o e => hk x o (Nat.ne_of_lt (Heap.lt_size e)) (Heap.get?_push_of_some _ e)
  exact ⟨rfl, h _ c h' tk vs (F.keeps keep) (news_pushed F N keep hS' rfl) (fun q hq => Heap.lt_size (N q hq).1) hI⟩
end
section
variable {prog : Program} {w : World} {A : Around} {E : Value → Shared → Prop} {s : Shared} {env : Env} {h₀ : Heap} {target : Expr} {body : List Stmt} {Q : Flow → Shared → Prop}
end
section
variable {prog : Program} {w : World} {A : Around} {E : Value → Shared → Prop} {s : Shared} {env : Env} {h₀ : Heap} {x : Str} {body : List Stmt} {Q : Flow → Shared → Prop}
end
section
variable {prog : Program} {w : World} {A : Around} {E : Value → Shared → Prop} {s : Shared} {h₀ : Heap} {L a : Addr} {K : Frag} {m : Str → Option Value} {n : Nat} {x : Str} {t : Tok} {es : Array DictEntry}
theorem zkz {r : Option Value} {Q : Value → Shared → Prop} (F : Fr h₀ L s.heap m) (X₀ : K.In h₀) (hl : K.lookup a = some ⟨.type "dict", none, .dict es n, #[]⟩) (hk : KeysLit w.params es.toList) (e : nsIn K a x = some r) (lo : (a == sysModules) = false)
    (h : Q (.bool (!r.isSome)) { s with toks := s.toks + 1 }) : wpAny (model prog w) A (compareOp .NotIn (.str x t) (.ref a)) Q E s :=
  wpAny_notIn_of (strKind_is prog w x t) lo (mapOf_K (prog := prog) (X₀.keeps F.keep) hl hk) (by rw [find_K hl e]; exact h)
end
section
variable {prog : Program} {w : World} {A : Around} {E : Value → Shared → Prop} {s : Shared} {env : Env} {h₀ : Heap} {target : Expr} {body : List Stmt} {Q : Flow → Shared → Prop}
end
section
variable {prog : Program} {w : World} {A : Around} {E : Value → Shared → Prop} {s : Shared} {env : Env} {h₀ : Heap} {x : Str} {body : List Stmt} {Q : Flow → Shared → Prop}
end


section
variable {prog : Program} {w : World} {A : Around} {E : Value → Shared → Prop} {s : Shared} {h₀ : Heap} {L d : Addr} {news : List (Addr × Obj)} {l : List (Str × Tok)} {c : Nat} {n : Str} {t : Tok} {Q : Value → Shared → Prop}
end


section
variable {prog : Program} {w : World} {K : Frag} {p : Program} {loose : List Str} {mean : ExcName → Option Value} {mg mb : Str → Option Value} {k : Nat} {f : Addr} {vs : List Value} {news : List (Addr × Obj)} {R : Value → List (Addr × Obj) → Prop}
end
section
open LCg
variable {prog : Program} {w : World} {A : Around} {E : Value → Shared → Prop} {s : Shared} {h₀ : Heap} {L : Addr} {m : Str → Option Value} {env : Env}
noncomputable def zdp (C D : Addr) (news : List (Addr × Obj)) : Prop := ∀ p ∈ news, p.1 ≠ C ∧ p.1 ≠ D
noncomputable def zdw (prog : Program) (w : World) (A : Around) (h₀ : Heap) (L : Addr) (m : Str → Option Value) (env : Env) (it : Value) (elt : Expr) (x : Str) (scope : Scope) (cl : List (Str × Addr)) (C D : Addr) (J : Nat → List Value → List (Addr × Obj) → Shared → Prop) (Fin : List Value → List (Addr × Obj) → Shared → Prop) : Prop :=
  ∀ k ys news (s' : Shared) oC (E' : Value → Shared → Prop), J k ys news s' → Fr h₀ L s'.heap m → News h₀ L s'.heap ((C, oC) :: (D, lst ys) :: news) → zdp C D news →
    wpAny (model prog w) A (pyNext it) (fun r s₁ => match r with
      | none => ∃ news₁, Fr h₀ L s₁.heap m ∧ News h₀ L s₁.heap ((C, oC) :: (D, lst ys) :: news₁) ∧ zdp C D news₁ ∧ ∀ h₂, (∀ b o, b ≠ C → s₁.heap.get? b = some o → h₂.get? b = some o) → Fin ys news₁ { s₁ with heap := h₂ }
      | some v => ∃ news₁, Fr h₀ L s₁.heap m ∧ News h₀ L s₁.heap ((C, oC) :: (D, lst ys) :: news₁) ∧ zdp C D news₁ ∧ ∀ h₂ tk₂ oC₂ m₂, NsObj oC₂ m₂ → m₂ x = some v → (∀ b o, b ≠ C → s₁.heap.get? b = some o → h₂.get? b = some o) → Fr h₀ L h₂ m → News h₀ L h₂ ((C, oC₂) :: (D, lst ys) :: news₁) →
          wpAny (model prog w) A (eval elt (compEnvC scope cl C env)) (fun y s₃ => ∃ news₃ k', k' < k ∧ Fr h₀ L s₃.heap m ∧ News h₀ L s₃.heap ((C, oC₂) :: (D, lst ys) :: news₃) ∧ zdp C D news₃ ∧ ys.length < sizeLine ∧
            ∀ h₄, (∀ b o, b ≠ D → s₃.heap.get? b = some o → h₄.get? b = some o) → J k' (ys ++ [y]) news₃ { s₃ with heap := h₄ }) E' { s₁ with heap := h₂, toks := tk₂ }) E' s'
theorem block_G {elt iter : Expr} {x : Str} {px : Pos} {scope : Scope} {cl : List (Str × Addr)} {pos : Pos} {s₂ : Shared} {it : Value} {news : List (Addr × Obj)} {RR : Value → Addr → Result → Shared → Prop}
    (hcell : ∀ y ∈ scope.names, y.2 ≠ .cell) (hkind : scope.kind = .function) (hx : scope.names.lookup x = some .local) (F : Fr h₀ L s₂.heap m) (N : News h₀ L s₂.heap news)
    (hself : ∀ (s : Shared) (Q : Value → Shared → Prop) (E : Value → Shared → Prop), (∀ b o, s₂.heap.get? b = some o → s.heap.get? b = some o) → Q it s → wpAny (model prog w) A (pyIter it) Q E s)
    (hJ : ∀ C D, (∀ p ∈ news, p.1 < D) → D < C → L < D → ∃ (J : Nat → List Value → List (Addr × Obj) → Shared → Prop) (Fin : List Value → List (Addr × Obj) → Shared → Prop) (n : Nat),
      (∀ h tk, (∀ b o, s₂.heap.get? b = some o → h.get? b = some o) → J n [] news { s₂ with heap := h, toks := tk }) ∧ zdw prog w A h₀ L m env it elt x scope cl C D J Fin ∧
      ∀ ys news₁ s', Fr h₀ L s'.heap m → News h₀ L s'.heap ((D, lst ys) :: news₁) → zdp C D news₁ → Fin ys news₁ s' → ∀ m', s'.heap.Ns C m' → C ≠ L → h₀.get? C = none → C ≠ D → RR (.ref D) C (.ok .next) s') :
    wpAny (model prog w) A (newList []) (fun acc s₃ => wpAny (model prog w) A (newFunctionEnv scope env.globals cl [] env.qual none .none (some env)) (fun cenv s₄ =>
      codeAny (model prog w) A (.compStart (.ListComp elt [⟨.Name x px, iter, [], 0⟩] scope pos) 0 it acc { cenv with scope := relabel scope env }) (RR acc cenv.locals) s₄) E s₃) E s₂ := by
  refine wpAny_newObj_type (wpAny_newFunctionEnv hcell (by intro y hy; simp at hy) (fun h₁ hns₁ hsb₁ => ?_) hkind)
  dsimp only at hns₁ hsb₁ ⊢
  generalize hH2 : s₂.heap.push { cls := .type "list", dict := none, data := .seq ([] : List Value).toArray } = H2 at hns₁ hsb₁ ⊢
  have hC : H2.objs.size = s₂.heap.objs.size + 1 := by rw [← hH2, Heap.size_push]
  have hDC : s₂.heap.objs.size ≠ H2.objs.size := by rw [hC]; exact Nat.ne_of_lt (Nat.lt_succ_self _)
  have below : ∀ b, b < s₂.heap.objs.size → b ≠ H2.objs.size ∧ b ≠ s₂.heap.objs.size := fun b hb => ⟨by rw [hC]; exact Nat.ne_of_lt (Nat.lt_succ_of_lt hb), Nat.ne_of_lt hb⟩
  have old : ∀ b o, s₂.heap.get? b = some o → h₁.get? b = some o := fun b o e => hsb₁.extBut b o (below b (Heap.lt_size e)).1 (Heap.get?_push_of_some _ (hH2 ▸ Heap.get?_push_of_some _ e))
  have hacc : h₁.get? s₂.heap.objs.size = some (lst []) := hsb₁.extBut _ _ hDC (Heap.get?_push_of_some _ (hH2 ▸ Heap.get?_push_size _ rfl))
  have fresh : ∀ a, s₂.heap.objs.size ≤ a → s₂.heap.get? a = none := fun a ha => by
    cases e : s₂.heap.get? a with
    | none => rfl
    | some o' => exact absurd (Heap.lt_size e) (Nat.not_lt.mpr ha)
  have fresh₀ : ∀ a, s₂.heap.objs.size ≤ a → h₀.get? a = none := fun a ha => by
    cases e : h₀.get? a with
    | none => rfl
    | some o' => have := F.keep a o' e; rw [fresh a ha] at this; cases this
  have hD₀ : h₀.get? s₂.heap.objs.size = none := fresh₀ _ (Nat.le_refl _)
  have hC₀ : h₀.get? H2.objs.size = none := fresh₀ _ (by rw [hC]; exact Nat.le_succ _)
  have hLlt : L < s₂.heap.objs.size := F.ns.lt
  have hDL : s₂.heap.objs.size ≠ L := Ne.symm (below L hLlt).2
  have hCL : H2.objs.size ≠ L := Ne.symm (below L hLlt).1
  obtain ⟨J, Fin, n, hJ0, turn, hRR⟩ := hJ H2.objs.size s₂.heap.objs.size (fun p hp => Heap.lt_size (N p hp).1) (by rw [hC]; exact Nat.lt_succ_self _) hLlt
  have off₀ : zdp H2.objs.size s₂.heap.objs.size news := fun p hp => below _ (Heap.lt_size (N p hp).1)
  have loop : ∀ s₃ : Shared, s₃ = { s₂ with heap := h₁, toks := s₂.toks + ([] : List (Str × Value)).length } →
      codeAny (model prog w) A (.compLoop (.ListComp elt [⟨.Name x px, iter, [], 0⟩] scope pos) 0 it (.ref s₂.heap.objs.size) (compEnvC scope cl H2.objs.size env))
        (RR (.ref s₂.heap.objs.size) H2.objs.size) s₃ := by
    rintro s₃ rfl
    refine codeAny_compLoop_list
      (fun k s' => ∃ ys m' news', J k ys news' s' ∧ Fr h₀ L s'.heap m ∧ s'.heap.Ns H2.objs.size m' ∧ News h₀ L s'.heap ((s₂.heap.objs.size, lst ys) :: news') ∧ zdp H2.objs.size s₂.heap.objs.size news') ?_ n
      ⟨[], _, news, hJ0 h₁ _ old, F.keeps old, hns₁, fun p hp => ?_, off₀⟩
    · rintro k s' ⟨ys, m', news', hj, F', hn', N', off'⟩
      obtain ⟨oC, heC, hoC⟩ := ns_obj hn'
      have NC : News h₀ L s'.heap ((H2.objs.size, oC) :: (s₂.heap.objs.size, lst ys) :: news') := fun p hp => by
        rcases List.mem_cons.mp hp with rfl | hp
        · exact ⟨heC, hCL, hC₀⟩
        · exact N' p hp
      refine wpAny_mono (turn k ys news' s' oC _ hj F' NC off') (fun r s₁ hr => ?_) fun _ _ e => e
      cases r with
      | none =>
        obtain ⟨news₁, F₁, N₁, off₁, hfin⟩ := hr
        exact hRR ys news₁ s₁ F₁ (fun p hp => N₁ p (List.mem_cons_of_mem _ hp)) off₁ (hfin s₁.heap fun _ _ _ e => e) _ (hoC.ns (N₁ _ List.mem_cons_self).1) hCL hC₀ (Ne.symm hDC)
      | some v =>
        obtain ⟨news₁, F₁, N₁, off₁, hrest⟩ := hr
        refine wpAny_assign_Name (wpAny_storeName_local (lookup_relabel_local hx) (hoC.ns (N₁ _ List.mem_cons_self).1) (fun h₂ hn₂ hs₂ => ?_) (by simp [compEnvC, relabel, hkind]))
        have kp₂ : ∀ b o, b ≠ H2.objs.size → s₁.heap.get? b = some o → h₂.get? b = some o := fun b o hb e => hs₂.extBut b o hb e
        obtain ⟨oC₂, heC₂, hoC₂⟩ := ns_obj hn₂
        have F₂ : Fr h₀ L h₂ m := F₁.change hs₂ hCL hC₀
        have N₂ : News h₀ L h₂ ((H2.objs.size, oC₂) :: (s₂.heap.objs.size, lst ys) :: news₁) := fun p hp => by
          rcases List.mem_cons.mp hp with rfl | hp
          · exact ⟨heC₂, hCL, hC₀⟩
          · have z := N₁ p (List.mem_cons_of_mem _ hp)
            refine ⟨kp₂ _ _ ?_ z.1, z.2⟩
            rcases List.mem_cons.mp hp with rfl | hp
            · exact hDC
            · exact (off₁ p hp).1
        refine wpAny_mono (hrest h₂ _ oC₂ _ hoC₂ (by simp) kp₂ F₂ N₂) (fun y s₃ h₃ => ?_) fun _ _ e => e
        obtain ⟨news₃, k', hk', F₃, N₃, off₃, hsz, hj'⟩ := h₃
        have zD := (N₃ (s₂.heap.objs.size, lst ys) (List.mem_cons_of_mem _ List.mem_cons_self)).1
        refine append_at (hsz := by show ys.toArray.size ≤ sizeLine; rw [List.size_toArray]; exact Nat.le_of_lt hsz) zD fun h₄ hs₄ hD₄ => ?_
        have kp₄ : ∀ b o, b ≠ s₂.heap.objs.size → s₃.heap.get? b = some o → h₄.get? b = some o := fun b o hb e => hs₄.extBut b o hb e
        refine ⟨k', hk', ys ++ [y], _, news₃, hj' h₄ kp₄, F₃.change hs₄ hDL hD₀, (hoC₂.ns (N₃ _ List.mem_cons_self).1).sameBut hs₄ (Ne.symm hDC), fun p hp => ?_, off₃⟩
        rcases List.mem_cons.mp hp with rfl | hp
        · exact ⟨hD₄.trans (congrArg some (lst_snoc ys y)), hDL, hD₀⟩
        · have z := N₃ p (List.mem_cons_of_mem _ (List.mem_cons_of_mem _ hp))
          exact ⟨kp₄ _ _ (off₃ p hp).2 z.1, z.2⟩
    · rcases List.mem_cons.mp hp with rfl | hp
      · exact ⟨hacc, hDL, hD₀⟩
      · exact ⟨old _ _ (N p hp).1, (N p hp).2⟩
  exact codeAny_compStart_list (loop _ rfl) (hself _ _ _ old (loop _ rfl))
theorem zdv {elt iter : Expr} {x : Str} {px : Pos} {scope : Scope} {cl : List (Str × Addr)} {pos : Pos} {Q : Value → Shared → Prop} (_F₀ : Fr h₀ L s.heap m)
    (hclos : closureFor scope env = pure cl) (hcell : ∀ y ∈ scope.names, y.2 ≠ .cell) (hkind : scope.kind = .function)
    (hnames : ∀ y ∈ scope.names, y.2 = .local → scope.names.lookup y.1 = some .local) (hx : scope.names.lookup x = some .local)
    (h : wpAny (model prog w) A (eval iter env) (fun xv s₁ => wpAny (model prog w) A (pyIter xv) (fun it s₂ => ∃ news, Fr h₀ L s₂.heap m ∧ News h₀ L s₂.heap news ∧
      (∀ (s : Shared) (Q : Value → Shared → Prop) (E : Value → Shared → Prop), (∀ b o, s₂.heap.get? b = some o → s.heap.get? b = some o) → Q it s → wpAny (model prog w) A (pyIter it) Q E s) ∧
      ∀ C D, (∀ p ∈ news, p.1 < D) → D < C → L < D → ∃ (J : Nat → List Value → List (Addr × Obj) → Shared → Prop) (Fin : List Value → List (Addr × Obj) → Shared → Prop) (n : Nat),
        (∀ h tk, (∀ b o, s₂.heap.get? b = some o → h.get? b = some o) → J n [] news { s₂ with heap := h, toks := tk }) ∧ zdw prog w A h₀ L m env it elt x scope cl C D J Fin ∧
        ∀ ys news₁ s' h'', Fr h₀ L h'' m → News h₀ L h'' ((D, lst ys) :: news₁) → Fin ys news₁ s' → Q (.ref D) { s' with heap := h'' }) E s₁) E s)
    (hs : ∀ x, foldedSetIterable iter env x = pure x := by intro _; rfl) :
    wpAny (model prog w) A (eval (.ListComp elt [⟨.Name x px, iter, [], 0⟩] scope pos) env) Q E s := by
  rw [eval_ListComp]
  refine wpAny_comprehension_free (use := none) rfl hs hclos hkind hnames (wpAny_mono h (fun xv s₁ h₁ => wpAny_mono h₁ (fun it s₂ h₂ => ?_) fun _ _ e => e) fun _ _ e => e)
  obtain ⟨news, F, N, hself, hJ⟩ := h₂
  refine block_G hcell hkind hx F N hself fun C D l1 l2 l3 => ?_
  obtain ⟨J, Fin, n, hJ0, turn, hQ⟩ := hJ C D l1 l2 l3
  refine ⟨J, Fin, n, hJ0, turn, fun ys news₁ s' F' N' off' fin m' hn hCL hC₀ hCD => ⟨m', hn, fun h'' hs'' => hQ ys news₁ s' h'' (F'.change hs'' hCL hC₀) (fun p hp => ?_) fin⟩⟩
  refine ⟨hs''.extBut _ _ ?_ (N' p hp).1, (N' p hp).2⟩
  rcases List.mem_cons.mp hp with rfl | hp
  · exact Ne.symm hCD
  · exact (off' p hp).1
end
noncomputable def KpL (L' : Addr) (h h' : Heap) : Prop := ∀ b o, b ≠ L' → h.get? b = some o → h'.get? b = some o
theorem KpL.refl {L' : Addr} {h : Heap} : KpL L' h h := fun _ _ _ e => e
theorem KpL.trans {L' : Addr} {h h' h'' : Heap} (x : KpL L' h h') (y : KpL L' h' h'') : KpL L' h h'' := fun b o hb e => y b o hb (x b o hb e)
theorem KpL.of {L' : Addr} {h h' : Heap} (x : ∀ b o, h.get? b = some o → h'.get? b = some o) : KpL L' h h' := fun b o _ e => x b o e
noncomputable def GnB (h₀ : Heap) (L' : Addr) (M : (Str → Option Value) → Prop) (s₀ s : Shared) : Prop := ∃ h tk m, s = { s₀ with heap := h, toks := tk } ∧ M m ∧ Fr h₀ L' h m ∧ KpL L' s₀.heap h
noncomputable def GnC (h₀ : Heap) (L' : Addr) (M : (Str → Option Value) → Prop) (s : Shared) : Prop := ∃ m, M m ∧ Fr h₀ L' s.heap m
noncomputable def GnF (h₀ : Heap) (L' : Addr) (M : (Str → Option Value) → Prop) (s₀ : Shared) (f : Flow) (s : Shared) : Prop := f = .next ∧ GnB h₀ L' M s₀ s
noncomputable def GnT (h₀ : Heap) (L' : Addr) (M : (Str → Option Value) → Prop) (s₀ : Shared) (c : Bool) (b : Bool) (s : Shared) : Prop := b = c ∧ GnB h₀ L' M s₀ s
noncomputable def GnV (h₀ : Heap) (L' : Addr) (M : (Str → Option Value) → Prop) (s₀ : Shared) (V : Value → Prop) (v : Value) (s : Shared) : Prop := V v ∧ GnB h₀ L' M s₀ s
noncomputable def i6 (h₀ : Heap) (L' : Addr) (h : Heap) : List (Addr × Obj) := PyProof.Rows.ownOf h₀ ((List.range h.objs.size).filter fun b => decide (b ≠ L')) h
theorem i5 {h₀ h : Heap} {L' : Addr} : News h₀ L' h (i6 h₀ L' h) := news_ownOf fun hm => by simp at hm
theorem zba {h₀ h : Heap} {L' : Addr} {m : Str → Option Value} (_F : Fr h₀ L' h m) : News h₀ L' h (i6 h₀ L' h) := i5
theorem zep {h₀ h h' : Heap} {L' : Addr} {m m' : Str → Option Value} (F : Fr h₀ L' h m) (F' : Fr h₀ L' h' m') (N' : News h₀ L' h' (i6 h₀ L' h)) : KpL L' h h' := fun b o hb e => by
  cases hn : h₀.get? b with
  | some o₀ =>
    have : o₀ = o := by have q := F.keep b o₀ hn; rw [e] at q; exact (Option.some.inj q).symm
    exact this ▸ F'.keep b o₀ hn
  | none => exact (N' _ (mem_ownOf (List.mem_filter.mpr ⟨List.mem_range.mpr (Heap.lt_size e), by simpa using hb⟩) hn e)).1
noncomputable def HidF (h₀ : Heap) (L' : Addr) (h : Heap) (m : Str → Option Value) : Prop := Fr h₀ L' h m
theorem HidF.of {h₀ h : Heap} {L' : Addr} {m : Str → Option Value} (F : Fr h₀ L' h m) : HidF h₀ L' h m := F
theorem zju {h₀ h h' : Heap} {L' : Addr} {M : (Str → Option Value) → Prop} {m m' : Str → Option Value} {s₀ s : Shared} {tk : Nat} (F : HidF h₀ L' h m) (k : KpL L' s₀.heap h) (F' : Fr h₀ L' h' m') (N' : News h₀ L' h' (i6 h₀ L' h)) (hM : M m') (hs : ∃ h tk, s = { s₀ with heap := h, toks := tk }) : GnF h₀ L' M s₀ .next { s with heap := h', toks := tk } := by
  obtain ⟨g, tk', rfl⟩ := hs
  exact ⟨rfl, h', tk, m', rfl, hM, F', k.trans (zep F F' N')⟩
theorem zjt {h₀ h h' : Heap} {L' : Addr} {M : (Str → Option Value) → Prop} {m m' : Str → Option Value} {s₀ s : Shared} {tk : Nat} {c b : Bool} (F : HidF h₀ L' h m) (k : KpL L' s₀.heap h) (F' : Fr h₀ L' h' m') (N' : News h₀ L' h' (i6 h₀ L' h)) (hM : M m') (hs : ∃ h tk, s = { s₀ with heap := h, toks := tk }) (hb : b = c) : GnT h₀ L' M s₀ c b { s with heap := h', toks := tk } := by
  obtain ⟨g, tk', rfl⟩ := hs
  exact ⟨hb, h', tk, m', rfl, hM, F', k.trans (zep F F' N')⟩
theorem gnV_end {h₀ h h' : Heap} {L' : Addr} {M : (Str → Option Value) → Prop} {m m' : Str → Option Value} {s₀ s : Shared} {tk : Nat} {V : Value → Prop} {v : Value} (F : HidF h₀ L' h m) (k : KpL L' s₀.heap h) (F' : Fr h₀ L' h' m') (N' : News h₀ L' h' (i6 h₀ L' h)) (hM : M m') (hs : ∃ h tk, s = { s₀ with heap := h, toks := tk }) (hv : V v) : GnV h₀ L' M s₀ V v { s with heap := h', toks := tk } := by
  obtain ⟨g, tk', rfl⟩ := hs
  exact ⟨hv, h', tk, m', rfl, hM, F', k.trans (zep F F' N')⟩
theorem fr_kp {h₀ h h' : Heap} {L L' : Addr} {m m' : Str → Option Value} (F : Fr h₀ L h m) (FL : Fr h₀ L' h' m') (k : KpL L' h h') (hne : L ≠ L') : Fr h₀ L h' m := ⟨F.ns.at' fun o e => k L o hne e, FL.keep, F.above⟩
theorem zfq {h₀ h h' : Heap} {L L' : Addr} {news : List (Addr × Obj)} (N : News h₀ L h news) (k : KpL L' h h') (off : ∀ p ∈ news, p.1 ≠ L') : News h₀ L h' news := fun p hp => ⟨k _ _ (off p hp) (N p hp).1, (N p hp).2⟩
theorem zbb {α : Type} {a : Array α} {x y : α} : (a.push x).setIfInBounds a.size y = a.push y := by
  apply Array.ext'
  simp
theorem zfa {a : Array GenState} : GRow a (a.push .finished) := by
  refine ⟨by simp, fun i x e => ?_, fun i x hi e => ?_⟩
  · obtain ⟨h', _⟩ := Array.getElem?_eq_some_iff.mp e
    rw [Array.getElem?_push_lt h']
    rw [Array.getElem?_eq_getElem h'] at e
    exact e
  · rw [Array.getElem?_push] at e
    split at e
    · exact (Option.some.inj e).symm
    · rw [Array.getElem?_eq_none (by omega)] at e; cases e
section
open LCg
variable {prog : Program} {w : World} {A : Around} {E : Value → Shared → Prop} {s : Shared} {h₀ : Heap} {L L' G : Addr} {m m1 : Str → Option Value} {M1 m2 m3 : (Str → Option Value) → Prop} {env genv : Env}
noncomputable def CgEnd (h₀ : Heap) (L : Addr) (m : Str → Option Value) (s : Shared) (C D L' G : Addr) (oC oL oG : Obj) (Fin : Value → List (Addr × Obj) → Prop) (y : Value) (s₃ : Shared) : Prop :=
  ∃ h tk news, s₃ = { s with heap := h, toks := tk } ∧ Fr h₀ L h m ∧ News h₀ L h ((C, oC) :: (D, lst []) :: (L', oL) :: (G, oG) :: news) ∧ zdp C D news ∧ (∀ p ∈ news, p.1 ≠ L') ∧ Fin y news
theorem cut_one {K : Nat → Prop} {elt : Expr} {x : Str} {scope : Scope} {cl : List (Str × Addr)} {st1 st2 st3 : Stmt} {test e : Expr} {yp ep wp : Pos} {news : List (Addr × Obj)} {gens : Array GenState} {V : Value → Prop} {C D : Addr} {oG : Obj} {Fin : Value → List (Addr × Obj) → Prop} {mm : Nat}
    (hgens : s.gens = gens.push (.fresh (.func (zaz st1 st2 st3 test e yp ep wp) genv)))
    (hh : A.handled = none) (hl : h₀.NoLimit) (hroom : A.depth < recursionLimit) (FL : Fr h₀ L' s.heap m1) (hLL : L ≠ L') (hG : s.heap.get? G = some oG) (hGG : ∀ h' : Heap, h'.get? G = some oG → h'.IsGen G gens.size) (hGL : G ≠ L') (hG0 : h₀.get? G = none) (hGl : G ≠ L) (hL0 : h₀.get? L' = none)
    (off : ∀ p ∈ news, p.1 ≠ L') (l1 : L' < D) (l2 : G < D) (l3 : D < C)
    (hco : genv.scope.isCoroutine = false) (hi : interactive genv = false)
    (t1 : ∀ A' E' s, Fr h₀ L' s.heap m1 → wpAny (model prog w) A' (exec st1 genv) (GnF h₀ L' M1 s) E' s)
    (t2 : ∀ A' E' s₀ s, GnB h₀ L' M1 s₀ s → wpAny (model prog w) A' (exec st2 genv) (GnF h₀ L' m2 s₀) E' s)
    (tyes : ∀ A' E' s₀ s, GnB h₀ L' m2 s₀ s → wpAny (model prog w) A' (isTrue test genv (eval test genv)) (GnT h₀ L' m2 s₀ true) E' s)
    (ty : ∀ A' E' s₀ s, GnB h₀ L' m2 s₀ s → wpAny (model prog w) A' (eval e genv) (GnV h₀ L' m2 s₀ V) E' s)
    (t3 : ∀ A' E' s, GnC h₀ L' m2 s → wpAny (model prog w) A' (exec st3 genv) (GnF h₀ L' m3 s) E' s)
    (tno : ∀ A' E' s₀ s, GnB h₀ L' m3 s₀ s → wpAny (model prog w) A' (isTrue test genv (eval test genv)) (GnT h₀ L' m3 s₀ false) E' s)
    (helt : ∀ v h tk gens' oC oL m₂ (E' : Value → Shared → Prop), V v → NsObj oC m₂ → m₂ x = some v → Fr h₀ L h m → News h₀ L h ((C, oC) :: (D, lst []) :: (L', oL) :: (G, oG) :: news) → zdp C D news →
      wpAny (model prog w) A (eval elt (compEnvC scope cl C env)) (CgEnd h₀ L m { s with heap := h, gens := gens', toks := tk } C D L' G oC oL oG Fin) E' { s with heap := h, gens := gens', toks := tk }) :
    ∃ (J : Nat → List Value → List (Addr × Obj) → Shared → Prop) (FinS : List Value → List (Addr × Obj) → Shared → Prop) (n : Nat),
      (∀ h tk, (∀ b o, s.heap.get? b = some o → h.get? b = some o) → J n [] ((G, oG) :: news) { s with heap := h, toks := tk }) ∧ zdw prog w A h₀ L m env (.ref G) elt x scope cl C D J FinS ∧
      ∀ ys news₁ s', FinS ys news₁ s' → ∃ y newsF h tk, ys = [y] ∧ Fin y newsF ∧ (∀ p ∈ newsF, p ∈ news₁) ∧ s' = { s with heap := h, gens := gens.push .finished, toks := tk } := by
  have hCL : C ≠ L' := fun e => absurd l1 (e ▸ Nat.lt_asymm l3)
  have hDL : D ≠ L' := fun e => absurd l1 (e ▸ Nat.lt_irrefl _)
  have hCG : C ≠ G := fun e => absurd l2 (e ▸ Nat.lt_asymm l3)
  have hDG : D ≠ G := fun e => absurd l2 (e ▸ Nat.lt_irrefl _)
  have hg0 : s.gens[gens.size]? = some (.fresh (.func (zaz st1 st2 st3 test e yp ep wp) genv)) := by rw [hgens]; simp
  refine ⟨fun k ys nx s' => match k with
      | 1 => ys = [] ∧ nx = (G, oG) :: news ∧ ∃ h tk, s' = { s with heap := h, toks := tk } ∧ ∀ b o, s.heap.get? b = some o → h.get? b = some o
      | 0 => ∃ y newsF h tk gs', ys = [y] ∧ Fin y newsF ∧ nx = (G, oG) :: newsF ∧ (∀ p ∈ newsF, p.1 ≠ L') ∧ s' = { s with heap := h, gens := gens.push gs', toks := tk } ∧ (∃ mx, m2 mx ∧ Fr h₀ L' h mx) ∧
          ∀ s'', GnC h₀ L' m2 s'' → gs'.Goes (model prog w) A.in1 (GenE (GnB h₀ L' m3)) (GenY V (GnB h₀ L' m2) (GnC h₀ L' m2)) 0 (.send .none) s''
      | _ => False, fun ys nx s' => ∃ y newsF h tk, ys = [y] ∧ Fin y newsF ∧ (∀ p ∈ newsF, p ∈ nx) ∧ s' = { s with heap := h, gens := gens.push .finished, toks := tk }, 1, fun h tk up => ⟨rfl, rfl, h, tk, rfl, up⟩, ?_, fun _ _ _ h => h⟩
  intro k ys nx s' oC E' hJ F N offCD
  match k, hJ with
  | 1, hJ =>
    obtain ⟨rfl, rfl, h, tk, rfl, up⟩ := hJ
    have FL' : Fr h₀ L' h m1 := FL.keeps up
    refine zhl (g := gens.size) (B1 := GnB h₀ L' m2) (B2 := GnB h₀ L' m2) (B3 := GnB h₀ L' m3) (B4 := GnB h₀ L' m3) (C := GnC h₀ L' m2) (V := V) hh (hl.keeps F.keep) hroom (hGG _ (up _ _ hG)) hg0 hco hi ?_ tyes ty t3 tno ?_
    · intro A' E'
      exact wpAny_mono (t1 A' E' _ FL') (fun f s₁ hf => ⟨hf.1, wpAny_mono (t2 A' E' _ _ hf.2) (fun _ _ q => q) fun _ _ q => q⟩) fun _ _ q => q
    · rintro v s₁ gs' hv ⟨h₁, tk₁, mx, rfl, hmx, FL₁, kp₁⟩ hgo
      have kp₁' : KpL L' h h₁ := kp₁
      have F₁ : Fr h₀ L h₁ m := fr_kp F FL₁ kp₁' hLL
      have offN : ∀ p ∈ (C, oC) :: (D, lst []) :: (G, oG) :: news, p.1 ≠ L' := fun p hp => by
        rcases List.mem_cons.mp hp with rfl | hp
        · exact hCL
        · rcases List.mem_cons.mp hp with rfl | hp
          · exact hDL
          · rcases List.mem_cons.mp hp with rfl | hp
            · exact hGL
            · exact off p hp
      have N₁ : News h₀ L h₁ ((C, oC) :: (D, lst []) :: (G, oG) :: news) := zfq N kp₁' offN
      refine ⟨(G, oG) :: news, F₁, N₁, offCD, fun h₂ tk₂ oC₂ m₂ hoC₂ hx₂ kp₂ F₂ N₂ => ?_⟩
      obtain ⟨oL, heL, hoL⟩ := ns_obj FL₁.ns
      have heL₂ : h₂.get? L' = some oL := kp₂ _ _ (Ne.symm hCL) heL
      have N₂' : News h₀ L h₂ ((C, oC₂) :: (D, lst []) :: (L', oL) :: (G, oG) :: news) := fun p hp => by
        rcases List.mem_cons.mp hp with rfl | hp
        · exact N₂ _ (.head _)
        · rcases List.mem_cons.mp hp with rfl | hp
          · exact N₂ _ (.tail _ (.head _))
          · rcases List.mem_cons.mp hp with rfl | hp
            · exact ⟨heL₂, Ne.symm hLL, hL0⟩
            · exact N₂ p (.tail _ (.tail _ hp))
      have offCD' : zdp C D news := fun p hp => offCD p (.tail _ hp)
      have eg : ((({ s with heap := h, toks := tk } : Shared).setGen gens.size .running).gens).setIfInBounds gens.size gs' = gens.push gs' := by
        show ((s.gens.setIfInBounds gens.size .running).setIfInBounds gens.size gs') = _
        rw [hgens, zbb, zbb]
      have es : ({ ({ ({ s with heap := h, toks := tk } : Shared).setGen gens.size .running with heap := h₁, toks := tk₁ } : Shared).setGen gens.size gs' with heap := h₂, toks := tk₂ } : Shared) = { s with heap := h₂, gens := gens.push gs', toks := tk₂ } := by
        rw [← eg]; rfl
      refine es ▸ wpAny_mono (helt v h₂ tk₂ (gens.push gs') oC₂ oL m₂ _ hv hoC₂ hx₂ F₂ N₂' offCD') (fun y s₃ h₃ => ?_) fun _ _ q => q
      obtain ⟨h₃, tk₃, newsF, rfl, F₃, N₃, off₃, offL₃, fin₃⟩ := h₃
      refine ⟨(G, oG) :: newsF, 0, Nat.zero_lt_one, F₃, fun p hp => ?_, fun p hp => ?_, by rw [sizeLine_eq]; decide, fun h₄ kp₄ => ⟨y, newsF, h₄, tk₃, gs', rfl, fin₃, rfl, offL₃, rfl, ?_, hgo⟩⟩
      · rcases List.mem_cons.mp hp with rfl | hp
        · exact N₃ _ (.head _)
        · rcases List.mem_cons.mp hp with rfl | hp
          · exact N₃ _ (.tail _ (.head _))
          · exact N₃ p (.tail _ (.tail _ (.tail _ hp)))
      · rcases List.mem_cons.mp hp with rfl | hp
        · exact ⟨Ne.symm hCG, Ne.symm hDG⟩
        · exact off₃ p hp
      · have heL₃ := (N₃ (L', oL) (.tail _ (.tail _ (.head _)))).1
        exact ⟨mx, hmx, hoL.ns (kp₄ _ _ (Ne.symm hDL) heL₃), fun b o e => kp₄ b o (fun q => by rw [q] at e; rw [(N₃ (D, lst []) (.tail _ (.head _))).2.2] at e; cases e) (F₃.keep b o e), FL₁.above⟩
  | 0, hJ =>
    obtain ⟨y, newsF, h, tk, gs', rfl, fin, rfl, offL, rfl, FL', hgo⟩ := hJ
    refine zje (g := gens.size) (gs' := gs') (B2 := GnB h₀ L' m2) (B4 := GnB h₀ L' m3) (C := GnC h₀ L' m2) (V := V) hh (hl.keeps F.keep) hroom (hGG _ (N (G, oG) (.tail _ (.tail _ (.head _)))).1) (by show (gens.push gs')[gens.size]? = _; simp) hgo FL' (fun s₀ s₁ hb => ?_) ?_
    · obtain ⟨h₁, tk₁, mx, rfl, hmx, FL₁, _⟩ := hb
      exact ⟨mx, hmx, FL₁⟩
    · rintro s₁ ⟨h₁, tk₁, mx, rfl, hmx, FL₁, kp₁⟩ h' up'
      have kp' : KpL L' h h' := KpL.trans (show KpL L' h h₁ from kp₁) (KpL.of up')
      have F' : Fr h₀ L h' m := fr_kp F (FL₁.keeps up') kp' hLL
      refine ⟨(G, oG) :: newsF, F', zfq N kp' fun p hp => ?_, offCD, fun h₂ kp₂ => ⟨y, newsF, h₂, tk₁, rfl, fin, fun p hp => .tail _ hp, ?_⟩⟩
      · rcases List.mem_cons.mp hp with rfl | hp
        · exact hCL
        · rcases List.mem_cons.mp hp with rfl | hp
          · exact hDL
          · rcases List.mem_cons.mp hp with rfl | hp
            · exact hGL
            · exact offL p hp
      · have eg : ((({ s with heap := h, gens := gens.push gs', toks := tk } : Shared).setGen gens.size .running).gens).setIfInBounds gens.size .finished = gens.push .finished := by
          show (((gens.push gs').setIfInBounds gens.size .running).setIfInBounds gens.size .finished) = _
          rw [zbb, zbb]
        show ({ s with heap := h₂, gens := _, toks := tk₁ } : Shared) = _
        rw [← eg]; rfl
  | k + 2, hJ => exact hJ.elim
end
section
open LCg
variable {prog : Program} {w : World} {A : Around} {E : Value → Shared → Prop} {s : Shared} {h₀ : Heap} {L : Addr} {m : Str → Option Value} {news : List (Addr × Obj)} {env : Env}
theorem zgv {K : Frag} {p : Program} {loose : List Str} {mean : ExcName → Option Value} {mg mb : Str → Option Value} {name qual : Str} {params : Arguments} {body : List Stmt} {scope : Scope} {dV kV doc pm cdv ct oc : Value} {an od : Option Addr} {osl : Array (Option Value)} {f : Addr} {vs : List Value} {binds : List (Str × Value)} {Q : Value → Shared → Prop}
    (F : Fr h₀ L s.heap m) (X₀ : K.In h₀) (N : News h₀ L s.heap news) (T : Top p loose mean mg mb h₀)
    (ho : K.lookup f = some ⟨oc, od, .func (fnOf name qual params body scope dV kV doc pm an cdv ct), osl⟩) (hcd : codeIn K cdv qual = true) (hroom : A.depth < recursionLimit)
    (hbind : BindsTo s (fnOf name qual params body scope dV kV doc pm an cdv ct) ⟨vs, []⟩ binds) (hloc : ∀ y ∈ binds, scope.names.lookup y.1 = some .local)
    (hco : scope.isCoroutine = false) (hgen : scope.isGenerator = true) (hk : scope.kind = .function) (hcell : ∀ x ∈ scope.names, x.2 ≠ .cell)
    (h : ∀ (L' G : Addr) oG h₂ tk, Fr h₀ L h₂ m → News h₀ L h₂ ((G, oG) :: news) → Fr h₀ L' h₂ (fun y => binds.reverse.lookup y) → (∀ p ∈ news, p.1 < L') → L < L' → L' < G → (∀ h' : Heap, h'.get? G = some oG → h'.IsGen G s.gens.size) → h₀.get? L' = none →
      Q (.ref G) { s with heap := h₂, gens := s.gens.push (.fresh (.func body (envOf qual scope L' f cdv))), toks := tk }) :
    wpAny (model prog w) A (call (.ref f) vs) Q E s := by
  refine wpAny_call ?_
  have X := X₀.keeps F.keep
  refine codeAny_call_generator hroom (X _ _ ho) rfl hco hgen rfl (codeRec_of X hcd) (hbind _ _ _ _ ?_)
  refine wpAny_newFunctionEnv hcell hloc (fun h₁ hns hsb => ⟨(T.nolimit.keeps F.keep).fresh _ hsb, ?_⟩) hk
  have up : ∀ b o, s.heap.get? b = some o → h₁.get? b = some o := fun b o e => hsb.extBut b o (Nat.ne_of_lt (Heap.lt_size e)) (Heap.get?_push_of_some _ e)
  have lt : s.heap.objs.size < h₁.objs.size := hns.lt
  have hG0 : ∀ b, s.heap.objs.size ≤ b → h₀.get? b = none := fun b hb => by
    cases e : h₀.get? b with
    | none => rfl
    | some o => exact absurd (Heap.lt_size (F.keep b o e)) (Nat.not_lt.mpr hb)
  refine h s.heap.objs.size h₁.objs.size { cls := .type "generator", data := .fields #[.int s.gens.size 0, .str name (s.toks + binds.length), .str qual (s.toks + binds.length + 1)] } _ _ ((F.keeps up).push _) (fun p hp => ?_) ⟨hns.push _, fun b o e => Heap.get?_push_of_some _ (up b o (F.keep b o e)), Nat.le_trans F.above (Nat.le_of_lt F.ns.lt)⟩ (fun p hp => Heap.lt_size (N p hp).1) F.ns.lt lt (fun h' e => ⟨_, _, _, e, rfl, rfl, rfl⟩) (hG0 _ (Nat.le_refl _))
  rcases List.mem_cons.mp hp with rfl | hp
  · exact ⟨Heap.get?_push_size _ rfl, Nat.ne_of_gt (Nat.lt_trans F.ns.lt lt), hG0 _ (Nat.le_of_lt lt)⟩
  · have z := N p hp
    exact ⟨Heap.get?_push_of_some _ (up _ _ z.1), z.2⟩
theorem cut_src {elt : Expr} {x : Str} {scope : Scope} {cl : List (Str × Addr)} {st1 st2 st3 : Stmt} {test e : Expr} {yp ep wp : Pos} {genv : Env} {L' G : Addr} {oG : Obj} {h₂ : Heap} {tk : Nat} {m1 : Str → Option Value} {M1 m2 m3 : (Str → Option Value) → Prop} {V : Value → Prop} {Fin : Addr → Value → List (Addr × Obj) → Prop} {Q : Value → Shared → Prop}
    (F : Fr h₀ L h₂ m) (N : News h₀ L h₂ ((G, oG) :: news)) (FL : Fr h₀ L' h₂ m1) (l0 : ∀ p ∈ news, p.1 < L') (lL : L < L') (lG : L' < G) (hGG : ∀ h' : Heap, h'.get? G = some oG → h'.IsGen G s.gens.size) (hL0 : h₀.get? L' = none)
    (hh : A.handled = none) (hl : h₀.NoLimit) (hroom : A.depth < recursionLimit) (hco : genv.scope.isCoroutine = false) (hi : interactive genv = false)
    (t1 : ∀ A' E' s, Fr h₀ L' s.heap m1 → wpAny (model prog w) A' (exec st1 genv) (GnF h₀ L' M1 s) E' s)
    (t2 : ∀ A' E' s₀ s, GnB h₀ L' M1 s₀ s → wpAny (model prog w) A' (exec st2 genv) (GnF h₀ L' m2 s₀) E' s)
    (tyes : ∀ A' E' s₀ s, GnB h₀ L' m2 s₀ s → wpAny (model prog w) A' (isTrue test genv (eval test genv)) (GnT h₀ L' m2 s₀ true) E' s)
    (ty : ∀ A' E' s₀ s, GnB h₀ L' m2 s₀ s → wpAny (model prog w) A' (eval e genv) (GnV h₀ L' m2 s₀ V) E' s)
    (t3 : ∀ A' E' s, GnC h₀ L' m2 s → wpAny (model prog w) A' (exec st3 genv) (GnF h₀ L' m3 s) E' s)
    (tno : ∀ A' E' s₀ s, GnB h₀ L' m3 s₀ s → wpAny (model prog w) A' (isTrue test genv (eval test genv)) (GnT h₀ L' m3 s₀ false) E' s)
    (helt : ∀ C D v h tk gens' oC oL m₂ (E' : Value → Shared → Prop), (∀ p ∈ news, p.1 < L') → L' < G → G < D → D < C → V v → NsObj oC m₂ → m₂ x = some v → Fr h₀ L h m → News h₀ L h ((C, oC) :: (D, lst []) :: (L', oL) :: (G, oG) :: news) →
      wpAny (model prog w) A (eval elt (compEnvC scope cl C env)) (CgEnd h₀ L m { s with heap := h, gens := gens', toks := tk } C D L' G oC oL oG (Fin D)) E' { s with heap := h, gens := gens', toks := tk })
    (hdone : ∀ D y newsF h tk gens', GRow s.gens gens' → Fin D y newsF → Fr h₀ L h m → News h₀ L h ((D, lst [y]) :: newsF) → Q (.ref D) { s with heap := h, gens := gens', toks := tk }) :
    wpAny (model prog w) A (pyIter (.ref G)) (fun it s₂ => ∃ news, Fr h₀ L s₂.heap m ∧ News h₀ L s₂.heap news ∧
      (∀ (s : Shared) (Q : Value → Shared → Prop) (E : Value → Shared → Prop), (∀ b o, s₂.heap.get? b = some o → s.heap.get? b = some o) → Q it s → wpAny (model prog w) A (pyIter it) Q E s) ∧
      ∀ C D, (∀ p ∈ news, p.1 < D) → D < C → L < D → ∃ (J : Nat → List Value → List (Addr × Obj) → Shared → Prop) (Fin : List Value → List (Addr × Obj) → Shared → Prop) (n : Nat),
        (∀ h tk, (∀ b o, s₂.heap.get? b = some o → h.get? b = some o) → J n [] news { s₂ with heap := h, toks := tk }) ∧ zdw prog w A h₀ L m env it elt x scope cl C D J Fin ∧
        ∀ ys news₁ s' h'', Fr h₀ L h'' m → News h₀ L h'' ((D, lst ys) :: news₁) → Fin ys news₁ s' → Q (.ref D) { s' with heap := h'' }) E { s with heap := h₂, gens := s.gens.push (.fresh (.func (zaz st1 st2 st3 test e yp ep wp) genv)), toks := tk } := by
  have hG := N (G, oG) (.head _)
  refine wpAny_pyIter_gen (hGG _ hG.1) ⟨(G, oG) :: news, F, N, fun s' Q' E' up hq => wpAny_pyIter_gen (hGG _ (up _ _ hG.1)) hq, fun C D l1 l2 l3 => ?_⟩
  have l4 : G < D := l1 _ (.head _)
  obtain ⟨J, FinS, n, hJ0, turn, hfin⟩ := cut_one (s := { s with heap := h₂, gens := s.gens.push (.fresh (.func (zaz st1 st2 st3 test e yp ep wp) genv)), toks := tk }) (gens := s.gens) (C := C) (D := D) (Fin := Fin D) (K := fun _ => True) (mm := 0) (cl := cl) (scope := scope) (elt := elt) (x := x) (env := env) rfl hh hl hroom FL (Nat.ne_of_lt lL) hG.1 hGG (Nat.ne_of_gt lG) hG.2.2 hG.2.1 hL0 (fun p hp => Nat.ne_of_lt (l0 p hp)) (Nat.lt_trans lG l4) l4 l2 hco hi t1 t2 tyes ty t3 tno
    (fun v h tk gens' oC oL m₂ E' a b c d e' _ => helt C D v h tk gens' oC oL m₂ E' l0 lG l4 l2 a b c d e')
  refine ⟨J, FinS, n, hJ0, turn, fun ys news₁ s' h'' F'' N'' fin => ?_⟩
  obtain ⟨y, newsF, h, tk', rfl, fin', sub, rfl⟩ := hfin ys news₁ s' fin
  refine hdone D y newsF h'' tk' _ zfa fin' F'' fun p hp => ?_
  rcases List.mem_cons.mp hp with rfl | hp
  · exact N'' _ (.head _)
  · exact N'' p (.tail _ (sub p hp))
end
noncomputable def i8 (m1 m : Str → Option Value) : Prop := m = m1
noncomputable def zdm (m1 m : Str → Option Value) : Prop := ∃ t, m = fun y => if y = Str.ofString "at" then some (.int 0 t) else m1 y
noncomputable def CutM3 (m1 m : Str → Option Value) : Prop := ∃ t t', m = fun y => if y = Str.ofString "at" then some (.int 4096 t) else if y = Str.ofString "at" then some (.int 0 t') else m1 y
section
open LCg
variable {prog : Program} {w : World} {A : Around} {E : Value → Shared → Prop} {s : Shared} {h₀ : Heap} {L : Addr} {m : Str → Option Value} {news : List (Addr × Obj)} {env : Env}
end
section
open LCg LCt
variable {prog : Program} {w : World} {A : Around} {E : Value → Shared → Prop} {s : Shared} {h₀ : Heap} {L : Addr} {m : Str → Option Value} {env : Env}
end
section
variable {prog : Program} {w : World} {A : Around} {s : Shared} {env : Env} {h₀ : Heap}
end

section
variable {prog : Program} {w : World} {A : Around} {E : Value → Shared → Prop} {s : Shared} {env : Env} {h₀ : Heap} {target : Expr} {body : List Stmt} {Q : Flow → Shared → Prop}
end

section
variable {prog : Program} {w : World} {A : Around} {E : Value → Shared → Prop} {s₁ : Shared} {env : Env} {h₀ : Heap} {body : List Stmt} {Q : Flow → Shared → Prop}
end

section
variable {kvs : List (Str × Value)} {e0 e1 : Int}
end
section
variable {prog : Program} {w : World} {A : Around} {E : Value → Shared → Prop} {s : Shared} {h₀ : Heap} {L R : Addr} {m : Str → Option Value} {news : List (Addr × Obj)} {vs : List Value} {n : Nat}
end
theorem l_close {c : ClaimW} {cl : Str → Option Addr} {mean : ExcName → Option Value} {args : List WData} {s₁ : Shared} {h : Heap} {g g1 : Array GenState} {t : Nat} {b : Bool} {L : Addr} {m : Str → Option Value} {d : Drawn} {hz : Heap}
    (F : Fr hz L h m) (hz9 : hz = s₁.heap) (hg : s₁.gens = #[]) (hg1 : GRow s₁.gens g1) (hg2 : GRow g1 g) (hb : b = true) (hr : ∀ cls, c.raises args cls = false) (hp : c.post args (.bool true) args = true) :
    GoodWG c cl mean args s₁ (.ok (.ret (.bool b))) ⟨h, g, d, t, s₁.os⟩ := by
  subst hb; subst hz9
  exact ⟨.inl ⟨_, _, [], rfl, hr, ReadsW.bool true, hp, fun _ => ⟨List.nodup_nil, fun _ hm => (nomatch hm)⟩⟩, .of_keep F.keep, rfl, (hg1.trans hg2).bare (.of_eq hg)⟩
theorem rmN {n a b lim : Nat} (h : n + b < lim) (e : Nat.ble a b = true) : n + a < lim := Nat.lt_of_le_of_lt (Nat.add_le_add_left (Nat.le_of_ble_eq_true e) n) h
theorem bz {s : Shared} {fd : FuncData} {vs : List Value} {binds : List (Str × Value)} (h : BindsTo s fd ⟨vs, []⟩ binds) (e : binds = List.zip (fd.params.args.map (·.arg)) vs) : BindsTo s fd ⟨vs, []⟩ (List.zip (fd.params.args.map (·.arg)) vs) := e ▸ h
noncomputable def fixL (N size : Nat) : List Int := (List.range size).map fun k => ((N / 256 ^ k % 256 : Nat) : Int)
theorem zma {N size i : Nat} {ks : List Int} {a : Nat} {z : Int} (h : ks.drop a = fixL N size) (hi : i < size) (hz : z = (a : Int) + (0 + (i : Int))) : ks.getD z.toNat 0 = ((N / 256 ^ i % 256 : Nat) : Int) := by
  have e : z.toNat = a + i := by omega
  have h1 : (ks.drop a).getD i 0 = ks.getD (a + i) 0 := by simp [List.getD]
  rw [e, ← h1, h]
  simp [fixL, List.getD, hi]
theorem zud {N i : Nat} {a y : Int} {e : Nat} (ha : a = ((N % 256 ^ i : Nat) : Int)) (hy : y = ((N / 256 ^ i % 256 : Nat) : Int)) (he : e = 8 * i) : Builtin.bitOr a (y * 2 ^ e) = ((N % 256 ^ (i + 1) : Nat) : Int) := by
  subst ha
  subst hy
  subst he
  have e1 : (2 : Nat) ^ (8 * i) = 256 ^ i := by rw [Nat.pow_mul]
  have e2 : ((2 : Int) ^ (8 * i)) = ((256 ^ i : Nat) : Int) := by rw [Int.natCast_pow, Int.pow_mul]; rfl
  have hlt : N % 256 ^ i < 256 ^ i := Nat.mod_lt _ (Nat.pow_pos (by decide))
  have h := zli (a := ((N % 256 ^ i : Nat) : Int)) (b := ((N / 256 ^ i % 256 : Nat) : Int)) (k := 8 * i) (Int.natCast_nonneg _) (by rw [e2]; exact Int.ofNat_lt.mpr hlt) (Int.natCast_nonneg _)
  rw [h, e2]
  have h3 : N % 256 ^ (i + 1) = N % 256 ^ i + 256 ^ i * (N / 256 ^ i % 256) := by rw [Nat.pow_succ, Nat.mod_mul]
  rw [h3, Nat.mul_comm (256 ^ i)]
  rw [Int.natCast_add, Int.natCast_mul]
section
variable {prog : Program} {w : World} {A : Around} {E : Value → Shared → Prop} {s : Shared} {t u : Tok} {n : Int} {N M : Nat}
theorem fxr_for {h₀ : Heap} {env : Env} {body : List Stmt} {Q : Flow → Shared → Prop} {r : Addr} {b₀ x₀ : Int} {t₀ u₀ v₀ tv : Tok} {size : Nat} {m₀ : Str → Option Value} {news : List (Addr × Obj)} {N : Nat} (_hN : N < 256 ^ size)
    (hh : A.handled = none) (hr : IsRange s.heap r 0 b₀ 1 t₀ u₀ v₀) (hb : b₀ = (size : Int)) (hsize : size ≤ 4) (F : Fr h₀ env.locals s.heap m₀) (Nw : News h₀ env.locals s.heap news) (hv : m₀ (Str.ofString "value") = some (.int x₀ tv)) (hx : x₀ = 0)
    (turn : ∀ (v : Int) (i : Nat) (tv t : Tok) (u : Str → Option Value) h tk own, i < size → v = ((N % 256 ^ i : Nat) : Int) → (∀ p ∈ own, ∀ q ∈ news, p.1 ≠ q.1) →
      Fr h₀ env.locals h (fun y => if y = Str.ofString "k" then some (.int (0 + (i : Int)) t) else if y = Str.ofString "value" then some (.int v tv) else m₀ y) → News h₀ env.locals h (news ++ own) →
      wpAny (model prog w) A (execs body env) (InvPostG h₀ env.locals (RgJ (fun _ : Int × Tok => news) (fun c => [(Str.ofString "value", .int c.1 c.2)]) (Str.ofString "k") [] m₀ (fun i c => c.1 = ((N % 256 ^ i : Nat) : Int)) (i + 1)) own { s with heap := h, toks := tk } Q) E { s with heap := h, toks := tk })
    (done : ∀ (v : Int) (tv : Tok) (u : Str → Option Value) h tk, v = (N : Int) → Fr h₀ env.locals h (fun y => if y = Str.ofString "k" then u y else if y = Str.ofString "value" then some (.int v tv) else m₀ y) → News h₀ env.locals h news → Q .next { s with heap := h, toks := tk }) :
    wpAny (model prog w) A (pyIter (.ref r)) (fun it s₂ => LoopAtV prog w A h₀ env (Str.ofString "k") body Q E it s₂) E s := by
  subst hb
  subst hx
  have hz : Builtin.Range.rangeSize 0 (size : Int) 1 = (size : Int) := by
    have : size = 0 ∨ size = 1 ∨ size = 2 ∨ size = 3 ∨ size = 4 := by omega
    rcases this with rfl | rfl | rfl | rfl | rfl <;> decide
  have hsm : Builtin.Range.small 0 (size : Int) 1 = true := by
    have : size = 0 ∨ size = 1 ∨ size = 2 ∨ size = 3 ∨ size = 4 := by omega
    rcases this with rfl | rfl | rfl | rfl | rfl <;> decide
  refine rg_for (fun _ : Int × Tok => news) (fun c => [(Str.ofString "value", .int c.1 c.2)]) [] (fun i c => c.1 = ((N % 256 ^ i : Nat) : Int)) (0, tv) hh hr hsm hz F Nw (fun _ h => h) ?_ (by show (0 : Int) = ((N % 256 ^ 0 : Nat) : Int); rw [Nat.pow_zero, Nat.mod_one]; rfl) ?_ ?_
  · intro p hp
    rw [List.mem_singleton.mp hp]
    exact hv
  · rintro ⟨v, tv⟩ i t u h tk own hi hp hoff F₁ N₁
    exact turn v i tv t u h tk own hi hp hoff F₁ N₁
  · rintro ⟨v, tv⟩ u h tk hp F₁ N₁
    exact done v tv u h tk (by rw [show v = ((N % 256 ^ size : Nat) : Int) from hp, Nat.mod_eq_of_lt _hN]) F₁ N₁
theorem fxr_end {h₀ : Heap} {L : Addr} {N i size a e : Nat} {v z : Int} {tX : Tok} {ks : List Int} {m₀ m' : Str → Option Value} {news own : List (Addr × Obj)} {s₁ : Shared} {h' : Heap} {tk : Nat}
    (F : Fr h₀ L h' m') (Nw : News h₀ L h' (news ++ own)) (hm : m' (Str.ofString "value") = some (.int (Builtin.bitOr v (ks.getD z.toNat 0 * 2 ^ e)) tX)) (hk : ks.drop a = fixL N size) (hi : i < size) (hv : v = ((N % 256 ^ i : Nat) : Int)) (hz : z = (a : Int) + (0 + (i : Int))) (he : e = 8 * i) (ho2 : ∀ p ∈ own, ∀ q ∈ news, p.1 ≠ q.1)
    (hr : ∀ z, z ≠ Str.ofString "k" → z ≠ Str.ofString "value" → m' z = m₀ z) :
    InvEndG h₀ L (RgJ (fun _ : Int × Tok => news) (fun c => [(Str.ofString "value", .int c.1 c.2)]) (Str.ofString "k") [] m₀ (fun i c => c.1 = ((N % 256 ^ i : Nat) : Int)) (i + 1)) own s₁ { s₁ with heap := h', toks := tk } := by
  refine rg_end (c' := (Builtin.bitOr v (ks.getD z.toNat 0 * 2 ^ e), tX)) F Nw (fun p hp => List.mem_append.mpr (.inl hp)) (fun p hp => List.mem_append.mpr (.inr hp)) ho2 ?_ (fun z h1 h2 _ => hr z h1 (h2 _ (.head _))) ?_
  · intro p hp
    rw [List.mem_singleton.mp hp]
    exact hm
  · exact zud hv (zma hk hi hz) he
end
noncomputable def RfOut (n e : Int) (news : List (Addr × Obj)) (r : Value) (news' : List (Addr × Obj)) : Prop := ∃ T x y t1 t2, r = .ref T ∧ news' = (T, { cls := .type "tuple", data := .seq #[.int x t1, .int y t2] }) :: news ∧ (∀ q ∈ news, q.1 < T) ∧ x = n ∧ y = e
noncomputable def RfC (f : Addr) (prog : Program) (w : World) (K : Frag) (p : Program) (loose : List Str) (mean : ExcName → Option Value) (mg mb : Str → Option Value) : Prop :=
  ∀ (b : Array UInt8) (ks : List Int) (N size a : Nat) (x y : Int) (tb t u : Tok) (news : List (Addr × Obj)), KBw.bInts b = ks → x = (a : Int) → y = (size : Int) → size ≤ 4 → N < 256 ^ size → ks.drop a = fixL N size → a + size = ks.length → ks.length ≤ 1000000 →
    Fun prog w K p loose mean mg mb 20 f [.bytes b tb, .int x t, .int y u] news (RfOut N (a + size : Nat) news)
theorem rf_ret {h₀ h : Heap} {L T : Addr} {m : Str → Option Value} {s : Shared} {Q : Value → Shared → Prop} {n e x y : Int} {t1 t2 : Tok} {news : List (Addr × Obj)} {tk : Nat}
    (hret : ∀ r news' h' tk', RfOut n e news r news' → Fr h₀ L h' m → News h₀ L h' news' → Q r { s with heap := h', toks := tk' })
    (N : News h₀ L h ((T, { cls := .type "tuple", data := .seq #[.int x t1, .int y t2] }) :: news)) (F : Fr h₀ L h m) (l1 : ∀ q ∈ news, q.1 < T) (hx : x = n) (hy : y = e) : Q (.ref T) { s with heap := h, toks := tk } :=
  hret _ _ _ _ ⟨_, _, _, _, _, rfl, rfl, l1, hx, hy⟩ F N
end Mine
open PyProof.Rows PySem.Calls
namespace Mine
noncomputable section
noncomputable section
inductive SV where
  | none
  | bool (b : Bool)
  | int (i : Int)
  | obj (k : Nat)
  | val (v : Value)
  | bytes (l : List Int)
  | str (x : Str)
inductive SO where
  | list (l : List SV)
  | tup (l : List SV)
  | dict (l : List (Int × SV))
  | sdict (l : List (Str × SV))
  | vals (k : Nat)
  | inst (C : Addr) (d : Nat)
  | att (l : List (Str × SV))
  | cell (o : Option SV)
  | bdict (l : List (List Int × SV))
  | pdict (l : List ((Nat × Int × Int) × Int))
  | keys (k : Nat)
noncomputable def RV (ρ : List Addr) : SV → Value → Prop
  | .none, V => V = .none
  | .bool b, V => V = .bool b
  | .int i, V => ∃ t, V = .int i t
  | .obj k, V => ∃ a, ρ[k]? = some a ∧ V = .ref a
  | .val v, V => V = v
  | .bytes l, V => ∃ b t, V = .bytes b t ∧ KBw.bInts b = l
  | .str x, V => ∃ t, V = .str x t
noncomputable def RC (ρ : List Addr) : Option SV → Option Value → Prop
  | .none, V => V = .none
  | .some v, V => ∃ W, V = .some W ∧ RV ρ v W
noncomputable def Ext (ρ ρ' : List Addr) : Prop := ∀ (k : Nat) (a : Addr), ρ[k]? = some a → ρ'[k]? = some a
theorem Ext.refl {ρ : List Addr} : Ext ρ ρ := fun _ _ h => h
theorem Ext.trans {ρ ρ' ρ'' : List Addr} (h : Ext ρ ρ') (h' : Ext ρ' ρ'') : Ext ρ ρ'' := fun k a e => h' k a (h k a e)
theorem Ext.app {ρ D : List Addr} : Ext ρ (ρ ++ D) := fun k a e => by
  rw [List.getElem?_append_left (List.getElem?_eq_some_iff.mp e).1]
  exact e
theorem Ext.snoc {ρ : List Addr} {D : Addr} : Ext ρ (ρ ++ [D]) := Ext.app
theorem RV.mono {ρ ρ' : List Addr} (h : Ext ρ ρ') : ∀ {v : SV} {V : Value}, RV ρ v V → RV ρ' v V
  | .none, _, e => e
  | .bool _, _, e => e
  | .int _, _, e => e
  | .val _, _, e => e
  | .bytes _, _, e => e
  | .str _, _, e => e
  | .obj _, _, ⟨a, e, e'⟩ => ⟨a, h _ _ e, e'⟩
theorem RC.mono {ρ ρ' : List Addr} (h : Ext ρ ρ') : ∀ {v : Option SV} {V : Option Value}, RC ρ v V → RC ρ' v V
  | .none, _, e => e
  | .some _, _, ⟨W, e, r⟩ => ⟨W, e, r.mono h⟩
inductive RVs (ρ : List Addr) : List SV → List Value → Prop
  | nil : RVs ρ [] []
  | cons {v : SV} {V : Value} {l : List SV} {L : List Value} : RV ρ v V → RVs ρ l L → RVs ρ (v :: l) (V :: L)
theorem RVs.mono {ρ ρ' : List Addr} (h : Ext ρ ρ') {l : List SV} {L : List Value} (r : RVs ρ l L) : RVs ρ' l L := by
  induction r with
  | nil => exact .nil
  | cons a _ ih => exact .cons (a.mono h) ih
theorem RVs.length {ρ : List Addr} {l : List SV} {L : List Value} (r : RVs ρ l L) : L.length = l.length := by
  induction r with
  | nil => rfl
  | cons _ _ ih => rw [List.length_cons, List.length_cons, ih]
theorem RVs.append {ρ : List Addr} {l l' : List SV} {L L' : List Value} (r : RVs ρ l L) (r' : RVs ρ l' L') : RVs ρ (l ++ l') (L ++ L') := by
  induction r with
  | nil => exact r'
  | cons a _ ih => exact .cons a ih
theorem RVs.get {ρ : List Addr} {l : List SV} {L : List Value} (r : RVs ρ l L) : ∀ {i : Nat} {v : SV}, l[i]? = some v → ∃ V, L[i]? = some V ∧ RV ρ v V := by
  induction r with
  | nil => intro i v h; cases h
  | cons a _ ih =>
    intro i v h
    cases i with
    | zero => cases h; exact ⟨_, rfl, a⟩
    | succ i => exact ih h
theorem RVs.set {ρ : List Addr} {l : List SV} {L : List Value} (r : RVs ρ l L) {v : SV} {V : Value} (h : RV ρ v V) : ∀ i : Nat, RVs ρ (l.set i v) (L.set i V) := by
  induction r with
  | nil => exact fun _ => .nil
  | cons a r ih =>
    intro i
    cases i with
    | zero => exact .cons h r
    | succ i => exact .cons a (ih i)
theorem RVs.take {ρ : List Addr} {l : List SV} {L : List Value} (r : RVs ρ l L) : ∀ i : Nat, RVs ρ (l.take i) (L.take i) := by
  induction r with
  | nil => intro i; rw [List.take_nil, List.take_nil]; exact .nil
  | cons a r ih =>
    intro i
    cases i with
    | zero => exact .nil
    | succ i => exact .cons a (ih i)
theorem RVs.drop {ρ : List Addr} {l : List SV} {L : List Value} (r : RVs ρ l L) : ∀ i : Nat, RVs ρ (l.drop i) (L.drop i) := by
  induction r with
  | nil => intro i; rw [List.drop_nil, List.drop_nil]; exact .nil
  | cons a r ih =>
    intro i
    cases i with
    | zero => exact .cons a r
    | succ i => exact ih i
inductive RKs {α : Type} (ρ : List Addr) : List (α × SV) → List (α × Value) → Prop
  | nil : RKs ρ [] []
  | cons {k : α} {v : SV} {V : Value} {l : List (α × SV)} {L : List (α × Value)} : RV ρ v V → RKs ρ l L → RKs ρ ((k, v) :: l) ((k, V) :: L)
theorem RKs.mono {α : Type} {ρ ρ' : List Addr} (h : Ext ρ ρ') {l : List (α × SV)} {L : List (α × Value)} (r : RKs ρ l L) : RKs ρ' l L := by
  induction r with
  | nil => exact .nil
  | cons a _ ih => exact .cons (a.mono h) ih
inductive RAs (P : Params) (ρ : List Addr) : List (Str × SV) → List DictEntry → Prop
  | nil : RAs P ρ [] []
  | cons {x : Str} {t : Tok} {v : SV} {V : Value} {l : List (Str × SV)} {es : List DictEntry} : RV ρ v V → RAs P ρ l es → RAs P ρ ((x, v) :: l) (⟨PyData.keyHash P x, .str x t, V⟩ :: es)
theorem RAs.mono {P : Params} {ρ ρ' : List Addr} (h : Ext ρ ρ') {l : List (Str × SV)} {es : List DictEntry} (r : RAs P ρ l es) : RAs P ρ' l es := by
  induction r with
  | nil => exact .nil
  | cons a _ ih => exact .cons (a.mono h) ih
inductive RPs (ρ : List Addr) : List ((Nat × Int × Int) × Int) → List (List Int × Addr × Value) → Prop
  | nil : RPs ρ [] []
  | cons {k : Nat} {a b c : Int} {T : Addr} {t : Tok} {l : List ((Nat × Int × Int) × Int)} {xs : List (List Int × Addr × Value)} : ρ[k]? = some T → RPs ρ l xs → RPs ρ (((k, a, b), c) :: l) (([a, b], T, .int c t) :: xs)
theorem RPs.mono {ρ ρ' : List Addr} (h : Ext ρ ρ') {l : List ((Nat × Int × Int) × Int)} {xs : List (List Int × Addr × Value)} (r : RPs ρ l xs) : RPs ρ' l xs := by
  induction r with
  | nil => exact .nil
  | cons a _ ih => exact .cons (h _ _ a) ih
noncomputable def RO (prog : Program) (w : World) (ρ : List Addr) : SO → Obj → Prop
  | .list l, o => ∃ vs n, o = { cls := .type "list", data := .seq (List.toArray vs) n } ∧ RVs ρ l vs
  | .tup l, o => ∃ vs n, o = { cls := .type "tuple", data := .seq (List.toArray vs) n } ∧ RVs ρ l vs
  | .dict l, o => ∃ kvs, o.IsDictOf (PySem.intKind prog w) kvs ∧ RKs ρ l kvs
  | .sdict l, o => ∃ kvs, o.IsDictOf (PySem.strKind prog w) kvs ∧ RKs ρ l kvs
  | .vals k, o => ∃ a, ρ[k]? = some a ∧ o = { cls := .type "dict_values", data := .fields #[.ref a] }
  | .inst C k, o => ∃ a, ρ[k]? = some a ∧ o = { cls := .ref C, dict := some a, data := .plain }
  | .att l, o => ∃ es n, o = { cls := .type "dict", data := .dict (List.toArray es) n } ∧ RAs w.params ρ l es
  | .cell v, o => ∃ V, o.data = .cell V ∧ RC ρ v V
  | .bdict l, o => ∃ kvs, o.IsDictOf (bytesKind prog w) kvs ∧ RKs ρ l (kvs.map fun kv => (KBw.bInts kv.1.toArray, kv.2))
  | .pdict l, o => ∃ es ep xs, o.ExactDict ∧ o.data = .dict es ep ∧ es.toList = xs.map (entryOfKey (tupleKind (PySem.intKind prog w))) ∧ (xs.map (·.1)).Nodup ∧ RPs ρ l xs
  | .keys k, o => ∃ a, ρ[k]? = some a ∧ o = { cls := .type "dict_keys", data := .fields #[.ref a] }
theorem RO.mono {prog : Program} {w : World} {ρ ρ' : List Addr} (h : Ext ρ ρ') : ∀ {so : SO} {o : Obj}, RO prog w ρ so o → RO prog w ρ' so o
  | .list _, _, ⟨vs, n, e, r⟩ => ⟨vs, n, e, r.mono h⟩
  | .tup _, _, ⟨vs, n, e, r⟩ => ⟨vs, n, e, r.mono h⟩
  | .dict _, _, ⟨kvs, e, r⟩ => ⟨kvs, e, r.mono h⟩
  | .sdict _, _, ⟨kvs, e, r⟩ => ⟨kvs, e, r.mono h⟩
  | .vals _, _, ⟨a, e, r⟩ => ⟨a, h _ _ e, r⟩
  | .inst _ _, _, ⟨a, e, r⟩ => ⟨a, h _ _ e, r⟩
  | .att _, _, ⟨es, n, e, r⟩ => ⟨es, n, e, r.mono h⟩
  | .cell _, _, ⟨V, e, r⟩ => ⟨V, e, r.mono h⟩
  | .bdict _, _, ⟨kvs, e, r⟩ => ⟨kvs, e, r.mono h⟩
  | .pdict _, _, ⟨es, ep, xs, e1, e2, e3, e4, r⟩ => ⟨es, ep, xs, e1, e2, e3, e4, r.mono h⟩
  | .keys _, _, ⟨a, e, r⟩ => ⟨a, h _ _ e, r⟩
noncomputable def isD : SO → Bool
  | .dict _ => true
  | .sdict _ => true
  | .bdict _ => true
  | .pdict _ => true
  | _ => false
noncomputable def leqN (a : List Nat) : List Nat → Bool := List.rec (motive := fun _ => List Nat → Bool) (fun b => List.rec (motive := fun _ => Bool) true (fun _ _ _ => false) b) (fun x _ ih b => List.rec (motive := fun _ => Bool) false (fun y r _ => Bool.rec (motive := fun _ => Bool) false (ih r) (Nat.beq x y)) b) a
noncomputable def sq (a b : Str) : Bool := leqN a.cps.toList b.cps.toList
theorem zji : ∀ {a b : List Nat}, leqN a b = true ↔ a = b
  | [], [] => ⟨fun _ => rfl, fun _ => rfl⟩
  | [], _ :: _ => ⟨(nomatch ·), (nomatch ·)⟩
  | _ :: _, [] => ⟨(nomatch ·), (nomatch ·)⟩
  | a :: r, b :: r' => by
    show (Bool.rec (motive := fun _ => Bool) false (leqN r r') (Nat.beq a b) : Bool) = true ↔ _
    cases h : Nat.beq a b with
    | true => rw [zji, Nat.eq_of_beq_eq_true h]; simp
    | false =>
      refine ⟨fun q => (by cases q), fun q => ?_⟩
      rw [(List.cons.inj q).1, show Nat.beq b b = true from Nat.beq_refl b] at h
      cases h
theorem zbh {a b : Str} : sq a b = true ↔ a = b := by
  obtain ⟨⟨a⟩⟩ := a
  obtain ⟨⟨b⟩⟩ := b
  show leqN a b = true ↔ _
  rw [zji]
  simp
structure Fi where
  m : List (Str × SV)
  sc : List (Str × NameKind)
  cm : List (Str × Nat)
structure Sg where
  σ : List SO
  τ : List Nat
  γ : Nat
inductive Fl where
  | next
  | brk
  | ret (v : SV)
inductive Out where
  | v (v : SV)
  | vs (l : List SV)
  | b (b : Bool)
  | f (f : Fl × Fi)
inductive Job where
  | ev (e : Expr)
  | evs (es : List Expr)
  | test (e : Expr)
  | ex (b : List Stmt)
  | whl (t : Expr) (b : List Stmt)
  | loop (c : Option (Nat × Nat)) (t : Expr) (l : List SV) (b : List Stmt)
  | cmp (c : Option (Nat × Nat)) (x : Str) (ct : Option Expr) (elt : Expr) (l : List SV)
noncomputable def asV (x : Option (Out × Sg)) : Option (SV × Sg) := Option.rec (motive := fun _ => Option (SV × Sg)) none (fun p => Prod.rec (motive := fun _ => Option (SV × Sg)) (fun o s => Out.rec (motive := fun _ => Option (SV × Sg)) (fun v => some (v, s)) (fun _ => none) (fun _ => none) (fun _ => none) o) p) x
noncomputable def asVs (x : Option (Out × Sg)) : Option (List SV × Sg) := Option.rec (motive := fun _ => Option (List SV × Sg)) none (fun p => Prod.rec (motive := fun _ => Option (List SV × Sg)) (fun o s => Out.rec (motive := fun _ => Option (List SV × Sg)) (fun _ => none) (fun v => some (v, s)) (fun _ => none) (fun _ => none) o) p) x
noncomputable def asB (x : Option (Out × Sg)) : Option (Bool × Sg) := Option.rec (motive := fun _ => Option (Bool × Sg)) none (fun p => Prod.rec (motive := fun _ => Option (Bool × Sg)) (fun o s => Out.rec (motive := fun _ => Option (Bool × Sg)) (fun _ => none) (fun _ => none) (fun v => some (v, s)) (fun _ => none) o) p) x
noncomputable def asF (x : Option (Out × Sg)) : Option ((Fl × Fi) × Sg) := Option.rec (motive := fun _ => Option ((Fl × Fi) × Sg)) none (fun p => Prod.rec (motive := fun _ => Option ((Fl × Fi) × Sg)) (fun o s => Out.rec (motive := fun _ => Option ((Fl × Fi) × Sg)) (fun _ => none) (fun _ => none) (fun _ => none) (fun v => some (v, s)) o) p) x
noncomputable def nthS {α : Type} (l : List α) : Nat → Option α := List.rec (motive := fun _ => Nat → Option α) (fun _ => none) (fun a _ ih n => Nat.rec (motive := fun _ => Option α) (some a) (fun m _ => ih m) n) l
theorem zao {α : Type} : ∀ (l : List α) (n : Nat), nthS l n = l[n]?
  | [], _ => rfl
  | _ :: _, 0 => rfl
  | a :: r, n + 1 => by
    show nthS r n = _
    rw [zao r n]
    rfl
noncomputable def look {α : Type} (l : List (Str × α)) (x : Str) : Option α := List.rec (motive := fun _ => Option α) none (fun p _ ih => Bool.rec (motive := fun _ => Option α) ih (some p.2) (sq p.1 x)) l
noncomputable def putM : List (Str × SV) → Str → SV → List (Str × SV)
  | [], x, v => [(x, v)]
  | (k, u) :: r, x, v => match sq k x with
    | true => (k, v) :: r
    | false => (k, u) :: putM r x v
noncomputable def zda (x : Str) : Bool := !(x == ("__debug__" : Str))
noncomputable def zat (sc : List (Str × NameKind)) (x : Str) : Bool := match look sc x with
  | some .local => zda x
  | _ => false
noncomputable def zca : Value → Option SV
  | .int i _ => some (.int i)
  | .ref a => some (.val (.ref a))
  | .str x _ => some (.str x)
  | .bytes b _ => some (.bytes (KBw.bInts b))
  | _ => none
noncomputable def bltT : List (Str × Value) := [("len", .builtin "len"), ("range", .type "range"), ("bytes", .type "bytes"), ("max", .builtin "max"), ("list", .type "list"), ("sorted", .builtin "sorted"), ("str", .type "str"), ("ord", .builtin "ord"), ("min", .builtin "min")]
noncomputable def zad {α : Type} (b : Bool) (x : Option α) : Option α := match b with
  | true => x
  | false => none
noncomputable def soC : SO → Option SV
  | .cell o => o
  | _ => none
noncomputable def cellS (f : Fi) (g : Sg) (x : Str) : Option SV := (look f.cm x).bind fun k => (g.σ[k]?).bind soC
noncomputable def globS (K : Frag) (x : Str) : Option SV := match nsIn K mainGlobals x with
  | some (some v) => zca v
  | some none => (look bltT x).map .val
  | none => none
noncomputable def zez (K : Frag) (f : Fi) (g : Sg) (x : Str) : Option SV := match look f.m x with
  | some v => some v
  | none => match zda x with
    | false => none
    | true => match look f.sc x with
      | some .cell => cellS f g x
      | some .free => zad (!(x == ("__classdict__" : Str))) (cellS f g x)
      | some .globalImplicit => globS K x
      | _ => none
noncomputable def mkO (so : SO) (g : Sg) : SV × Sg := Sg.rec (motive := fun _ => SV × Sg) (fun σ τ γ => (.obj σ.length, ⟨σ ++ [so], τ ++ [0], γ⟩)) g
noncomputable def incr : List Nat → Nat → List Nat
  | [], _ => []
  | t :: r, 0 => (t + 1) :: r
  | t :: r, k + 1 => t :: incr r k
noncomputable def setO (g : Sg) (k : Nat) (so : SO) : Sg := Sg.rec (motive := fun _ => Sg) (fun σ τ γ => ⟨σ.set k so, incr τ k, γ⟩) g
noncomputable def natS : Int → Option Nat
  | .ofNat n => some n
  | .negSucc _ => none
noncomputable def small (n : Nat) : Bool := Nat.ble n 100000
noncomputable def vI : SV → Option Int
  | .int i => some i
  | _ => none
noncomputable def vB : SV → Option (List Int)
  | .bytes l => some l
  | _ => none
noncomputable def vS : SV → Option Str
  | .str x => some x
  | _ => none
noncomputable def vV : SV → Option Value
  | .val v => some v
  | _ => none
noncomputable def oO (σ : List SO) : SV → Option (Nat × SO)
  | .obj k => (nthS σ k).map fun so => (k, so)
  | _ => none
noncomputable def soL : SO → Option (List SV)
  | .list l => some l
  | _ => none
noncomputable def soT : SO → Option (List SV)
  | .tup l => some l
  | _ => none
noncomputable def soD : SO → Option (List (Int × SV))
  | .dict l => some l
  | _ => none
noncomputable def soI : SO → Option (Addr × Nat)
  | .inst C d => some (C, d)
  | _ => none
noncomputable def soA : SO → Option (List (Str × SV))
  | .att l => some l
  | _ => none
noncomputable def soS : SO → Option (List (Str × SV))
  | .sdict l => some l
  | .dict l => match l with
    | [] => some []
    | _ :: _ => none
  | _ => none
noncomputable def soB : SO → Option (List (List Int × SV))
  | .bdict l => some l
  | .dict l => match l with
    | [] => some []
    | _ :: _ => none
  | _ => none
noncomputable def soP : SO → Option (List ((Nat × Int × Int) × Int))
  | .pdict l => some l
  | .dict l => match l with
    | [] => some []
    | _ :: _ => none
  | _ => none
noncomputable def soK : SO → Option Nat
  | .keys k => some k
  | _ => none
noncomputable def leqI : List Int → List Int → Bool
  | [], b => b.isEmpty
  | x :: r, b => match b with
    | [] => false
    | y :: s => match decide (x = y) with
      | true => leqI r s
      | false => false
noncomputable def pq (a b : Nat × Int × Int) : Bool := decide (a.2.1 = b.2.1) && decide (a.2.2 = b.2.2)
noncomputable def one {α : Type} : List α → Option α
  | [] => none
  | x :: r => match r with
    | [] => some x
    | _ :: _ => none
noncomputable def two {α : Type} : List α → Option (α × α)
  | [] => none
  | x :: r => (one r).map fun y => (x, y)
noncomputable def zit {α : Type} : List α → Option (α × α × α)
  | [] => none
  | x :: r => (two r).map fun y => (x, y)
noncomputable def zaf {α β γ : Type} (x : Option (α × β)) (f : α → β → Option γ) : Option γ := match x with
  | some (a, b) => f a b
  | none => none
noncomputable def oL (σ : List SO) (v : SV) : Option (Nat × List SV) := (oO σ v).bind fun p => (soL p.2).map fun l => (p.1, l)
noncomputable def oT (σ : List SO) (v : SV) : Option (Nat × List SV) := (oO σ v).bind fun p => (soT p.2).map fun l => (p.1, l)
noncomputable def oD (σ : List SO) (v : SV) : Option (Nat × List (Int × SV)) := (oO σ v).bind fun p => (soD p.2).map fun l => (p.1, l)
noncomputable def oI (σ : List SO) (v : SV) : Option (Nat × Addr × Nat × List (Str × SV)) := zaf (oO σ v) fun k o => zaf (soI o) fun C d => (nthS σ d).bind fun so => (soA so).map fun l => (k, C, d, l)
noncomputable def oP (σ : List SO) (v : SV) : Option (Int × Int) := zaf (oT σ v) fun _ l => zaf (two l) fun a b => (vI a).bind fun x => (vI b).map fun y => (x, y)
noncomputable def mapS {α β : Type} (f : α → Option β) : List α → Option (List β)
  | [] => some []
  | v :: r => (f v).bind fun k => (mapS f r).map fun ks => k :: ks
noncomputable def gO (K : Frag) : SV → Option Obj
  | .val v => match v with
    | .ref a => K.lookup a
    | _ => none
  | _ => none
noncomputable def isTy (T : String) : Value → Bool
  | .type S => decide (S = T)
  | _ => false
noncomputable def seqD : Data → Option (Array Value)
  | .seq l _ => some l
  | _ => none
noncomputable def zlx (o : Obj) : Option (List Value) := zad (isTy "list" o.cls) ((seqD o.data).map Array.toList)
noncomputable def gL (K : Frag) (v : SV) : Option (List Value) := (gO K v).bind zlx
noncomputable def addS (a b : SV) (g : Sg) : Option (SV × Sg) := match a with
  | .int x => (vI b).map fun y => (.int (x + y), g)
  | .bytes l => (vB b).bind fun l' => zad (small (l.length + l'.length)) (some (.bytes (l ++ l'), g))
  | .str x => (vS b).bind fun y => zad (small (x.length + y.length)) (some (.str (x ++ y), g))
  | a => zaf (oL g.σ a) fun _ l => zaf (oL g.σ b) fun _ l' => zad (small (l.length + l'.length)) (some (mkO (.list (l ++ l')) g))
noncomputable def mulL (a b : SV) (g : Sg) : Option (SV × Sg) := zaf (oL g.σ a) fun _ l => (vI b).bind fun n => (natS n).bind fun n => (one l).bind fun x => zad (small n) (some (mkO (.list (List.replicate n x)) g))
noncomputable def mulS (a b : SV) (g : Sg) : Option (SV × Sg) := match a with
  | .int x => (vI b).bind fun y => zad (decide (x.natAbs < 2 ^ 40)) (some (.int (x * y), g))
  | a => mulL a b g
noncomputable def binI (op : Operator) (x y : Int) : Option Int := match op with
  | .Sub => some (x - y)
  | .LShift => zad (decide (0 ≤ y ∧ y ≤ 1000 ∧ x.natAbs < 2 ^ 64)) (some (x * 2 ^ y.toNat))
  | .RShift => zad (decide (0 ≤ y)) (some (x.fdiv (2 ^ y.toNat)))
  | .BitAnd => some (Builtin.bitAnd x y)
  | .BitOr => some (Builtin.bitOr x y)
  | .BitXor => some (Builtin.bitXor x y)
  | .FloorDiv => zad (decide (0 < y ∧ y < 2 ^ 60)) (some (x.fdiv y))
  | .Mod => zad (decide (0 < y)) (some (x.fmod y))
  | _ => none
noncomputable def binS (op : Operator) (a b : SV) (g : Sg) : Option (SV × Sg) := match op with
  | .Add => addS a b g
  | .Mult => mulS a b g
  | op => (vI a).bind fun x => (vI b).bind fun y => (binI op x y).map fun z => (.int z, g)
noncomputable def cmpI (op : CmpOp) (x y : Int) : Option Bool := match op with
  | .Eq => some (x == y)
  | .NotEq => some (x != y)
  | .Lt => some (decide (x < y))
  | .LtE => some (decide (x ≤ y))
  | .Gt => some (decide (y < x))
  | .GtE => some (decide (y ≤ x))
  | _ => none
noncomputable def isN0 : SV → Bool
  | .none => true
  | _ => false
noncomputable def isNn : SV → Bool
  | .none => true
  | .val v => match v with
    | .none => true
    | _ => false
  | _ => false
noncomputable def zaw {α β : Type} (q : α → α → Bool) : List (α × β) → α → Option β
  | [], _ => none
  | p :: r, x => match q p.1 x with
    | true => some p.2
    | false => zaw q r x
noncomputable def iq (a b : Int) : Bool := decide (a = b)
noncomputable def anyQ (x : Str) : List Str → Bool
  | [] => false
  | y :: r => match sq y x with
    | true => true
    | false => anyQ x r
noncomputable def memA (a : Addr) : List Addr → Bool
  | [] => false
  | b :: r => match Nat.beq b a with
    | true => true
    | false => memA a r
noncomputable def vR : Value → Option Addr
  | .ref a => some a
  | _ => none
noncomputable def gIn (K : Frag) (gd : List Addr) (v : Value) (x : Str) : Option (Option Value) := (vR v).bind fun a => zad (memA a gd) (nsIn K a x)
noncomputable def inO (x : Str) : SO → Option Bool
  | .list l => zad (small l.length) ((mapS vS l).map (anyQ x))
  | o => (soS o).map fun l => (zaw sq l x).isSome
noncomputable def inS (K : Frag) (gd : List Addr) (σ : List SO) (x : Str) (b : SV) : Option Bool := match b with
  | .val v => match gL K (.val v) with
    | some l => ((mapS zca l).bind (mapS vS)).map (anyQ x)
    | none => (gIn K gd v x).map Option.isSome
  | b => zaf (oO σ b) fun _ o => inO x o
noncomputable def anyI (n : Int) : List Int → Bool
  | [] => false
  | y :: r => match decide (y = n) with
    | true => true
    | false => anyI n r
noncomputable def inA (K : Frag) (gd : List Addr) (a b : SV) (σ : List SO) : Option Bool := match a with
  | .str x => inS K gd σ x b
  | .bytes x => zaf (oO σ b) fun _ o => (soB o).map fun l => (zaw leqI l x).isSome
  | .int n => zaf (oT σ b) fun _ l => (mapS vI l).map (anyI n)
  | _ => none
noncomputable def cmpP (op : CmpOp) (p q : Int × Int) : Option Bool := match op with
  | .Lt => some (decide (p.1 < q.1 ∨ (p.1 = q.1 ∧ p.2 < q.2)))
  | .Eq => some (decide (p.1 = q.1 ∧ p.2 = q.2))
  | _ => none
noncomputable def cmpIB (op : CmpOp) (x : Int) (b : SV) : Option Bool := match b with
  | .bool y => zad (decide (op = .Eq)) (some (x == (if y then 1 else 0)))
  | b => (vI b).bind fun y => cmpI op x y
noncomputable def cmpB (op : CmpOp) (x y : Bool) : Option Bool := match op with
  | .Eq => some (x == y)
  | .NotEq => some (x != y)
  | _ => none
noncomputable def cmpY (op : CmpOp) (x y : List Int) : Option Bool := match op with
  | .Eq => some (leqI x y)
  | .NotEq => some (!leqI x y)
  | _ => none
noncomputable def vBo : SV → Option Bool
  | .bool b => some b
  | _ => none
noncomputable def cmpV (op : CmpOp) (a b : SV) (σ : List SO) : Option Bool := match a with
  | .int x => cmpIB op x b
  | .bool x => (vBo b).bind fun y => cmpB op x y
  | .bytes x => (vB b).bind fun y => cmpY op x y
  | .str x => (vS b).bind fun y => match op with
    | .Eq => some (sq x y)
    | .NotEq => some (!sq x y)
    | _ => none
  | a => (oP σ a).bind fun p => (oP σ b).bind fun q => cmpP op p q
noncomputable def cmpS (K : Frag) (gd : List Addr) (op : CmpOp) (a b : SV) (σ : List SO) : Option Bool := match op with
  | .Is => zad (isN0 b) (some (isNn a))
  | .IsNot => zad (isN0 b) (some (!isNn a))
  | .In => inA K gd a b σ
  | .NotIn => (inA K gd a b σ).map (!·)
  | op => cmpV op a b σ
noncomputable def itemO (n : Int) : SO → Option SV
  | .list l => (natS n).bind fun j => zad (small j) (nthS l j)
  | .tup l => (natS n).bind fun j => zad (small j && small l.length) (nthS l j)
  | .dict l => zaw iq l n
  | _ => none
noncomputable def zsk (σ : List SO) (k : Nat) (a b : Int) : Bool := match oP σ (.obj k) with
  | some q => decide (q.1 = a) && decide (q.2 = b)
  | none => false
noncomputable def keysOk (σ : List SO) (l : List ((Nat × Int × Int) × Int)) : Bool := l.all fun p => zsk σ p.1.1 p.1.2.1 p.1.2.2
noncomputable def zjo (K : Frag) (gd : List Addr) (a b : SV) (σ : List SO) : Option SV := match b with
  | .int n => match a with
    | .bytes l => (natS n).bind fun j => zad (small l.length) ((nthS l j).map .int)
    | .val v => (gL K (.val v)).bind fun l => (natS n).bind fun j => zad (small j) ((nthS l j).bind zca)
    | a => zaf (oO σ a) fun _ o => itemO n o
  | .str x => match a with
    | .val v => (gIn K gd v x).bind fun r => r.bind zca
    | a => zaf (oO σ a) fun _ o => (soS o).bind fun l => zaw sq l x
  | .bytes x => zaf (oO σ a) fun _ o => (soB o).bind fun l => zaw leqI l x
  | .obj j => zaf (oO σ a) fun _ o => (soP o).bind fun l => zad (keysOk σ l) ((oP σ (.obj j)).bind fun q => (zaw pq l (j, q.1, q.2)).map .int)
  | _ => none
noncomputable def anyK {α : Type} (q : α → α → Bool) : List (α × SV) → α → Bool
  | [], _ => false
  | p :: r, x => match q p.1 x with
    | true => true
    | false => anyK q r x
noncomputable def mapK {α : Type} (q : α → α → Bool) : List (α × SV) → α → SV → List (α × SV)
  | [], _, _ => []
  | p :: r, x, v => match q p.1 x with
    | true => (p.1, v) :: mapK q r x v
    | false => p :: mapK q r x v
noncomputable def ziv {α : Type} (q : α → α → Bool) (l : List (α × SV)) (x : α) (v : SV) : List (α × SV) := match anyK q l x with
  | true => mapK q l x v
  | false => l ++ [(x, v)]
noncomputable def mapP : List ((Nat × Int × Int) × Int) → Nat × Int × Int → Int → List ((Nat × Int × Int) × Int)
  | [], _, _ => []
  | p :: r, x, c => match pq p.1 x with
    | true => (p.1, c) :: mapP r x c
    | false => p :: mapP r x c
noncomputable def ztx (l : List ((Nat × Int × Int) × Int)) (x : Nat × Int × Int) (c : Int) : List ((Nat × Int × Int) × Int) := match (zaw pq l x).isSome with
  | true => mapP l x c
  | false => l ++ [(x, c)]
noncomputable def storO (n : Int) (v : SV) : SO → Option SO
  | .list l => (natS n).bind fun j => zad (small l.length && Nat.blt j l.length) (some (.list (l.set j v)))
  | .dict l => zad (small l.length) (some (.dict (ziv iq l n v)))
  | _ => none
noncomputable def zhh (a b v : SV) (g : Sg) : Option Sg := zaf (oO g.σ a) fun k o => match b with
  | .int n => (storO n v o).map fun so => setO g k so
  | .str x => (soS o).bind fun l => zad (small l.length) (some (setO g k (.sdict (ziv sq l x v))))
  | .bytes x => (soB o).bind fun l => zad (small l.length) (some (setO g k (.bdict (ziv leqI l x v))))
  | .obj j => (soP o).bind fun l => zad (small l.length && keysOk g.σ l) ((oP g.σ (.obj j)).bind fun q => (vI v).map fun c => setO g k (.pdict (ztx l (j, q.1, q.2) c)))
  | _ => none
noncomputable def cutI {α : Type} (l : List α) (lo hi : Option Int) : List α := (l.drop (lo.elim 0 (clipAt l.length))).take (hi.elim l.length (clipAt l.length) - lo.elim 0 (clipAt l.length))
noncomputable def zsg (lo hi : Option Int) (g : Sg) : SO → Option (SV × Sg)
  | .list l => zad (small l.length) (some (mkO (.list (cutI l lo hi)) g))
  | .tup l => zad (decide (lo = none) && decide (hi = some 2)) ((zit l).map fun q => mkO (.tup [q.1, q.2.1]) g)
  | _ => none
noncomputable def zsf (v : SV) (lo hi : Option Int) (g : Sg) : Option (SV × Sg) := match v with
  | .bytes l => zad (small l.length) (some (.bytes (cutI l lo hi), g))
  | .str x => zad (small x.length && hi.isNone) (lo.map fun lo => (.str (Txt.slice x (some lo) none), g))
  | v => zaf (oO g.σ v) fun _ o => zsg lo hi g o
noncomputable def runK {α : Type} (N : Nat) (lt : Nat → Nat → Bool) : KasT α → Option α
  | .ret a => some a
  | .ask i j k => zad (Nat.blt i N && Nat.blt j N && !Nat.beq i j) (runK N lt (k (lt i j)))
noncomputable def keyS (σ : List SO) (v : SV) : Option (Int × Int) := zaf (oT σ v) fun _ l => zaf (two (l.take 2)) fun a b => (vI a).bind fun x => (vI b).map fun y => (x, y)
noncomputable def zsj (p q : Int × Int) : Bool := decide (p.1 < q.1 ∨ (p.1 = q.1 ∧ p.2 < q.2))
noncomputable def zjd (k : Int × Int) : List (Int × Int) → Bool
  | [] => true
  | q :: r => !decide (k.1 = q.1 ∧ k.2 = q.2) && zjd k r
noncomputable def zgp : List (Int × Int) → Bool
  | [] => true
  | k :: r => zjd k r && zgp r
noncomputable def u0 (σ : List SO) (l : List SV) : Option (List SV) := (mapS (keyS σ) l).bind fun ks => zad (zgp ks && Nat.blt l.length 64) (match Nat.blt l.length 2 with
  | true => some l
  | false => (runK l.length (fun i j => zsj (ks.getD i (0, 0)) (ks.getD j (0, 0))) (kas_sort l.length)).map fun p => p.toList.map fun i => l.getD i .none)
noncomputable def maxI : List Int → Option Int
  | [] => none
  | x :: r => match maxI r with
    | some y => some (if x < y then y else x)
    | none => some x
abbrev Orc := Addr → List SV → Sg → Option (SV × Sg)
noncomputable def byteS (v : SV) : Option Int := (vI v).bind fun x => zad (decide (0 ≤ x ∧ x < 256)) (some x)
noncomputable def f6 (l : List (Int × SV)) : Option (List Int) := mapS (fun p : Int × SV => vI p.2) l
noncomputable def soV : SO → Option Nat
  | .vals d => some d
  | _ => none
noncomputable def lenO : SO → Option Nat
  | .list l => some l.length
  | .dict l => some l.length
  | .sdict l => some l.length
  | _ => none
noncomputable def lenS (σ : List SO) (v : SV) : Option Nat := match v with
  | .bytes l => some l.length
  | .str x => some x.length
  | v => zaf (oO σ v) fun _ o => lenO o
noncomputable def maxS (σ : List SO) (v : SV) : Option Int := zaf (oO σ v) fun _ so => (soV so).bind fun d => (σ[d]?).bind fun so' => (soD so').bind fun l => (f6 l).bind maxI
noncomputable def ordS (v : SV) : Option Int := (vS v).bind fun x => (one x.cps.toList).map fun (n : Nat) => (n : Int)
noncomputable def isFnV (K : Frag) : Value → Option Addr
  | .ref f => zad (isFn K (.ref f)) (some f)
  | _ => none
set_option genCtorIdx true in
inductive BId
  | len
  | max
  | sorted
  | ord
  | min
noncomputable def bid (id : String) : Option BId := match decide (id = "len") with
  | true => some .len
  | false => match decide (id = "max") with
    | true => some .max
    | false => match decide (id = "sorted") with
      | true => some .sorted
      | false => match decide (id = "ord") with
        | true => some .ord
        | false => match decide (id = "min") with
          | true => some .min
          | false => none
noncomputable def zfj (i : BId) (v : SV) (g : Sg) : Option (SV × Sg) := match i with
  | .len => (lenS g.σ v).bind fun n => zad (small n) (some (.int n, g))
  | .max => (maxS g.σ v).map fun x => (.int x, g)
  | .sorted => zaf (oO g.σ v) fun _ o => (soP o).bind fun l => zad (keysOk g.σ l) ((u0 (mkO (.list (l.map fun p => .obj p.1.1)) g).2.σ (l.map fun p => .obj p.1.1)).map fun r => (.obj g.σ.length, setO (mkO (.list (l.map fun p => .obj p.1.1)) g).2 g.σ.length (.list r)))
  | .ord => (ordS v).map fun x => (.int x, g)
  | .min => none
noncomputable def minS (vs : List SV) (g : Sg) : Option (SV × Sg) := zaf (two vs) fun a b => (vI a).bind fun x => (vI b).map fun y => (.int (if y < x then y else x), g)
noncomputable def lenI (K : Frag) (orc : Orc) (v : SV) (g : Sg) : Option (SV × Sg) := (oI g.σ v).bind fun q => match findIn K (.ref q.2.1) "__len__" with
  | some (some m) => (isFnV K m).bind fun f => zaf (orc f [v] g) fun r g' => (vI r).bind fun n => zad (decide (0 ≤ n ∧ n ≤ 100000)) (some (.int n, g'))
  | _ => none
noncomputable def zhw (T : String) (v : SV) (g : Sg) : Option (SV × Sg) := match decide (T = "bytes") with
  | true => zaf (oL g.σ v) fun _ l => zad (small l.length) ((mapS byteS l).map fun b => (SV.bytes b, g))
  | false => match decide (T = "list") with
    | true => match vB v with
      | some l => zad (small l.length) (some (mkO (.list (l.map .int)) g))
      | none => zaf (oO g.σ v) fun _ o => (soK o).bind fun d => (nthS g.σ d).bind fun so => (soS so).bind fun l => zad (small l.length) (some (mkO (.list (l.map fun p => .str p.1)) g))
    | false => match decide (T = "str") with
      | true => (vI v).bind fun n => zad (decide (0 ≤ n ∧ n < 1000000)) (some (.str (Str.ofString (toString n)), g))
      | false => none
noncomputable def madeS (g : Sg) (v : SV) (g' : Sg) : Option (SV × Sg) := match v with
  | .none => some (.obj (g.σ.length + 1), g')
  | _ => none
noncomputable def newS (K : Frag) (orc : Orc) (f : Addr) (vs : List SV) (g : Sg) : Option (SV × Sg) := match findIn K (.ref f) "__init__" with
  | some (some (.ref fI)) => zad (isFn K (.ref fI)) (zaf (orc fI (.obj (g.σ.length + 1) :: vs) ⟨g.σ ++ [.att []] ++ [.inst f g.σ.length], g.τ ++ [0] ++ [0], g.γ⟩) (madeS g))
  | _ => none
noncomputable def callN (K : Frag) (orc : Orc) (i : BId) (v : SV) (g : Sg) : Option (SV × Sg) := match i with
  | .len => match oI g.σ v with
    | some _ => lenI K orc v g
    | none => match gL K v with
      | some l => zad (small l.length) (some (.int l.length, g))
      | none => zfj .len v g
  | i => zfj i v g
noncomputable def zbp (K : Frag) (orc : Orc) (f : Value) (vs : List SV) (g : Sg) : Option (SV × Sg) := match f with
  | .builtin id => (bid id).bind fun i => match i with
    | .min => minS vs g
    | i => (one vs).bind fun v => callN K orc i v g
  | .type T => (one vs).bind fun v => zhw T v g
  | .ref f => match makesIn K f with
    | true => newS K orc f vs g
    | false => orc f vs g
  | _ => none
noncomputable def handS : SV → Bool
  | .val v => handedIn v
  | _ => true
noncomputable def zmr {α β γ δ ε : Type} (x : Option (α × β × γ × δ)) (f : α → β → γ → δ → Option ε) : Option ε := match x with
  | some (a, b, c, d) => f a b c d
  | none => none
noncomputable def attOk (K : Frag) (C : Addr) (x : Str) : Bool := match findIn K (.ref C) x with
  | some A => plainGet K C x && hasDictIn K C && noGet K A
  | none => false
noncomputable def setOk (K : Frag) (C : Addr) (x : Str) : Bool := (findIn K (.ref C) "__setattr__" == some (some (.builtin "object.__setattr__"))) && plainOver K C && (takerIn K C x == some none) && hasDictIn K C
noncomputable def metF (K : Frag) (C : Addr) (x : Str) : Option Addr := (findIn K (.ref C) x).bind fun A => A.bind fun A => (vR A).bind fun f => zad (plainGet K C x && isFn K (.ref f) && keepIn K (.ref f) && !makesIn K f) (some f)
noncomputable def attS (K : Frag) (x : Str) (v : SV) (g : Sg) : Option SV := zmr (oI g.σ v) fun _ C _ l => zad (attOk K C x) ((look l x).bind fun v => zad (handS v) (some v))
noncomputable def setA (K : Frag) (x : Str) (u : SV) (v : SV) (g : Sg) : Option Sg := zmr (oI g.σ u) fun _ C d l => zad (setOk K C x && Nat.ble l.length 900) (some (setO g d (.att (putM l x v))))
noncomputable def zjp (K : Frag) (x : Str) (v : SV) (g : Sg) : Option Addr := zmr (oI g.σ v) fun _ C _ l => (metF K C x).bind fun f => zad (look l x).isNone (some f)
set_option genCtorIdx true in
inductive MId
  | app
  | pop
  | ins
  | sort
  | ext
  | vals
  | join
  | starts
  | split
  | keys
  | get
  | enc
  | dec
noncomputable def MId.id : MId → String
  | .app => "list.append"
  | .pop => "list.pop"
  | .ins => "list.insert"
  | .sort => "list.sort"
  | .ext => "list.extend"
  | .vals => "dict.values"
  | .join => "bytes.join"
  | .starts => "str.startswith"
  | .split => "str.split"
  | .keys => "dict.keys"
  | .get => "dict.get"
  | .enc => "str.encode"
  | .dec => "bytes.decode"
noncomputable def listT : List (Str × MId) := [("append", .app), ("extend", .ext), ("pop", .pop), ("insert", .ins), ("sort", .sort)]
noncomputable def strT : List (Str × MId) := [("startswith", .starts), ("split", .split), ("encode", .enc)]
noncomputable def methO (x : Str) : SO → Option MId
  | .list _ => look listT x
  | .dict l => match sq x "get" with
    | true => zad l.isEmpty (some .get)
    | false => zad (sq x "values" && (f6 l).isSome) (some .vals)
  | .sdict _ => zad (sq x "keys") (some .keys)
  | .pdict _ => zad (sq x "get") (some .get)
  | _ => none
noncomputable def zjf (σ : List SO) (v : SV) (x : Str) : Option MId := match v with
  | .bytes l => match sq x "decode" with
    | true => some .dec
    | false => zad (l.isEmpty && sq x "join") (some .join)
  | .str _ => look strT x
  | v => zaf (oO σ v) fun _ o => methO x o
noncomputable def joinS (σ : List SO) (v : SV) : Option (List Int) := zaf (oL σ v) fun _ l => (mapS vB l).map fun c => c.flatten
noncomputable def popS (k : Nat) (g : Sg) : List SV → Option (SV × Sg)
  | [] => none
  | y :: r => some (y, setO g k (.list r))
noncomputable def encT : List (Str × List Int) := [(Str.ofString "one", [111, 110, 101]), (Str.ofString "-", [45])]
noncomputable def decS (l : List Int) : List (Str × List Int) → Option Str
  | [] => none
  | p :: r => match leqI p.2 l with
    | true => some p.1
    | false => decS l r
noncomputable def methS (i : MId) (v : SV) (vs : List SV) (g : Sg) : Option (SV × Sg) := match i with
  | .app => zaf (oL g.σ v) fun k l => (one vs).bind fun x => zad (small l.length) (some (.none, setO g k (.list (l ++ [x]))))
  | .ext => zaf (oL g.σ v) fun k l => (one vs).bind fun x => zaf (oL g.σ x) fun _ l' => zad (small (l.length + l'.length)) (some (.none, setO g k (.list (l ++ l'))))
  | .pop => zaf (oL g.σ v) fun k l => (one vs).bind fun x => (vI x).bind fun i => zad (decide (i = 0) && small l.length) (popS k g l)
  | .ins => zaf (oL g.σ v) fun k l => zaf (two vs) fun x y => (vI x).bind fun i => zad (decide (0 ≤ i ∧ i ≤ (l.length : Int)) && small l.length) (some (.none, setO g k (.list (l.take i.toNat ++ y :: l.drop i.toNat))))
  | .sort => zaf (oL g.σ v) fun k l => zad vs.isEmpty ((u0 g.σ l).map fun l' => (.none, setO g k (.list l')))
  | .vals => zaf (oD g.σ v) fun k l => zad (vs.isEmpty && (f6 l).isSome) (some (mkO (.vals k) g))
  | .join => (vB v).bind fun l => (one vs).bind fun x => (joinS g.σ x).bind fun b => zad (l.isEmpty && small b.length) (some (.bytes b, g))
  | .starts => (vS v).bind fun x => (one vs).bind fun u => (vS u).map fun y => (.bool (Txt.startswith x y), g)
  | .split => (vS v).bind fun x => (one vs).bind fun u => (vS u).bind fun y => zad (Nat.blt 0 y.length && small x.length) (some (mkO (.list ((Txt.split x y).map .str)) g))
  | .keys => zaf (oO g.σ v) fun k o => (soS o).bind fun _ => zad vs.isEmpty (some (mkO (.keys k) g))
  | .get => zaf (oO g.σ v) fun _ o => (soP o).bind fun l => zaf (two vs) fun a b => (vI b).bind fun d => zad (keysOk g.σ l) ((oP g.σ a).map fun q => (.int ((zaw pq l (0, q.1, q.2)).getD d), g))
  | .enc => (vS v).bind fun x => (one vs).bind fun u => (vS u).bind fun y => zad (sq y "utf-8") ((look encT x).map fun b => (.bytes b, g))
  | .dec => (vB v).bind fun l => (one vs).bind fun u => (vS u).bind fun y => zad (sq y "utf-8") ((decS l encT).map fun x => (.str x, g))
noncomputable def idxQ (x : Str) : List Str → Option Nat
  | [] => none
  | y :: r => match sq y x with
    | true => some 0
    | false => (idxQ x r).map (· + 1)
noncomputable def bareQ (K : Frag) (u : Value) : Bool := match (vR u).bind fun a => K.lookup a with
  | some o => o.dict.isNone
  | none => false
noncomputable def idxS (K : Frag) (u : Value) (vs : List SV) : Option Int := zad (bareQ K u) <| (gL K (.val u)).bind fun l => (mapS zca l).bind fun l => (mapS vS l).bind fun l => (one vs).bind fun v => (vS v).bind fun x => zad (small l.length) ((idxQ x l).map fun (n : Nat) => (n : Int))
noncomputable def f5 (K : Frag) (f : Value) : Bool := match f with
  | .builtin _ => true
  | .type _ => true
  | f => keepIn K f
noncomputable def zai : Expr → Bool
  | .Starred .. => false
  | _ => true
noncomputable def c3 : Expr → Bool
  | .Slice .. => false
  | _ => true
noncomputable def zby : Expr → Option (Option Expr × Option Expr × Option Expr)
  | .Slice lo hi sp _ => some (lo, hi, sp)
  | _ => none
noncomputable def zbe : Expr → Bool
  | .Constant .. => true
  | .Name .. => true
  | .BinOp .. => true
  | .Compare .. => true
  | .Subscript .. => true
  | .Call .. => true
  | .List .. => true
  | .Tuple .. => true
  | .Dict .. => true
  | .Attribute .. => true
  | _ => false
noncomputable def zaq : Expr → Bool
  | .Name .. => true
  | .Subscript .. => true
  | _ => false
noncomputable def attQ : Expr → Bool
  | .Name .. => true
  | .Subscript .. => true
  | .Attribute .. => true
  | _ => false
noncomputable def zbx : Expr → Bool
  | .Set .. => false
  | _ => true
noncomputable def zds : Expr → Bool
  | .Call _ args _ _ => !args.isEmpty
  | _ => true
noncomputable def zbn : Expr → Option Str
  | .Name x _ => some x
  | _ => none
noncomputable def zsu (c : PySem.Const) : Option SV := match c with
  | .int i => some (.int i)
  | .str x => some (.str x)
  | .none => some .none
  | .bool b => some (.bool b)
  | .bytes b => some (.bytes (KBw.bInts b.toArray))
  | _ => none
noncomputable def truS (σ : List SO) : SV → Option Bool
  | .bool b => some b
  | .int i => some (i != 0)
  | _ => none
noncomputable def setM (f : Fi) (x : Str) (v : SV) : Fi := Fi.rec (motive := fun _ => Fi) (fun m sc cm => ⟨putM m x v, sc, cm⟩) f
structure Lc where
  elt : Expr
  x : Str
  px : Pos
  it : Expr
  ct : Option Expr
  scope : Scope
  ps : Pos
noncomputable def oneIf : List Expr → Option (Option Expr)
  | [] => some none
  | e :: r => match r with
    | [] => some (some e)
    | _ :: _ => none
noncomputable def genOf : Comprehension → Option (Str × Pos × Expr × Option Expr)
  | ⟨t, it, ifs, a⟩ => zad (decide (a = 0)) (match t with
    | .Name x px => (oneIf ifs).map fun c => (x, px, it, c)
    | _ => none)
noncomputable def lcOf : Expr → Option Lc
  | .ListComp elt gs scope ps => (one gs).bind fun q => (genOf q).map fun r => ⟨elt, r.1, r.2.1, r.2.2.1, r.2.2.2, scope, ps⟩
  | _ => none
noncomputable def zdn (k : NameKind) : Bool := match k with
  | .cell => true
  | _ => false
noncomputable def zhs (k : NameKind) : Bool := match k with
  | .free => true
  | _ => false
noncomputable def locK (k : NameKind) : Bool := match k with
  | .local => true
  | _ => false
noncomputable def relS (f : Fi) (ns : List (Str × NameKind)) : List (Str × NameKind) := ns.map fun p => match zhs p.2 && (match look f.sc p.1 with | some k => zdn k | none => false) with
  | true => (p.1, .cell)
  | false => p
noncomputable def zfg (f : Fi) : List (Str × NameKind) → Option (List (Str × Nat))
  | [] => some []
  | p :: r => match zhs p.2 with
    | true => (look f.cm p.1).bind fun k => (zfg f r).map fun l => (p.1, k) :: l
    | false => zfg f r
noncomputable def zgi (s : Scope) : Bool := match s.kind with
  | .function => true
  | _ => false
noncomputable def lcOk (c : Lc) : Bool := zgi c.scope && c.scope.names.all (fun p => !zdn p.2) && c.scope.names.all (fun p => match locK p.2 with | true => zat c.scope.names p.1 | false => true) && zat c.scope.names c.x
noncomputable def zlj : Expr → Bool
  | .Subscript .. => true
  | .Name .. => true
  | .Call .. => true
  | .Attribute .. => true
  | _ => false
inductive EV where
  | non
  | const (c : PySem.Const)
  | name (x : Str)
  | list (es : List Expr)
  | tup (es : List Expr)
  | dict (q : Bool)
  | bin (l : Expr) (op : Operator) (r : Expr)
  | cmp (l : Expr) (ops : List CmpOp) (rs : List Expr)
  | sub (b i : Expr)
  | att (b : Expr) (x : Str)
  | call (q : Bool) (e : Expr) (args : List Expr) (ps : Pos)
  | lc (c : Option Lc)
noncomputable def zan : Expr → EV
  | .Constant c _ _ => .const c
  | .Name x _ => .name x
  | .List es _ => .list es
  | .Tuple es _ _ => .tup es
  | .Dict ks vs _ => .dict (ks.isEmpty && vs.isEmpty)
  | .BinOp l op r _ => .bin l op r
  | .Compare l ops rs _ => .cmp l ops rs
  | .Subscript b i _ => .sub b i
  | .Attribute b x _ => .att b x
  | .Call e args kws ps => .call (kws.isEmpty && args.all zai) e args ps
  | .ListComp elt gs scope ps => .lc (lcOf (.ListComp elt gs scope ps))
  | _ => .non
inductive TV where
  | non
  | boolop (op : BoolOp) (l : List Expr) (p : Pos)
  | unop (op : UnaryOp) (e : Expr)
  | cmp (l : Expr) (ops : List CmpOp) (rs : List Expr)
  | ev
noncomputable def zts : Expr → TV
  | .BoolOp op l p => .boolop op l p
  | .UnaryOp op e _ => .unop op e
  | .Compare l ops rs _ => .cmp l ops rs
  | .Subscript .. => .ev
  | .BinOp .. => .ev
  | .Call .. => .ev
  | .Name .. => .ev
  | .Constant .. => .ev
  | _ => .non
inductive XV where
  | non
  | asg (t : Option Expr) (e : Expr)
  | expr (e : Expr)
  | ift (t : Expr) (b o : List Stmt)
  | whl (t : Expr) (b o : List Stmt)
  | for (t it : Expr) (b o : List Stmt)
  | ret (e : Option Expr)
  | brk
  | tr (b : List Stmt)
noncomputable def tryOf (b : List Stmt) (hs : List ExceptHandler) (o f : List Stmt) : XV := match hs with
  | [] => .non
  | _ :: _ => match o with
    | [] => match f with
      | [] => .tr b
      | _ :: _ => .non
    | _ :: _ => .non
noncomputable def zcl : Stmt → XV
  | .Assign ts e _ => .asg (one ts) e
  | .Expr e _ => .expr e
  | .If t b o _ => .ift t b o
  | .While t b o _ => .whl t b o
  | .For t it b o _ => .for t it b o
  | .Return e _ => .ret e
  | .Break _ => .brk
  | .Try b hs o f _ => tryOf b hs o f
  | _ => .non
inductive AV where
  | non
  | name (x : Str)
  | att (b : Expr) (x : Str)
  | tup (es : List Expr)
  | sub (b i : Expr)
noncomputable def zeq : Expr → AV
  | .Name x _ => .name x
  | .Attribute b x _ => .att b x
  | .Tuple es _ _ => .tup es
  | .Subscript b i _ => .sub b i
  | _ => .non
noncomputable def attO : Expr → Option (Expr × Str × Pos)
  | .Attribute b x p => some (b, x, p)
  | _ => none
section
variable (K : Frag) (gd : List Addr) (orc : Orc)
noncomputable def asg3 (e1 e2 e3 : Expr) (v : SV) (f : Fi) (g : Sg) : Option (Fi × Sg) := (zbn e1).bind fun x => (zbn e2).bind fun y => (zbn e3).bind fun u => zaf (oT g.σ v) fun _ l => (zit l).bind fun q => zad (zat f.sc x && (zat f.sc y && zat f.sc u)) (some (setM (setM (setM f x q.1) y q.2.1) u q.2.2, g))
noncomputable def asgT (t : Expr) (v : SV) (f : Fi) (g : Sg) : Option (Fi × Sg) := match zeq t with
  | .name x => match zat f.sc x with
    | true => some (setM f x v, g)
    | false => zad (match look f.sc x with | some k => zdn k | none => false) ((look f.cm x).bind fun k => (g.σ[k]?).bind fun so => match so with
      | .cell _ => some (f, setO g k (.cell (some v)))
      | _ => none)
  | .tup es => match zit es with
    | some q => asg3 q.1 q.2.1 q.2.2 v f g
    | none => zaf (two es) fun e1 e2 => (zbn e1).bind fun x => (zbn e2).bind fun y => zaf (oT g.σ v) fun _ l => zaf (two l) fun a b => zad (zat f.sc x && zat f.sc y) (some (setM (setM f x a) y b, g))
  | _ => none
variable (self : Job → Fi → Sg → Option (Out × Sg))
noncomputable def zuc (o : Option Expr) (f : Fi) (g : Sg) : Option (Option Int × Sg) := match o with
  | none => some (none, g)
  | some e => zaf (asV (self (.ev e) f g)) fun v g' => (vI v).map fun i => (some i, g')
noncomputable def ixS (v : SV) (i : Expr) (f : Fi) (g : Sg) : Option (SV × Sg) := match zby i with
  | some d => zad d.2.2.isNone (zaf (zuc self d.1 f g) fun lo g1 => zaf (zuc self d.2.1 f g1) fun hi g2 => zsf v lo hi g2)
  | none => zaf (asV (self (.ev i) f g)) fun u g1 => (zjo K gd v u g1.σ).map fun v => (v, g1)
noncomputable def zlk (v : SV) (x : Str) (args : List Expr) (f : Fi) (g : Sg) : Option (SV × Sg) := match zjp K x v g with
  | some m => zaf (asVs (self (.evs args) f g)) fun l g1 => zbp K orc (.ref m) (v :: l) g1
  | none => match v with
    | .val u => zad (sq x "index") (zaf (asVs (self (.evs args) f g)) fun l g1 => (idxS K u l).map fun n => (.int n, g1))
    | v => (zjf g.σ v x).bind fun i => zaf (asVs (self (.evs args) f g)) fun l g1 => methS i v l g1
noncomputable def zhn (v : SV) (x : Str) (args : List Expr) (f : Fi) (g : Sg) : Option (SV × Sg) := match vI v with
  | some i => zad (args.isEmpty && sq x (Str.ofString "bit_length")) (some (.int (Builtin.Int.intBits i), g))
  | none => zlk K orc self v x args f g
noncomputable def zdo (e : Expr) (args : List Expr) (ps : Pos) (f : Fi) (g : Sg) : Option (SV × Sg) := match attO e with
  | some q => zad (zds q.1 && (q.2.2.endLine == ps.line) && Nat.blt args.length 30) (zaf (asV (self (.ev q.1) f g)) fun v g1 => zhn K orc self v q.2.1 args f g1)
  | none => zad (zaq e) (zaf (asV (self (.ev e) f g)) fun u g1 => (vV u).bind fun c => zad (f5 K c) (zaf (asVs (self (.evs args) f g1)) fun l g2 => zbp K orc c l g2))
noncomputable def srcO (k tt : Nat) : SO → Option (Option (Nat × Nat) × List SV)
  | .list l => zad (small l.length) (some (some (k, tt), l))
  | .dict l => match l with
    | [] => some (some (k, tt), [])
    | _ :: _ => none
  | .sdict l => zad (small l.length) (some (some (k, tt), l.map fun p => .str p.1))
  | _ => none
noncomputable def srcS (v : SV) (g : Sg) : Option (Option (Nat × Nat) × List SV) := match v with
  | .val v => (gL K (.val v)).bind fun l => zad (small l.length) ((mapS zca l).map fun l => (none, l))
  | v => zaf (oO g.σ v) fun k o => (g.τ[k]?).bind fun tt => srcO k tt o
noncomputable def lcS (c : Lc) (f : Fi) (g : Sg) : Option (List SV × Sg) := zad (zlj c.it && lcOk c) (zaf (asV (self (.ev c.it) f g)) fun v g1 => zad (c.ct.isSome || (oL g1.σ v).isSome) <| (zfg f c.scope.names).bind fun cm => zaf (srcS K v g1) fun h l => zaf (asVs (self (.cmp h c.x c.ct c.elt l) ⟨[], relS f c.scope.names, cm⟩ g1)) fun r g2 => some (r, g2))
noncomputable def evNon (_ : Fi) (_ : Sg) : Option (SV × Sg) := none
noncomputable def evConst (c : PySem.Const) (_ : Fi) (g : Sg) : Option (SV × Sg) := (zsu c).map fun v => (v, g)
noncomputable def evName (x : Str) (f : Fi) (g : Sg) : Option (SV × Sg) := (zez K f g x).map fun v => (v, g)
noncomputable def evList (es : List Expr) (f : Fi) (g : Sg) : Option (SV × Sg) := zaf (asVs (self (.evs es) f g)) fun l g1 => zad (small l.length) (some (mkO (.list l) g1))
noncomputable def evTup (es : List Expr) (f : Fi) (g : Sg) : Option (SV × Sg) := zaf (asVs (self (.evs es) f g)) fun l g1 => zad (small l.length) (some (mkO (.tup l) g1))
noncomputable def evDict (q : Bool) (_ : Fi) (g : Sg) : Option (SV × Sg) := zad q (some (mkO (.dict []) g))
noncomputable def evBin (l : Expr) (op : Operator) (r : Expr) (f : Fi) (g : Sg) : Option (SV × Sg) := zaf (asV (self (.ev l) f g)) fun a g1 => zaf (asV (self (.ev r) f g1)) fun b g2 => binS op a b g2
noncomputable def evCmp (l : Expr) (ops : List CmpOp) (rs : List Expr) (f : Fi) (g : Sg) : Option (SV × Sg) := (one ops).bind fun op => (one rs).bind fun r => zad (zbx r) <| zaf (asV (self (.ev l) f g)) fun a g1 => zaf (asV (self (.ev r) f g1)) fun b g2 => (cmpS K gd op a b g2.σ).map fun c => (.bool c, g2)
noncomputable def evSub (b i : Expr) (f : Fi) (g : Sg) : Option (SV × Sg) := zaf (asV (self (.ev b) f g)) fun v g1 => ixS K gd self v i f g1
noncomputable def evAtt (b : Expr) (x : Str) (f : Fi) (g : Sg) : Option (SV × Sg) := zad (attQ b) (zaf (asV (self (.ev b) f g)) fun u g1 => (attS K x u g1).map fun v => (v, g1))
noncomputable def evCall (q : Bool) (e : Expr) (args : List Expr) (ps : Pos) (f : Fi) (g : Sg) : Option (SV × Sg) := zad q (zdo K orc self e args ps f g)
noncomputable def evLc (c : Option Lc) (f : Fi) (g : Sg) : Option (SV × Sg) := c.bind fun c => zaf (lcS K self c f g) fun l g1 => some (mkO (.list l) g1)
noncomputable def evV (e : EV) (f : Fi) (g : Sg) : Option (SV × Sg) := EV.rec (motive := fun _ => Fi → Sg → Option (SV × Sg)) evNon evConst (evName K) (evList self) (evTup self) evDict (evBin self) (evCmp K gd self) (evSub K gd self) (evAtt K self) (evCall K orc self) (evLc K self) e f g
noncomputable def evS (e : Expr) (f : Fi) (g : Sg) : Option (SV × Sg) := evV K gd orc self (zan e) f g
noncomputable def zfs (sc : List (Str × NameKind)) (t : Expr) : Bool := match zbn t with
  | some x => zat sc x
  | none => false
noncomputable def zfo : Expr → Option Expr
  | .Call f es kws _ => zad kws.isEmpty ((zbn f).bind fun x => zad (sq x "range") (one es))
  | _ => none
noncomputable def iterO (sc : List (Str × NameKind)) (t : Expr) (k tt : Nat) : SO → Option (Option (Nat × Nat) × List SV)
  | .list l => some (some (k, tt), l)
  | .dict l => zad (zfs sc t) (some (some (k, tt), l.map fun p => .int p.1))
  | .sdict l => zad (zfs sc t) (some (some (k, tt), l.map fun p => .str p.1))
  | _ => none
noncomputable def iterS (sc : List (Str × NameKind)) (t : Expr) (v : SV) (g : Sg) : Option (Option (Nat × Nat) × List SV) := match v with
  | .bytes l => zad (zfs sc t) (some (none, l.map .int))
  | .str x => zad (zfs sc t) (some (none, x.cps.toList.map fun n => .str ⟨#[n]⟩))
  | v => zaf (oO g.σ v) fun k o => (g.τ[k]?).bind fun tt => iterO sc t k tt o
noncomputable def isRng : Option SV → Bool
  | some (.val (.type T)) => decide (T = "range")
  | _ => false
noncomputable def itS (t : Expr) (e : Expr) (f : Fi) (g : Sg) : Option ((Option (Nat × Nat) × List SV) × Sg) := match zfo e with
  | some e => zad (isRng (zez K f g "range") && zai e && zfs f.sc t) (zaf (asV (self (.ev e) f g)) fun v g1 => (vI v).bind fun n => (natS n).bind fun k => zad (small k) (some ((none, (List.range k).map fun (i : Nat) => .int i), g1)))
  | none => zad (zlj e) (zaf (asV (self (.ev e) f g)) fun v g1 => (iterS f.sc t v g1).map fun p => (p, g1))
noncomputable def isLc : Expr → Bool
  | .ListComp .. => true
  | _ => false
noncomputable def l9 (t : Expr) (c : Lc) (f : Fi) : Bool := match t with
  | .Name y py => zat f.sc y && (py.line == c.ps.line) && !(c.scope.names.any fun p => p.1 == y && (p.2 == .local || p.2 == .cell))
  | _ => false
noncomputable def cellQ (t : Expr) (f : Fi) : Bool := match t with
  | .Name y _ => match look f.sc y with
    | some k => zdn k
    | none => false
  | _ => false
noncomputable def asgS (t e : Expr) (v : SV) (f : Fi) (g : Sg) : Option (Fi × Sg) := match zeq t with
  | .non => none
  | .name _ => zad (zbe e || (isLc e && cellQ t f)) (asgT t v f g)
  | .att b x => zad (zbe e) ((zbn b).bind fun y => (zez K f g y).bind fun u => (setA K x u v g).map fun g' => (f, g'))
  | .tup _ => zad (zlj e) (asgT t v f g)
  | .sub b i => zad (zbe e && c3 i) (zaf (asV (self (.ev b) f g)) fun a g1 => zaf (asV (self (.ev i) f g1)) fun j g2 => (zhh a j v g2).map fun g' => (f, g'))
noncomputable def asgC (t e : Expr) (f : Fi) (g : Sg) : Option (Fi × Sg) := match lcOf e with
  | some c => match l9 t c f with
    | true => zad c.ct.isSome <| (zbn t).bind fun y => zaf (lcS K self c f g) fun l g1 => some (setM f y (mkO (.list l) g1).1, (mkO (.list l) g1).2)
    | false => zaf (asV (self (.ev e) f g)) fun v g1 => asgS K self t e v f g1
  | none => zaf (asV (self (.ev e) f g)) fun v g1 => asgS K self t e v f g1
noncomputable def exNon (_ : Fi) (_ : Sg) : Option ((Fl × Fi) × Sg) := none
noncomputable def exAsg (t : Option Expr) (e : Expr) (f : Fi) (g : Sg) : Option ((Fl × Fi) × Sg) := t.bind fun t => (asgC K self t e f g).map fun p => ((.next, p.1), p.2)
noncomputable def exExpr (e : Expr) (f : Fi) (g : Sg) : Option ((Fl × Fi) × Sg) := zad (zbe e) (zaf (asV (self (.ev e) f g)) fun _ g1 => some ((.next, f), g1))
noncomputable def exIf (t : Expr) (b o : List Stmt) (f : Fi) (g : Sg) : Option ((Fl × Fi) × Sg) := zaf (asB (self (.test t) f g)) fun c g1 => match c with
    | true => asF (self (.ex b) f g1)
    | false => asF (self (.ex o) f g1)
noncomputable def exWhl (t : Expr) (b o : List Stmt) (f : Fi) (g : Sg) : Option ((Fl × Fi) × Sg) := zad o.isEmpty (asF (self (.whl t b) f g))
noncomputable def exFor (t it : Expr) (b o : List Stmt) (f : Fi) (g : Sg) : Option ((Fl × Fi) × Sg) := zad o.isEmpty ((itS K self t it f g).bind fun p => asF (self (.loop p.1.1 t p.1.2 b) f p.2))
noncomputable def exRet (e : Option Expr) (f : Fi) (g : Sg) : Option ((Fl × Fi) × Sg) := match e with
    | some e => zaf (asV (self (.ev e) f g)) fun v g1 => some ((.ret v, f), g1)
    | none => some ((.ret .none, f), g)
noncomputable def exBrk (f : Fi) (g : Sg) : Option ((Fl × Fi) × Sg) := some ((.brk, f), g)
noncomputable def exTry (b : List Stmt) (f : Fi) (g : Sg) : Option ((Fl × Fi) × Sg) := asF (self (.ex b) f g)
noncomputable def exX (s : XV) (f : Fi) (g : Sg) : Option ((Fl × Fi) × Sg) := XV.rec (motive := fun _ => Fi → Sg → Option ((Fl × Fi) × Sg)) exNon (exAsg K self) (exExpr self) (exIf self) (exWhl self) (exFor K self) (exRet self) exBrk (exTry self) s f g
noncomputable def exS (s : Stmt) (f : Fi) (g : Sg) : Option ((Fl × Fi) × Sg) := exX K self (zcl s) f g
noncomputable def zsv (b : Bool) (op : BoolOp) (l : List Expr) (p : Pos) (f : Fi) (g : Sg) : Option (Bool × Sg) := match l with
  | [] => none
  | x :: r => zaf (asB (self (.test x) f g)) fun c g1 => match c == b with
    | false => some (c, g1)
    | true => match r with
      | [] => some (b, g1)
      | y :: r => asB (self (.test (.BoolOp op (y :: r) p)) f g1)
noncomputable def zhf (e : Expr) (f : Fi) (g : Sg) : Option (Bool × Sg) := match zts e with
  | .non => none
  | .boolop op l p => match op with
    | .And => zsv self true .And l p f g
    | .Or => zsv self false .Or l p f g
  | .unop op e => zad (decide (op = .Not)) ((asB (self (.test e) f g)).map fun p => (!p.1, p.2))
  | .cmp l ops rs => match ops with
    | [] => none
    | op :: ops => match rs with
      | [] => none
      | r :: rs => zad (zbx r && rs.all zbx) <| zaf (asV (self (.ev l) f g)) fun a g1 => zaf (asV (self (.ev r) f g1)) fun b g2 => (cmpS K gd op a b g2.σ).bind fun c => match ops with
        | [] => zad rs.isEmpty (some (c, g2))
        | op2 :: ops2 => zad ops2.isEmpty ((one rs).bind fun r2 => match c with
          | false => some (false, g2)
          | true => zaf (asV (self (.ev r2) f g2)) fun d g3 => (cmpS K gd op2 b d g3.σ).map fun c => (c, g3))
  | .ev => zaf (asV (self (.ev e) f g)) fun v g1 => (truS g1.σ v).map fun c => (c, g1)
noncomputable def held (c : Option (Nat × Nat)) (g : Sg) : Bool := match c with
  | none => true
  | some p => match g.τ[p.1]? with
    | some t' => Nat.beq t' p.2
    | none => false
noncomputable def zky (go : Fi → Sg → Option (Out × Sg)) (p : Fl × Fi) (g : Sg) : Option (Out × Sg) := match p.1 with
  | .next => go p.2 g
  | .brk => some (.f (.next, p.2), g)
  | .ret v => some (.f (.ret v, p.2), g)
noncomputable def cmpT (ct : Option Expr) (elt : Expr) (f : Fi) (g : Sg) : Option (Option SV × Sg) := match ct with
  | none => zaf (asV (self (.ev elt) f g)) fun v g1 => some (some v, g1)
  | some t => zaf (asB (self (.test t) f g)) fun c g1 => match c with
    | true => zaf (asV (self (.ev elt) f g1)) fun v g2 => some (some v, g2)
    | false => some (none, g1)
noncomputable def zke : Option SV → List SV → List SV
  | none, l => l
  | some v, l => v :: l
noncomputable def stEv (e : Expr) (f : Fi) (g : Sg) : Option (Out × Sg) := zaf (evS K gd orc self e f g) fun v g1 => some (.v v, g1)
noncomputable def stEvs (es : List Expr) (f : Fi) (g : Sg) : Option (Out × Sg) := match es with
  | [] => some (.vs [], g)
  | e :: r => zad (zai e) (zaf (asV (self (.ev e) f g)) fun v g1 => zaf (asVs (self (.evs r) f g1)) fun l g2 => some (.vs (v :: l), g2))
noncomputable def stTest (e : Expr) (f : Fi) (g : Sg) : Option (Out × Sg) := zaf (zhf K gd self e f g) fun c g1 => some (.b c, g1)
noncomputable def exN (r : List Stmt) (p : Fl × Fi) (g1 : Sg) : Option (Out × Sg) := match p.1 with
  | .next => self (.ex r) p.2 g1
  | .brk => some (.f (.brk, p.2), g1)
  | .ret v => some (.f (.ret v, p.2), g1)
noncomputable def stEx (b : List Stmt) (f : Fi) (g : Sg) : Option (Out × Sg) := match b with
  | [] => some (.f (.next, f), g)
  | s :: r => zaf (exS K self s f g) (exN self r)
noncomputable def stWhl (t : Expr) (b : List Stmt) (f : Fi) (g : Sg) : Option (Out × Sg) := zaf (asB (self (.test t) f g)) fun c g1 => match c with
  | false => some (.f (.next, f), g1)
  | true => zaf (asF (self (.ex b) f g1)) (zky (self (.whl t b)))
noncomputable def stLoop (c : Option (Nat × Nat)) (t : Expr) (l : List SV) (b : List Stmt) (f : Fi) (g : Sg) : Option (Out × Sg) := zad (held c g) <| match l with
  | [] => some (.f (.next, f), g)
  | v :: r => zaf (asgT t v f g) fun f₁ g₁ => zaf (asF (self (.ex b) f₁ g₁)) (zky (self (.loop c t r b)))
noncomputable def stCmp (c : Option (Nat × Nat)) (x : Str) (ct : Option Expr) (elt : Expr) (l : List SV) (f : Fi) (g : Sg) : Option (Out × Sg) := zad (held c g) <| match l with
  | [] => some (.vs [], g)
  | v :: r => zaf (cmpT self ct elt ⟨[(x, v)], f.sc, f.cm⟩ g) fun o g1 => zad (held c g1 && Nat.beq g1.γ g.γ) (zaf (asVs (self (.cmp c x ct elt r) f g1)) fun l' g2 => some (.vs (zke o l'), g2))
noncomputable def step (j : Job) (f : Fi) (g : Sg) : Option (Out × Sg) := Job.rec (motive := fun _ => Fi → Sg → Option (Out × Sg)) (stEv K gd orc self) (stEvs self) (stTest K gd self) (stEx K self) (stWhl self) (stLoop self) (stCmp self) j f g
noncomputable def plain (f : Fi) (g : Sg) (k : Fi → Sg → Option (Out × Sg)) : Option (Out × Sg) := Fi.rec (motive := fun _ => Option (Out × Sg)) (fun m sc cm => Sg.rec (motive := fun _ => Option (Out × Sg)) (fun σ τ γ => k ⟨m, sc, cm⟩ ⟨σ, τ, γ⟩) g) f
noncomputable def run (n : Nat) : Job → Fi → Sg → Option (Out × Sg) := Nat.rec (fun _ _ _ => none) (fun _ ih j f g => plain f g (step K gd orc ih j)) n
end
end
theorem zaj {α : Type} {p : Str × α} {r : List (Str × α)} {x : Str} : look (p :: r) x = if p.1 = x then some p.2 else look r x := by
  show (Bool.rec (motive := fun _ => Option α) (look r x) (some p.2) (sq p.1 x) : Option α) = _
  cases h : sq p.1 x with
  | true => rw [if_pos (zbh.mp h)]
  | false => rw [if_neg fun e => by rw [zbh.mpr e] at h; cases h]
theorem zev {p : Str × SV} {r : List (Str × SV)} {x : Str} {v : SV} : putM (p :: r) x v = if p.1 = x then (p.1, v) :: r else p :: putM r x v := by
  show (match sq p.1 x with | true => (p.1, v) :: r | false => p :: putM r x v) = _
  cases h : sq p.1 x with
  | true => rw [if_pos (zbh.mp h)]
  | false => rw [if_neg fun e => by rw [zbh.mpr e] at h; cases h]
theorem zap {α : Type} {x : Str} : ∀ {l : List (Str × α)}, look l x = l.lookup x
  | [] => rfl
  | p :: r => by
    rw [zaj, List.lookup_cons, zap (l := r)]
    by_cases h : p.1 = x
    · rw [if_pos h, h, show (x == x) = true from by simp]
    · rw [if_neg h, show (x == p.1) = false from by simpa using fun e => h e.symm]
theorem zgs {x y : Str} {v : SV} : ∀ {l : List (Str × SV)}, look (putM l x v) y = if x = y then some v else look l y
  | [] => by
    show look [(x, v)] y = _
    rw [zaj]
  | p :: r => by
    rw [zev]
    by_cases h : p.1 = x
    · rw [if_pos h, zaj, zaj]
      show (if p.1 = y then _ else _) = _
      rw [h]
      by_cases q : x = y
      · rw [if_pos q, if_pos q]
      · rw [if_neg q, if_neg q, if_neg q]
    · rw [if_neg h, zaj, zaj, zgs (l := r)]
      by_cases q : x = y
      · rw [if_pos q, if_neg fun e => h (e.trans q.symm)]
        rw [if_pos q]
      · rw [if_neg q, if_neg q]
theorem zbk {α : Type} {x : Str} {v : α} : ∀ {l : List (Str × α)}, look l x = some v → (x, v) ∈ l
  | [], h => by cases h
  | p :: r, h => by
    rw [zaj] at h
    by_cases e : p.1 = x
    · rw [if_pos e] at h
      cases h
      rw [← e]
      exact .head _
    · rw [if_neg e] at h
      exact .tail _ (zbk h)
theorem zgu : ∀ {l : List Nat} {k : Nat}, (incr l k).length = l.length
  | [], _ => rfl
  | _ :: _, 0 => rfl
  | _ :: r, k + 1 => by show (incr r k).length + 1 = r.length + 1; rw [zgu]
theorem zjq : ∀ {l : List Nat} {k j : Nat}, j ≠ k → (incr l k)[j]? = l[j]?
  | [], _, _, _ => rfl
  | _ :: _, 0, 0, h => absurd rfl h
  | _ :: _, 0, _ + 1, _ => rfl
  | _ :: _, _ + 1, 0, _ => rfl
  | _ :: r, k + 1, j + 1, h => by
    show (incr r k)[j]? = r[j]?
    exact zjq fun e => h (by rw [e])
theorem f7 : ∀ {l : List Nat} {k t : Nat}, l[k]? = some t → (incr l k)[k]? = some (t + 1)
  | [], _, _, h => by cases h
  | _ :: _, 0, _, h => by cases h; rfl
  | _ :: r, k + 1, t, h => by
    show (incr r k)[k]? = _
    exact f7 h
structure Gm where
  prog : Program
  w : World
  K : Frag
  p : Program
  loose : List Str
  mean : ExcName → Option Value
  mg : Str → Option Value
  mb : Str → Option Value
  gd : List Addr
structure Cx where
  A : Around
  env : Env
  fenv : Env
  h₀ : Heap
  L : Addr
  rest : List (Addr × Obj)
  E : Value → Shared → Prop
  cmp : Option (Str → Option Value)
noncomputable def Cx.cons (c : Cx) (p : Addr × Obj) : Cx := { c with rest := p :: c.rest }
noncomputable def Cx.cur (c : Cx) (M : Str → Option Value) : Str → Option Value := match c.cmp with
  | none => M
  | some N => N
structure Zs where
  ρ : List Addr
  nw : List (Addr × Obj)
  h : Heap
  tk : Nat
  g : Array GenState
noncomputable def Zs.sh (z : Zs) (s : Shared) : Shared := { s with heap := z.h, gens := z.g, toks := z.tk }
structure Ex (z : Zs) (g : Sg) (z' : Zs) (g' : Sg) : Prop where
  ext : Ext z.ρ z'.ρ
  stp : ∀ (k t : Nat), g.τ[k]? = some t → ∃ t', g'.τ[k]? = some t' ∧ t ≤ t' ∧ (t' = t → g'.σ[k]? = g.σ[k]? ∧ z'.nw[k]? = z.nw[k]?)
  gr : GRow z.g z'.g
  gq : g.γ ≤ g'.γ ∧ (g'.γ = g.γ → z'.g = z.g)
structure Led (Γ : Gm) (R : List (Addr × Obj)) (g : Sg) (ρ : List Addr) (nw : List (Addr × Obj)) : Prop where
  map : nw.map (·.1) = ρ
  nd : ρ.Nodup
  lo : ∀ (k : Nat) (so : SO) (a : Addr), g.σ[k]? = some so → isD so = true → ρ[k]? = some a → (a == sysModules) = false
  len : g.σ.length = nw.length
  obj : ∀ (k : Nat) (so : SO) (p : Addr × Obj), g.σ[k]? = some so → nw[k]? = some p → RO Γ.prog Γ.w ρ so p.2
  sep : ∀ p ∈ R, ∀ q ∈ nw, p.1 ≠ q.1
  tl : g.τ.length = g.σ.length
structure Cor (Γ : Gm) (c : Cx) (M : Str → Option Value) (g : Sg) (z : Zs) : Prop where
  F : Fr c.h₀ c.L z.h M
  N : News c.h₀ c.L z.h (z.nw ++ c.rest)
  led : Led Γ c.rest g z.ρ z.nw
structure Frm (c : Cx) (f : Fi) (M : Str → Option Value) (ρ : List Addr) : Prop where
  rm : ∀ (x : Str) (v : SV), look f.m x = some v → (zat f.sc x = true ∧ ∃ V, c.cur M x = some V ∧ RV ρ v V)
  nm : c.env.scope.names = f.sc
  ce : ∀ (x : Str) (k : Nat), look f.cm x = some k → ∃ a, c.env.cells.lookup x = some a ∧ ρ[k]? = some a
section
variable {Γ : Gm} {c : Cx} {R : List (Addr × Obj)} {f : Fi} {M M' : Str → Option Value} {z z' z'' : Zs} {g g' g'' : Sg} {ρ ρ' : List Addr} {nw : List (Addr × Obj)}
theorem Frm.mono (H : Frm c f M ρ) (h : Ext ρ ρ') : Frm c f M ρ' := ⟨fun x v e => by
    obtain ⟨l, V, a, r⟩ := H.rm x v e
    exact ⟨l, V, a, r.mono h⟩, H.nm, fun x k e => by
    obtain ⟨a, b, r⟩ := H.ce x k e
    exact ⟨a, b, h _ _ r⟩⟩
theorem Frm.put (H : Frm c f M ρ) (hc : c.cmp = none) {x : Str} {v : SV} {V : Value} (hx : zat f.sc x = true) (h : RV ρ v V) : Frm c (setM f x v) (fun y => if y = x then some V else M y) ρ := ⟨fun y u e => by
    have e' : look (putM f.m x v) y = some u := e
    rw [zgs] at e'
    unfold Cx.cur
    rw [hc]
    by_cases q : x = y
    · rw [if_pos q] at e'
      cases e'
      exact ⟨q ▸ hx, V, if_pos q.symm, h⟩
    · rw [if_neg q] at e'
      obtain ⟨l, U, a, b⟩ := H.rm y u e'
      unfold Cx.cur at a
      rw [hc] at a
      exact ⟨l, U, (if_neg fun z => q z.symm).trans a, b⟩, H.nm, H.ce⟩
theorem Ex.refl : Ex z g z g := ⟨Ext.refl, fun _ t h => ⟨t, h, Nat.le_refl _, fun _ => ⟨rfl, rfl⟩⟩, GRow.refl _, Nat.le_refl _, fun _ => rfl⟩
theorem Ex.trans (h : Ex z g z' g') (h' : Ex z' g' z'' g'') : Ex z g z'' g'' :=
  ⟨h.ext.trans h'.ext, fun k t e => by
    obtain ⟨t', e', l', s'⟩ := h.stp k t e
    obtain ⟨t'', e'', l'', s''⟩ := h'.stp k t' e'
    refine ⟨t'', e'', Nat.le_trans l' l'', fun q => ?_⟩
    have q1 : t' = t := Nat.le_antisymm (q ▸ l'') l'
    have q2 : t'' = t' := q.trans q1.symm
    obtain ⟨a, b⟩ := s' q1
    obtain ⟨c, d⟩ := s'' q2
    exact ⟨c.trans a, d.trans b⟩, h.gr.trans h'.gr, Nat.le_trans h.gq.1 h'.gq.1, fun q => by
    have q1 : g'.γ = g.γ := Nat.le_antisymm (q ▸ h'.gq.1) h.gq.1
    exact (h'.gq.2 (q.trans q1.symm)).trans (h.gq.2 q1)⟩
theorem Ex.same {h' : Heap} {tk : Nat} : Ex z g ⟨z.ρ, z.nw, h', tk, z.g⟩ g := ⟨Ext.refl, fun _ t h => ⟨t, h, Nat.le_refl _, fun _ => ⟨rfl, rfl⟩⟩, GRow.refl _, Nat.le_refl _, fun _ => rfl⟩
theorem Ex.to {h' : Heap} {tk : Nat} (e : Ex z g z' g') : Ex z g ⟨z'.ρ, z'.nw, h', tk, z'.g⟩ g' := e.trans Ex.same
theorem Led.get (H : Led Γ R g ρ nw) {k : Nat} {so : SO} {a : Addr} (h : g.σ[k]? = some so) (ha : ρ[k]? = some a) : ∃ o, nw[k]? = some (a, o) ∧ (a, o) ∈ nw ∧ RO Γ.prog Γ.w ρ so o := by
  have hk : k < nw.length := by rw [← H.len]; exact (List.getElem?_eq_some_iff.mp h).1
  have e : nw[k]? = some nw[k] := List.getElem?_eq_getElem hk
  have e1 : ρ[k]? = some nw[k].1 := by rw [← H.map, List.getElem?_map, e]; rfl
  rw [e1] at ha
  obtain rfl := Option.some.inj ha
  exact ⟨nw[k].2, e, List.getElem_mem hk, H.obj k so _ h e⟩
theorem map_set {l : List (Addr × Obj)} : ∀ {k : Nat} {a : Addr} {o o' : Obj}, l[k]? = some (a, o) → (l.set k (a, o')).map (·.1) = l.map (·.1) := by
  induction l with
  | nil => intro k a o o' h; cases h
  | cons p l ih =>
    intro k a o o' h
    cases k with
    | zero => cases h; rfl
    | succ k => rw [List.set_cons_succ, List.map_cons, List.map_cons, ih h]
theorem Led.set (H : Led Γ R g ρ nw) {k : Nat} {a : Addr} {o o' : Obj} {so : SO} (h : nw[k]? = some (a, o)) (r : RO Γ.prog Γ.w ρ so o') (lo : isD so = true → (a == sysModules) = false) : Led Γ R (setO g k so) ρ (nw.set k (a, o')) where
  map := (map_set h).trans H.map
  nd := H.nd
  lo := fun j so' b e1 e0 e2 => by
    have e1' : (g.σ.set k so)[j]? = some so' := e1
    by_cases hj : k = j
    · subst hj
      have hk : k < nw.length := (List.getElem?_eq_some_iff.mp h).1
      rw [List.getElem?_set_self (by rw [H.len]; exact hk)] at e1'
      have e3 : ρ[k]? = some a := by rw [← H.map, List.getElem?_map, h]; rfl
      rw [e3] at e2
      obtain rfl := Option.some.inj e2
      obtain rfl := Option.some.inj e1'
      exact lo e0
    · rw [List.getElem?_set_ne hj] at e1'
      exact H.lo j so' b e1' e0 e2
  len := by show (g.σ.set k so).length = _; rw [List.length_set, List.length_set]; exact H.len
  obj := fun j so' p e1 e2 => by
    have e1' : (g.σ.set k so)[j]? = some so' := e1
    by_cases hj : k = j
    · subst hj
      have hk : k < nw.length := (List.getElem?_eq_some_iff.mp h).1
      rw [List.getElem?_set_self (by rw [H.len]; exact hk)] at e1'
      rw [List.getElem?_set_self hk] at e2
      cases e1'
      cases e2
      exact r
    · rw [List.getElem?_set_ne hj] at e1' e2
      exact H.obj j so' p e1' e2
  sep := fun p hp q hq => by
    have : q.1 ∈ (nw.set k (a, o')).map (·.1) := List.mem_map_of_mem hq
    rw [map_set h] at this
    obtain ⟨q', hq', e⟩ := List.mem_map.mp this
    rw [← e]
    exact H.sep p hp q' hq'
  tl := by show (incr g.τ k).length = (g.σ.set k so).length; rw [zgu, List.length_set, H.tl]
theorem Led.push (H : Led Γ R g ρ nw) {D : Addr} {o : Obj} {so : SO} (hD : ∀ p ∈ nw, p.1 ≠ D) (hR : ∀ p ∈ R, p.1 ≠ D) (lo : isD so = true → (D == sysModules) = false) (r : RO Γ.prog Γ.w (ρ ++ [D]) so o) : Led Γ R (mkO so g).2 (ρ ++ [D]) (nw ++ [(D, o)]) where
  map := by rw [List.map_append, H.map]; rfl
  nd := by
    refine List.nodup_append.mpr ⟨H.nd, List.nodup_cons.mpr ⟨List.not_mem_nil, List.nodup_nil⟩, fun a ha b hb e => ?_⟩
    rw [List.mem_singleton.mp hb] at e
    rw [← H.map] at ha
    obtain ⟨p, hp, rfl⟩ := List.mem_map.mp ha
    exact absurd e (hD p hp)
  lo := fun j so' a e1 e0 e2 => by
    have hl : ρ.length = nw.length := by rw [← H.map, List.length_map]
    have e1' : (g.σ ++ [so])[j]? = some so' := e1
    by_cases hj : j < nw.length
    · rw [List.getElem?_append_left (by rw [H.len]; exact hj)] at e1'
      rw [List.getElem?_append_left (by rw [hl]; exact hj)] at e2
      exact H.lo j so' a e1' e0 e2
    · have hj' := Nat.le_of_not_lt hj
      rw [List.getElem?_append_right (by rw [H.len]; exact hj'), H.len] at e1'
      rw [List.getElem?_append_right (by rw [hl]; exact hj'), hl] at e2
      generalize j - nw.length = i at e1' e2
      cases i with
      | zero => cases e1'; cases e2; exact lo e0
      | succ i => cases e1'
  len := by show (g.σ ++ [so]).length = _; rw [List.length_append, List.length_append, H.len]; rfl
  obj := fun j so' p e1 e2 => by
    have e1' : (g.σ ++ [so])[j]? = some so' := e1
    by_cases hj : j < nw.length
    · rw [List.getElem?_append_left hj] at e2
      rw [List.getElem?_append_left (by rw [H.len]; exact hj)] at e1'
      exact (H.obj j so' p e1' e2).mono Ext.snoc
    · have hj' := Nat.le_of_not_lt hj
      rw [List.getElem?_append_right hj'] at e2
      rw [List.getElem?_append_right (by rw [H.len]; exact hj'), H.len] at e1'
      generalize j - nw.length = i at e1' e2
      cases i with
      | zero => cases e1'; cases e2; exact r
      | succ i => cases e1'
  sep := fun p hp q hq => by
    rcases List.mem_append.mp hq with hq | hq
    · exact H.sep p hp q hq
    · rw [List.mem_singleton.mp hq]; exact hR p hp
  tl := by show (g.τ ++ [0]).length = (g.σ ++ [so]).length; rw [List.length_append, List.length_append, H.tl]; rfl
theorem Led.ne (H : Led Γ R g ρ nw) {i j : Nat} (hij : i ≠ j) {p q : Addr × Obj} (hp : nw[i]? = some p) (hq : nw[j]? = some q) : p.1 ≠ q.1 := by
  intro e
  have e1 : ρ[i]? = some p.1 := by rw [← H.map, List.getElem?_map, hp]; rfl
  have e2 : ρ[j]? = some q.1 := by rw [← H.map, List.getElem?_map, hq]; rfl
  have h1 := (List.getElem?_eq_some_iff.mp e1).2
  have h2 := (List.getElem?_eq_some_iff.mp e2).2
  exact hij ((List.getElem_inj H.nd).mp (h1.trans (e.trans h2.symm)))
end
theorem zgf : ∀ {l : List (Addr × Obj)} {k : Nat} {a : Addr} {o : Obj} {rest : List (Addr × Obj)}, l[k]? = some (a, o) → (∀ j q, j ≠ k → l[j]? = some q → q.1 ≠ a) → (∀ p ∈ rest, p.1 ≠ a) → UpdF a o (l ++ rest) (fun o' => l.set k (a, o') ++ rest)
  | [], _, _, _, _, h, _, _ => by cases h
  | p :: l, 0, a, o, rest, h, h1, h2 => by
    cases h
    refine UpdF.head fun q hq => ?_
    rcases List.mem_append.mp hq with hq | hq
    · obtain ⟨j, hj⟩ := List.getElem?_of_mem hq
      exact h1 (j + 1) q (by omega) hj
    · exact h2 q hq
  | p :: l, k + 1, a, o, rest, h, h1, h2 => UpdF.tail (h1 0 p (by omega) rfl) (zgf h (fun j q hj hq => h1 (j + 1) q (by omega) hq) h2)
section
variable {Γ : Gm} {c : Cx} {f : Fi} {M : Str → Option Value} {z : Zs} {g g1 g' : Sg} {h' : Heap} {D a : Addr} {o o' : Obj} {so : SO} {k tk : Nat} {s : Shared} {Q : Value → Shared → Prop} {u v : SV} {V : Value}
theorem Cor.same (H : Cor Γ c M g z) (F' : Fr c.h₀ c.L h' M) (N' : News c.h₀ c.L h' (z.nw ++ c.rest)) : Cor Γ c M g ⟨z.ρ, z.nw, h', tk, z.g⟩ := ⟨F', N', H.led⟩
theorem Cor.toks (H : Cor Γ c M g z) : Cor Γ c M g ⟨z.ρ, z.nw, z.h, tk, z.g⟩ := ⟨H.F, H.N, H.led⟩
theorem Led.new (H : Led Γ c.rest g z.ρ z.nw) (F' : Fr c.h₀ c.L h' M) (N' : News c.h₀ c.L h' ((D, o) :: (z.nw ++ c.rest))) (hD : ∀ p ∈ z.nw ++ c.rest, p.1 ≠ D) (lo : isD so = true → (D == sysModules) = false) (r : RO Γ.prog Γ.w (z.ρ ++ [D]) so o) :
    Cor Γ c M (mkO so g).2 ⟨z.ρ ++ [D], z.nw ++ [(D, o)], h', tk, z.g⟩ where
  F := F'
  N := fun p hp => N' p (by
    rcases List.mem_append.mp hp with hp | hp
    · rcases List.mem_append.mp hp with hp | hp
      · exact .tail _ (List.mem_append.mpr (.inl hp))
      · rw [List.mem_singleton.mp hp]; exact .head _
    · exact .tail _ (List.mem_append.mpr (.inr hp)))
  led := H.push (fun p hp => hD p (List.mem_append.mpr (.inl hp))) (fun p hp => hD p (List.mem_append.mpr (.inr hp))) lo r
theorem Cor.new (H : Cor Γ c M g z) (F' : Fr c.h₀ c.L h' M) (N' : News c.h₀ c.L h' ((D, o) :: (z.nw ++ c.rest))) (hD : ∀ p ∈ z.nw ++ c.rest, p.1 < D) (lo : isD so = true → (D == sysModules) = false) (r : RO Γ.prog Γ.w (z.ρ ++ [D]) so o) :
    Cor Γ c M (mkO so g).2 ⟨z.ρ ++ [D], z.nw ++ [(D, o)], h', tk, z.g⟩ := H.led.new F' N' (fun p hp => Nat.ne_of_lt (hD p hp)) lo r
theorem Cor.upd (H : Cor Γ c M g z) (hk : z.nw[k]? = some (a, o)) : UpdF a o (z.nw ++ c.rest) (fun o' => z.nw.set k (a, o') ++ c.rest) :=
  zgf hk (fun _ _ hj hq => H.led.ne hj hq hk) fun p hp => H.led.sep p hp (a, o) (List.mem_of_getElem? hk)
theorem Cor.put (H : Cor Γ c M g z) (hk : z.nw[k]? = some (a, o)) (F' : Fr c.h₀ c.L h' M) (N' : News c.h₀ c.L h' (z.nw.set k (a, o') ++ c.rest)) (lo : isD so = true → (a == sysModules) = false) (r : RO Γ.prog Γ.w z.ρ so o') :
    Cor Γ c M (setO g k so) ⟨z.ρ, z.nw.set k (a, o'), h', tk, z.g⟩ := ⟨F', N', H.led.set hk r lo⟩
theorem Led.exNew {R : List (Addr × Obj)} (H : Led Γ R g z.ρ z.nw) : Ex z g ⟨z.ρ ++ [D], z.nw ++ [(D, o)], h', tk, z.g⟩ (mkO so g).2 :=
  ⟨Ext.snoc, fun j t e => by
    have hj : j < g.τ.length := (List.getElem?_eq_some_iff.mp e).1
    have hs : j < g.σ.length := by rw [← H.tl]; exact hj
    have hn : j < z.nw.length := by rw [← H.len]; exact hs
    exact ⟨t, (List.getElem?_append_left hj).trans e, Nat.le_refl _, fun _ => ⟨List.getElem?_append_left hs, List.getElem?_append_left hn⟩⟩, GRow.refl _, Nat.le_refl _, fun _ => rfl⟩
theorem zfd {p' : Addr × Obj} : Ex z g ⟨z.ρ, z.nw.set k p', h', tk, z.g⟩ (setO g k so) :=
  ⟨Ext.refl, fun j t e => by
    by_cases hj : j = k
    · subst hj
      exact ⟨t + 1, f7 e, Nat.le_succ _, fun q => absurd q (Nat.succ_ne_self t)⟩
    · exact ⟨t, (zjq hj).trans e, Nat.le_refl _, fun _ => ⟨List.getElem?_set_ne fun z => hj z.symm, List.getElem?_set_ne fun z => hj z.symm⟩⟩, GRow.refl _, Nat.le_refl _, fun _ => rfl⟩
inductive OAt (Γ : Gm) (c : Cx) (z : Zs) (k : Nat) (so : SO) (V : Value) : Prop
  | mk (D : Addr) (o : Obj) : V = .ref D → z.ρ[k]? = some D → z.nw[k]? = some (D, o) → (D, o) ∈ z.nw ++ c.rest → RO Γ.prog Γ.w z.ρ so o → OAt Γ c z k so V
theorem Cor.obj (H : Cor Γ c M g z) (hV : RV z.ρ (.obj k) V) (hs : g.σ[k]? = some so) : OAt Γ c z k so V := by
  obtain ⟨a, ha, rfl⟩ := hV
  obtain ⟨o, h1, h2, h3⟩ := H.led.get hs ha
  exact ⟨a, o, rfl, ha, h1, List.mem_append.mpr (.inl h2), h3⟩
theorem Led.size {R : List (Addr × Obj)} (H : Led Γ R g z.ρ z.nw) : z.ρ.length = g.σ.length := by rw [← H.map, H.len, List.length_map]
theorem d7 {R : List (Addr × Obj)} (H : Led Γ R g z.ρ z.nw) : RV (z.ρ ++ [D]) (.obj g.σ.length) (.ref D) := ⟨D, by rw [← H.size]; simp, rfl⟩
noncomputable def Got (Γ : Gm) (c : Cx) (M : Str → Option Value) (g : Sg) (z : Zs) (s : Shared) (Q : Value → Shared → Prop) (v : SV) (g' : Sg) : Prop :=
  ∀ V z', Ex z g z' g' → RV z'.ρ v V → Cor Γ c M g' z' → Q V (z'.sh s)
theorem Got.of (G : Got Γ c M g z s Q v g') (h : some (u, g1) = some (v, g')) : Got Γ c M g z s Q u g1 := by cases h; exact G
theorem Got.of' (G : Got Γ c M g z s Q v g') (h : (u, g1) = (v, g')) : Got Γ c M g z s Q u g1 := by cases h; exact G
theorem Got.after {z1 : Zs} (G : Got Γ c M g z s Q v g') (e : Ex z g z1 g1) : Got Γ c M g1 z1 s Q v g' := fun V z' e' hv hn => G V z' (e.trans e') hv hn
theorem Got.now (G : Got Γ c M g z s Q v g) (hV : RV z.ρ v V) (H : Cor Γ c M g z) : Q V { z.sh s with toks := tk } := G V ⟨z.ρ, z.nw, z.h, tk, z.g⟩ Ex.same hV H.toks
theorem Got.new (G : Got Γ c M g z s Q (mkO so g).1 (mkO so g).2) (H : Cor Γ c M g z) (F' : Fr c.h₀ c.L h' M) (N' : News c.h₀ c.L h' ((D, o) :: (z.nw ++ c.rest))) (hD : ∀ p ∈ z.nw ++ c.rest, p.1 < D) (lo : isD so = true → (D == sysModules) = false) (r : RO Γ.prog Γ.w (z.ρ ++ [D]) so o) :
    Q (.ref D) { z.sh s with heap := h', toks := tk } := G _ ⟨_, _, _, tk, _⟩ H.led.exNew (d7 H.led) (H.new F' N' hD lo r)
theorem Got.put (G : Got Γ c M g z s Q v (setO g k so)) (H : Cor Γ c M g z) (hv : RV z.ρ v V) (hk : z.nw[k]? = some (a, o)) (F' : Fr c.h₀ c.L h' M) (N' : News c.h₀ c.L h' (z.nw.set k (a, o') ++ c.rest)) (lo : isD so = true → (a == sysModules) = false) (r : RO Γ.prog Γ.w z.ρ so o') :
    Q V { z.sh s with heap := h', toks := tk } := G _ ⟨_, _, _, tk, _⟩ zfd hv (H.put hk F' N' lo r)
theorem Got.same (G : Got Γ c M g z s Q v g) (H : Cor Γ c M g z) (hv : RV z.ρ v V) (F' : Fr c.h₀ c.L h' M) (N' : News c.h₀ c.L h' (z.nw ++ c.rest)) : Q V { z.sh s with heap := h', toks := tk } := G _ ⟨_, _, _, tk, _⟩ Ex.same hv (H.same F' N')
end
theorem zah {n : Nat} (h : small n = true) : n ≤ 100000 := Nat.le_of_ble_eq_true h
theorem zbs : ∀ {i : Int} {n : Nat}, natS i = some n → i = (n : Int)
  | .ofNat _, _, h => by cases h; rfl
  | .negSucc _, _, h => by cases h
theorem bind_some {α β : Type} {x : Option α} {f : α → Option β} {y : β} (h : x.bind f = some y) : ∃ a, x = some a ∧ f a = some y := Option.bind_eq_some_iff.mp h
theorem zbv {α : Type} {b : Bool} {x : Option α} {y : α} (h : zad b x = some y) : b = true ∧ x = some y := by
  cases b with
  | true => exact ⟨rfl, h⟩
  | false => cases h
theorem zab {α β : Type} {x : Option α} {f : α → Option β} {y : β} {P : Prop} (h : x.bind f = some y) (k : ∀ a, x = some a → f a = some y → P) : P :=
  have ⟨a, h1, h2⟩ := bind_some h
  k a h1 h2
theorem zac {α γ β : Type} {x : Option (α × γ)} {f : α → γ → Option β} {y : β} {P : Prop} (h : zaf x f = some y) (k : ∀ a b, x = some (a, b) → f a b = some y → P) : P := by
  cases x with
  | none => cases h
  | some p => exact k p.1 p.2 rfl h
theorem zcp {α β γ δ ε : Type} {x : Option (α × β × γ × δ)} {f : α → β → γ → δ → Option ε} {y : ε} {P : Prop} (h : zmr x f = some y) (k : ∀ q : α × β × γ × δ, x = some q → f q.1 q.2.1 q.2.2.1 q.2.2.2 = some y → P) : P := by
  cases x with
  | none => cases h
  | some q => exact k q rfl h
theorem zag {α β : Type} {x : Option α} {f : α → β} {y : β} {P : Prop} (h : x.map f = some y) (k : ∀ a, x = some a → f a = y → P) : P :=
  have ⟨a, h1, h2⟩ := Option.map_eq_some_iff.mp h
  k a h1 h2
theorem f4 {α γ β : Type} {x : Option (α × γ)} {f : α × γ → β} {y : β} {P : Prop} (h : x.map f = some y) (k : ∀ a b, x = some (a, b) → f (a, b) = y → P) : P :=
  have ⟨a, h1, h2⟩ := Option.map_eq_some_iff.mp h
  k a.1 a.2 h1 h2
theorem zaa {α : Type} {b : Bool} {x : Option α} {y : α} {P : Prop} (h : zad b x = some y) (k : b = true → x = some y → P) : P := k (zbv h).1 (zbv h).2
theorem zae {a b : Bool} {P : Prop} (h : (a && b) = true) (k : a = true → b = true → P) : P := k (Bool.and_eq_true_iff.mp h).1 (Bool.and_eq_true_iff.mp h).2
theorem map_some {α β : Type} {x : Option α} {f : α → β} {y : β} (h : x.map f = some y) : ∃ a, x = some a ∧ f a = y := Option.map_eq_some_iff.mp h
theorem zak : ∀ {r : Option (Out × Sg)} {p : SV × Sg}, asV r = some p → r = some (.v p.1, p.2)
  | some (.v _, _), _, h => by cases h; rfl
  | some (.vs _, _), _, h | some (.b _, _), _, h | some (.f _, _), _, h | none, _, h => by cases h
theorem b6 : ∀ {r : Option (Out × Sg)} {p : List SV × Sg}, asVs r = some p → r = some (.vs p.1, p.2)
  | some (.vs _, _), _, h => by cases h; rfl
  | some (.v _, _), _, h | some (.b _, _), _, h | some (.f _, _), _, h | none, _, h => by cases h
theorem zbu : ∀ {r : Option (Out × Sg)} {p : Bool × Sg}, asB r = some p → r = some (.b p.1, p.2)
  | some (.b _, _), _, h => by cases h; rfl
  | some (.v _, _), _, h | some (.vs _, _), _, h | some (.f _, _), _, h | none, _, h => by cases h
theorem zct : ∀ {r : Option (Out × Sg)} {p : (Fl × Fi) × Sg}, asF r = some p → r = some (.f p.1, p.2)
  | some (.f _, _), _, h => by cases h; rfl
  | some (.v _, _), _, h | some (.vs _, _), _, h | some (.b _, _), _, h | none, _, h => by cases h
theorem zay {v : SV} {i : Int} : vI v = some i → v = .int i := by cases v <;> intro h <;> cases h <;> rfl
theorem zfn {v : SV} {l : List Int} : vB v = some l → v = .bytes l := by cases v <;> intro h <;> cases h <;> rfl
theorem c6 {v : SV} {x : Str} : vS v = some x → v = .str x := by cases v <;> intro h <;> cases h <;> rfl
theorem vV_eq {v : SV} {x : Value} : vV v = some x → v = .val x := by cases v <;> intro h <;> cases h <;> rfl
theorem vR_eq {v : Value} {a : Addr} : vR v = some a → v = .ref a := by cases v <;> intro h <;> cases h <;> rfl
theorem zsa {o : SO} {l : List SV} : soL o = some l → o = .list l := by cases o <;> intro h <;> cases h <;> rfl
theorem zix {o : SO} {l : List SV} : soT o = some l → o = .tup l := by cases o <;> intro h <;> cases h <;> rfl
theorem zsc {o : SO} {l : List (Int × SV)} : soD o = some l → o = .dict l := by cases o <;> intro h <;> cases h <;> rfl
theorem zsb {o : SO} {q : Addr × Nat} : soI o = some q → o = .inst q.1 q.2 := by cases o <;> intro h <;> cases h <;> rfl
theorem zse {o : SO} {l : List (Str × SV)} : soA o = some l → o = .att l := by cases o <;> intro h <;> cases h <;> rfl
theorem soV_eq {o : SO} {d : Nat} : soV o = some d → o = .vals d := by cases o <;> intro h <;> cases h <;> rfl
theorem zry : ∀ {o : SO} {l : List (Str × SV)}, soS o = some l → o = .sdict l ∨ (o = .dict [] ∧ l = [])
  | .sdict _, _, h => by cases h; exact .inl rfl
  | .dict [], _, h => by cases h; exact .inr ⟨rfl, rfl⟩
  | .dict (_ :: _), _, h => by cases h
  | .list _, _, h | .tup _, _, h | .vals _, _, h | .inst _ _, _, h | .att _, _, h | .cell _, _, h | .bdict _, _, h | .pdict _, _, h | .keys _, _, h => by cases h
theorem zsd : ∀ {o : SO} {l : List (List Int × SV)}, soB o = some l → o = .bdict l ∨ (o = .dict [] ∧ l = [])
  | .bdict _, _, h => by cases h; exact .inl rfl
  | .dict [], _, h => by cases h; exact .inr ⟨rfl, rfl⟩
  | .dict (_ :: _), _, h => by cases h
  | .list _, _, h | .tup _, _, h | .vals _, _, h | .inst _ _, _, h | .att _, _, h | .cell _, _, h | .sdict _, _, h | .pdict _, _, h | .keys _, _, h => by cases h
theorem zrz : ∀ {o : SO} {l : List ((Nat × Int × Int) × Int)}, soP o = some l → o = .pdict l ∨ (o = .dict [] ∧ l = [])
  | .pdict _, _, h => by cases h; exact .inl rfl
  | .dict [], _, h => by cases h; exact .inr ⟨rfl, rfl⟩
  | .dict (_ :: _), _, h => by cases h
  | .list _, _, h | .tup _, _, h | .vals _, _, h | .inst _ _, _, h | .att _, _, h | .cell _, _, h | .sdict _, _, h | .bdict _, _, h | .keys _, _, h => by cases h
theorem soK_eq {o : SO} {d : Nat} : soK o = some d → o = .keys d := by cases o <;> intro h <;> cases h <;> rfl
theorem soC_eq : ∀ {o : SO} {v : SV}, soC o = some v → o = .cell (some v)
  | .cell _, _, h => congrArg SO.cell h
  | .list _, _, h | .tup _, _, h | .vals _, _, h | .inst _ _, _, h | .att _, _, h | .dict _, _, h | .sdict _, _, h | .bdict _, _, h | .pdict _, _, h | .keys _, _, h => by cases h
theorem zbm {α : Type} {l : List α} {x : α} : one l = some x → l = [x] := by
  cases l with
  | nil => intro h; cases h
  | cons y r => cases r <;> intro h <;> cases h <;> rfl
theorem zbw {α : Type} {l : List α} {x : α × α} (h : two l = some x) : l = [x.1, x.2] := by
  cases l with
  | nil => cases h
  | cons y r =>
    obtain ⟨z, h1, rfl⟩ := map_some (show (one r).map (fun z => (y, z)) = some x from h)
    rw [zbm h1]
theorem zdz {α : Type} {l : List α} {x : α × α × α} (h : zit l = some x) : l = [x.1, x.2.1, x.2.2] := by
  cases l with
  | nil => cases h
  | cons y r =>
    obtain ⟨z, h1, rfl⟩ := map_some (show (two r).map (fun z => (y, z)) = some x from h)
    rw [zbw h1]
theorem zas {σ : List SO} {v : SV} {k : Nat} {o : SO} (h : oO σ v = some (k, o)) : v = .obj k ∧ σ[k]? = some o := by
  cases v with
  | obj j => obtain ⟨so, h1, h2⟩ := map_some (show (nthS σ j).map (fun so => (j, so)) = some (k, o) from h); cases h2; exact ⟨rfl, (zao _ _).symm.trans h1⟩
  | _ => cases h
theorem zhk {α : Type} {f : SO → Option α} {g : α → SO} (hf : ∀ o l, f o = some l → o = g l) {σ : List SO} {v : SV} {k : Nat} {l : α} (h : ((oO σ v).bind fun p => (f p.2).map fun l => (p.1, l)) = some (k, l)) : v = .obj k ∧ σ[k]? = some (g l) := by
  obtain ⟨q, h1, h2⟩ := bind_some h
  obtain ⟨l', h3, h4⟩ := map_some h2
  cases h4
  obtain ⟨e1, e2⟩ := zas h1
  rw [hf _ _ h3] at e2
  exact ⟨e1, e2⟩
theorem oP_eq {σ : List SO} {v : SV} {p : Int × Int} (h : oP σ v = some p) : ∃ k, v = .obj k ∧ σ[k]? = some (.tup [.int p.1, .int p.2]) := by
  refine zac h fun k l h1 h => ?_
  refine zac h fun a b h3 h => ?_
  refine zab h fun x h5 h => ?_
  refine zag h fun y h7 h => ?_
  obtain ⟨e1, e2⟩ := zhk (f := soT) (fun _ _ => zix) h1
  rw [show l = [a, b] from zbw h3, zay h5, zay h7] at e2
  subst h
  exact ⟨_, e1, e2⟩
section
variable {Γ : Gm} {c : Cx} {f : Fi} {M : Str → Option Value} {z : Zs} {g : Sg} {a : SV} {V : Value}
theorem Cor.ob (H : Cor Γ c M g z) (hV : RV z.ρ a V) {k : Nat} {so : SO} (e : a = .obj k ∧ g.σ[k]? = some so) : OAt Γ c z k so V := H.obj (e.1 ▸ hV) e.2
inductive LAt (c : Cx) (z : Zs) (k : Nat) (l : List SV) (V : Value) : Prop
  | mk (D : Addr) (vs : List Value) (n : Nat) : V = .ref D → z.nw[k]? = some (D, listOf (List.toArray vs) n) → (D, listOf (List.toArray vs) n) ∈ z.nw ++ c.rest → RVs z.ρ l vs → vs.length = l.length → LAt c z k l V
inductive TAt (c : Cx) (z : Zs) (l : List SV) (V : Value) : Prop
  | mk (D : Addr) (vs : List Value) (n : Nat) : V = .ref D → (D, ({ cls := .type "tuple", data := .seq (List.toArray vs) n } : Obj)) ∈ z.nw ++ c.rest → RVs z.ρ l vs → TAt c z l V
inductive DAt (Γ : Gm) (c : Cx) (z : Zs) (k : Nat) (l : List (Int × SV)) (V : Value) : Prop
  | mk (D : Addr) (o : Obj) (kvs : List (Int × Value)) : V = .ref D → z.ρ[k]? = some D → z.nw[k]? = some (D, o) → (D, o) ∈ z.nw ++ c.rest → o.IsDictOf (PySem.intKind Γ.prog Γ.w) kvs → RKs z.ρ l kvs → (D == sysModules) = false → DAt Γ c z k l V
theorem Cor.list (H : Cor Γ c M g z) (hV : RV z.ρ a V) {k : Nat} {l : List SV} (e : oL g.σ a = some (k, l)) : LAt c z k l V := by
  obtain ⟨D, o, e1, e2, e3, e4, vs, n, rfl, r⟩ := H.ob hV (zhk (f := soL) (fun _ _ => zsa) e)
  exact ⟨D, vs, n, e1, e3, e4, r, r.length⟩
theorem Cor.tup (H : Cor Γ c M g z) (hV : RV z.ρ a V) {k : Nat} {l : List SV} (e : oT g.σ a = some (k, l)) : TAt c z l V := by
  obtain ⟨D, o, e1, e2, e3, e4, vs, n, rfl, r⟩ := H.ob hV (zhk (f := soT) (fun _ _ => zix) e)
  exact ⟨D, vs, n, e1, e4, r⟩
theorem Cor.dict (H : Cor Γ c M g z) (hV : RV z.ρ a V) {k : Nat} {l : List (Int × SV)} (e : oD g.σ a = some (k, l)) : DAt Γ c z k l V := by
  have e' := zhk (f := soD) (fun _ _ => zsc) e
  obtain ⟨D, o, e1, e2, e3, e4, kvs, hd, r⟩ := H.ob hV e'
  exact ⟨D, o, kvs, e1, e2, e3, e4, hd, r, H.led.lo _ _ D e'.2 rfl e2⟩
end
theorem zhr {prog : Program} {w : World} {o : Obj} (h : o.IsDictOf (PySem.intKind prog w) []) : o.IsDictOf (PySem.strKind prog w) [] := by
  obtain ⟨es, ep, h1, h2, h3, h4, h5⟩ := h
  obtain ⟨l⟩ := es
  cases l with
  | nil => exact ⟨_, ep, h1, h2, fun e he => (by simp at he), .nil, List.nodup_nil⟩
  | cons e r => cases h4
theorem RO.sdict {prog : Program} {w : World} {ρ : List Addr} {so : SO} {o : Obj} {l : List (Str × SV)} (h : soS so = some l) (r : RO prog w ρ so o) : ∃ kvs, o.IsDictOf (PySem.strKind prog w) kvs ∧ RKs ρ l kvs := by
  rcases zry h with rfl | ⟨rfl, rfl⟩
  · exact r
  · obtain ⟨kvs, hd, r⟩ := r
    cases r
    exact ⟨[], zhr hd, .nil⟩
theorem zci {b c : Array UInt8} (h : KBw.bInts b = KBw.bInts c) : b = c := by
  apply Array.toList_inj.mp
  unfold KBw.bInts at h
  exact (List.map_inj_right (fun x y (e : ((x.toNat : Nat) : Int) = ((y.toNat : Nat) : Int)) => UInt8.toNat_inj.mp (Int.ofNat.inj e))).mp h
theorem zfw {prog : Program} {w : World} {o : Obj} (h : o.IsDictOf (PySem.intKind prog w) []) : o.IsDictOf (bytesKind prog w) [] := by
  obtain ⟨es, ep, h1, h2, h3, h4, h5⟩ := h
  obtain ⟨l⟩ := es
  cases l with
  | nil => exact ⟨_, ep, h1, h2, fun e he => (by simp at he), .nil, List.nodup_nil⟩
  | cons e r => cases h4
theorem RO.bdict {prog : Program} {w : World} {ρ : List Addr} {so : SO} {o : Obj} {l : List (List Int × SV)} (h : soB so = some l) (r : RO prog w ρ so o) : ∃ kvs, o.IsDictOf (bytesKind prog w) kvs ∧ RKs ρ l (kvs.map fun kv => (KBw.bInts kv.1.toArray, kv.2)) := by
  rcases zsd h with rfl | ⟨rfl, rfl⟩
  · exact r
  · obtain ⟨kvs, hd, r⟩ := r
    cases r
    exact ⟨[], zfw hd, .nil⟩
theorem ziy {so : SO} {l : List (List Int × SV)} (h : soB so = some l) : isD so = true := by
  rcases zsd h with rfl | ⟨rfl, rfl⟩ <;> rfl
theorem e8 {so : SO} {l : List ((Nat × Int × Int) × Int)} (h : soP so = some l) : isD so = true := by
  rcases zrz h with rfl | ⟨rfl, rfl⟩ <;> rfl
theorem RO.pdict {prog : Program} {w : World} {ρ : List Addr} {so : SO} {o : Obj} {l : List ((Nat × Int × Int) × Int)} (h : soP so = some l) (r : RO prog w ρ so o) : ∃ es ep xs, o.ExactDict ∧ o.data = .dict es ep ∧ es.toList = xs.map (entryOfKey (tupleKind (PySem.intKind prog w))) ∧ (xs.map (·.1)).Nodup ∧ RPs ρ l xs := by
  rcases zrz h with rfl | ⟨rfl, rfl⟩
  · exact r
  · obtain ⟨kvs, ⟨es, ep, h1, h2, h3, h4, h5⟩, r⟩ := r
    cases r
    have he : es.toList = [] := List.length_eq_zero_iff.mp h4.length
    exact ⟨es, ep, [], h1, h2, he, List.nodup_nil, .nil⟩
theorem oP_eq1 {σ : List SO} {k : Nat} {a b : Int} (h : zsk σ k a b = true) : oP σ (.obj k) = some (a, b) := by
  have h' : (match oP σ (.obj k) with | some q => decide (q.1 = a) && decide (q.2 = b) | none => false) = true := h
  cases e : oP σ (.obj k) with
  | none => rw [e] at h'; cases h'
  | some q =>
    rw [e] at h'
    refine zae h' fun h1 h2 => ?_
    obtain ⟨x, y⟩ := q
    rw [← of_decide_eq_true h1, ← of_decide_eq_true h2]
theorem zcm : ∀ {a b : List Int}, leqI a b = true ↔ a = b
  | [], [] => ⟨fun _ => rfl, fun _ => rfl⟩
  | [], _ :: _ => ⟨(nomatch ·), (nomatch ·)⟩
  | _ :: _, [] => ⟨(nomatch ·), (nomatch ·)⟩
  | a :: r, b :: s => by
    show (match decide (a = b) with | true => leqI r s | false => false) = true ↔ _
    by_cases e : a = b
    · rw [decide_eq_true e]
      show leqI r s = true ↔ _
      rw [zcm, e]
      simp
    · rw [decide_eq_false e]
      exact ⟨fun q => (by cases q), fun q => absurd (List.cons.inj q).1 e⟩
theorem e7 {so : SO} {l : List (Str × SV)} (h : soS so = some l) : isD so = true := by
  rcases zry h with rfl | ⟨rfl, rfl⟩ <;> rfl
structure Orx (Γ : Gm) (kf : Nat) (c : Cx) : Prop where
  hand : c.A.handled = Option.none
  stk : ∃ outer A₀ base, c.A.frames = some (c.fenv :: outer) ∧ Below A₀ base outer c.h₀
  fr : c.fenv.frame = some c.L
  fk : c.fenv.scope.kind = .function
  dep : c.A.depth + 2 * kf < recursionLimit
  uni : c.A.units + 5 * kf + 70 < cLine
  X : Γ.K.In c.h₀
  T : Top Γ.p Γ.loose Γ.mean Γ.mg Γ.mb c.h₀
  gd : ∀ a, memA a Γ.gd = true → (∃ es n, Γ.K.lookup a = some ⟨.type "dict", none, .dict es n, #[]⟩ ∧ KeysLit Γ.w.params es.toList) ∧ (a == sysModules) = false
structure RCx (Γ : Gm) (kf : Nat) (c : Cx) : Prop extends Orx Γ kf c where
  k : c.env.scope.kind = .function
  gl : c.env.globals = mainGlobals
  bl : c.env.builtins = builtinsNs
  fn : c.cmp = none → c.env.locals = c.L
  cp : ∀ N, c.cmp = some N → ∃ o, (c.env.locals, o) ∈ c.rest ∧ LCg.NsObj o N
section
variable {Γ : Gm} {kf : Nat} {c : Cx} {f : Fi} {M : Str → Option Value} {z : Zs} {g : Sg} {s : Shared} {Q : Value → Shared → Prop} {v : SV}
theorem Orx.units (C : Orx Γ kf c) : c.A.units < cLine := by have := C.uni; omega
theorem Orx.room (C : Orx Γ kf c) : c.A.units + 1 < cLine := by have := C.uni; omega
theorem Orx.room64 (C : Orx Γ kf c) : c.A.units + 64 < cLine := by have := C.uni; omega
theorem Orx.lower (C : Orx Γ (kf + 1) c) : Orx Γ kf c := ⟨C.hand, C.stk, C.fr, C.fk, by have := C.dep; omega, by have := C.uni; omega, C.X, C.T, C.gd⟩
theorem bltT_eq : ∀ p ∈ bltT, bootBuiltins p.1 = some p.2 ∧ p.1 ≠ "__name__" := by
  unfold bltT
  simp only [List.forall_mem_cons]
  exact ⟨⟨by boot_fast, by decide⟩, ⟨by boot_fast, by decide⟩, ⟨by boot_fast, by decide⟩, ⟨by boot_fast, by decide⟩, ⟨by boot_fast, by decide⟩, ⟨by boot_fast, by decide⟩, ⟨by boot_fast, by decide⟩, ⟨by boot_fast, by decide⟩, ⟨by boot_fast, by decide⟩, fun _ h => (nomatch h)⟩
theorem c8 {ρ : List Addr} {v : Value} {u : SV} (h : zca v = some u) : RV ρ u v := by
  cases v <;> cases h
  · exact ⟨_, rfl⟩
  · exact ⟨_, rfl⟩
  · exact ⟨_, _, rfl, rfl⟩
  · exact rfl
theorem zew {x : Str} (h : zda x = true) : (x == ("__debug__" : Str)) = false := by
  unfold zda at h
  simpa using h
theorem b8 {sc : List (Str × NameKind)} {x : Str} (h : zat sc x = true) : sc.lookup x = some .local ∧ (x == ("__debug__" : Str)) = false := by
  unfold zat at h
  rw [zap] at h
  cases e : sc.lookup x with
  | none => rw [e] at h; cases h
  | some k =>
    rw [e] at h
    cases k with
    | «local» => exact ⟨rfl, zew h⟩
    | _ => cases h
theorem Frm.kind {ρ : List Addr} (H : Frm c f M ρ) (x : Str) : c.env.kindOf x = f.sc.lookup x := by
  show c.env.scope.names.lookup x = _
  rw [H.nm]
theorem Cor.ns (H : Cor Γ c M g z) (C : RCx Γ kf c) : z.h.Ns c.env.locals (c.cur M) := by
  unfold Cx.cur
  cases e : c.cmp with
  | none => rw [C.fn e]; exact H.F.ns
  | some N =>
    obtain ⟨o, ho, hn⟩ := C.cp N e
    exact hn.ns (H.N _ (List.mem_append.mpr (.inr ho))).1
theorem zkg (H : Cor Γ c M g z) (fr : Frm c f M z.ρ) {x : Str} (h : cellS f g x = some v) : ∃ a o V, c.env.cells.lookup x = some a ∧ (a, o) ∈ z.nw ++ c.rest ∧ o.data = .cell (some V) ∧ RV z.ρ v V := by
  refine zab h fun k h1 h => ?_
  refine zab h fun so h2 h => ?_
  obtain rfl := soC_eq h
  obtain ⟨a, h3, h4⟩ := fr.ce x k h1
  obtain ⟨a', o, e, h5, h6, h7, V, hd, W, rfl, hr⟩ := H.obj (V := .ref a) ⟨a, h4, rfl⟩ h2
  cases e
  exact ⟨a, o, W, h3, h7, hd, hr⟩
theorem zfr {x : Str} {pos : Pos} (h : zez Γ.K f g x = some v) (C : RCx Γ kf c) (fr : Frm c f M z.ρ) (H : Cor Γ c M g z) (G : ∀ V, RV z.ρ v V → Q V (z.sh s)) :
    wpAny (model Γ.prog Γ.w) c.A (eval (.Name x pos) c.env) Q c.E (z.sh s) := by
  have hkx := fr.kind x
  unfold zez at h
  cases hm : look f.m x with
  | some u =>
    rw [hm] at h
    cases h
    obtain ⟨hl, V, hV, hr⟩ := fr.rm x _ hm
    exact wpAny_Name (wpAny_loadName_local C.k (hkx.trans (b8 hl).1) (H.ns C) hV (G V hr)) (b8 hl).2
  | none =>
    rw [hm] at h
    cases hd : zda x with
    | false => rw [hd] at h; cases h
    | true =>
      have hd' := zew hd
      rw [hd] at h
      cases hk : look f.sc x with
      | none => rw [hk] at h; cases h
      | some nk =>
        rw [hk] at h
        rw [zap] at hk
        rw [hk] at hkx
        cases nk with
        | cell =>
          obtain ⟨a, o, V, h1, h2, h3, hr⟩ := zkg H fr h
          exact wpAny_Name (wpAny_loadName_cell C.k hkx h1 ⟨o, (H.N _ h2).1, h3⟩ (G V hr)) hd'
        | free =>
          refine zaa h fun hn h => ?_
          obtain ⟨a, o, V, h1, h2, h3, hr⟩ := zkg H fr h
          exact wpAny_Name (wpAny_loadName_free C.k hkx h1 ⟨o, (H.N _ h2).1, h3⟩ (G V hr) (by simpa using hn)) hd'
        | globalImplicit =>
          have h' : (match nsIn Γ.K mainGlobals x with | some (some v) => zca v | some none => (look bltT x).map SV.val | none => none) = some v := h
          have T := topRead_of C.T
          have hg : z.h.Ns c.env.globals Γ.mg := C.gl ▸ T.g.keeps H.F.keep
          cases e : nsIn Γ.K mainGlobals x with
          | none => rw [e] at h'; cases h'
          | some r =>
            rw [e] at h'
            cases r with
            | some gv => exact Name_function_global C.k hkx (loadGlobal_global hg (mg_of C.X T.g e) (G gv (c8 h'))) hd'
            | none =>
              refine zag h' fun b hb hrfl => ?_
              subst hrfl
              obtain ⟨h1, h2⟩ := bltT_eq _ (zbk hb)
              exact Name_function_global C.k hkx (loadGlobal_builtin hg (mg_none_of C.X T.g e) (show z.h.Ns c.env.builtins Γ.mb from C.bl ▸ T.b.keeps H.F.keep) ((T.builtins x h2).trans h1) (G b rfl)) hd'
        | _ => cases h
end
section
open PyProof.V
noncomputable def encP (p : Int × Int) : PyData := encTuple PyData.int [p.1, p.2]
theorem encP_eq (p q : Int × Int) : same (encP p) (encP q) = decide (p = q) := by
  unfold encP
  rw [(keyEnc_tuple keyEnc_int).eq]
  obtain ⟨a, b⟩ := p
  obtain ⟨c, d⟩ := q
  simp
noncomputable def PairO (x y : Int) (o : Obj) : Prop := o.cls = .type "tuple" ∧ ∃ t u n, o.data = .seq #[.int x t, .int y u] n
theorem PairO.key {prog : Program} {w : World} {x y : Int} {o : Obj} (h : PairO x y o) : TupKeyObj (intKind prog w) [x, y] o := by
  obtain ⟨hc, t, u, n, hd⟩ := h
  exact ⟨hc, _, n, hd, .cons (intKind_is _ _ _ _) (.cons (intKind_is _ _ _ _) .nil)⟩
theorem PairO.reads {h : Heap} {a : Addr} {o : Obj} {x y : Int} (hp : PairO x y o) (hg : h.get? a = some o) : Reads h (.ref a) (.tuple [.int x, .int y]) [] := by
  obtain ⟨hc, t, u, n, hd⟩ := hp
  exact .tuple hg hc hd (.cons (as := []) (.int _ _) (.cons (as := []) (.int _ _) .nil))
theorem zme (x y x' y' : Int) : PyData.eqv (.tuple [.int x, .int y]) (.tuple [.int x', .int y']) = decide (x = x' ∧ y = y') := by
  by_cases h1 : x = x' <;> by_cases h2 : y = y' <;> simp [PyData.eqv, PyData.eqvAll, h1, h2]
theorem d5 (x y : Int) : SeqAt.shaped (.tuple [.int x, .int y]) = true := by
  unfold SeqAt.shaped
  simp [PyData.canLay0, PyData.canLayAll0, PyData.depth, PyData.depthAll]
section
variable {prog : Program} {w : World} {A : Around} {E : Value → Shared → Prop} {s : Shared} {h₀ : Heap} {L a b : Addr} {m : Str → Option Value} {news : List (Addr × Obj)} {oa ob : Obj} {x y x' y' : Int}
theorem zmf {Q : Value → Shared → Prop} (N : News h₀ L s.heap news) (ha : (a, oa) ∈ news) (hpa : PairO x y oa) (hb : (b, ob) ∈ news) (hpb : PairO x' y' ob) (hu : A.units + 64 < cLine) (h : Q (.bool (decide (x = x' ∧ y = y'))) s) :
    wpAny (model prog w) A (compareOp .Eq (.ref a) (.ref b)) Q E s := by
  refine eq_dataH (hpa.reads (N.get ha)) (hpb.reads (N.get hb)) (d5 _ _) (d5 _ _) hu ?_
  rw [zme]
  exact h
end
noncomputable def datP (l : List ((Nat × Int × Int) × Int)) : List (PyData × PyData) := l.map fun p => (encP p.1.2, PyData.int p.2)
theorem zlh {a b : Nat × Int × Int} : pq a b = true ↔ a.2 = b.2 := by
  obtain ⟨i, x, y⟩ := a
  obtain ⟨j, x', y'⟩ := b
  show (decide (x = x') && decide (y = y')) = true ↔ (x, y) = (x', y')
  simp
theorem zdg {k : Nat} {q : Int × Int} : ∀ {l : List ((Nat × Int × Int) × Int)}, Spec.lookup (encP q) (datP l) = (zaw pq l (k, q)).map PyData.int
  | [] => rfl
  | ((j, p), c) :: r => by
    show Spec.lookup (encP q) ((encP p, PyData.int c) :: datP r) = (match pq (j, p) (k, q) with | true => some c | false => zaw pq r (k, q)).map PyData.int
    rw [Spec.lookup, encP_eq]
    cases h : pq (j, p) (k, q) with
    | true =>
      have e : p = q := zlh.mp h
      rw [if_pos (by rw [e]; simp)]
      rfl
    | false =>
      have e : p ≠ q := fun e => by rw [zlh.mpr (show (j, p).2 = (k, q).2 from e)] at h; cases h
      rw [if_neg (by simpa using e)]
      exact zdg
section
variable {ρ : List Addr} {l : List ((Nat × Int × Int) × Int)} {xs : List (List Int × Addr × Value)}
theorem RPs.flat (r : RPs ρ l xs) : FlatPairs (encTuple PyData.int) (kvsOf xs) (datP l) := by
  induction r with
  | nil => exact .nil
  | cons a _ ih => exact .cons (.int _ _) ih
theorem RPs.length (r : RPs ρ l xs) : xs.length = l.length := by
  induction r with
  | nil => rfl
  | cons _ _ ih => rw [List.length_cons, List.length_cons, ih]
theorem RPs.mem (r : RPs ρ l xs) {x : List Int × Addr × Value} (hx : x ∈ xs) : ∃ k a b c, ((k, a, b), c) ∈ l ∧ x.1 = [a, b] ∧ ρ[k]? = some x.2.1 := by
  induction r with
  | nil => cases hx
  | @cons k a b c T t l xs hk _ ih =>
    rcases List.mem_cons.mp hx with rfl | hx
    · exact ⟨k, a, b, c, .head _, rfl, hk⟩
    · obtain ⟨k', a', b', c', h1, h2, h3⟩ := ih hx
      exact ⟨k', a', b', c', .tail _ h1, h2, h3⟩
theorem zhy {K : Type} [DecidableEq K] {x : K × Addr × Value} {xs : List (K × Addr × Value)} {k : K} : atKey (x :: xs) k = if x.1 = k then some x.2 else atKey xs k := by
  unfold atKey
  by_cases h : x.1 = k
  · rw [if_pos h, List.find?_cons_of_pos (by simpa using h)]; rfl
  · rw [if_neg h, List.find?_cons_of_neg (by simpa using h)]
theorem zsi {a b x y : Int} {k j : Nat} (h : pq (k, a, b) (j, x, y) = true) : [a, b] = [x, y] := by
  have e : (a, b) = (x, y) := zlh.mp h
  rw [(Prod.mk.inj e).1, (Prod.mk.inj e).2]
theorem zgn {a b x y : Int} {k j : Nat} (h : pq (k, a, b) (j, x, y) = false) : [a, b] ≠ [x, y] := fun e => by
  have e1 := (List.cons.inj e).1
  have e2 := (List.cons.inj (List.cons.inj e).2).1
  rw [zlh.mpr (show (a, b) = (x, y) by rw [e1, e2])] at h
  cases h
theorem RPs.at (r : RPs ρ l xs) {j : Nat} {x y : Int} : (atKey xs [x, y]).isSome = (zaw pq l (j, x, y)).isSome := by
  induction r with
  | nil => rfl
  | @cons k a b c T t l xs hk _ ih =>
    rw [zhy]
    show _ = (match pq (k, a, b) (j, x, y) with | true => some c | false => zaw pq l (j, x, y)).isSome
    cases h : pq (k, a, b) (j, x, y) with
    | true => rw [if_pos (zsi h)]; rfl
    | false => rw [if_neg (zgn h)]; exact ih
theorem RPs.put (r : RPs ρ l xs) {j : Nat} {x y c : Int} {t : Tok} : RPs ρ (mapP l (j, x, y) c) (xs.map (putAt [x, y] (.int c t))) := by
  induction r with
  | nil => exact .nil
  | @cons k a b c' T t' l xs hk _ ih =>
    show RPs ρ (match pq (k, a, b) (j, x, y) with | true => ((k, a, b), c) :: mapP l (j, x, y) c | false => ((k, a, b), c') :: mapP l (j, x, y) c) ((if [a, b] = [x, y] then ([a, b], T, Value.int c t) else ([a, b], T, Value.int c' t')) :: xs.map (putAt [x, y] (.int c t)))
    cases h : pq (k, a, b) (j, x, y) with
    | true => rw [if_pos (zsi h)]; exact .cons hk ih
    | false => rw [if_neg (zgn h)]; exact .cons hk ih
theorem RPs.append {l' : List ((Nat × Int × Int) × Int)} {xs' : List (List Int × Addr × Value)} (r : RPs ρ l xs) (r' : RPs ρ l' xs') : RPs ρ (l ++ l') (xs ++ xs') := by
  induction r with
  | nil => exact r'
  | cons a _ ih => exact .cons a ih
theorem RPs.stor (r : RPs ρ l xs) {j : Nat} {x y c : Int} {t : Tok} {T : Addr} (hj : ρ[j]? = some T) : RPs ρ (ztx l (j, x, y) c) (storedH xs [x, y] T (.int c t)) := by
  unfold ztx storedH
  rw [r.at (j := j)]
  cases h : (zaw pq l (j, x, y)).isSome with
  | true => rw [if_pos rfl]; exact r.put
  | false => rw [if_neg Bool.false_ne_true]; exact r.append (.cons hj .nil)
end
theorem kdp_set {prog : Program} {w : World} {A : Around} {E : Value → Shared → Prop} {s : Shared} {h₀ : Heap} {L d a : Addr} {m : Str → Option Value} {news : List (Addr × Obj)} {g : Obj → List (Addr × Obj)} {o ok : Obj} {es : Array DictEntry} {ep : Nat} {xs : List (List Int × Addr × Value)} {x y c : Int} {tc : Tok} {Q : Unit → Shared → Prop}
    (hu : A.units + 1 < cLine) (F : Fr h₀ L s.heap m) (N : News h₀ L s.heap news) (U : UpdF d o news g) (hx : o.ExactDict) (hdat : o.data = .dict es ep) (hes : es.toList = xs.map (entryOfKey (tupleKind (intKind prog w)))) (hnd : (xs.map (·.1)).Nodup)
    (hkeys : ∀ x ∈ xs, ∃ ok, (x.2.1, ok) ∈ news ∧ TupKeyObj (intKind prog w) x.1 ok) (hka : (a, ok) ∈ news) (hp : PairO x y ok) (hz : xs.length ≤ sizeLine)
    (h : ∀ h' o' es' ep' k, Fr h₀ L h' m → News h₀ L h' (g o') → o'.ExactDict → o'.data = .dict es' ep' → es'.toList = (storedH xs [x, y] a (.int c tc)).map (entryOfKey (tupleKind (intKind prog w))) → ((storedH xs [x, y] a (.int c tc)).map (·.1)).Nodup → Q () { s with heap := h', toks := k }) :
    wpAny (model prog w) A (setItem (.ref d) (.ref a) (.int c tc)) Q E s := by
  obtain ⟨pre, post, rfl, hg, a1, b1⟩ := U.split
  have hm := N (d, o) (List.mem_append_right _ (.head _))
  have hD : s.heap.DictOfH (tupleKind (intKind prog w)) d xs := ⟨o, es, ep, hm.1, hx, hdat, hes, fun x hx => let ⟨ok, h1, h2⟩ := hkeys x hx; h2.key (N.get h1), hnd⟩
  refine wpAny_setItem_heap (hsz := hz) (knd := tupleKind (intKind prog w)) (k := [x, y]) (tupleKind_room_in1 hu) (hp.key.key (N.get hka)) hD fun h' hm' hsb => ?_
  obtain ⟨o', es', ep', ho', hc', hd', he', _, hn'⟩ := hm'
  exact h h' o' es' ep' _ (F.change hsb hm.2.1 hm.2.2) (hg o' ▸ N.setIn a1 b1 hsb ho') hc' hd' he' hn'
end
theorem UpdF.upd {d : Addr} {o : Obj} : ∀ {l : List (Addr × Obj)} {g : Obj → List (Addr × Obj)}, UpdF d o l g → ∀ o', Upd d o o' l (g o')
  | _, _, .head h => fun _ => .head h
  | _, _, .tail h r => fun o' => .tail h (UpdF.upd r o')
theorem c7 {i : Expr} (h : c3 i = true) (o k : Value) : subscripted i false o k = operate [o, k] (getItem o k) := by
  cases i <;> first | rfl | cases h
noncomputable def QOk {α : Type} (q : α → α → Bool) : Prop := ∀ a b : α, q a b = true ↔ a = b
theorem iq_ok : QOk iq := fun _ _ => decide_eq_true_iff
theorem ztz : QOk sq := fun _ _ => zbh
theorem zft : QOk leqI := fun _ _ => zcm
theorem zcz {prog : Program} {w : World} {b : Array UInt8} {t : Tok} : (bytesKind prog w).is b.toList (.bytes b t) = true := by simp [bytesKind, isBytes]
theorem zkp {a b : List UInt8} (h : KBw.bInts a.toArray = KBw.bInts b.toArray) : a = b := congrArg Array.toList (zci h)
theorem d3 {b : Array UInt8} : ∀ {kvs : List (List UInt8 × Value)}, valueAt (kvs.map fun kv => (KBw.bInts kv.1.toArray, kv.2)) (KBw.bInts b) = valueAt kvs b.toList
  | [] => rfl
  | (k, v) :: r => by
    unfold valueAt
    by_cases h : k = b.toList
    · rw [List.map_cons, List.find?_cons_of_pos (by subst h; simp), List.find?_cons_of_pos (by simpa using h)]
      rfl
    · rw [List.map_cons, List.find?_cons_of_neg (by simpa using fun e => h (zkp (b := b.toList) e)), List.find?_cons_of_neg (by simpa using h)]
      have := d3 (b := b) (kvs := r)
      unfold valueAt at this
      exact this
theorem any_B {b : Array UInt8} {kvs : List (List UInt8 × Value)} : ((kvs.map fun kv => (KBw.bInts kv.1.toArray, kv.2)).any fun kv => decide (kv.1 = KBw.bInts b)) = kvs.any fun kv => decide (kv.1 = b.toList) := by
  rw [List.any_map]
  refine congrArg (fun p => kvs.any p) (funext fun kv => ?_)
  show decide (KBw.bInts kv.1.toArray = KBw.bInts b) = decide (kv.1 = b.toList)
  rw [decide_eq_decide]
  exact ⟨fun e => zkp (b := b.toList) e, fun e => by rw [e]⟩
theorem zla {b : Array UInt8} {v : Value} {kvs : List (List UInt8 × Value)} : stored (kvs.map fun kv => (KBw.bInts kv.1.toArray, kv.2)) (KBw.bInts b) v = (stored kvs b.toList v).map fun kv => (KBw.bInts kv.1.toArray, kv.2) := by
  unfold stored
  rw [any_B]
  split
  · rw [List.map_map, List.map_map]
    refine List.map_congr_left fun kv _ => ?_
    show (if KBw.bInts kv.1.toArray = KBw.bInts b then _ else _) = _
    by_cases h : kv.1 = b.toList
    · rw [if_pos (by rw [h])]
      show _ = (KBw.bInts (if kv.1 = b.toList then (kv.1, v) else kv).1.toArray, (if kv.1 = b.toList then (kv.1, v) else kv).2)
      rw [if_pos h]
    · rw [if_neg fun e => h (zkp (b := b.toList) e)]
      show _ = (KBw.bInts (if kv.1 = b.toList then (kv.1, v) else kv).1.toArray, (if kv.1 = b.toList then (kv.1, v) else kv).2)
      rw [if_neg h]
  · rw [List.map_append]
    rfl
section
variable {α : Type} [DecidableEq α] {q : α → α → Bool} (hq : QOk q) {ρ : List Addr} {n : α}
include hq
theorem q_no {a b : α} (h : q a b = false) : a ≠ b := fun e => by rw [(hq a b).mpr e] at h; cases h
theorem RKs.look {l : List (α × SV)} {kvs : List (α × Value)} (r : RKs ρ l kvs) : (∀ {v : SV}, zaw q l n = some v → ∃ W, valueAt kvs n = some W ∧ RV ρ v W) ∧ (zaw q l n).isSome = (valueAt kvs n).isSome := by
  induction r with
  | nil => exact ⟨fun h => (by cases h), rfl⟩
  | @cons k u V l L a _ ih =>
    have e0 : zaw q ((k, u) :: l) n = match q k n with | true => some u | false => zaw q l n := rfl
    unfold valueAt at ih ⊢
    cases h : q k n with
    | true =>
      rw [e0, h]
      have e := (hq k n).mp h
      exact ⟨fun h' => (by cases h'; exact ⟨V, by simp [e], a⟩), by simp [e]⟩
    | false =>
      rw [e0, h, List.find?_cons_of_neg (by simpa using q_no hq h)]
      exact ih
theorem RKs.any {l : List (α × SV)} {kvs : List (α × Value)} (r : RKs ρ l kvs) : kvs.any (fun kv => decide (kv.1 = n)) = anyK q l n := by
  induction r with
  | nil => rfl
  | @cons k u V l L a _ ih =>
    show (decide (k = n) || L.any (fun kv => decide (kv.1 = n))) = match q k n with | true => true | false => anyK q l n
    rw [ih]
    cases h : q k n with
    | true => rw [decide_eq_true ((hq k n).mp h)]; rfl
    | false => rw [decide_eq_false (q_no hq h)]; rfl
theorem RKs.map {v : SV} {V : Value} (hv : RV ρ v V) {l : List (α × SV)} {kvs : List (α × Value)} (r : RKs ρ l kvs) : RKs ρ (mapK q l n v) (kvs.map fun kv => if kv.1 = n then (kv.1, V) else kv) := by
  induction r with
  | nil => exact .nil
  | @cons k u U l L a _ ih =>
    show RKs ρ (match q k n with | true => (k, v) :: mapK q l n v | false => (k, u) :: mapK q l n v) ((if k = n then (k, V) else (k, U)) :: L.map fun kv => if kv.1 = n then (kv.1, V) else kv)
    cases h : q k n with
    | true => rw [if_pos ((hq k n).mp h)]; exact .cons hv ih
    | false => rw [if_neg (q_no hq h)]; exact .cons a ih
omit hq [DecidableEq α] in
theorem RKs.append {l l' : List (α × SV)} {L L' : List (α × Value)} (r : RKs ρ l L) (r' : RKs ρ l' L') : RKs ρ (l ++ l') (L ++ L') := by
  induction r with
  | nil => exact r'
  | cons a _ ih => exact .cons a ih
omit hq [DecidableEq α] in
theorem RKs.length {l : List (α × SV)} {L : List (α × Value)} (r : RKs ρ l L) : L.length = l.length := by
  induction r with
  | nil => rfl
  | cons _ _ ih => rw [List.length_cons, List.length_cons, ih]
theorem RKs.stor {v : SV} {V : Value} (hv : RV ρ v V) {l : List (α × SV)} {kvs : List (α × Value)} (r : RKs ρ l kvs) : RKs ρ (ziv q l n v) (stored kvs n V) := by
  unfold ziv stored
  have e := r.any hq (n := n)
  cases h : anyK q l n with
  | true =>
    rw [h] at e
    rw [if_pos e]
    exact r.map hq hv
  | false =>
    rw [h] at e
    rw [if_neg (by rw [e]; exact Bool.false_ne_true)]
    exact r.append (.cons hv .nil)
end
theorem zgl (V : Value) : ∀ (n : Nat) (a : List Value), List.foldl (fun x1 x2 : Array Value => x1 ++ x2) a.toArray (List.replicate n #[V]) = (a ++ List.replicate n V).toArray
  | 0, a => by simp
  | n + 1, a => by
    rw [List.replicate_succ, List.foldl_cons]
    have : a.toArray ++ #[V] = (a ++ [V]).toArray := by simp
    rw [this, zgl V n (a ++ [V]), List.replicate_succ, List.append_assoc]
    rfl
theorem RVs.repl {ρ : List Addr} {v : SV} {V : Value} (h : RV ρ v V) : ∀ n : Nat, RVs ρ (List.replicate n v) (List.replicate n V)
  | 0 => .nil
  | n + 1 => .cons h (RVs.repl h n)
theorem j3 {j n : Nat} (h : j < n) : seqIndex? (j : Int) n = some j := by
  unfold seqIndex?
  have h0 : ¬ ((j : Int) < 0) := by omega
  simp [h0, h]
theorem zsp {K : Frag} {gd : List Addr} {v : Value} {x : Str} {r : Option Value} (h : gIn K gd v x = some r) : ∃ a, v = .ref a ∧ memA a gd = true ∧ nsIn K a x = some r := by
  refine zab h fun a h1 h => ?_
  obtain ⟨h2, h3⟩ := zbv h
  exact ⟨a, vR_eq h1, h2, h3⟩
theorem isTy_eq {T : String} {v : Value} (h : isTy T v = true) : v = .type T := by
  cases v with
  | type S => rw [of_decide_eq_true (show decide (S = T) = true from h)]
  | _ => cases h
theorem zjw {K : Frag} {v : Value} {l : List Value} (h : gL K (.val v) = some l) : ∃ a dd n sl, v = .ref a ∧ K.lookup a = some ⟨.type "list", dd, .seq l.toArray n, sl⟩ := by
  cases v with
  | ref a =>
    refine zab (show (K.lookup a).bind zlx = some l from h) fun o h1 h => ?_
    refine zaa h fun h2 h => ?_
    refine zag h fun arr h3 hrfl => ?_
    subst hrfl
    obtain ⟨cl, dd, da, sl⟩ := o
    have h2' := isTy_eq h2
    have h2'' : cl = .type "list" := h2'
    subst h2''
    cases da with
    | seq a' n => cases h3; exact ⟨a, dd, n, sl, rfl, h1⟩
    | _ => cases h3
  | _ => cases h
theorem zer {x y : Str} : sq x y = (x == y) := by
  cases h : sq x y with
  | true => rw [zbh.mp h]; simp
  | false => exact (beq_eq_false_iff_ne.mpr fun e => by rw [zbh.mpr e] at h; cases h).symm
theorem zgd {x : Str} : ∀ {l : List Str}, anyQ x l = l.any (· == x)
  | [] => rfl
  | y :: r => by
    show (match sq y x with | true => true | false => anyQ x r) = ((y == x) || r.any (· == x))
    rw [← zer, ← zgd (l := r)]
    cases sq y x <;> rfl
theorem zav {α β : Type} {f : α → Option β} {v : α} {r : List α} {ks : List β} (h : mapS f (v :: r) = some ks) : ∃ k l, f v = some k ∧ mapS f r = some l ∧ ks = k :: l := by
  refine zab (show (f v).bind (fun k => (mapS f r).map fun ks => k :: ks) = some ks from h) fun k h1 h2 => ?_
  refine zag h2 fun l h3 h4 => ?_
  exact ⟨k, l, h1, h3, h4.symm⟩
theorem zef {α β : Type} {f : α → Option β} : ∀ {l : List α} {ks : List β}, mapS f l = some ks → ks.length = l.length
  | [], _, h => by cases h; rfl
  | v :: r, ks, h => by
    obtain ⟨k, l, h1, h2, rfl⟩ := zav h
    rw [List.length_cons, List.length_cons, zef h2]
theorem zgq {α β : Type} {f : α → Option β} : ∀ {l : List α} {ks : List β}, mapS f l = some ks → ∀ {i : Nat} {v : α} {k : β}, l[i]? = some v → ks[i]? = some k → f v = some k
  | [], _, h, _, _, _, hv, _ => by cases hv
  | v :: r, ks, h, i, u, k, hv, hk => by
    obtain ⟨k', l, h1, h2, rfl⟩ := zav h
    cases i with
    | zero => cases hv; cases hk; exact h1
    | succ i => exact zgq h2 hv hk
theorem e6 {ρ : List Addr} {l : List SV} {vs : List Value} (r : RVs ρ l vs) : ∀ {ys : List Str}, mapS vS l = some ys → StrsAre vs ys := by
  induction r with
  | nil => intro ys h; cases h; exact .nil
  | cons hv _ ih =>
    intro ys h
    obtain ⟨k, ks, h1, h2, rfl⟩ := zav h
    obtain rfl := c6 h1
    obtain ⟨t, rfl⟩ := hv
    exact .cons _ _ (ih h2)
section
variable {Γ : Gm} {kf : Nat} {c : Cx} {M : Str → Option Value} {z : Zs} {g g' : Sg} {s : Shared} {v a b : SV} {V U : Value}
theorem Cor.pairKey (H : Cor Γ c M g z) (hb : RV z.ρ b U) {q : Int × Int} (h : oP g.σ b = some q) : ∃ T o, U = .ref T ∧ (T, o) ∈ z.nw ++ c.rest ∧ PairO q.1 q.2 o := by
  obtain ⟨k, rfl, e⟩ := oP_eq h
  obtain ⟨D, o, rfl, hD, hk, hm, hr⟩ := H.ob hb ⟨rfl, e⟩
  obtain ⟨vs, nn, rfl, hr⟩ := hr
  rcases hr with _ | ⟨⟨t1, rfl⟩, hr⟩
  rcases hr with _ | ⟨⟨t2, rfl⟩, hr⟩
  cases hr
  exact ⟨_, _, rfl, hm, rfl, t1, t2, nn, rfl⟩
theorem Cor.keyObj (H : Cor Γ c M g z) {l : List ((Nat × Int × Int) × Int)} {xs : List (List Int × Addr × Value)} (r : RPs z.ρ l xs) (hks : keysOk g.σ l = true) (x : List Int × Addr × Value) (hx : x ∈ xs) : ∃ ok, (x.2.1, ok) ∈ z.nw ++ c.rest ∧ TupKeyObj (intKind Γ.prog Γ.w) x.1 ok := by
  obtain ⟨k, a, b, cc, h1, h2, h3⟩ := r.mem hx
  have h4 := List.all_eq_true.mp hks _ h1
  obtain ⟨T, o, e, hm, hp⟩ := H.pairKey (b := .obj k) (U := .ref x.2.1) ⟨_, h3, rfl⟩ (oP_eq1 h4)
  cases e
  exact ⟨o, hm, h2 ▸ hp.key⟩
theorem Cor.tupTab (H : Cor Γ c M g z) {l : List ((Nat × Int × Int) × Int)} {o : Obj} {D : Addr} (r : ∃ es ep xs, o.ExactDict ∧ o.data = .dict es ep ∧ es.toList = xs.map (entryOfKey (tupleKind (intKind Γ.prog Γ.w))) ∧ (xs.map (·.1)).Nodup ∧ RPs z.ρ l xs) (hks : keysOk g.σ l = true) (lo : (D == sysModules) = false) (hm : (D, o) ∈ z.nw ++ c.rest) :
    TupTab (intKind Γ.prog Γ.w) PyData.int (z.nw ++ c.rest) D (datP l) := by
  obtain ⟨es, ep, xs, h1, h2, h3, h4, h5⟩ := r
  exact ⟨lo, o, es, ep, xs, hm, h1, h2, h3, h4, fun x hx => H.keyObj h5 hks x hx, h5.flat⟩
theorem item_ok {Q : Value → Shared → Prop} {x : Expr} {i : Expr} (hp : c3 i = true) (ht : ∀ o r, letTemporaryGo x o r = pure ()) (h0 : zjo Γ.K Γ.gd a b g.σ = some v) (C : Orx Γ kf c) (H : Cor Γ c M g z) (ha : RV z.ρ a V) (hb : RV z.ρ b U) (G : ∀ W tk, RV z.ρ v W → Q W { z.sh s with toks := tk }) :
    wpAny (model Γ.prog Γ.w) c.A (subscriptTail x i V U) Q c.E (z.sh s) := by
  cases b with
  | int n =>
    obtain ⟨t, rfl⟩ := hb
    cases a with
    | bytes l =>
      refine zab h0 fun j hj h => ?_
      obtain rfl := zbs hj
      refine zaa h fun hz h => ?_
      refine zag h fun y hy hrfl => ?_
      subst hrfl
      obtain ⟨b, tb, rfl, hb⟩ := ha
      rw [zao] at hy
      have hlt := (List.getElem?_eq_some_iff.mp hy).1
      have hg : l.getD ((j : Nat) : Int).toNat 0 = y := by rw [Int.toNat_natCast, List.getD_eq_getElem?_getD, hy]; rfl
      have hz' := zah hz
      refine KBw.item_K hb (by omega) (by omega) (by omega) (fun t' k _ _ => ?_) (c7 hp _ _) (ht _)
      rw [hg]
      exact G _ _ ⟨_, rfl⟩
    | val u =>
      refine zab h0 fun l hl h1 => ?_
      refine zab h1 fun j hj h2 => ?_
      refine zaa h2 fun hz h3 => ?_
      refine zab h3 fun y hy h => ?_
      clear h0 h1 h2 h3
      rw [zao] at hy
      obtain rfl := zbs hj
      obtain ⟨d, dd, n, sl, rfl, hK⟩ := zjw hl
      have ha' : V = .ref d := ha
      subst ha'
      have hz' := zah hz
      exact item_list (x := y) (lstK (C.X.keeps H.F.keep) hK) (by omega) (by omega) (by simpa using hy) (G y z.tk (c8 h)) (c7 hp _ _) (ht _)
    | obj k =>
      refine zac h0 fun k' so hq h2 => ?_
      clear h0
      obtain ⟨D, o, rfl, hD, hk, hm, hr⟩ := H.ob ha (zas hq)
      cases so with
      | list l =>
        obtain ⟨vs, nn, rfl, hr⟩ := hr
        refine zab h2 fun j hj h => ?_
        obtain rfl := zbs hj
        refine zaa h fun hz h => ?_
        obtain ⟨W, hW, hrW⟩ := hr.get ((zao _ _).symm.trans h)
        have hz' := zah hz
        exact item_list (x := W) (PySem.IsL.isList (n := nn) (H.N _ hm).1) (by omega) (by omega) (by simpa using hW) (G W z.tk hrW) (c7 hp _ _) (ht _)
      | tup l =>
        obtain ⟨vs, nn, rfl, hr⟩ := hr
        refine zab h2 fun j hj h => ?_
        obtain rfl := zbs hj
        refine zaa h fun hz h => ?_
        refine zae hz fun hz hz2 => ?_
        obtain ⟨W, hW, hrW⟩ := hr.get ((zao _ _).symm.trans h)
        have hz' := zah hz
        refine item_tuple (j := j) (x := W) (items := vs.toArray) ⟨_, (H.N _ hm).1, rfl, nn, rfl⟩ (by omega) (by omega) ?_ (by simpa using hW) (G W z.tk hrW) (c7 hp _ _) (ht _)
        rw [List.size_toArray]
        exact j3 (List.getElem?_eq_some_iff.mp hW).1
      | dict l =>
        obtain ⟨kvs, hd, hr⟩ := hr
        obtain ⟨W, hW, hrW⟩ := (hr.look iq_ok).1 h2
        exact kda_item (knd := PySem.intKind Γ.prog Γ.w) H.N hm hd (intKind_is _ _ _ _) hW (G W _ hrW) (c7 hp _ _) (ht _)
      | _ => cases h2
    | _ => cases h0
  | str x =>
    obtain ⟨t, rfl⟩ := hb
    cases a with
    | val u =>
      refine zab h0 fun r h1 h4 => ?_
      refine zab h4 fun y hy h => ?_
      clear h0 h4
      subst hy
      obtain ⟨d, rfl, h2, h3⟩ := zsp h1
      have ha' : V = .ref d := ha
      subst ha'
      obtain ⟨⟨es, n, hK, hkl⟩, _⟩ := C.gd d h2
      exact topItem_K H.F C.X hK hkl h3 (G y _ (c8 h)) (c7 hp _ _)
    | obj k =>
      refine zac h0 fun k' so hq h2 => ?_
      refine zab h2 fun l hl h2 => ?_
      obtain ⟨D, o, rfl, hD, hk, hm, hr⟩ := H.ob ha (zas hq)
      obtain ⟨kvs, hd, hr⟩ := hr.sdict hl
      obtain ⟨W, hW, hrW⟩ := (hr.look ztz).1 h2
      exact kda_item (knd := PySem.strKind Γ.prog Γ.w) H.N hm hd (strKind_is _ _ _ _) hW (G W _ hrW) (c7 hp _ _) (ht _)
    | _ => cases h0
  | bytes x =>
    refine zac h0 fun k' so hq h2 => ?_
    refine zab h2 fun l hl h2 => ?_
    obtain ⟨bb, tb, rfl, rfl⟩ := hb
    obtain ⟨D, o, rfl, hD, hk, hm, hr⟩ := H.ob ha (zas hq)
    obtain ⟨kvs, hd, hr⟩ := hr.bdict hl
    obtain ⟨W, hW, hrW⟩ := (hr.look zft).1 h2
    exact kda_item (knd := bytesKind Γ.prog Γ.w) H.N hm hd zcz (d3.symm.trans hW) (G W _ hrW) (c7 hp _ _) (ht _)
  | obj j =>
    refine zac h0 fun k' so hq h2 => ?_
    refine zab h2 fun l hl h3 => ?_
    refine zaa h3 fun hks h4 => ?_
    refine zab h4 fun q hoq h5 => ?_
    refine zag h5 fun cc hc hrfl => ?_
    subst hrfl
    clear h0 h2 h3 h4 h5
    obtain ⟨D, o, rfl, hD, hk, hm, hr⟩ := H.ob ha (zas hq)
    obtain ⟨T, ok, rfl, hka, hpk⟩ := H.pairKey hb hoq
    refine item_tupTab PyProof.V.same_int C.room H.N (H.tupTab (hr.pdict hl) hks (H.led.lo _ _ D (zas hq).2 (e8 hl) hD) hm) hka hpk.key (dv := PyData.int cc) (zdg.trans (by rw [hc]; rfl)) (fun v hv => ?_) (c7 hp _ _) (ht _)
    obtain ⟨t, rfl⟩ := PyProof.V.Flat.int_inv hv
    exact G _ _ ⟨t, rfl⟩
  | _ => cases h0
theorem ztw {Q : Unit → Shared → Prop} {d : SV} {W : Value} (h0 : zhh a b d g = some g') (C : Orx Γ kf c) (H : Cor Γ c M g z) (ha : RV z.ρ a V) (hb : RV z.ρ b U) (hc : RV z.ρ d W)
    (G : ∀ z', Ex z g z' g' → Cor Γ c M g' z' → Q () (z'.sh s)) : wpAny (model Γ.prog Γ.w) c.A (setItem V U W) Q c.E (z.sh s) := by
  refine zac h0 fun k so hq h => ?_
  clear h0
  have hs := (zas hq).2
  obtain ⟨D, o, rfl, hD, hk, hm, hr⟩ := H.ob ha (zas hq)
  cases b with
  | int n =>
    refine zag h fun so' h2 hrfl => ?_
    subst hrfl
    obtain ⟨t, rfl⟩ := hb
    cases so with
    | list l =>
      obtain ⟨vs, nn, rfl, hr⟩ := hr
      refine zab h2 fun j hj h4 => ?_
      obtain rfl := zbs hj
      refine zaa h4 fun hz h3 => ?_
      obtain rfl := Option.some.inj h3
      refine zae hz fun hz hz2 => ?_
      have hz' := zah hz
      have hz2' : j < l.length := Nat.le_of_ble_eq_true hz2
      have hln := hr.length
      obtain ⟨pre, post, e, hg, x1, x2⟩ := (H.upd hk).split
      have N := H.N
      rw [e] at N
      have y := N (D, listOf vs.toArray nn) (List.mem_append.mpr (.inr (.head _)))
      refine ki_setAt y.1 (by omega) (by omega) (by rw [List.size_toArray]; omega) ?_
      rw [Int.toNat_natCast]
      refine G ⟨_, _, _, z.tk, _⟩ zfd (H.put (o' := listOf (List.toArray (vs.set j W)) nn) hk (H.F.change (Heap.SameBut.update ..) y.2.1 y.2.2) ?_ (fun e => nomatch e) ⟨_, _, rfl, hr.set hc j⟩)
      rw [hg]
      refine ki_turn (fun a : Array Value => a.setIfInBounds j W) N x1 x2 ?_ ?_
      · show vs.toArray.setIfInBounds j W = (vs.set j W).toArray
        apply Array.toList_inj.mp
        simp
      · simp
    | dict l =>
      obtain ⟨kvs, hd, hr⟩ := hr
      refine zaa h2 fun hz h3 => ?_
      obtain rfl := Option.some.inj h3
      have hz' := zah hz
      refine kda_set (knd := PySem.intKind Γ.prog Γ.w) H.F H.N (H.upd hk) hd (intKind_is _ _ _ _) (by rw [hr.length, sizeLine_eq]; omega) fun h' o' F' N' hd' => ?_
      exact G ⟨_, _, _, _, _⟩ zfd (H.put hk F' N' (fun _ => H.led.lo k _ D hs rfl hD) ⟨_, hd', hr.stor iq_ok hc⟩)
    | _ => cases h2
  | str x =>
    refine zab h fun l hl h => ?_
    refine zaa h fun hz h3 => ?_
    obtain rfl := Option.some.inj h3
    obtain ⟨t, rfl⟩ := hb
    obtain ⟨kvs, hd, hr⟩ := hr.sdict hl
    have hz' := zah hz
    refine kda_set (knd := PySem.strKind Γ.prog Γ.w) H.F H.N (H.upd hk) hd (strKind_is _ _ _ _) (by rw [hr.length, sizeLine_eq]; omega) fun h' o' F' N' hd' => ?_
    exact G ⟨_, _, _, _, _⟩ zfd (H.put hk F' N' (fun _ => H.led.lo k _ D hs (e7 hl) hD) ⟨_, hd', hr.stor ztz hc⟩)
  | bytes x =>
    refine zab h fun l hl h => ?_
    refine zaa h fun hz h3 => ?_
    obtain rfl := Option.some.inj h3
    obtain ⟨bb, t, rfl, rfl⟩ := hb
    obtain ⟨kvs, hd, hr⟩ := hr.bdict hl
    have hz' := zah hz
    have hln := hr.length
    rw [List.length_map] at hln
    refine kda_set (knd := bytesKind Γ.prog Γ.w) H.F H.N (H.upd hk) hd zcz (by rw [hln, sizeLine_eq]; omega) fun h' o' F' N' hd' => ?_
    exact G ⟨_, _, _, _, _⟩ zfd (H.put hk F' N' (fun _ => H.led.lo k _ D hs (ziy hl) hD) ⟨_, hd', zla ▸ hr.stor zft hc⟩)
  | obj j =>
    refine zab h fun l hl h => ?_
    refine zaa h fun hz h => ?_
    refine zae hz fun hz hks => ?_
    refine zab h fun q hoq h => ?_
    refine zag h fun cc hcc hrfl => ?_
    subst hrfl
    obtain rfl := zay hcc
    obtain ⟨tc, rfl⟩ := hc
    have hz' := zah hz
    obtain ⟨T, ok, rfl, hka, hpk⟩ := H.pairKey hb hoq
    obtain ⟨T', hj, e⟩ := hb
    cases e
    obtain ⟨es, ep, xs, h1, h2, h3, h4, h5⟩ := hr.pdict hl
    refine kdp_set C.room H.F H.N (H.upd hk) h1 h2 h3 h4 (fun x hx => H.keyObj h5 hks x hx) hka hpk (by rw [h5.length, sizeLine_eq]; omega) fun h' o' es' ep' tk F' N' g1 g2 g3 g4 => ?_
    exact G ⟨_, _, _, _, _⟩ zfd (H.put hk F' N' (fun _ => H.led.lo k _ D hs (e8 hl) hD) ⟨es', ep', _, g1, g2, g3, g4, h5.stor hj⟩)
  | _ => cases h
theorem add_ok {Q : Value → Shared → Prop} (h : addS a b g = some (v, g')) (H : Cor Γ c M g z) (ha : RV z.ρ a V) (hb : RV z.ρ b U) (G : Got Γ c M g z s Q v g') :
    wpAny (model Γ.prog Γ.w) c.A (binaryOp .Add V U) Q c.E (z.sh s) := by
  cases a with
  | int x =>
    refine zag h fun y h1 h => ?_
    replace G := G.of' h
    obtain rfl := zay h1
    obtain ⟨t, rfl⟩ := ha
    obtain ⟨u, rfl⟩ := hb
    exact add_int (G.now ⟨_, rfl⟩ H)
  | bytes l =>
    refine zab h fun l' h1 h => ?_
    obtain rfl := zfn h1
    refine zaa h fun hz h => ?_
    replace G := G.of h
    have hz' := zah hz
    obtain ⟨b1, t1, rfl, e1⟩ := ha
    obtain ⟨b2, t2, rfl, e2⟩ := hb
    exact KBa.add_K e1 e2 (by omega) fun t' k e => G.now ⟨_, _, rfl, e⟩ H
  | str x =>
    refine zab h fun y h1 h => ?_
    obtain rfl := c6 h1
    refine zaa h fun hz h => ?_
    replace G := G.of h
    have hz' := zah hz
    obtain ⟨t1, rfl⟩ := ha
    obtain ⟨t2, rfl⟩ := hb
    exact SBL.add (fun t' k _ => G.now ⟨_, rfl⟩ H) (by rw [sizeLine_eq]; omega)
  | obj k =>
    refine zac (show zaf (oL g.σ (.obj k)) (fun _ l => zaf (oL g.σ b) fun _ l' => zad (small (l.length + l'.length)) (some (mkO (.list (l ++ l')) g))) = some (v, g') from h) fun k1 l1 hq h => ?_
    refine zac h fun k2 l2 hq' h => ?_
    refine zaa h fun hz h => ?_
    replace G := G.of h
    have hz' := zah hz
    obtain ⟨D, vs, nn, rfl, _, hm, hr, hl⟩ := H.list ha hq
    obtain ⟨D', vs', nn', rfl, _, hm', hr', hl'⟩ := H.list hb hq'
    exact add_lists H.F H.N (PySem.IsL.isList (n := nn) (H.N _ hm).1) (PySem.IsL.isList (n := nn') (H.N _ hm').1) (fun h' F' N' => G.new H F' N' (fun q hq => Heap.lt_size (H.N q hq).1) (fun e => nomatch e) ⟨_, _, rfl, (hr.append hr').mono Ext.snoc⟩) (by rw [hl, hl', sizeLine_eq]; omega)
  | _ => cases h
theorem bits_le {x : Int} {n : Nat} (h : x.natAbs < 2 ^ n) : Builtin.Int.intBits x ≤ n := by
  unfold Builtin.Int.intBits
  split
  · exact Nat.zero_le _
  · rename_i hx
    have : x.natAbs ≠ 0 := by simpa using hx
    exact (Nat.log2_lt this).mpr h
theorem mull_ok {Q : Value → Shared → Prop} (h : mulL a b g = some (v, g')) (H : Cor Γ c M g z) (ha : RV z.ρ a V) (hb : RV z.ρ b U) (G : Got Γ c M g z s Q v g') :
    wpAny (model Γ.prog Γ.w) c.A (binaryOp .Mult V U) Q c.E (z.sh s) := by
  refine zac h fun k l hq h => ?_
  refine zab h fun n hn h => ?_
  refine zab h fun n hn' h => ?_
  refine zab h fun x hx h => ?_
  refine zaa h fun hz h => ?_
  replace G := G.of h
  obtain rfl := zay hn
  obtain rfl := zbs hn'
  have hz' := zah hz
  obtain ⟨u, rfl⟩ := hb
  obtain ⟨D, vs, nn, rfl, _, hm, hr, _⟩ := H.list ha hq
  rw [zbm hx] at hr
  cases hr with
  | @cons _ X _ _ hx hr =>
    cases hr
    refine mul_list (items := #[X]) H.F H.N (H.N _ hm).1 (by omega) (by omega) (by simp; omega) fun h' F' N' => ?_
    have e : List.foldl (fun x1 x2 : Array Value => x1 ++ x2) #[] (List.replicate (if (#[X] : Array Value).isEmpty = true then 0 else (n : Int).toNat) #[X]) = (List.replicate n X).toArray := by
      have := zgl X n []
      simpa using this
    rw [e] at N'
    exact G.new H F' N' (fun q hq => Heap.lt_size (H.N q hq).1) (fun e => nomatch e) ⟨_, _, rfl, RVs.repl (hx.mono Ext.snoc) n⟩
theorem mul_ok {Q : Value → Shared → Prop} (h : mulS a b g = some (v, g')) (H : Cor Γ c M g z) (ha : RV z.ρ a V) (hb : RV z.ρ b U) (G : Got Γ c M g z s Q v g') :
    wpAny (model Γ.prog Γ.w) c.A (binaryOp .Mult V U) Q c.E (z.sh s) := by
  cases a with
  | int x =>
    refine zab h fun y h1 h => ?_
    refine zaa h fun hz h => ?_
    replace G := G.of h
    obtain rfl := zay h1
    obtain ⟨t, rfl⟩ := ha
    obtain ⟨u, rfl⟩ := hb
    have hz' := of_decide_eq_true hz
    exact mul_int (G.now ⟨_, rfl⟩ H) (IntMulOk.of_left (bits_le (Nat.lt_trans hz' (by decide))))
  | _ => exact mull_ok h H ha hb G
theorem zjc {x y : Int} (h0 : 0 < y) (h1 : y < 2 ^ 60) : ¬ Builtin.divisionGoesByPylong x y = true := by
  unfold Builtin.divisionGoesByPylong
  have hy : y.natAbs ≠ 0 := by omega
  have hl : y.natAbs.log2 < 60 := (Nat.log2_lt hy).mpr (by omega)
  have hy0 : (y == 0) = false := by simpa using (show y ≠ 0 by omega)
  simp only [hy0, Bool.and_eq_true, decide_eq_true_eq]
  intro h
  have h2 := h.1
  simp only [Bool.false_eq_true, if_false] at h2
  omega
theorem bin_ok {Q : Value → Shared → Prop} {op : Operator} (h : binS op a b g = some (v, g')) (H : Cor Γ c M g z) (ha : RV z.ρ a V) (hb : RV z.ρ b U) (G : Got Γ c M g z s Q v g') :
    wpAny (model Γ.prog Γ.w) c.A (binaryOp op V U) Q c.E (z.sh s) := by
  have hints : ∀ {op : Operator}, ((vI a).bind fun x => (vI b).bind fun y => (binI op x y).map fun z => (SV.int z, g)) = some (v, g') → wpAny (model Γ.prog Γ.w) c.A (binaryOp op V U) Q c.E (z.sh s) := by
    intro op h
    refine zab h fun x h1 h => ?_
    refine zab h fun y h2 h => ?_
    refine zag h fun r h3 h => ?_
    replace G := G.of' h
    obtain rfl := zay h1
    obtain rfl := zay h2
    obtain ⟨t, rfl⟩ := ha
    obtain ⟨u, rfl⟩ := hb
    have G' : ∀ t tk, Q (.int r t) { z.sh s with toks := tk } := fun t tk => G.now ⟨_, rfl⟩ H
    cases op with
    | Sub => cases h3; exact sub_int (G' _ _)
    | LShift =>
      refine zaa h3 fun e h3 => ?_
      cases h3
      have e := of_decide_eq_true e
      exact lshift_int_small e.1 (by omega) e.2.2 (G' _ _)
    | RShift =>
      refine zaa h3 fun e h3 => ?_
      cases h3
      exact rshift_int (of_decide_eq_true e) (G' _ _)
    | BitAnd => cases h3; exact and_int (G' _ _)
    | BitOr => cases h3; exact or_int (G' _ _)
    | BitXor => cases h3; exact xor_int (G' _ _)
    | FloorDiv =>
      refine zaa h3 fun e h3 => ?_
      cases h3
      have e := of_decide_eq_true e
      exact AutoIntOps.floordiv_1 (by simpa using (show y ≠ 0 by omega)) (zjc e.1 e.2) (G' _ _)
    | Mod =>
      refine zaa h3 fun e h3 => ?_
      cases h3
      have e := of_decide_eq_true e
      exact AutoIntOps.mod_1 (by simpa using (show y ≠ 0 by omega)) (G' _ _)
    | _ => cases h3
  cases op with
  | Add => exact add_ok h H ha hb G
  | Mult => exact mul_ok h H ha hb G
  | _ => exact hints h
theorem zlb {Q : Value → Shared → Prop} {lo hi : Option Int} {l u : Value} {i : Expr} {x : Expr} (ht : ∀ o r, letTemporaryGo x o r = pure ()) (h : zsf a lo hi g = some (v, g')) (H : Cor Γ c M g z) (ha : RV z.ρ a V) (hl : IsPart l lo) (hu : IsPart u hi)
    (hs : ∀ o k, subscripted i false o k = operate [k, o] (getItem o k)) (G : Got Γ c M g z s Q v g') :
    wpAny (model Γ.prog Γ.w) c.A (subscriptTail x i V (.ref z.h.objs.size)) Q c.E { z.sh s with heap := z.h.push { cls := .type "slice", data := .fields #[l, u, .none] } } := by
  cases a with
  | bytes ks =>
    refine zaa h fun hz h => ?_
    replace G := G.of h
    have hz' := zah hz
    obtain ⟨b, t, rfl, e⟩ := ha
    exact KBc.slice_K (s := z.sh s) H.F H.N e hl hu (by omega) (fun h' t' k F' N' e' => G.same H ⟨_, _, rfl, e'⟩ F' N') (hs _ _) (ht _)
  | str ks =>
    refine zaa h fun hz h2 => ?_
    refine zae hz fun hz2 hn => ?_
    refine zag h2 fun lo' h1 h3 => ?_
    replace G := G.of' h3
    clear h h2 hz
    subst h1
    cases hi with
    | some _ => cases hn
    | none =>
      cases hl
      cases hu
      obtain ⟨t, rfl⟩ := ha
      have hz' := zah hz2
      exact slice_strN_sn (s := z.sh s) H.F H.N (fun h' t' k F' N' => G.same H ⟨_, rfl⟩ F' N') (hs _ _) (ht _) (by rw [sizeLine_eq]; omega)
  | obj k =>
    refine zac (show zaf (oO g.σ (.obj k)) (fun _ o => zsg lo hi g o) = some (v, g') from h) fun k so hq h2 => ?_
    clear h
    obtain ⟨D, o, rfl, hD, hk, hm, hr⟩ := H.ob ha (zas hq)
    cases so with
    | list ls =>
      obtain ⟨vs, nn, rfl, hr⟩ := hr
      refine zaa h2 fun hz h => ?_
      replace G := G.of h
      have hz' := zah hz
      have hln := hr.length
      exact kmk_slice_lit (s := z.sh s) (zs := cutI vs lo hi) H.F H.N (PySem.IsL.isList (n := nn) (H.N _ hm).1) hl hu (by rw [slicePick_plain, List.size_toArray]; rfl) (fun D' h' F' N' l1 => G.new H F' N' l1 (fun e => nomatch e) ⟨_, _, rfl, by unfold cutI; rw [hln]; exact ((hr.mono Ext.snoc).drop _).take _⟩) (hs _ _) (ht _) (by rw [List.size_toArray, hln, sizeLine_eq]; omega)
    | tup ls =>
      obtain ⟨vs, nn, rfl, hr⟩ := hr
      refine zaa h2 fun hz h => ?_
      refine zag h fun q h1 h => ?_
      replace G := G.of' h
      refine zae hz fun e1 e2 => ?_
      obtain rfl := of_decide_eq_true e1
      obtain rfl := of_decide_eq_true e2
      cases hl
      cases hu
      rw [zdz h1] at hr
      rcases hr with _ | ⟨hx, hr⟩
      rcases hr with _ | ⟨hy, hr⟩
      rcases hr with _ | ⟨hz, hr⟩
      cases hr
      exact ziz (s := z.sh s) H.F H.N hm rfl (fun D' h' F' N' l1 => G.new H F' N' l1 (fun e => nomatch e) ⟨_, _, rfl, .cons (hx.mono Ext.snoc) (.cons (hy.mono Ext.snoc) .nil)⟩) (hs _ _) (ht _)
    | _ => cases h2
  | _ => cases h
end
theorem j8 {α : Type} {N : Nat} {lt : Nat → Nat → Bool} {cmp : Nat → Nat → (Bool → Shared → Prop) → Shared → Prop} {I : Shared → Prop} (hc : ∀ i j C s, i < N → j < N → i ≠ j → I s → (∀ s', I s' → C (lt i j) s') → cmp i j C s) {a : α}
    {Q : α → Shared → Prop} (hq : ∀ s, I s → Q a s) : ∀ (t : KasT α) (s : Shared), runK N lt t = some a → I s → t.kasWp cmp Q s
  | .ret _, s, h, hi => by cases h; exact hq s hi
  | .ask i j k, s, h, hi => by
    refine zaa (show zad (Nat.blt i N && Nat.blt j N && !Nat.beq i j) (runK N lt (k (lt i j))) = some a from h) fun e h => ?_
    refine zae e fun e e3 => ?_
    refine zae e fun e1 e2 => ?_
    exact hc i j _ s (Nat.le_of_ble_eq_true e1) (Nat.le_of_ble_eq_true e2) (fun e => by subst e; rw [show Nat.beq i i = true from Nat.beq_refl i] at e3; cases e3) hi fun s' hi' => j8 hc hq (k (lt i j)) s' h hi'
theorem keyS_eq {σ : List SO} {v : SV} {k : Int × Int} (h : keyS σ v = some k) : ∃ j r, v = .obj j ∧ σ[j]? = some (.tup (.int k.1 :: .int k.2 :: r)) := by
  refine zac h fun j l h1 h => ?_
  refine zac h fun a b h2 h => ?_
  refine zab h fun x h3 h => ?_
  refine zag h fun y h4 hrfl => ?_
  subst hrfl
  obtain ⟨e1, e2⟩ := zhk (f := soT) (fun _ _ => zix) h1
  have e3 : l.take 2 = [a, b] := zbw h2
  rw [zay h3, zay h4] at e3
  refine ⟨j, l.drop 2, e1, ?_⟩
  rw [← List.take_append_drop 2 l, e3] at e2
  exact e2
theorem zgo {k : Int × Int} : ∀ {l : List (Int × Int)}, zjd k l = true → k ∉ l
  | [], _ => List.not_mem_nil
  | q :: r, h => by
    refine zae (show (!decide (k.1 = q.1 ∧ k.2 = q.2) && zjd k r) = true from h) fun h1 h2 => ?_
    intro hm
    rcases List.mem_cons.mp hm with rfl | hm
    · rw [decide_eq_true (show k.1 = k.1 ∧ k.2 = k.2 from ⟨rfl, rfl⟩)] at h1
      cases h1
    · exact zgo h2 hm
theorem zex : ∀ {l : List (Int × Int)}, zgp l = true → l.Nodup
  | [], _ => List.nodup_nil
  | k :: r, h => by
    refine zae (show (zjd k r && zgp r) = true from h) fun h1 h2 => ?_
    exact List.nodup_cons.mpr ⟨zgo h1, zex h2⟩
theorem RVs.pick {ρ : List Addr} {l : List SV} {L : List Value} (r : RVs ρ l L) : ∀ p : List Nat, RVs ρ (p.map fun i => l.getD i .none) (p.map fun i => L.getD i .none)
  | [] => .nil
  | i :: p => by
    refine .cons ?_ (r.pick p)
    cases h : l[i]? with
    | none =>
      have : L[i]? = none := List.getElem?_eq_none (by rw [r.length]; exact List.getElem?_eq_none_iff.mp h)
      show RV ρ ((l[i]?).getD .none) ((L[i]?).getD .none)
      rw [h, this]
      rfl
    | some v =>
      obtain ⟨V, hV, hr⟩ := r.get h
      show RV ρ ((l[i]?).getD .none) ((L[i]?).getD .none)
      rw [h, hV]
      exact hr
theorem zjg : ∀ {l : List Int}, (maxI l = none → l = []) ∧ ∀ x, maxI l = some x → x ∈ l ∧ ∀ y ∈ l, y ≤ x
  | [] => ⟨fun _ => rfl, fun _ h => by cases h⟩
  | x :: r => by
    have ih := @zjg r
    have e : maxI (x :: r) = match maxI r with | some y => some (if x < y then y else x) | none => some x := rfl
    cases h : maxI r with
    | none =>
      rw [e, h, ih.1 h]
      refine ⟨fun q => (by cases q), fun z q => ?_⟩
      cases q
      exact ⟨.head _, fun y hy => by rw [List.mem_singleton.mp hy]; exact Int.le_refl _⟩
    | some y =>
      rw [e, h]
      obtain ⟨i1, i2⟩ := ih.2 y h
      refine ⟨fun q => (by cases q), fun z q => ?_⟩
      obtain rfl := Option.some.inj q
      by_cases hxy : x < y
      · rw [if_pos hxy]
        exact ⟨.tail _ i1, fun u hu => (List.mem_cons.mp hu).elim (fun e => by rw [e]; exact Int.le_of_lt hxy) (i2 u)⟩
      · rw [if_neg hxy]
        exact ⟨.head _, fun u hu => (List.mem_cons.mp hu).elim (fun e => by rw [e]; exact Int.le_refl _) fun hu => Int.le_trans (i2 u hu) (Int.not_lt.mp hxy)⟩
theorem RKs.ints {ρ : List Addr} : ∀ {c : List (Int × Int)} {kvs : List (Int × Value)}, RKs ρ (c.map fun p : Int × Int => (p.1, SV.int p.2)) kvs → PyProof.V.FlatPairs PyData.int kvs (kdfD c)
  | [], _, r => by cases r; exact .nil
  | (k, x) :: c, _, r => by
    cases r with
    | cons a r =>
      obtain ⟨t, rfl⟩ := a
      exact .cons (.int x t) r.ints
theorem zch : ∀ {l : List (Int × SV)} {ys : List Int}, f6 l = some ys → ∃ c : List (Int × Int), l = c.map (fun p => (p.1, SV.int p.2)) ∧ ys = c.map (·.2)
  | [], _, h => by cases h; exact ⟨[], rfl, rfl⟩
  | (k, v) :: r, ys, h => by
    obtain ⟨x, l, h1, h2, rfl⟩ := zav h
    obtain ⟨c, rfl, rfl⟩ := zch h2
    exact ⟨(k, x) :: c, by rw [show v = SV.int x from zay h1]; rfl, rfl⟩
theorem zfm : ∀ {l : List Value} {r : List SV}, mapS zca l = some r → RVs [] r l
  | [], _, h => by cases h; exact .nil
  | v :: l, r, h => by
    obtain ⟨k, ks, h1, h2, rfl⟩ := zav h
    exact .cons (c8 h1) (zfm h2)
section
variable {Γ : Gm} {kf : Nat} {c : Cx} {M : Str → Option Value} {z : Zs} {g g' : Sg} {s : Shared} {v a b : SV} {V U : Value}
theorem nn_ok {ρ : List Addr} (h : RV ρ a V) : (V == Value.none) = isNn a := by
  cases a with
  | none => rw [show V = _ from h]; rfl
  | bool x => rw [show V = _ from h]; rfl
  | int i => obtain ⟨t, rfl⟩ := h; rfl
  | obj k => obtain ⟨x, _, rfl⟩ := h; rfl
  | val u =>
    rw [show V = u from h]
    cases u <;> rfl
  | bytes l => obtain ⟨x, t, rfl, _⟩ := h; rfl
  | str x => obtain ⟨t, rfl⟩ := h; rfl
theorem in_ok {x : Str} {t : Tok} {r : Bool} (h : inS Γ.K Γ.gd g.σ x b = some r) (C : Orx Γ kf c) (H : Cor Γ c M g z) (hb : RV z.ρ b U) {Q : Value → Shared → Prop} :
    ((∀ tk, Q (.bool r) { z.sh s with toks := tk }) → wpAny (model Γ.prog Γ.w) c.A (compareOp .In (.str x t) U) Q c.E (z.sh s)) ∧ ((∀ tk, Q (.bool (!r)) { z.sh s with toks := tk }) → wpAny (model Γ.prog Γ.w) c.A (compareOp .NotIn (.str x t) U) Q c.E (z.sh s)) := by
  cases b with
  | val u =>
    have h' : (match gL Γ.K (.val u) with | some l => ((mapS zca l).bind (mapS vS)).map (anyQ x) | none => (gIn Γ.K Γ.gd u x).map Option.isSome) = some r := h
    cases hL : gL Γ.K (.val u) with
    | some l =>
      rw [hL] at h'
      refine zag h' fun ys h1 hrfl => ?_
      subst hrfl
      refine zab h1 fun svs h2 h3 => ?_
      obtain ⟨d, dd, n, sl, rfl, hK⟩ := zjw hL
      have hb' : U = .ref d := hb
      subst hb'
      have hs := e6 (zfm h2) h3
      have hi := lstK (C.X.keeps H.F.keep) hK
      rw [zgd]
      exact ⟨fun G => in_list_strs hi hs (G z.tk), fun G => notin_list_strs hi hs (G z.tk)⟩
    | none =>
    rw [hL] at h'
    refine zag h' fun y h1 hrfl => ?_
    subst hrfl
    obtain ⟨d, rfl, h2, h3⟩ := zsp h1
    have hb' : U = .ref d := hb
    subst hb'
    obtain ⟨⟨es, n, hK, hkl⟩, lo⟩ := C.gd d h2
    exact ⟨fun G => topIn_K H.F C.X hK hkl h3 lo (G _), fun G => zkz H.F C.X hK hkl h3 lo (G _)⟩
  | obj k =>
    refine zac h fun k' so hq h2 => ?_
    obtain ⟨D, o, rfl, hD, hk, hm, hr⟩ := H.ob hb (zas hq)
    have hd : ∀ l, soS so = some l → (zaw sq l x).isSome = r → ((∀ tk, Q (.bool r) { z.sh s with toks := tk }) → wpAny (model Γ.prog Γ.w) c.A (compareOp .In (.str x t) (.ref D)) Q c.E (z.sh s)) ∧ ((∀ tk, Q (.bool (!r)) { z.sh s with toks := tk }) → wpAny (model Γ.prog Γ.w) c.A (compareOp .NotIn (.str x t) (.ref D)) Q c.E (z.sh s)) := by
      intro l hl hrr
      obtain ⟨kvs, hd, hr⟩ := hr.sdict hl
      have lo := H.led.lo _ _ D (zas hq).2 (e7 hl) hD
      have e : (valueAt kvs x).isSome = r := (hr.look ztz (n := x)).2.symm.trans hrr
      exact ⟨fun G => kda_in (knd := PySem.strKind _ _) H.N hm hd lo (strKind_is _ _ _ _) r e (G _), fun G => wpAny_notIn_of (strKind_is _ _ x t) lo (kda_dict H.N hm hd).mapOf (by rw [e]; exact G _)⟩
    cases so with
    | list l =>
      obtain ⟨vs, nn, rfl, hr⟩ := hr
      refine zaa h2 fun hz h => ?_
      refine zag h fun ys h1 hrfl => ?_
      have hs := e6 hr h1
      have hi := PySem.IsL.isList (n := nn) (H.N _ hm).1
      rw [← hrfl, zgd]
      exact ⟨fun G => in_list_strs hi hs (G z.tk), fun G => notin_list_strs hi hs (G z.tk)⟩
    | dict l => exact zag (show (soS (.dict l)).map (fun l => (zaw sq l x).isSome) = some r from h2) fun l h1 h2 => hd l h1 h2
    | sdict l => exact zag (show (soS (.sdict l)).map (fun l => (zaw sq l x).isSome) = some r from h2) fun l h1 h2 => hd l h1 h2
    | _ => cases h2
  | _ => cases h
theorem zlv {ρ : List Addr} {l : List SV} {vs : List Value} (r : RVs ρ l vs) : ∀ {ys : List Int}, mapS vI l = some ys → IntsAre vs ys := by
  induction r with
  | nil => intro ys h; cases h; exact .nil
  | cons hv _ ih =>
    intro ys h
    obtain ⟨k, ks, h1, h2, rfl⟩ := zav h
    obtain rfl := zay h1
    obtain ⟨t, rfl⟩ := hv
    exact .cons _ _ (ih h2)
theorem zku {n : Int} : ∀ {l : List Int}, anyI n l = l.any (· == n)
  | [] => rfl
  | y :: r => by
    show (match decide (y = n) with | true => true | false => anyI n r) = ((y == n) || r.any (· == n))
    rw [← zku (l := r)]
    by_cases e : y = n
    · rw [decide_eq_true e, show (y == n) = true by simpa using e]; rfl
    · rw [decide_eq_false e, show (y == n) = false by simpa using e]; rfl
theorem zso {r : Bool} (h : inA Γ.K Γ.gd a b g.σ = some r) (C : Orx Γ kf c) (H : Cor Γ c M g z) (ha : RV z.ρ a V) (hb : RV z.ρ b U) {Q : Value → Shared → Prop} :
    ((∀ tk, Q (.bool r) { z.sh s with toks := tk }) → wpAny (model Γ.prog Γ.w) c.A (compareOp .In V U) Q c.E (z.sh s)) ∧ ((∀ tk, Q (.bool (!r)) { z.sh s with toks := tk }) → wpAny (model Γ.prog Γ.w) c.A (compareOp .NotIn V U) Q c.E (z.sh s)) := by
  cases a with
  | str x => obtain ⟨t, rfl⟩ := ha; exact in_ok h C H hb
  | bytes x =>
    refine zac h fun k so hq h => ?_
    refine zag h fun l hl hrfl => ?_
    subst hrfl
    obtain ⟨b', t, rfl, rfl⟩ := ha
    obtain ⟨D, o, rfl, hD, hk, hm, hr⟩ := H.ob hb (zas hq)
    obtain ⟨kvs, hd, hr⟩ := hr.bdict hl
    have lo := H.led.lo _ _ D (zas hq).2 (ziy hl) hD
    have e : (valueAt kvs b'.toList).isSome = (zaw leqI l (KBw.bInts b')).isSome := by rw [← d3]; exact (hr.look zft).2.symm
    exact ⟨fun G => kda_in (knd := bytesKind _ _) H.N hm hd lo zcz _ e (G _), fun G => wpAny_notIn_of zcz lo (kda_dict H.N hm hd).mapOf (by rw [e]; exact G _)⟩
  | int n =>
    refine zac h fun k l hq h => ?_
    refine zag h fun ns hns hrfl => ?_
    subst hrfl
    obtain ⟨t, rfl⟩ := ha
    obtain ⟨D, vs, nn, rfl, hm, hr⟩ := H.tup hb hq
    have hi := zlv hr hns
    have ht : z.h.IsTuple D vs.toArray := ⟨_, (H.N _ hm).1, rfl, nn, rfl⟩
    have e : vs.toArray.any (isInt n) = anyI n ns := by rw [← Array.any_toList, show vs.toArray.toList = vs from rfl, any_isInt n hi, zku]
    exact ⟨fun G => SeqAt.in_tupleAt (isInt n) ht (fun y hy => (eq_isInt n t hi y (by simpa using hy)).at _ _) (by rw [e]; exact G z.tk), fun G => SeqAt.notIn_tupleAt (isInt n) ht (fun y hy => (eq_isInt n t hi y (by simpa using hy)).at _ _) (by rw [e]; exact G z.tk)⟩
  | _ => cases h
theorem zms {x y : List Int} {a b : Array UInt8} (ha : KBw.bInts a = x) (hb : KBw.bInts b = y) : (a.toList == b.toList) = leqI x y := by
  cases h : leqI x y with
  | true =>
    have e := zcm.mp h
    rw [← ha, ← hb] at e
    rw [zci e]
    simp
  | false =>
    refine beq_eq_false_iff_ne.mpr fun e => ?_
    rw [zcm.mpr (by rw [← ha, ← hb, Array.toList_inj.mp e])] at h
    cases h
theorem cmpv_ok {Q : Value → Shared → Prop} {op : CmpOp} {r : Bool} (h : cmpV op a b g.σ = some r) (C : Orx Γ kf c) (H : Cor Γ c M g z) (ha : RV z.ρ a V) (hb : RV z.ρ b U) (G : ∀ tk, Q (.bool r) { z.sh s with toks := tk }) :
    wpAny (model Γ.prog Γ.w) c.A (compareOp op V U) Q c.E (z.sh s) := by
  cases a with
  | int x =>
    obtain ⟨t, rfl⟩ := ha
    have hI : ∀ {y : Int}, b = .int y → cmpI op x y = some r → wpAny (model Γ.prog Γ.w) c.A (compareOp op (.int x t) U) Q c.E (z.sh s) := by
      intro y hy h
      subst hy
      obtain ⟨u, rfl⟩ := hb
      have G := G z.tk
      cases op with
      | Eq => cases h; exact eq_int G
      | NotEq => cases h; exact ne_int G
      | Lt => cases h; exact lt_int G
      | LtE => cases h; exact le_int G
      | Gt => cases h; exact gt_int G
      | GtE => cases h; exact ge_int G
      | _ => cases h
    cases b with
    | int y => exact hI rfl h
    | bool y =>
      refine zaa h fun e h => ?_
      cases h
      obtain rfl := of_decide_eq_true e
      have hb' : U = .bool y := hb
      subst hb'
      exact PySem.EqBoolInt.eq_int_bool (G z.tk)
    | _ => cases h
  | bool x =>
    refine zab h fun y h1 h => ?_
    have ha' : V = .bool x := ha
    subst ha'
    have hb' : U = .bool y := by cases b <;> cases h1; exact hb
    subst hb'
    cases op with
    | Eq => cases h; exact eq_bool (G z.tk)
    | NotEq => cases h; exact ne_bool (G z.tk)
    | _ => cases h
  | bytes x =>
    refine zab h fun y h1 h => ?_
    obtain rfl := zfn h1
    obtain ⟨b1, t1, rfl, e1⟩ := ha
    obtain ⟨b2, t2, rfl, e2⟩ := hb
    have e := zms e1 e2
    cases op with
    | Eq => cases h; exact eq_bytes (by rw [e]; exact G z.tk)
    | NotEq => cases h; exact ne_bytes (by show Q (.bool (!(b1.toList == b2.toList))) _; rw [e]; exact G z.tk)
    | _ => cases h
  | str x =>
    refine zab h fun y h1 h => ?_
    obtain rfl := c6 h1
    obtain ⟨t, rfl⟩ := ha
    obtain ⟨u, rfl⟩ := hb
    have G := G z.tk
    cases op with
    | Eq => cases h; exact PyProof.Rows.eq_str (zer ▸ G)
    | NotEq => cases h; exact PyProof.Rows.ne_str (show Q (.bool (!(x == y))) _ from zer ▸ G)
    | _ => cases h
  | obj k =>
    refine zab h fun p h1 h => ?_
    refine zab h fun q h2 h => ?_
    have hEq : op = .Eq → wpAny (model Γ.prog Γ.w) c.A (compareOp op V U) Q c.E (z.sh s) := by
      rintro rfl
      cases h
      obtain ⟨T, o, rfl, hm, hp⟩ := H.pairKey ha h1
      obtain ⟨T', o', rfl, hm', hp'⟩ := H.pairKey hb h2
      exact zmf H.N hm hp hm' hp' C.room64 (G z.tk)
    cases op with
    | Eq => exact hEq rfl
    | Lt =>
      cases h
      obtain ⟨x, y⟩ := p
      obtain ⟨x', y'⟩ := q
      obtain ⟨k, ek, hs⟩ := oP_eq h1
      obtain ⟨k', ek', hs'⟩ := oP_eq h2
      obtain ⟨D, o, rfl, hD, hk, hm, vs, nn, rfl, hr⟩ := H.ob ha ⟨ek, hs⟩
      obtain ⟨D', o', rfl, hD', hk', hm', vs', nn', rfl, hr'⟩ := H.ob hb ⟨ek', hs'⟩
      rcases hr with _ | ⟨⟨t1, rfl⟩, hr⟩
      rcases hr with _ | ⟨⟨t2, rfl⟩, hr⟩
      cases hr
      rcases hr' with _ | ⟨⟨t3, rfl⟩, hr'⟩
      rcases hr' with _ | ⟨⟨t4, rfl⟩, hr'⟩
      cases hr'
      exact lt_tup C.units H.N hm rfl hm' rfl (G z.tk)
    | _ => cases h
  | _ => cases h
theorem zhc {Q : Value → Shared → Prop} {op : CmpOp} {r : Bool} (h : cmpS Γ.K Γ.gd op a b g.σ = some r) (C : Orx Γ kf c) (H : Cor Γ c M g z) (ha : RV z.ρ a V) (hb : RV z.ρ b U) (G : ∀ tk, Q (.bool r) { z.sh s with toks := tk }) :
    wpAny (model Γ.prog Γ.w) c.A (compareOp op V U) Q c.E (z.sh s) := by
  cases op with
  | Is =>
    refine zaa h fun hn h => ?_
    cases h
    have hb' : U = .none := by cases b <;> first | (cases hn; done) | exact hb
    rw [hb']
    exact PySem.is_none (by rw [nn_ok ha]; exact G z.tk)
  | IsNot =>
    refine zaa h fun hn h => ?_
    cases h
    have hb' : U = .none := by cases b <;> first | (cases hn; done) | exact hb
    rw [hb']
    exact PySem.isNot_none (by rw [nn_ok ha]; exact G z.tk)
  | In =>
    exact (zso h C H ha hb).1 G
  | NotIn =>
    refine zag h fun y h2 hrfl => ?_
    subst hrfl
    exact (zso h2 C H ha hb).2 G
  | _ => exact cmpv_ok h C H ha hb G
theorem list_ok {Q : Value → Shared → Prop} {l : List SV} {vs : List Value} (hz : small l.length = true) (H : Cor Γ c M g z) (r : RVs z.ρ l vs) (G : Got Γ c M g z s Q (mkO (.list l) g).1 (mkO (.list l) g).2) :
    wpAny (model Γ.prog Γ.w) c.A (newList vs) Q c.E (z.sh s) :=
  newList_N H.F H.N (fun h' F' N' => G.new H F' N' (fun q hq => Heap.lt_size (H.N q hq).1) (fun e => nomatch e) ⟨_, _, rfl, r.mono Ext.snoc⟩) (by rw [r.length, sizeLine_eq]; have := zah hz; omega)
theorem tup_ok {Q : Value → Shared → Prop} {l : List SV} {vs : List Value} (hz : small l.length = true) (H : Cor Γ c M g z) (r : RVs z.ρ l vs) (G : Got Γ c M g z s Q (mkO (.tup l) g).1 (mkO (.tup l) g).2) :
    wpAny (model Γ.prog Γ.w) c.A (newTuple vs) Q c.E (z.sh s) :=
  newTuple_N H.F H.N (fun h' F' N' => G.new H F' N' (fun q hq => Heap.lt_size (H.N q hq).1) (fun e => nomatch e) ⟨_, _, rfl, r.mono Ext.snoc⟩) (by rw [r.length, sizeLine_eq]; have := zah hz; omega)
theorem dict_ok {Q : Value → Shared → Prop} {pos : Pos} (hl : c.h₀.NoLimit) (H : Cor Γ c M g z) (G : Got Γ c M g z s Q (mkO (.dict []) g).1 (mkO (.dict []) g).2) :
    wpAny (model Γ.prog Γ.w) c.A (eval (.Dict [] [] pos) c.env) Q c.E (z.sh s) :=
  Dict_empty_made2 H.F H.N (modules_low hl) fun _ _ F' N' lo _ _ hd _ _ => G.new H F' N' (fun q hq => Heap.lt_size (H.N q hq).1) (fun _ => lo) ⟨[], hd, .nil⟩
theorem ziw {Q : Value → Shared → Prop} {k : Nat} {l l' : List SV} (hs : oL g.σ a = some (k, l)) (h : u0 g.σ l = some l') (H : Cor Γ c M g z) (ha : RV z.ρ a V) (G : Got Γ c M g z s Q .none (setO g k (.list l'))) :
    wpAny (model Γ.prog Γ.w) c.A (call (.builtin "list.sort") [V]) Q c.E (z.sh s) := by
  obtain ⟨D, vs, nn, rfl, hk, hm, hr, hvl⟩ := H.list ha hs
  refine zab h fun ks hks h => ?_
  refine zaa h fun hn h => ?_
  refine zae hn fun hn h64 => ?_
  have hn2 : l.length < 64 := Nat.le_of_ble_eq_true h64
  have hnd := zex hn
  have hlen := zef hks

  have U := H.upd hk
  obtain ⟨pre, post, e, hg, x1, x2⟩ := U.split
  have hoff : ∀ q ∈ pre ++ post, q.1 ≠ D := fun q hq => (List.mem_append.mp hq).elim (x1 q) (x2 q)
  have hN0 : ∀ q ∈ z.nw ++ c.rest, q = (D, listOf (List.toArray vs) nn) ∨ q ∈ pre ++ post := fun q hq => by
    rw [e] at hq
    rcases List.mem_append.mp hq with hq | hq
    · exact .inr (List.mem_append.mpr (.inl hq))
    · rcases List.mem_cons.mp hq with hq | hq
      · exact .inl hq
      · exact .inr (List.mem_append.mpr (.inr hq))
  have N0 : News c.h₀ c.L z.h ((D, listOf (List.toArray vs) nn) :: (pre ++ post)) := fun q hq => H.N q (by
    rw [e]
    rcases List.mem_cons.mp hq with rfl | hq
    · exact List.mem_append.mpr (.inr (.head _))
    · rcases List.mem_append.mp hq with hq | hq
      · exact List.mem_append.mpr (.inl hq)
      · exact List.mem_append.mpr (.inr (.tail _ hq)))
  have back : ∀ {h' : Heap} {o' : Obj}, News c.h₀ c.L h' ((D, o') :: (pre ++ post)) → News c.h₀ c.L h' (z.nw.set k (D, o') ++ c.rest) := fun {h' o'} N' => by
    rw [hg]
    intro q hq
    refine N' q ?_
    rcases List.mem_append.mp hq with hq | hq
    · exact .tail _ (List.mem_append.mpr (.inl hq))
    · rcases List.mem_cons.mp hq with rfl | hq
      · exact .head _
      · exact .tail _ (List.mem_append.mpr (.inr hq))
  cases h2 : Nat.blt l.length 2 with
  | true =>
    rw [h2] at h
    cases h
    have h2' : l.length < 2 := Nat.le_of_ble_eq_true h2
    have ho : z.h.get? D = some (seqObj "list" vs.toArray nn) := (N0 _ (.head _)).1
    refine wpAny_call_entry slot_list_sort ⟨_, ho, rfl⟩ entry_list_sort (zhi H.F (fun q hq => N0 q (.tail _ hq)) ho (N0 _ (.head _)).2.1 (N0 _ (.head _)).2.2 hoff (by omega) fun c h' F' N' => ?_) (args_list_sort _)
    exact ⟨_, rfl, G.put H rfl hk F' (back N') (fun e => nomatch e) ⟨_, _, rfl, hr⟩⟩
  | false =>
    have h2' : ¬ l.length < 2 := fun e => by rw [show Nat.blt l.length 2 = true from Nat.ble_eq_true_of_le e] at h2; cases h2
    rw [h2] at h
    refine zag h fun q hq hrfl => ?_
    subst hrfl
    have ht : ∀ (i : Nat) (v : Value) (k : Int × Int), vs[i]? = some v → ks[i]? = some k → TupI (pre ++ post) v k := by
      intro i v kk hv hkk
      have hi : i < l.length := by rw [← hvl]; exact (List.getElem?_eq_some_iff.mp hv).1
      obtain ⟨V', hV', hrv⟩ := hr.get (List.getElem?_eq_getElem hi)
      rw [hv] at hV'
      obtain rfl := Option.some.inj hV'
      obtain ⟨j, r, ej, hsj⟩ := keyS_eq (zgq hks (List.getElem?_eq_getElem hi) hkk)
      rw [ej] at hrv
      obtain ⟨D2, o2, rfl, hD2, hk2, hm2, vs2, nn2, rfl, hr2⟩ := H.obj hrv hsj
      rcases hr2 with _ | ⟨⟨t1, rfl⟩, hr2⟩
      rcases hr2 with _ | ⟨⟨t2, rfl⟩, hr2⟩
      rename_i rr
      rcases hN0 _ hm2 with e2 | e2
      · have e3 := congrArg (fun q : Addr × Obj => q.2.cls) e2
        exact absurd e3 (show ¬ (Value.type "tuple" = Value.type "list") by decide)
      · exact ⟨D2, _, _, nn2, t1, t2, rr, rfl, e2, rfl, rfl, rfl⟩
    have e0 : (vs.toArray.toList).length = l.length := by simpa using hvl
    refine kat_lsort H.F N0 (UpdF.head hoff) rfl (by rw [e0]; omega) (by rw [e0]; omega) fun e1 h' F' N' => ?_
    have N₀ : News c.h₀ c.L h' (pre ++ post) := fun p hp => N' p (.tail _ hp)
    refine zis (s := { z.sh s with heap := h' }) (by omega) (by omega) ht N₀ ?_
    refine j8 (N := l.length) (lt := fun i j => zsj (ks.getD i (0, 0)) (ks.getD j (0, 0))) (I := fun s' => ∃ tk, s' = { z.sh s with heap := h', toks := tk }) (a := q) ?_ ?_ _ _ (by simpa [hvl] using hq) ⟨_, rfl⟩
    · rintro i j C s' hi hj hij ⟨tk, rfl⟩ hC
      exact zmt (s := { z.sh s with heap := h', toks := tk }) (by omega) hnd ht N₀ (by omega) (by omega) hij (hC _ ⟨tk, rfl⟩)
    · rintro s' ⟨tk, rfl⟩
      refine KasFin.intro (s := { z.sh s with heap := h', toks := tk }) F' N' (UpdF.head hoff) fun h'' c F'' N'' => ?_
      refine G.put H rfl hk F'' (back N'') (fun e => nomatch e) ⟨_, _, rfl, hr.pick q.toList⟩
end
theorem kdl_raw {prog : Program} {w : World} {d : Addr} {es : Array DictEntry} {ep : Nat} (lo : (d == sysModules) = false) : KdlSrc prog w "dict" d d es.size (fun i v => ∃ e, es[i]? = some e ∧ v = e.key) (fun h => DictRaw h d es ep) where
  type := fun _ hm => hm.typeIs
  there := fun _ hm => ⟨hm.lt, hm.lt⟩
  keep := fun _ _ hm hk => hm.at fun o e => hk d (.inl rfl) o e
  notList := by decide
  notTuple := by decide
  hint := fun _ _ _ _ hm hq => kdl_hint_dict hm.typeIs hq
  iter := fun _ _ hh hm => ⟨_, _, (fun _ _ hq => zle lo hm hq), j9 hh _ d (Nat.ne_of_lt hm.lt) es ep, ⟨⟨_, Heap.get?_push_size _ rfl, rfl, rfl⟩, hm.at fun o e => Heap.get?_push_of_some _ e⟩⟩
section
open Builtin
set_option maxRecDepth 100000
theorem zfe (x : Str) (t u : Tok) : Builtin.«str.encode» ⟨[.str x t, .str (Str.ofString "utf-8") u], []⟩ = (do ret (← Builtin._codecs.encodeRoad "str.encode" (.str x t) x (Str.ofString "utf-8") none)) := by kernel_rfl
theorem zkt (a b : Value) : argsOk "bytes.decode" ⟨[a, b], []⟩ := by
  unfold argsOk; rw [signature?_of (id := "bytes.decode") (n := ['e', 'd', 'o', 'c', 'e', 'd']) (o := ['s', 'e', 't', 'y', 'b']) (by kernel_rfl) FB.owner_bytes]; kernel_rfl
theorem dec2_eq {c : UInt8} {cs : List UInt8} {t u : Tok} : «bytes.decode» ⟨[.bytes (c :: cs).toArray t, .str (Str.ofString "utf-8") u], []⟩ = (mkStr (Str.ofString "utf-8") >>= fun _ => mkStr (Str.ofString "utf-8") >>= fun e => mkStr (Str.ofString "bytes.decode") >>= fun d =>
    call (.builtin "_codecs.decode.text") [.bytes (c :: cs).toArray t, e, .none, d] >>= fun v => ret v) := by kernel_rfl
noncomputable def i7 (x : Str) (b : Array UInt8) : Prop := (∀ id self, _codecs.encodeNarrow id _codecs.utf8Codec none self x = pure b) ∧ (∀ id, _codecs.runDecoder id _codecs.utf8Decoder none true b 0 [] = pure (x.cps, b.size)) ∧ b.size ≤ 100 ∧ x.length ≤ 100 ∧ 0 < b.size
theorem zkb : i7 (Str.ofString "one") #[111, 110, 101] := ⟨fun id self => by kernel_rfl, fun id => by kernel_rfl, by decide, by decide, by decide⟩
theorem zha : i7 (Str.ofString "-") #[45] := ⟨fun id self => by kernel_rfl, fun id => by kernel_rfl, by decide, by decide, by decide⟩
theorem enc_tab {x : Str} {l : List Int} (h : look encT x = some l) : ∃ b, i7 x b ∧ KBw.bInts b = l := by
  have hm := zbk h
  unfold encT at hm
  simp only [List.mem_cons, List.not_mem_nil, or_false, Prod.mk.injEq] at hm
  rcases hm with ⟨rfl, rfl⟩ | ⟨rfl, rfl⟩
  · exact ⟨_, zkb, by decide +kernel⟩
  · exact ⟨_, zha, by decide +kernel⟩
theorem zkd {x : Str} {l : List Int} : ∀ {T : List (Str × List Int)}, decS l T = some x → (x, l) ∈ T
  | [], h => by cases h
  | p :: r, h => by
    have h' : (match leqI p.2 l with | true => some p.1 | false => decS l r) = some x := h
    cases e : leqI p.2 l with
    | true => rw [e] at h'; cases h'; rw [← zcm.mp e]; exact .head _
    | false => rw [e] at h'; exact .tail _ (zkd h')
theorem dec_tab {x : Str} {b : Array UInt8} (h : decS (KBw.bInts b) encT = some x) : i7 x b := by
  have hm := zkd h
  unfold encT at hm
  simp only [List.mem_cons, List.not_mem_nil, or_false, Prod.mk.injEq] at hm
  rcases hm with ⟨rfl, e⟩ | ⟨rfl, e⟩
  · rw [zci (b := b) (c := #[111, 110, 101]) (e.trans (by decide +kernel))]; exact zkb
  · rw [zci (b := b) (c := #[45]) (e.trans (by decide +kernel))]; exact zha
section
variable {prog : Program} {w : World} {A : Around} {E : Value → Shared → Prop} {s : Shared} {x : Str} {b : Array UInt8} {t u : Tok}
theorem zka (he : i7 x b) {Q : Value → Shared → Prop} (h : ∀ t' k, Q (.bytes b t') { s with toks := k }) :
    wpAny (model prog w) A (call (.builtin "str.encode") [.str x t, .str (Str.ofString "utf-8") u]) Q E s := by
  refine call_meets (S := fun _ R s => ∀ t' k, R (.ok (.ret (.bytes b t'))) { s with toks := k }) PySem.F.slot_str_encode (typeIs_str s _ t) PySem.F.entry_str_encode (PySem.F.args_str_encode_2 _ _) (.of_wp fun prog w A R s hS => ?_) h
  rw [zfe, encodeRoad_utf8, he.1]
  refine wpAny_bind (wpAny_bind (wpAny_pure ?_))
  exact wpAny_mkBytes (wpAny_pure ⟨_, rfl, hS _ _⟩) (by rw [sizeLine_eq]; have := he.2.2.1; omega)
theorem zkc (he : i7 x b) {Q : Value → Shared → Prop} (h : ∀ t' k, Q (.str x t') { s with toks := k }) :
    wpAny (model prog w) A (call (.builtin "bytes.decode") [.bytes b t, .str (Str.ofString "utf-8") u]) Q E s := by
  refine call_meets (S := fun _ R s => ∀ t' k, R (.ok (.ret (.str x t'))) { s with toks := k }) FB.slot_bytes_decode (PySem.W.typeIs_bytes _ _ _) FB.entry_bytes_decode (zkt _ _) (.of_wp fun prog w A R s hS => ?_) h
  obtain ⟨_, hd, _, hz, h0⟩ := he
  obtain ⟨bl⟩ := b
  cases bl with
  | nil => exact absurd h0 (by decide)
  | cons c cs =>
    have hz' : x.length ≤ sizeLine := by rw [sizeLine_eq]; omega
    rw [dec2_eq]
    refine wpAny_bind (wpAny_mkStr ?_ (by decide))
    refine wpAny_bind (wpAny_mkStr ?_ (by decide))
    refine wpAny_bind (wpAny_mkStr ?_ (by decide))
    exact wpAny_bind (call_function_meets KBd.kind_text KBd.plain_text KBd.entry_text (KBd.args_text _ _ _ _) (KBd.meets_text hd) ⟨hz', wpAny_pure ⟨_, rfl, hS _ _⟩⟩)
theorem zen {M : Model} {x : Str} {pl : Sem Bool} {Q : Value × List Value → Shared → Prop} (h : Q (.builtin "str.encode", [.str x t]) s) : wpAny M A (getMethod (.str x t) (Str.ofString "encode") pl) Q E s := by
  with_reducible exact getMethod_builtin (typeIs_str s x t) PySem.F.plainAttrs_str PySem.F.slot_str_encode PySem.F.type_str_encode (fun _ e => nomatch e) h
theorem zei (k : Str) : ∀ {vs : List Value} {ns : List Str}, StrsAre vs ns → ∀ (j : Nat) (h1 : j < vs.length) (h2 : j < ns.length), isStrOf k vs[j] = (ns[j] == k)
  | _, _, .cons n t _, 0, _, _ => rfl
  | _, _, .cons n t r, j + 1, h1, h2 => zei k r j (Nat.lt_of_succ_lt_succ h1) (Nat.lt_of_succ_lt_succ h2)
theorem zjr {k : Str} : ∀ {ns : List Str} {j : Nat}, idxQ k ns = some j → ∃ h : j < ns.length, (ns[j] == k) = true ∧ ∀ m (hm : m < ns.length), m < j → (ns[m] == k) = false
  | [], _, h => by cases h
  | y :: r, j, h => by
    have h' : (match sq y k with | true => some 0 | false => (idxQ k r).map (· + 1)) = some j := h
    cases e : sq y k with
    | true =>
      rw [e] at h'
      cases h'
      exact ⟨Nat.succ_pos _, by show (y == k) = true; rw [← zer, e], fun m _ hm => absurd hm (Nat.not_lt_zero _)⟩
    | false =>
      rw [e] at h'
      refine zag h' fun i hi hrfl => ?_
      subst hrfl
      obtain ⟨h1, h2, h3⟩ := zjr hi
      refine ⟨Nat.succ_lt_succ h1, h2, fun m hm hlt => ?_⟩
      cases m with
      | zero => show (y == k) = false; rw [← zer, e]
      | succ m => exact h3 m (Nat.lt_of_succ_lt_succ hm) (Nat.lt_of_succ_lt_succ hlt)
theorem zdd {l : Addr} {vs : List Value} {ns : List Str} {k : Str} {t : Tok} {j : Nat} {Q : Value → Shared → Prop} (hl : s.heap.IsList l vs.toArray) (hi : StrsAre vs ns) (hz : ns.length ≤ 100000)
    (hk : idxQ k ns = some j) (h : Q (.int (j : Nat) s.toks) { s with toks := s.toks + 1 }) :
    wpAny (model prog w) A (call (.builtin "list.index") [.ref l, .str k t]) Q E s := by
  obtain ⟨⟨cls, dd, data, sl⟩, ho, hc, n, hd⟩ := id hl
  simp only at hc hd
  subst hc hd
  have hlen := hi.length
  obtain ⟨hj, hhit, hno⟩ := zjr hk
  refine call_meets PySem.F.slot_list_index ⟨_, ho, rfl⟩ PySem.F.entry_list_index (PySem.F.args_list_index_2 _ _)
    (SeqAt.list_indexAt l vs.toArray n dd sl (.str k t) (isStrOf k) j (by simpa [hlen] using hj) (by omega) ?_ ?_) ⟨ho, fun y hy => (eq_isStrOf k t hi y (by simpa using hy)).at _ _, h⟩
  · show isStrOf k vs[j] = true
    rw [zei k hi _ (by omega) hj]
    exact hhit
  · intro m hms hlt
    show isStrOf k vs[m] = false
    rw [zei k hi m (by simpa using hms) (by omega)]
    exact hno m _ hlt
end
end
noncomputable def BId.nm : BId → String
  | .len => "len"
  | .max => "max"
  | .sorted => "sorted"
  | .ord => "ord"
  | .min => "min"
theorem zhd {id : String} {i : BId} (h : bid id = some i) : id = i.nm := by
  unfold bid at h
  cases e1 : decide (id = "len") with
  | true => rw [e1] at h; cases h; exact of_decide_eq_true e1
  | false =>
    rw [e1] at h
    cases e2 : decide (id = "max") with
    | true => rw [e2] at h; cases h; exact of_decide_eq_true e2
    | false =>
      rw [e2] at h
      cases e3 : decide (id = "sorted") with
      | true => rw [e3] at h; cases h; exact of_decide_eq_true e3
      | false =>
        rw [e3] at h
        cases e4 : decide (id = "ord") with
        | true => rw [e4] at h; cases h; exact of_decide_eq_true e4
        | false =>
          rw [e4] at h
          cases e5 : decide (id = "min") with
          | true => rw [e5] at h; cases h; exact of_decide_eq_true e5
          | false => rw [e5] at h; cases h
section
variable {Γ : Gm} {orc : Orc} {kf : Nat} {c : Cx} {M : Str → Option Value} {z : Zs} {g g' : Sg} {s : Shared} {v a b : SV} {V U : Value}
set_option maxRecDepth 20000 in
theorem getm_ok {i : MId} {x : Str} {pl : Sem Bool} {Q : Value × List Value → Shared → Prop} (h : zjf g.σ a x = some i) (H : Cor Γ c M g z) (ha : RV z.ρ a V) (G : Q (.builtin i.id, [V]) (z.sh s)) :
    wpAny (model Γ.prog Γ.w) c.A (getMethod V x pl) Q c.E (z.sh s) := by
  cases a with
  | bytes l =>
    have h' : (match sq x "decode" with | true => some MId.dec | false => zad (l.isEmpty && sq x "join") (some MId.join)) = some i := h
    obtain ⟨b, t, rfl, hb⟩ := ha
    cases e0 : sq x "decode" with
    | true =>
      rw [e0] at h'
      cases h'
      rw [zbh.mp e0]
      exact KBd.method G
    | false =>
      rw [e0] at h'
      refine zaa h' fun e h => ?_
      cases h
      refine zae e fun e1 e2 => ?_
      rw [zbh.mp e2]
      exact zfl G
  | str y =>
    obtain ⟨t, rfl⟩ := ha
    have hm2 := zbk (show look strT x = some i from h)
    unfold strT at hm2
    simp only [List.mem_cons, List.not_mem_nil, or_false, Prod.mk.injEq] at hm2
    rcases hm2 with ⟨rfl, rfl⟩ | ⟨rfl, rfl⟩ | ⟨rfl, rfl⟩
    · exact PySem.GM.startswith G
    · exact PySem.GM.split G
    · exact zen G
  | obj k =>
    refine zac h fun k so hq h2 => ?_
    clear h
    obtain ⟨D, o, rfl, hD, hk, hm, hr⟩ := H.ob ha (zas hq)
    cases so with
    | list l =>
      obtain ⟨vs, nn, rfl, hr⟩ := hr
      have hm2 := zbk (show look listT x = some i from h2)
      unfold listT at hm2
      simp only [List.mem_cons, List.not_mem_nil, or_false, Prod.mk.injEq] at hm2
      rcases hm2 with ⟨rfl, rfl⟩ | ⟨rfl, rfl⟩ | ⟨rfl, rfl⟩ | ⟨rfl, rfl⟩ | ⟨rfl, rfl⟩
      · exact kl_method H.N hm PySem.F.slot_list_append PySem.F.type_list_append G
      · exact kl_method H.N hm PySem.F.slot_list_extend PySem.F.type_list_extend G
      · exact kl_method H.N hm PySem.F.slot_list_pop PySem.F.type_list_pop G
      · exact kl_method H.N hm PySem.F.slot_list_insert PySem.F.type_list_insert G
      · exact kl_method H.N hm PySem.F.slot_list_sort PySem.F.type_list_sort G
    | dict l =>
      obtain ⟨kvs, hd, hr⟩ := hr
      have h2' : (match sq x "get" with | true => zad l.isEmpty (some MId.get) | false => zad (sq x "values" && (f6 l).isSome) (some MId.vals)) = some i := h2
      cases e0 : sq x "get" with
      | true =>
        rw [e0] at h2'
        refine zaa h2' fun e h => ?_
        cases h
        rw [zbh.mp e0]
        exact kdl_method (knd := PySem.intKind Γ.prog Γ.w) PySem.F.slot_dict_get PySem.F.type_dict_get H.N hm hd G
      | false =>
        rw [e0] at h2'
        refine zaa h2' fun e h => ?_
        cases h
        refine zae e fun e1 e2 => ?_
        rw [zbh.mp e1]
        obtain ⟨ys, hy⟩ := Option.isSome_iff_exists.mp e2
        obtain ⟨c, hc, _⟩ := zch hy
        rw [hc] at hr
        exact f9 (c := c) rfl H.N hm ⟨kvs, hd, hr.ints⟩ (H.led.lo _ _ D (zas hq).2 rfl hD) G
    | sdict l =>
      obtain ⟨kvs, hd, hr⟩ := hr
      refine zaa h2 fun e h => ?_
      cases h
      rw [zbh.mp e]
      exact kdl_method (knd := PySem.strKind Γ.prog Γ.w) PySem.F.slot_dict_keys PySem.F.type_dict_keys H.N hm hd G
    | pdict l =>
      obtain ⟨es, ep, xs, g1, _⟩ := hr
      refine zaa h2 fun e h => ?_
      cases h
      rw [zbh.mp e]
      exact getMethod_builtin (T := "dict") ⟨o, (H.N _ hm).1, g1.1⟩ PySem.F.plainAttrs_dict PySem.F.slot_dict_get PySem.F.type_dict_get (fun a e => by cases e; exact ⟨o, (H.N _ hm).1, g1.2.1⟩) G
    | _ => cases h2
  | _ => cases h
theorem RVs.strs {ρ : List Addr} {l : List Str} {vs : List Value} (r : StrsAre vs l) : RVs ρ (l.map .str) vs := by
  induction r with
  | nil => exact .nil
  | cons n t _ ih => exact .cons ⟨t, rfl⟩ ih
theorem bs_are {ρ : List Addr} {l : List SV} {vs : List Value} (r : RVs ρ l vs) : ∀ {ks : List (List Int)}, mapS vB l = some ks → BsAre vs ks := by
  induction r with
  | nil => intro ks h; cases h; exact .nil
  | @cons v V l L hv _ ih =>
    intro ks h
    obtain ⟨k, ks, h1, h2, rfl⟩ := zav h
    obtain rfl := zfn h1
    obtain ⟨b, t, rfl, hb⟩ := hv
    exact BsAre.app (BsAre.snoc .nil hb) (ih h2)
theorem zmo {i : MId} {vs : List SV} {Vs : List Value} {Q : Value → Shared → Prop} (h0 : methS i a vs g = some (v, g')) (C : Orx Γ kf c) (H : Cor Γ c M g z) (ha : RV z.ρ a V) (hv : RVs z.ρ vs Vs) (G : Got Γ c M g z s Q v g') :
    wpAny (model Γ.prog Γ.w) c.A (call (.builtin i.id) (V :: Vs)) Q c.E (z.sh s) := by
  have hone : ∀ {x : SV}, one vs = some x → ∃ X, Vs = [X] ∧ RV z.ρ x X := fun {x} hx => by
    rw [zbm hx] at hv
    rcases hv with _ | ⟨h1, hv⟩
    cases hv
    exact ⟨_, rfl, h1⟩
  cases i with
  | app =>
    refine zac h0 fun k l hq h => ?_
    refine zab h fun x hx h => ?_
    refine zaa h fun hz h => ?_
    replace G := G.of h
    have hz' := zah hz
    obtain ⟨X, rfl, hX⟩ := hone hx
    obtain ⟨D, us, nn, rfl, hk, hm, hr, hrl⟩ := H.list ha hq
    refine append_K (its := us.toArray) (n := nn) H.F H.N (UpdF.upd (H.upd hk) _) (fun h' F' N' => ?_) (by rw [List.size_toArray, sizeLine_eq]; omega)
    exact G.put H rfl hk F' N' (fun e => nomatch e) ⟨us ++ [X], nn + 1, by simp, hr.append (.cons hX .nil)⟩
  | ext =>
    refine zac h0 fun k l hq h => ?_
    refine zab h fun x hx h => ?_
    refine zac h fun k' l' hq' h => ?_
    refine zaa h fun hz h => ?_
    replace G := G.of h
    have hz' := zah hz
    obtain ⟨X, rfl, hX⟩ := hone hx
    obtain ⟨D, us, nn, rfl, hk, hm, hr, hrl⟩ := H.list ha hq
    obtain ⟨D', us', nn', rfl, hk', hm', hr', hrl'⟩ := H.list hX hq'
    refine zgy (its := us.toArray) (n := nn) H.F H.N hm' (H.upd hk) (by rw [List.size_toArray, List.size_toArray, sizeLine_eq]; omega) fun h' n' F' N' => ?_
    exact G.put H rfl hk F' N' (fun e => nomatch e) ⟨us ++ us', n', by simp, hr.append hr'⟩
  | pop =>
    refine zac h0 fun k l hq h => ?_
    refine zab h fun x hx h => ?_
    refine zab h fun i hi h1 => ?_
    refine zaa h1 fun hz h2 => ?_
    clear h0 h h1
    refine zae hz fun e0 hz => ?_
    have hz' := zah hz
    obtain ⟨X, rfl, hX⟩ := hone hx
    obtain rfl := zay hi
    obtain rfl := of_decide_eq_true e0
    obtain ⟨t, rfl⟩ := hX
    obtain ⟨D, us, nn, rfl, hk, hm, hr, hrl⟩ := H.list ha hq
    cases l with
    | nil => cases h2
    | cons y r =>
      replace G := G.of h2
      rcases hr with _ | ⟨hx, hr⟩
      rename_i X us
      refine kl_popAt (k := 0) (p := []) (q := us) (its := (X :: us).toArray) (n := nn) H.F H.N (by decide) ?_ rfl (UpdF.upd (H.upd hk) _) ?_ fun h' F' N' => ?_
      · simp [seqIndex?]
      · show (X :: us).length ≤ sizeLine
        rw [sizeLine_eq]

        omega
      · exact G.put H hx hk F' N' (fun e => nomatch e) ⟨us, nn + 1, rfl, hr⟩
  | ins =>
    refine zac h0 fun k l hq h => ?_
    refine zac h fun x y hx h => ?_
    refine zab h fun i hi h => ?_
    refine zaa h fun hz h => ?_
    replace G := G.of h
    refine zae hz fun e0 hz => ?_
    have hz' := zah hz
    have e1 := of_decide_eq_true e0
    obtain rfl := zay hi
    rw [zbw hx] at hv
    rcases hv with _ | ⟨⟨t, rfl⟩, hv⟩
    rcases hv with _ | ⟨hx, hv⟩
    cases hv
    rename_i X
    obtain ⟨D, us, nn, rfl, hk, hm, hr, hrl⟩ := H.list ha hq

    have e : kl_ins us i X = us.take i.toNat ++ X :: us.drop i.toNat := by
      unfold kl_ins
      rw [if_neg (by omega)]
      have : min i.toNat us.length = i.toNat := by omega
      rw [this]
    refine kl_insert (its := us.toArray) (n := nn) H.F H.N ?_ e (UpdF.upd (H.upd hk) _) (by show us.length ≤ sizeLine; rw [sizeLine_eq]; omega) fun h' F' N' => ?_
    · simp only [Builtin.List.listFitsIndex, Bool.and_eq_true, decide_eq_true_eq]
      omega
    · exact G.put H rfl hk F' N' (fun e => nomatch e) ⟨_, nn + 1, rfl, (hr.take _).append (.cons hx (hr.drop _))⟩
  | sort =>
    refine zac h0 fun k l hq h => ?_
    refine zaa h fun e h => ?_
    refine zag h fun l' hl h => ?_
    replace G := G.of' h
    rw [List.isEmpty_iff.mp e] at hv
    cases hv
    exact ziw hq hl H ha G
  | vals =>
    refine zac h0 fun k l hq h => ?_
    refine zaa h fun e h => ?_
    replace G := G.of h
    refine zae e fun e1 e2 => ?_
    rw [List.isEmpty_iff.mp e1] at hv
    cases hv
    obtain ⟨D, o, kvs, rfl, hD, hk, hm, hd, hr, lo⟩ := H.dict ha hq
    obtain ⟨ys, hy⟩ := Option.isSome_iff_exists.mp e2
    obtain ⟨c, hc, _⟩ := zch hy

    rw [hc] at hr
    refine f8 (c := c) H.F H.N hm ⟨kvs, hd, hr.ints⟩ lo fun X h' F' N' l1 => ?_
    exact G.new H F' N' l1 (fun e => nomatch e) ⟨D, Ext.snoc _ _ hD, rfl⟩
  | join =>
    refine zab h0 fun l hq h => ?_
    refine zab h fun x hx h => ?_
    refine zab h fun b hb h => ?_
    refine zaa h fun e h => ?_
    replace G := G.of h
    refine zae e fun e1 hz => ?_
    obtain rfl := zfn hq
    obtain ⟨X, rfl, hX⟩ := hone hx
    refine zac hb fun k l2 h1 h2 => ?_
    refine zag h2 fun c h3 hrfl => ?_
    subst hrfl
    obtain ⟨bb, t, rfl, hbb⟩ := ha
    rw [List.isEmpty_iff.mp e1] at hbb
    have hs : bb = #[] := Array.eq_empty_of_size_eq_zero (by rw [← KBw.ints_length, hbb]; rfl)
    subst hs
    obtain ⟨D, us, nn, rfl, hk, hm, hr, hrl⟩ := H.list hX h1
    have hz' := zah hz
    exact zkn (PySem.IsL.isList (n := nn) (H.N _ hm).1) (by simp) (bs_are hr h3) (by omega) fun b t k e => G.now ⟨_, _, rfl, e⟩ H
  | starts =>
    refine zab h0 fun x hx h => ?_
    refine zab h fun u hu h => ?_
    refine zag h fun y hy h => ?_
    replace G := G.of' h
    obtain rfl := c6 hx
    obtain ⟨X, rfl, hX⟩ := hone hu
    obtain rfl := c6 hy
    obtain ⟨t, rfl⟩ := ha
    obtain ⟨t', rfl⟩ := hX
    exact PySem.SC.startswith (G.now rfl H)
  | split =>
    refine zab h0 fun x hx h => ?_
    refine zab h fun u hu h => ?_
    refine zab h fun y hy h => ?_
    refine zaa h fun e h => ?_
    replace G := G.of h
    refine zae e fun e1 hz => ?_
    obtain rfl := c6 hx
    obtain ⟨X, rfl, hX⟩ := hone hu
    obtain rfl := c6 hy
    obtain ⟨t, rfl⟩ := ha
    obtain ⟨t', rfl⟩ := hX
    have hz' := zah hz
    have e1' : 0 < y.length := Nat.le_of_ble_eq_true e1
    refine KSpl.split1 H.F H.N (by simp; omega) (fun D l h' k hl hs F' N' l1 => ?_) (by rw [sizeLine_eq]; omega)
    exact G.new H F' N' l1 (fun e => nomatch e) ⟨_, _, rfl, hl ▸ RVs.strs hs⟩
  | keys =>
    refine zac h0 fun k so hq h => ?_
    refine zab h fun l hl h => ?_
    refine zaa h fun e h => ?_
    replace G := G.of h
    rw [List.isEmpty_iff.mp e] at hv
    cases hv
    obtain ⟨D, o, rfl, hD, hk, hm, hr⟩ := H.ob ha (zas hq)
    obtain ⟨kvs, hd, hr⟩ := hr.sdict hl
    refine kdl_view_keys (knd := PySem.strKind Γ.prog Γ.w) H.F H.N hm hd (H.led.lo _ _ D (zas hq).2 (e7 hl) hD) fun X h' F' N' l1 => ?_
    exact G.new H F' N' l1 (fun e => nomatch e) ⟨D, Ext.snoc _ _ hD, rfl⟩
  | get =>
    refine zac h0 fun k so hq h => ?_
    refine zab h fun l hl h => ?_
    refine zac h fun x y hx h => ?_
    refine zab h fun d hd0 h => ?_
    refine zaa h fun hks h => ?_
    refine zag h fun q hoq h => ?_
    replace G := G.of' h
    obtain rfl := zay hd0
    rw [zbw hx] at hv
    rcases hv with _ | ⟨hX, hv⟩
    rcases hv with _ | ⟨⟨t, rfl⟩, hv⟩
    cases hv
    obtain ⟨D, o, rfl, hD, hk, hm, hr⟩ := H.ob ha (zas hq)
    obtain ⟨T, ok, rfl, hka, hpk⟩ := H.pairKey hX hoq
    refine call_get2_tupTab_eq (dd := .int d) PyProof.V.same_int C.room H.N (H.tupTab (hr.pdict hl) hks (H.led.lo _ _ D (zas hq).2 (e8 hl) hD) hm) hka hpk.key (PyProof.V.Flat.int _ _) (dv := .int ((zaw pq l (0, q.1, q.2)).getD d)) ?_ fun v hv => ?_
    · have e := zdg (k := 0) (q := q) (l := l)
      refine (congrArg (fun o => Option.getD o (PyData.int d)) e).trans ?_
      show ((zaw pq l (0, q.1, q.2)).map PyData.int).getD (.int d) = _
      cases zaw pq l (0, q.1, q.2) <;> rfl
    · obtain ⟨t, rfl⟩ := PyProof.V.Flat.int_inv hv
      exact G.now ⟨_, rfl⟩ H
  | enc =>
    refine zab h0 fun x hx h => ?_
    refine zab h fun u hu h => ?_
    refine zab h fun y hy h => ?_
    refine zaa h fun e h => ?_
    refine zag h fun b hb h => ?_
    replace G := G.of' h
    obtain rfl := c6 hx
    obtain ⟨X, rfl, hX⟩ := hone hu
    obtain rfl := c6 hy
    obtain ⟨t, rfl⟩ := ha
    obtain ⟨t', rfl⟩ := hX
    obtain rfl := zbh.mp e
    obtain ⟨bb, he, hbb⟩ := enc_tab hb
    exact zka he fun t' k => G.now ⟨_, _, rfl, hbb⟩ H
  | dec =>
    refine zab h0 fun l hx h => ?_
    refine zab h fun u hu h => ?_
    refine zab h fun y hy h => ?_
    refine zaa h fun e h => ?_
    refine zag h fun x hb h => ?_
    replace G := G.of' h
    obtain rfl := zfn hx
    obtain ⟨X, rfl, hX⟩ := hone hu
    obtain rfl := c6 hy
    obtain ⟨bb, t, rfl, rfl⟩ := ha
    obtain ⟨t', rfl⟩ := hX
    obtain rfl := zbh.mp e
    exact zkc (dec_tab hb) fun t' k => G.now ⟨_, rfl⟩ H
noncomputable def zbf (Γ : Gm) (orc : Orc) (kf : Nat) : Prop :=
  ∀ (f : Addr) (vs : List SV) (g : Sg) (v : SV) (g' : Sg) (c : Cx) (M : Str → Option Value) (z : Zs) (Vs : List Value) (s : Shared) (R : Result → Shared → Prop), orc f vs g = some (v, g') → Cor Γ c M g z → RVs z.ρ vs Vs → Orx Γ kf c →
    (∀ r z', Ex z g z' g' → RV z'.ρ v r → Cor Γ c M g' z' → R (.ok (.ret r)) (z'.sh s)) → codeAny (model Γ.prog Γ.w) c.A (.call (.ref f) ⟨Vs, []⟩) R (z.sh s)
theorem zfk : ∀ {l : List SV} {b : List Int}, mapS byteS l = some b → b.length = l.length ∧ KBa.In b ∧ ∀ {ρ : List Addr} {Vs : List Value}, RVs ρ l Vs → IntsAre Vs b
  | [], _, h => by
    cases h
    exact ⟨rfl, fun _ h => (nomatch h), fun r => by cases r; exact .nil⟩
  | v :: r, b, h => by
    obtain ⟨x, l, h1, h2, rfl⟩ := zav h
    refine zab h1 fun y h3 h4 => ?_
    refine zaa h4 fun e h4 => ?_
    cases h4
    obtain rfl := zay h3
    obtain ⟨a1, a2, a3⟩ := zfk h2
    refine ⟨by rw [List.length_cons, List.length_cons, a1], fun y hy => ?_, fun r => ?_⟩
    · rcases List.mem_cons.mp hy with rfl | hy
      · exact of_decide_eq_true e
      · exact a2 y hy
    · rcases r with _ | ⟨⟨t, rfl⟩, r⟩
      exact .cons _ _ (a3 r)
theorem RVs.ints {ρ : List Addr} {l : List Int} {vs : List Value} (r : IntsAre vs l) : RVs ρ (l.map .int) vs := by
  induction r with
  | nil => exact .nil
  | cons n t _ ih => exact .cons ⟨t, rfl⟩ ih
theorem zlq {ρ : List Addr} {l : List (Str × SV)} {kvs : List (Str × Value)} (hr : RKs ρ l kvs) : ∀ {C : List Value → Prop}, (∀ vs, RVs ρ (l.map fun p => SV.str p.1) vs → C vs) → KdlKeysS kvs C := by
  induction hr with
  | nil => intro C h; exact h [] .nil
  | cons a _ ih => intro C h t; exact ih fun vs hvs => h _ (.cons ⟨t, rfl⟩ hvs)
theorem RPs.refs {ρ : List Addr} {l : List ((Nat × Int × Int) × Int)} {xs : List (List Int × Addr × Value)} (r : RPs ρ l xs) : ∀ {vs : List Value}, vs.length = xs.length → (∀ (j : Nat) (u : Value), vs[j]? = some u → ∃ x, xs[j]? = some x ∧ u = .ref x.2.1) → RVs ρ (l.map fun p => SV.obj p.1.1) vs := by
  induction r with
  | nil =>
    intro vs hl _
    rw [List.length_eq_zero_iff.mp hl]
    exact .nil
  | @cons k a b c T t l xs hk _ ih =>
    intro vs hl hv
    cases vs with
    | nil => cases hl
    | cons u vs =>
      obtain ⟨x, hx, rfl⟩ := hv 0 u rfl
      cases hx
      exact .cons ⟨T, hk, rfl⟩ (ih (Nat.succ.inj hl) fun j w hw => hv (j + 1) w hw)
theorem oL_new (g : Sg) (l : List SV) : oL (mkO (.list l) g).2.σ (.obj g.σ.length) = some (g.σ.length, l) := by
  show ((nthS (g.σ ++ [SO.list l]) g.σ.length).map fun so => (g.σ.length, so)).bind _ = _
  rw [zao, List.getElem?_append_right (Nat.le_refl _), Nat.sub_self]
  rfl
theorem d0 {i : BId} {id : String} {Q : Value → Shared → Prop} (hi : bid id = some i) (h : zfj i a g = some (v, g')) (C : Orx Γ kf c) (H : Cor Γ c M g z) (ha : RV z.ρ a V) (G : Got Γ c M g z s Q v g') :
    wpAny (model Γ.prog Γ.w) c.A (call (.builtin id) [V]) Q c.E (z.sh s) := by
  obtain rfl := zhd hi
  cases i with
  | len =>
    refine zab h fun n hn h => ?_
    refine zaa h fun hz h => ?_
    replace G := G.of h
    have hz' := zah hz
    cases a with
    | bytes l =>
      obtain ⟨b, t, rfl, e2⟩ := ha
      cases hn
      exact KBw.len_K e2 (by omega) (G.now ⟨_, rfl⟩ H)
    | str x =>
      obtain ⟨t, rfl⟩ := ha
      cases hn
      exact PyProof.Rows.len_str (by omega) (G.now ⟨_, rfl⟩ H)
    | obj k =>
      refine zac (show zaf (oO g.σ (.obj k)) (fun _ o => lenO o) = some n from hn) fun k so hq hn => ?_
      obtain ⟨D, o, rfl, hD, hk, hm, hr⟩ := H.ob ha (zas hq)
      cases so with
      | list l =>
        obtain ⟨us, nn, rfl, hr⟩ := hr
        cases hn
        refine len_list (PySem.IsL.isList (n := nn) (H.N _ hm).1) (by rw [List.size_toArray, hr.length]; omega) ?_
        rw [List.size_toArray, hr.length]
        exact G.now ⟨_, rfl⟩ H
      | dict l =>
        obtain ⟨kvs, hd, hr⟩ := hr
        cases hn
        refine kda_len (knd := PySem.intKind _ _) H.N hm hd (H.led.lo _ _ D (zas hq).2 rfl hD) (by rw [hr.length]; omega) ?_
        rw [hr.length]
        exact G.now ⟨_, rfl⟩ H
      | sdict l =>
        obtain ⟨kvs, hd, hr⟩ := hr
        cases hn
        refine kda_len (knd := PySem.strKind _ _) H.N hm hd (H.led.lo _ _ D (zas hq).2 rfl hD) (by rw [hr.length]; omega) ?_
        rw [hr.length]
        exact G.now ⟨_, rfl⟩ H
      | _ => cases hn
    | _ => cases hn
  | max =>
    refine zag h fun x hx h => ?_
    replace G := G.of' h
    refine zac hx fun k so h1 h => ?_
    refine zab h fun d h2 h => ?_
    refine zab h fun so' h3 h => ?_
    refine zab h fun l h4 h => ?_
    refine zab h fun ys h5 h6 => ?_
    obtain ⟨f1, f2⟩ := zas h1
    rw [soV_eq h2] at f2
    rw [zsc h4] at h3
    obtain ⟨D, o, rfl, hD, hk, hm, a', ha', rfl⟩ := H.ob ha ⟨f1, f2⟩
    obtain ⟨a2, o2, e2, ha2, hk2, hm2, kvs, hdd, hr⟩ := H.obj (V := .ref a') ⟨a', ha', rfl⟩ h3
    cases e2
    obtain ⟨cs, hc, rfl⟩ := zch h5
    obtain ⟨i1, i2⟩ := zjg.2 x h6
    rw [hc] at hr
    refine zjs (c := cs) (d := a') (o := o2) (v := D) (news := z.nw ++ c.rest) C.hand H.F (fun q hq => ?_) hm2 ⟨kvs, hdd, hr.ints⟩ ?_ fun h' tk t Mx hM1 hM2 F' N' => ?_
    · rcases List.mem_cons.mp hq with rfl | hq
      · exact H.N _ hm
      · exact H.N _ hq
    · cases cs with
      | nil => cases i1
      | cons q cs => exact Nat.succ_pos _
    · have : Mx = x := Int.le_antisymm (i2 _ hM1) (hM2 _ i1)
      subst this
      exact G.same H ⟨_, rfl⟩ F' N'
  | sorted =>
    refine zac h fun k so hq h => ?_
    refine zab h fun l hl h => ?_
    refine zaa h fun hks h => ?_
    refine zag h fun r hr0 h => ?_
    replace G := G.of' h
    obtain ⟨D, o, rfl, hD, hk, hm, hr⟩ := H.ob ha (zas hq)
    have lo := H.led.lo _ _ D (zas hq).2 (e8 hl) hD
    obtain ⟨es, ep, xs, g1, g2, g3, g4, g5⟩ := hr.pdict hl
    have hes : es.size = l.length := by
      have := congrArg List.length g3
      rw [List.length_map, g5.length] at this
      simpa using this
    have hsm : l.length < 64 := by
      refine zab hr0 fun ks hks2 h => ?_
      refine zaa h fun e _ => ?_
      refine zae e fun _ e2 => ?_
      have := Nat.le_of_ble_eq_true e2
      rw [List.length_map] at this
      exact this
    refine kdu_sorted (kdl_raw lo) C.hand H.F H.N ⟨o, (H.N _ hm).1, g1, g2⟩ (by rw [hes, sizeLine_eq]; omega) fun B h' tk vs F' N' l1 hvl hv => ?_
    have hvs : RVs z.ρ (l.map fun p => SV.obj p.1.1) vs := g5.refs (by rw [hvl, hes, g5.length]) fun j u hu => by
      obtain ⟨e, he, hve⟩ := hv j u hu
      have : es.toList[j]? = some e := by simpa using he
      rw [g3, List.getElem?_map] at this
      obtain ⟨x, hx, hxe⟩ := Option.map_eq_some_iff.mp this
      exact ⟨x, hx, by rw [hve, ← hxe]; rfl⟩
    have H1 : Cor Γ c M (mkO (.list (l.map fun p => .obj p.1.1)) g).2 ⟨z.ρ ++ [B], z.nw ++ [(B, listOf vs.toArray _)], h', tk, z.g⟩ := H.new F' N' l1 (fun e => nomatch e) ⟨vs, _, rfl, hvs.mono Ext.snoc⟩
    have hself : RV (z.ρ ++ [B]) (.obj g.σ.length) (.ref B) := d7 H.led
    refine ziw (c := { c with A := c.A.in1 }) (a := .obj g.σ.length) (k := g.σ.length) (l := l.map fun p => .obj p.1.1) (z := ⟨z.ρ ++ [B], z.nw ++ [(B, listOf vs.toArray _)], h', tk, z.g⟩) (s := s) (Q := fun _ s' => Q (.ref B) s') (oL_new g _) hr0 ⟨H1.F, H1.N, H1.led⟩ hself fun W z2 e2 r2 H2 => ?_
    exact G (.ref B) z2 (H.led.exNew.trans e2) (hself.mono e2.ext) ⟨H2.F, H2.N, H2.led⟩
  | ord =>
    refine zag h fun x hx h => ?_
    replace G := G.of' h
    refine zab hx fun y hy hx => ?_
    refine zag hx fun n hn hrfl => ?_
    subst hrfl
    obtain rfl := c6 hy
    obtain ⟨t, rfl⟩ := ha
    obtain ⟨⟨l⟩⟩ := y
    have e : l = [n] := zbm hn
    subst e
    exact P.ord_of_char (G.now ⟨_, rfl⟩ H)
  | min => cases h
theorem zmn {T : String} {Q : Value → Shared → Prop} (h : zhw T a g = some (v, g')) (C : Orx Γ kf c) (H : Cor Γ c M g z) (ha : RV z.ρ a V) (G : Got Γ c M g z s Q v g') :
    wpAny (model Γ.prog Γ.w) c.A (call (.type T) [V]) Q c.E (z.sh s) := by
  unfold zhw at h
  cases e1 : decide (T = "bytes") with
  | true =>
    rw [e1] at h
    obtain rfl := of_decide_eq_true e1
    refine zac h fun k l hq h => ?_
    refine zaa h fun hz h => ?_
    refine zag h fun b hb h => ?_
    replace G := G.of' h
    have hz' := zah hz
    obtain ⟨D, us, nn, rfl, hk, hm, hr, hl⟩ := H.list ha hq
    obtain ⟨b1, b2, b3⟩ := zfk hb
    exact KBa.make_K H.F H.N C.hand (PySem.IsL.isList (n := nn) (H.N _ hm).1) (b3 hr) b2 (by omega) fun h' t' k' F' N' _ => G.same H ⟨_, _, rfl, KBa.ints_make b2⟩ F' N'
  | false =>
    rw [e1] at h
    cases e2 : decide (T = "list") with
    | true =>
      rw [e2] at h
      obtain rfl := of_decide_eq_true e2
      have h' : (match vB a with | some l => zad (small l.length) (some (mkO (.list (l.map .int)) g)) | none => zaf (oO g.σ a) fun _ o => (soK o).bind fun d => (nthS g.σ d).bind fun so => (soS so).bind fun l => zad (small l.length) (some (mkO (.list (l.map fun p => .str p.1)) g))) = some (v, g') := h
      cases hl : vB a with
      | some l =>
        rw [hl] at h'
        refine zaa h' fun hz h => ?_
        replace G := G.of h
        have hz' := zah hz
        obtain rfl := zfn hl
        obtain ⟨b, t, rfl, hb⟩ := ha
        refine list_B C.hand H.F H.N hb (by omega) fun D c h' tk vs F' N' l1 hi => ?_
        exact G.new H F' N' l1 (fun e => nomatch e) ⟨_, _, rfl, RVs.ints hi⟩
      | none =>
        rw [hl] at h'
        refine zac h' fun k so hq h => ?_
        refine zab h fun d hd h => ?_
        refine zab h fun so2 hs2 h => ?_
        refine zab h fun l hls h => ?_
        refine zaa h fun hz h => ?_
        replace G := G.of h
        have hz' := zah hz
        rw [zao] at hs2
        obtain ⟨q1, q2⟩ := zas hq
        rw [soK_eq hd] at q2
        obtain ⟨B, o, rfl, hB, hk, hm, D, hD, rfl⟩ := H.ob ha ⟨q1, q2⟩
        obtain ⟨D', o2, e, hD', hk', hm', hr⟩ := H.obj (V := .ref D) ⟨D, hD, rfl⟩ hs2
        cases e
        obtain ⟨kvs, hdd, hr⟩ := hr.sdict hls
        refine kdl_list_viewS C.hand H.F H.N hm hm' hdd (by rw [hr.length]; omega) fun X n h' tk => ?_
        exact zlq hr fun vs hvs F' N' l1 => G.new H F' N' l1 (fun e => nomatch e) ⟨vs, _, rfl, hvs.mono Ext.snoc⟩
    | false =>
      rw [e2] at h
      cases e3 : decide (T = "str") with
      | true =>
        rw [e3] at h
        obtain rfl := of_decide_eq_true e3
        refine zab h fun n hn h => ?_
        refine zaa h fun hz h => ?_
        replace G := G.of h
        have hz' := of_decide_eq_true hz
        obtain rfl := zay hn
        obtain ⟨t, rfl⟩ := ha
        refine PySem.P.str_of_int ?_ (G.now ⟨_, rfl⟩ H)
        have h1 : n.natAbs < 2 ^ 1920 := Nat.lt_of_lt_of_le (show n.natAbs < 2 ^ 20 by omega) (Nat.pow_le_pow_right (by decide) (by decide))
        cases h0 : n.natAbs with
        | zero => decide
        | succ k => exact (Nat.log2_lt (by omega)).mpr (h0 ▸ h1)
      | false => rw [e3] at h; cases h
theorem new_ok {f : Addr} {vs : List SV} {Vs : List Value} {Q : Value → Shared → Prop} (O : zbf Γ orc kf) (hmk : makesIn Γ.K f = true) (h : newS Γ.K orc f vs g = some (v, g')) (C : Orx Γ (kf + 1) c) (H : Cor Γ c M g z) (hv : RVs z.ρ vs Vs) (G : Got Γ c M g z s Q v g') :
    wpAny (model Γ.prog Γ.w) c.A (call (.ref f) Vs) Q c.E (z.sh s) := by
  have Y := C.lower
  unfold newS at h
  cases hfi : findIn Γ.K (.ref f) "__init__" with
  | none => rw [hfi] at h; cases h
  | some r =>
    rw [hfi] at h
    cases r with
    | none => cases h
    | some r =>
      cases r with
      | ref fI =>
        refine zaa h fun hfn h => ?_
        refine zac h fun v1 g1 ho h => ?_
        cases v1 with
        | none =>
          replace G := G.of h
          refine call_cls H.F C.X H.N hmk hfi hfn fun x dx h1 F1 N1 l1 l2 => ?_
          have hlen := H.led.size
          have H1 : Cor Γ c M (mkO (.att []) g).2 ⟨z.ρ ++ [dx], z.nw ++ [(dx, dictOf [] 0)], h1, z.tk, z.g⟩ := H.new F1 (fun q hq => N1 q (.tail _ hq)) l1 (fun e => nomatch e) ⟨[], 0, rfl, .nil⟩
          have H2 : Cor Γ c M (mkO (.inst f g.σ.length) (mkO (.att []) g).2).2 ⟨z.ρ ++ [dx] ++ [x], z.nw ++ [(dx, dictOf [] 0)] ++ [(x, { cls := .ref f, dict := some dx, data := .plain })], h1, z.tk, z.g⟩ := H1.new F1 (fun q hq => N1 q (by
            rcases List.mem_cons.mp hq with rfl | hq
            · exact .head _
            · rcases List.mem_append.mp hq with hq | hq
              · rcases List.mem_append.mp hq with hq | hq
                · exact .tail _ (.tail _ (List.mem_append.mpr (.inl hq)))
                · rw [List.mem_singleton.mp hq]; exact .tail _ (.head _)
              · exact .tail _ (.tail _ (List.mem_append.mpr (.inr hq))))) (fun q hq => by
            rcases List.mem_append.mp hq with hq | hq
            · rcases List.mem_append.mp hq with hq | hq
              · exact Nat.lt_trans (l1 q (List.mem_append.mpr (.inl hq))) l2
              · rw [List.mem_singleton.mp hq]; exact l2
            · exact Nat.lt_trans (l1 q (List.mem_append.mpr (.inr hq))) l2) (fun e => nomatch e) ⟨dx, by show (z.ρ ++ [dx] ++ [x])[g.σ.length]? = _; rw [← hlen]; simp, rfl⟩
          have e1 : Ex z g ⟨z.ρ ++ [dx] ++ [x], z.nw ++ [(dx, dictOf [] 0)] ++ [(x, { cls := .ref f, dict := some dx, data := .plain })], h1, z.tk, z.g⟩ (mkO (.inst f g.σ.length) (mkO (.att []) g).2).2 := H.led.exNew.trans H1.led.exNew
          have hself : RV (z.ρ ++ [dx] ++ [x]) (.obj (g.σ.length + 1)) (.ref x) := ⟨x, by rw [← hlen]; simp, rfl⟩
          obtain ⟨outer, A₀, base, hfr, B⟩ := C.stk
          refine O fI _ _ .none g1 { c with A := c.A.under (.builtin "type.__call__" ⟨.ref f :: Vs, []⟩) } M ⟨_, _, h1, z.tk, z.g⟩ (.ref x :: Vs) s _ ho ⟨H2.F, H2.N, H2.led⟩ (.cons hself ((hv.mono Ext.snoc).mono Ext.snoc)) ⟨Y.hand, ⟨outer, A₀, base, ?_, B⟩, Y.fr, Y.fk, ?_, ?_, Y.X, Y.T, Y.gd⟩ fun r z3 x1 x2 x3 => ?_
          · show (c.A.under _).frames = _
            unfold Around.under
            dsimp only
            rw [hfr]
            rfl
          · show (c.A.under _).depth + _ < _
            rw [depth_under_make]
            have := C.dep
            omega
          · show (c.A.under _).units + _ + 70 < _
            rw [units_under_make]
            have := C.uni
            omega
          · exact ⟨x2, G _ z3 (e1.trans x1) (hself.mono x1.ext) ⟨x3.F, x3.N, x3.led⟩⟩
        | _ => cases h
      | _ => cases h
theorem zej {q : Nat × Addr × Nat × List (Str × SV)} (H : Cor Γ c M g z) (hV : RV z.ρ a V) (h : oI g.σ a = some q) :
    ∃ x dx es n, V = .ref x ∧ InstAt z.h x ⟨.ref q.2.1, some dx, .plain, #[]⟩ q.2.1 (some (dictOf es n)) ∧ RAs Γ.w.params z.ρ q.2.2.2 es ∧ z.nw[q.2.2.1]? = some (dx, dictOf es n) := by
  refine zac h fun k so h1 h => ?_
  refine zac h fun Cl d h2 h => ?_
  refine zab h fun so' h3 h => ?_
  refine zag h fun l h4 hrfl => ?_
  subst hrfl
  obtain ⟨e1, e2⟩ := zas h1
  rw [zsb h2] at e2
  rw [zao, zse h4] at h3
  obtain ⟨x, o, rfl, hx, hk, hm, dx, hdx, rfl⟩ := H.ob hV ⟨e1, e2⟩
  obtain ⟨dx', od, e, hdx', hk', hm', es, n, rfl, hr⟩ := H.obj (V := .ref dx) ⟨dx, hdx, rfl⟩ h3
  cases e
  exact ⟨x, dx, es, n, rfl, InstAt.of_news H.N hm hm', hr, hk'⟩
theorem zlt {K : Frag} {m : Value} {f : Addr} (h : isFnV K m = some f) : m = .ref f ∧ isFn K (.ref f) = true := by
  cases m with
  | ref a => obtain ⟨h1, h2⟩ := zbv (show zad (isFn K (.ref a)) (some a) = some f from h); cases h2; exact ⟨rfl, h1⟩
  | _ => cases h
theorem leni_ok {Q : Value → Shared → Prop} (O : zbf Γ orc kf) (h : lenI Γ.K orc a g = some (v, g')) (C : Orx Γ (kf + 1) c) (H : Cor Γ c M g z) (ha : RV z.ρ a V) (G : Got Γ c M g z s Q v g') :
    wpAny (model Γ.prog Γ.w) c.A (call (.builtin "len") [V]) Q c.E (z.sh s) := by
  refine zab h fun q hq h => ?_
  cases hfi : findIn Γ.K (.ref q.2.1) "__len__" with
  | none => rw [hfi] at h; cases h
  | some r =>
    rw [hfi] at h
    cases r with
    | none => cases h
    | some m =>
      refine zab h fun f hf h => ?_
      refine zac h fun r g1 ho h => ?_
      refine zab h fun n hn h => ?_
      refine zaa h fun hz h => ?_
      replace G := G.of h
      obtain ⟨rfl, hfn⟩ := zlt hf
      obtain rfl := zay hn
      have hz' := of_decide_eq_true hz
      obtain ⟨x, dx, es, nn, rfl, I, hr, hk⟩ := zej H ha hq
      have Y := C.lower
      obtain ⟨outer, A₀, base, hfr, B⟩ := C.stk
      refine PySem.W.len_K H.F C.X I hfi hfn (wpAny_call (O f _ _ _ _ { c with A := c.A.in1 } M z [.ref x] s _ ho ⟨H.F, H.N, H.led⟩ (.cons ha .nil) ⟨Y.hand, ⟨outer, A₀, base, hfr, B⟩, Y.fr, Y.fk, ?_, ?_, Y.X, Y.T, Y.gd⟩ fun r z3 x1 x2 x3 => ?_))
      · show c.A.in1.depth + _ < _
        rw [depth_in1]
        exact Y.dep
      · show c.A.in1.units + _ + 70 < _
        rw [units_in1]
        have := C.uni
        omega
      · obtain ⟨t, rfl⟩ := x2
        exact ⟨⟨hz'.1, by omega⟩, (G.after x1).now ⟨_, rfl⟩ ⟨x3.F, x3.N, x3.led⟩⟩
theorem zdl {f : Value} {vs : List SV} {Vs : List Value} {Q : Value → Shared → Prop} (O : zbf Γ orc kf) (h : zbp Γ.K orc f vs g = some (v, g')) (C : Orx Γ (kf + 1) c) (H : Cor Γ c M g z) (hv : RVs z.ρ vs Vs) (G : Got Γ c M g z s Q v g') :
    wpAny (model Γ.prog Γ.w) c.A (call f Vs) Q c.E (z.sh s) := by
  have hone : ∀ {x : SV}, one vs = some x → ∃ X, Vs = [X] ∧ RV z.ρ x X := fun {x} hx => by
    rw [zbm hx] at hv
    rcases hv with _ | ⟨h1, hv⟩
    cases hv
    exact ⟨_, rfl, h1⟩
  cases f with
  | builtin id =>
    refine zab h fun i hi h => ?_
    cases i with
    | min =>
      refine zac h fun x y h1 h => ?_
      refine zab h fun p h2 h => ?_
      refine zag h fun q h3 h => ?_
      replace G := G.of' h
      obtain rfl := zhd hi
      obtain rfl := zay h2
      obtain rfl := zay h3
      rw [zbw h1] at hv
      rcases hv with _ | ⟨⟨t, rfl⟩, hv⟩
      rcases hv with _ | ⟨⟨u, rfl⟩, hv⟩
      cases hv
      refine min_two_ints C.hand fun h' tk hk => ?_
      have e : (if q < p then Value.int q u else Value.int p t) = .int (if q < p then q else p) (if q < p then u else t) := by split <;> rfl
      rw [e]
      exact G.same H ⟨_, rfl⟩ (H.F.keeps hk) (H.N.grown hk)
    | len =>
      refine zab h fun x h1 h => ?_
      obtain ⟨X, rfl, hX⟩ := hone h1
      have h' : (match oI g.σ x with | some _ => lenI Γ.K orc x g | none => match gL Γ.K x with | some l => zad (small l.length) (some (.int l.length, g)) | none => zfj .len x g) = some (v, g') := h
      cases ho : oI g.σ x with
      | some q => rw [ho] at h'; obtain rfl := zhd hi; exact leni_ok O h' C H hX G
      | none =>
        rw [ho] at h'
        have h2 : (match gL Γ.K x with | some l => zad (small l.length) (some (SV.int l.length, g)) | none => zfj .len x g) = some (v, g') := h'
        cases hg : gL Γ.K x with
        | none => rw [hg] at h2; exact d0 hi h2 C H hX G
        | some l =>
          rw [hg] at h2
          refine zaa h2 fun hz h3 => ?_
          replace G := G.of h3
          have hz' := zah hz
          obtain rfl := zhd hi
          cases x with
          | val u =>
            obtain ⟨d, dd, n, sl, rfl, hK⟩ := zjw hg
            have hX' : X = .ref d := hX
            subst hX'
            refine len_list (lstK (C.X.keeps H.F.keep) hK) (by rw [List.size_toArray]; omega) ?_
            rw [List.size_toArray]
            exact G.now ⟨_, rfl⟩ H
          | _ => cases hg
    | max => exact zab h fun x h1 h => by obtain ⟨X, rfl, hX⟩ := hone h1; exact d0 hi h C H hX G
    | sorted => exact zab h fun x h1 h => by obtain ⟨X, rfl, hX⟩ := hone h1; exact d0 hi h C H hX G
    | ord => exact zab h fun x h1 h => by obtain ⟨X, rfl, hX⟩ := hone h1; exact d0 hi h C H hX G
  | type T =>
    refine zab h fun x h1 h => ?_
    obtain ⟨X, rfl, hX⟩ := hone h1
    exact zmn h C H hX G
  | ref f =>
    have h' : (match makesIn Γ.K f with | true => newS Γ.K orc f vs g | false => orc f vs g) = some (v, g') := h
    cases hmk : makesIn Γ.K f with
    | true =>
      rw [hmk] at h'
      exact new_ok O hmk h' C H hv G
    | false =>
      rw [hmk] at h'
      exact wpAny_call (O f vs g v g' c M z Vs s _ h' H hv C.lower fun r z' x1 x2 x3 => G r z' x1 x2 x3)
  | _ => cases h
theorem zek {P : Params} {ρ : List Addr} {l : List (Str × SV)} {es : List DictEntry} (r : RAs P ρ l es) (x : Str) : (∀ v, look l x = some v → ∃ V, getL x es = some (some V) ∧ RV ρ v V) ∧ (look l x = none → getL x es = some none) ∧ es.any (·.refKey) = false := by
  induction r with
  | nil => exact ⟨fun v h => (by cases h), fun _ => rfl, rfl⟩
  | @cons y t v V l es a _ ih =>
    have hr : (({ hash := PyData.keyHash P y, key := .str y t, val := V } : DictEntry) :: es).any (·.refKey) = false := by
      show (_ || es.any (·.refKey)) = false
      rw [ih.2.2]
      rfl
    refine ⟨fun u h => ?_, fun h => ?_, hr⟩
    · rw [zaj] at h
      by_cases e : y = x
      · rw [if_pos e] at h
        cases h
        refine ⟨V, ?_, a⟩
        unfold getL
        rw [List.find?_cons_of_pos (by show (y == x) = true; simpa using e)]
      · rw [if_neg e] at h
        obtain ⟨U, h1, h2⟩ := ih.1 u h
        refine ⟨U, ?_, h2⟩
        unfold getL at h1 ⊢
        rw [List.find?_cons_of_neg (by show ¬ (y == x) = true; simpa using e)]
        split at h1
        · exact h1
        · split at h1 <;> cases h1
    · rw [zaj] at h
      by_cases e : y = x
      · rw [if_pos e] at h; cases h
      · rw [if_neg e] at h
        have := ih.2.1 h
        unfold getL at this ⊢
        rw [List.find?_cons_of_neg (by show ¬ (y == x) = true; simpa using e)]
        split at this
        · rename_i e1; cases this
        · rw [hr]; rfl
theorem zua {P : Params} {ρ : List Addr} {x : Str} {t : Tok} {v : SV} {V : Value} (hv : RV ρ v V) {l : List (Str × SV)} {es : List DictEntry} (r : RAs P ρ l es) : RAs P ρ (putM l x v) (putL x (PyData.keyHash P x) (.str x t) V es) := by
  induction r with
  | nil => exact .cons hv .nil
  | @cons y u w' W l es a r ih =>
    rw [zev]
    show RAs P ρ _ (if (y == x) = true then _ else _)
    by_cases e : y = x
    · rw [if_pos e, if_pos (by simpa using e)]
      exact .cons hv r
    · rw [if_neg e, if_neg (by simpa using e)]
      exact .cons a ih
theorem RAs.length {P : Params} {ρ : List Addr} {l : List (Str × SV)} {es : List DictEntry} (r : RAs P ρ l es) : es.length = l.length := by
  induction r with
  | nil => rfl
  | cons _ _ ih => rw [List.length_cons, List.length_cons, ih]
theorem zgm {x : Str} {hh : Int} {k V : Value} : ∀ {es : List DictEntry}, (putL x hh k V es).length ≤ es.length + 1
  | [] => Nat.le_refl _
  | e :: r => by
    unfold putL
    split
    · simp
    · have := zgm (x := x) (hh := hh) (k := k) (V := V) (es := r)
      simp only [List.length_cons]
      omega
theorem hand_ok {ρ : List Addr} {v : SV} {V : Value} (h : handS v = true) (r : RV ρ v V) : handedIn V = true := by
  cases v with
  | none => cases r; rfl
  | bool b => cases r; rfl
  | int i => obtain ⟨t, rfl⟩ := r; rfl
  | obj k => obtain ⟨a, _, rfl⟩ := r; rfl
  | val u => cases r; exact h
  | bytes l => obtain ⟨b, t, rfl, _⟩ := r; rfl
  | str x => obtain ⟨t, rfl⟩ := r; rfl
theorem att_ok {x : Str} {Q : Value → Shared → Prop} {ex : Bool} (h : attS Γ.K x a g = some v) (C : Orx Γ kf c) (H : Cor Γ c M g z) (hV : RV z.ρ a V) (G : ∀ W tk, RV z.ρ v W → Q W { z.sh s with toks := tk }) :
    wpAny (model Γ.prog Γ.w) c.A (getAttr V x ex) Q c.E (z.sh s) := by
  refine zcp h fun q hq h => ?_
  refine zaa h fun hg0 h => ?_
  have hg1 : (match findIn Γ.K (.ref q.2.1) x with | some A => plainGet Γ.K q.2.1 x && hasDictIn Γ.K q.2.1 && noGet Γ.K A | none => false) = true := hg0
  obtain ⟨B, hf, hg⟩ : ∃ B, findIn Γ.K (.ref q.2.1) x = some B ∧ (plainGet Γ.K q.2.1 x && hasDictIn Γ.K q.2.1 && noGet Γ.K B) = true := by
    cases e : findIn Γ.K (.ref q.2.1) x with
    | none => rw [e] at hg1; cases hg1
    | some B => rw [e] at hg1; exact ⟨B, rfl, hg1⟩
  refine zae hg fun hg h3 => ?_
  refine zae hg fun h1 h2 => ?_
  refine zab h fun u hu h => ?_
  refine zaa h fun hh h => ?_
  cases h
  obtain ⟨a, dx, es, n, rfl, I, hr, _⟩ := zej H hV hq
  obtain ⟨W, hW, hrW⟩ := (zek hr x).1 _ hu
  exact get_own H.F C.X I h1 h2 hf h3 hW (hand_ok hh hrW) (G W _ hrW)
theorem u1 {x : Str} {d : SV} {Q : Unit → Shared → Prop} {W : Value} (h : setA Γ.K x a d g = some g') (C : Orx Γ kf c) (H : Cor Γ c M g z) (hV : RV z.ρ a V) (hv : RV z.ρ d W)
    (G : ∀ z', Ex z g z' g' → Cor Γ c M g' z' → Q () (z'.sh s)) : wpAny (model Γ.prog Γ.w) c.A (setAttr V x W) Q c.E (z.sh s) := by
  refine zcp h fun q hq h => ?_
  refine zaa h fun hg h => ?_
  cases h
  refine zae hg fun hg h5 => ?_
  refine zae hg fun hg h4 => ?_
  refine zae hg fun hg h3 => ?_
  refine zae hg fun h1 h2 => ?_
  obtain ⟨a, dx, es, n, rfl, I, hr, hk⟩ := zej H hV hq
  have hlen := hr.length
  have h5' : q.2.2.2.length ≤ 900 := Nat.le_of_ble_eq_true h5
  have hget : (getL x es).isSome = true := by
    cases hl : look q.2.2.2 x with
    | none => rw [(zek hr x).2.1 hl]; rfl
    | some u =>
      obtain ⟨U, hU, _⟩ := (zek hr x).1 u hl
      rw [hU]; rfl
  refine set_dict H.F C.X H.N I rfl (beq_iff_eq.mp h1) h2 (beq_iff_eq.mp h3) h4 hget rfl (UpdF.upd (H.upd hk) _) ?_ fun h' F' N' => ?_
  · have := zgm (x := x) (hh := PyData.keyHash Γ.w.params x) (k := .str x ((z.sh s).toks + 1)) (V := W) (es := es)
    omega
  · exact G ⟨_, _, _, _, _⟩ zfd (H.put hk F' N' (fun e => nomatch e) ⟨_, _, rfl, zua hv hr⟩)
theorem zlw {x : Str} {f : Addr} {pl : Sem Bool} {Q : Value × List Value → Shared → Prop} (h : zjp Γ.K x a g = some f) (C : Orx Γ kf c) (H : Cor Γ c M g z) (hV : RV z.ρ a V) (G : keepIn Γ.K (.ref f) = true → makesIn Γ.K f = false → Q (.ref f, [V]) (z.sh s)) :
    wpAny (model Γ.prog Γ.w) c.A (getMethod V x pl) Q c.E (z.sh s) := by
  refine zcp h fun q hq h => ?_
  refine zab h fun f0 h0 h => ?_
  refine zaa h fun hnone h => ?_
  cases h
  refine zab h0 fun B₀ hf h1 => ?_
  refine zab h1 fun B e1 h2 => ?_
  refine zab h2 fun g hg h3 => ?_
  refine zaa h3 fun hq2 h4 => ?_
  have hB : B = Value.ref g := by cases B <;> cases hg <;> rfl
  have hgf : g = f := Option.some.inj h4
  rw [e1, hB, hgf] at hf
  rw [hgf] at hq2
  refine zae hq2 fun hg h5 => ?_
  refine zae hg fun hg h3 => ?_
  refine zae hg fun h1 h2 => ?_
  have h4 := hnone
  obtain ⟨a, dx, es, n, rfl, I, hr, hk⟩ := zej H hV hq
  exact method_inst H.F C.X I h1 hf h2 ((zek hr x).2.1 (by simpa using h4)) (G h3 (by simpa using h5))
end
theorem zax {e : Expr} (h : zai e = true) (rest : List Expr) (env : Env) : starEach (e :: rest) env = (false, eval e env) :: starEach rest env := by
  cases e <;> first | rfl | cases h
theorem zcx {env : Env} {pos : Pos} : ∀ {es : List Expr}, es.all zai = true → (backTo pos (starEach es env)).any (·.1) = false
  | [], _ => rfl
  | e :: r, h => by
    refine zae (show (zai e && r.all zai) = true from h) fun h1 h2 => ?_
    rw [zax h1]
    show (false || (backTo pos (starEach r env)).any (·.1)) = false
    rw [zcx h2]
    rfl
theorem zgg {env : Env} {pos : Pos} : ∀ {es : List Expr}, es.all zai = true → (backTo pos (starEach es env)).all (!·.1) = true
  | [], _ => rfl
  | e :: r, h => by
    refine zae (show (zai e && r.all zai) = true from h) fun h1 h2 => ?_
    rw [zax h1]
    show (true && (backTo pos (starEach r env)).all (!·.1)) = true
    rw [zgg h2]
    rfl
theorem zbj {e : Expr} (h : zbe e = true) (t : Option Expr) (l : Nat) (env : Env) : swapsWith e t l env = pure false := by
  cases e <;> first | rfl | cases h
theorem meth_he {b : Expr} {name : Str} {ap pos : Pos} {args : List Expr} {env : Env} (h0 : zds b = true) (h1 : args.all zai = true) (h2 : (ap.endLine == pos.line) = true) (h3 : args.length < 30) :
    eval (.Call (.Attribute b name ap) args [] pos) env = (do
      let ov ← eval b env
      standAt ap.atName
      let (f, first) ← holding [ov] (getMethod ov name (do return (← importBound b env).getD true))
      callWith pos f first (backTo pos (starEach args env)) []) := by
  have hf : methodCallForm (args.length + 0) (backTo pos (starEach args env)) (backToKw pos (keywordEach [] env)) = true := by
    unfold methodCallForm
    rw [zgg h1]
    simp [keywordEach, backToKw, h3]
  have hb : ∀ m : Sem Value, attributeBase b name env m = m := by
    intro m
    cases b with
    | Call e as ks p =>
      cases as with
      | nil => cases h0
      | cons a r => cases e <;> rfl
    | _ => rfl
  rw [show eval (.Call (.Attribute b name ap) args [] pos) env = (do
    let ov ← attributeBase b name env (eval b env)
    standAt ap.atName
    methodCall b name ap pos env ov (args.length + 0) (backTo pos (starEach args env)) (backToKw pos (keywordEach [] env))) from rfl, hb]
  show (do
      let ov ← eval b env
      standAt ap.atName
      methodCall b name ap pos env ov (args.length + 0) (backTo pos (starEach args env)) (backToKw pos (keywordEach [] env))) = _
  congr 1
  funext ov
  congr 1
  funext _
  unfold methodCall
  rw [hf]
  have e2 : methodCallPos true b env ap pos = pure pos := by
    unfold methodCallPos
    rw [h2]
    rfl
  rw [e2]
  rfl
theorem zes {i : Expr} {d : Option Expr × Option Expr × Option Expr} : zby i = some d → ∃ p, i = .Slice d.1 d.2.1 d.2.2 p := by cases i <;> intro h <;> cases h <;> exact ⟨_, rfl⟩
theorem zet {i : Expr} : zby i = none → c3 i = true := by cases i <;> intro h <;> first | rfl | cases h
theorem zau {e : Expr} {x : Str} : zbn e = some x → ∃ p, e = .Name x p := by cases e <;> intro h <;> cases h <;> exact ⟨_, rfl⟩
theorem zbl {M : Model} {A : Around} {E : Value → Shared → Prop} {s : Shared} {f : Value} {Q : Args → Shared → Prop} (h : wpAny M A (spliced []) (fun vs s' => Q ⟨vs, []⟩ s') E s) : wpAny M A (evalArgs f true [] []) Q E s := by
  unfold evalArgs
  show wpAny M A (spliced [] >>= _) Q E s
  refine wpAny_bind (wpAny_mono h (fun vs s' h' => ?_) fun _ _ x => x)
  refine wpAny_holding ?_
  exact wpAny_bind (wpAny_pure (wpAny_bind (wpAny_pure (wpAny_pure h'))))
theorem zbt {M : Model} {A : Around} {E : Value → Shared → Prop} {s : Shared} {env : Env} {pos : Pos} {id : String} {first : List Value} {Q : Value → Shared → Prop} {args : List Expr} (hs : args.all zai = true)
    (h : wpAny M A (spliced (backTo pos (starEach args env))) (fun vs s₁ => wpAny M A (call (.builtin id) (first ++ vs)) Q E s₁) E s) : wpAny M A (callWith pos (.builtin id) first (backTo pos (starEach args env)) []) Q E s := by
  cases args with
  | nil => exact Calls.callWith_builtin rfl (zbl h)
  | cons e r =>
    refine zae (show (zai e && r.all zai) = true from hs) fun h1 h2 => ?_
    exact callWith_method1 h (zax h1 _ _) (zcx h2)
theorem zfh {M : Model} {A : Around} {E : Value → Shared → Prop} {s : Shared} {env : Env} {pos : Pos} {T : String} {Q : Value → Shared → Prop} {args : List Expr} (hs : args.all zai = true)
    (h : wpAny M A (spliced (backTo pos (starEach args env))) (fun vs s₁ => wpAny M A (call (.type T) vs) Q E s₁) E s) : wpAny M A (callWith pos (.type T) [] (backTo pos (starEach args env)) []) Q E s := by
  cases args with
  | nil => exact PySem.callWith_type rfl (zbl h)
  | cons e r =>
    refine zae (show (zai e && r.all zai) = true from hs) fun h1 h2 => ?_
    exact callWith_type1 h (zax h1 _ _) (zcx h2)
theorem zcs {M : Model} {K : Frag} {A : Around} {E : Value → Shared → Prop} {s : Shared} {env : Env} {pos : Pos} {f : Value} {first : List Value} {Q : Value → Shared → Prop} {args : List Expr} (hs : args.all zai = true) (hk : keepIn K f = true)
    (h : wpAny M A (spliced (backTo pos (starEach args env))) (fun vs s₁ => K.In s₁.heap ∧ wpAny M A (call f (first ++ vs)) Q E s₁) E s) : wpAny M A (callWith pos f first (backTo pos (starEach args env)) []) Q E s := by
  refine callWith_of (by rw [zcx hs]; rfl) (keeps_K hk) ?_
  cases args with
  | nil => exact zbl h
  | cons e r =>
    refine zae (show (zai e && r.all zai) = true from hs) fun h1 h2 => ?_
    rw [zax h1] at h ⊢
    exact Calls.evalArgs_plain h
theorem ziu {prog : Program} {w : World} {A : Around} {E : Value → Shared → Prop} {s : Shared} {n : Str} {np : Pos} {base slice : Expr} {o i : Value} {Q : Value → Shared → Prop} (h : wpAny (model prog w) A (subscriptTail (.Name n np) slice o i) Q E s) :
    wpAny (model prog w) A (subscriptTail base slice o i) Q E s := fun Γ p hΓ => by
  have h' := h Γ p hΓ
  unfold subscriptTail at h' ⊢
  simp only [Sem.wp_bind'] at h' ⊢
  refine Sem.wp_mono _ Γ _ (fun b p1 s1 h1 => ?_) (fun _ _ _ e => e) _ _ h'
  refine Sem.wp_mono _ Γ _ (fun r p2 s2 h2 => ?_) (fun _ _ _ e => e) _ _ h1
  exact wpAny_letTemporaryGo (Q := fun _ s' => Q r s') h2 Γ p2 hΓ
theorem zkk {e : Expr} (h : zaq e = true) (args : List Expr) (pos : Pos) (env : Env) : eval (.Call e args [] pos) env = (do callWith pos (← eval e env) [] (backTo pos (starEach args env)) (backToKw pos (keywordEach [] env))) := by
  cases e <;> first | rfl | cases h
theorem att_he {e : Expr} (h : attQ e = true) {attr : Str} {pos : Pos} {env : Env} {prog : Program} {w : World} {A : Around} {E : Value → Shared → Prop} {s : Shared} {Q : Value → Shared → Prop}
    (hh : wpAny (model prog w) A (eval e env) (fun o s₁ => wpAny (model prog w) A (getAttr o attr true) Q E s₁) E s) : wpAny (model prog w) A (eval (.Attribute e attr pos) env) Q E s := by
  cases e with
  | Name x p => exact Attribute_Name_ hh
  | Subscript x y p => exact Attribute_any_ hh
  | Attribute x y p => exact Attribute_any_ hh
  | _ => cases h
noncomputable def RF (ρ : List Addr) : Fl → Flow → Prop
  | .next, F => F = .next
  | .brk, F => F = .brk
  | .ret v, F => ∃ V, F = .ret V ∧ RV ρ v V
section
variable (Γ : Gm) (kf : Nat)
noncomputable def EvOK (e : Expr) (f : Fi) (g : Sg) (v : SV) (g' : Sg) : Prop :=
  ∀ (c : Cx) (M : Str → Option Value) (z : Zs) (s : Shared) (Q : Value → Shared → Prop), RCx Γ kf c → Frm c f M z.ρ → Cor Γ c M g z → Got Γ c M g z s Q v g' → wpAny (model Γ.prog Γ.w) c.A (eval e c.env) Q c.E (z.sh s)
noncomputable def EvsOK (es : List Expr) (f : Fi) (g : Sg) (l : List SV) (g' : Sg) : Prop :=
  ∀ (c : Cx) (M : Str → Option Value) (z : Zs) (s : Shared) (Q : List Value → Shared → Prop) (pos : Pos), RCx Γ kf c → Frm c f M z.ρ → Cor Γ c M g z →
    (∀ Vs z', Ex z g z' g' → RVs z'.ρ l Vs → Cor Γ c M g' z' → Q Vs (z'.sh s)) → wpAny (model Γ.prog Γ.w) c.A (spliced (backTo pos (starEach es c.env))) Q c.E (z.sh s)
noncomputable def zsx (e : Expr) (f : Fi) (g : Sg) (b : Bool) (g' : Sg) : Prop :=
  ∀ (c : Cx) (M : Str → Option Value) (z : Zs) (s : Shared) (Q : Bool → Shared → Prop), RCx Γ kf c → Frm c f M z.ρ → Cor Γ c M g z → (∀ z', Ex z g z' g' → Cor Γ c M g' z' → Q b (z'.sh s)) → wpAny (model Γ.prog Γ.w) c.A (isTrue e c.env (eval e c.env)) Q c.E (z.sh s)
noncomputable def GotF (c : Cx) (g : Sg) (z : Zs) (s : Shared) (Q : Flow → Shared → Prop) (p : Fl × Fi) (g' : Sg) : Prop :=
  ∀ FL M' z', Ex z g z' g' → RF z'.ρ p.1 FL → Frm c p.2 M' z'.ρ → Cor Γ c M' g' z' → Q FL (z'.sh s)
noncomputable def ExOK (b : List Stmt) (f : Fi) (g : Sg) (p : Fl × Fi) (g' : Sg) : Prop :=
  ∀ (c : Cx) (M : Str → Option Value) (z : Zs) (s : Shared) (Q : Flow → Shared → Prop), RCx Γ kf c → c.cmp = none → PassesOwn (model Γ.prog Γ.w) c.A c.env c.E → Frm c f M z.ρ → Cor Γ c M g z → GotF Γ c g z s Q p g' → wpAny (model Γ.prog Γ.w) c.A (execs b c.env) Q c.E (z.sh s)
noncomputable def WhlOK (t : Expr) (b : List Stmt) (f : Fi) (g : Sg) (p : Fl × Fi) (g' : Sg) : Prop :=
  ∀ (k : Nat) (c : Cx) (M : Str → Option Value) (z : Zs) (s : Shared) (Q : Flow → Shared → Prop), RCx Γ kf c → c.cmp = none → PassesOwn (model Γ.prog Γ.w) c.A c.env c.E → Frm c f M z.ρ → Cor Γ c M g z → GotF Γ c g z s Q p g' → WhlRest Γ.prog Γ.w c.A c.E c.env t b [] Q k (z.sh s)
noncomputable def LcFrm (c : Cx) (scope : Scope) (cl : List (Str × Addr)) (x : Str) (f : Fi) (M : Str → Option Value) (ρ : List Addr) : Prop :=
  ∀ (c' : Cx) (C : Addr) (N : Str → Option Value) (u : SV) (V : Value) (ρ' : List Addr), c'.env = compEnvC scope cl C c.env → c'.cmp = some N → N x = some V → Ext ρ ρ' → RV ρ' u V → Frm c' ⟨[(x, u)], f.sc, f.cm⟩ M ρ'
noncomputable def CmpOK (h : Option (Nat × Nat)) (x : Str) (ct : Option Expr) (elt : Expr) (l : List SV) (f : Fi) (g : Sg) (r : List SV) (g' : Sg) : Prop := match ct with
  | none => ∀ (c : Cx) (M : Str → Option Value) (z : Zs) (s : Shared) (scope : Scope) (cl : List (Str × Addr)) (S : List (Addr × Obj) → Prop) (P : Nat → Value → Prop) (i : Nat) (acc : List SV) (ys : List Value) (Fin : List Value → List (Addr × Obj) → Prop), RCx Γ kf c → scope.kind = .function → LcFrm c scope cl x f M z.ρ →
    Led Γ c.rest g z.ρ z.nw → z.g = s.gens → RVs z.ρ acc ys → (∀ j v, P (i + j) v → ∃ u, l[j]? = some u ∧ RV z.ρ u v) → (∀ z' g', Ex z g z' g' → held h g' = true → Led Γ c.rest g' z'.ρ z'.nw → S (z'.nw ++ c.rest)) →
    (∀ z' ys', Ex z g z' g' → Led Γ c.rest g' z'.ρ z'.nw → z'.g = s.gens → RVs z'.ρ (acc ++ r) ys' → Fin ys' (z'.nw ++ c.rest)) → LCg.CompRest Γ.prog Γ.w c.A c.h₀ c.L M c.env elt x scope cl s S P Fin l.length i ys (z.nw ++ c.rest)
  | some t => ∀ (c : Cx) (M : Str → Option Value) (z : Zs) (s : Shared) (scope : Scope) (cl : List (Str × Addr)) (S : List (Addr × Obj) → Prop) (P : Nat → Value → Prop) (i : Nat) (acc : List SV) (ys : List Value) (Fin : List Value → List (Addr × Obj) → Prop), RCx Γ kf c → scope.kind = .function → LcFrm c scope cl x f M z.ρ →
    Led Γ c.rest g z.ρ z.nw → z.g = s.gens → RVs z.ρ acc ys → (∀ j v, P (i + j) v → ∃ u, l[j]? = some u ∧ RV z.ρ u v) → (∀ z' g', Ex z g z' g' → held h g' = true → Led Γ c.rest g' z'.ρ z'.nw → S (z'.nw ++ c.rest)) →
    (∀ z' ys', Ex z g z' g' → Led Γ c.rest g' z'.ρ z'.nw → z'.g = s.gens → RVs z'.ρ (acc ++ r) ys' → Fin ys' (z'.nw ++ c.rest)) → LCt.CompRestT Γ.prog Γ.w c.A c.h₀ c.L M c.env t elt x scope cl s S P Fin l.length i ys (z.nw ++ c.rest)
noncomputable def zbq (j : Job) (f : Fi) (g : Sg) (out : Out) (g' : Sg) : Prop := match j, out with
  | .ev e, .v v => EvOK Γ kf e f g v g'
  | .evs es, .vs l => EvsOK Γ kf es f g l g'
  | .test e, .b c => zsx Γ kf e f g c g'
  | .ex b, .f p => ExOK Γ kf b f g p g'
  | .whl t b, .f p => WhlOK Γ kf t b f g p g'
  | .cmp h x ct elt l, .vs r => CmpOK Γ kf h x ct elt l f g r g'
  | _, _ => True
end
section
variable {Γ : Gm} {orc : Orc} {kf : Nat} {self : Job → Fi → Sg → Option (Out × Sg)} {c : Cx} {M : Str → Option Value} {z : Zs} {s : Shared} {Q : Value → Shared → Prop} {f : Fi} {g g' : Sg} {v : SV}
theorem zja (IH : ∀ j f g out g', self j f g = some (out, g') → zbq Γ (kf + 1) j f g out g') {o : Option Expr} {i : Option Int} (h : zuc self o f g = some (i, g')) (C : RCx Γ (kf + 1) c) (fr : Frm c f M z.ρ) (H : Cor Γ c M g z)
    (G : ∀ V z', Ex z g z' g' → IsPart V i → Cor Γ c M g' z' → Q V (z'.sh s)) : wpAny (model Γ.prog Γ.w) c.A (evalPart o c.env) Q c.E (z.sh s) := by
  cases o with
  | none => cases h; exact evalPart_none_step (G _ z Ex.refl .none H)
  | some e =>
    refine zac h fun u g1 h1 h2 => ?_
    refine zag h2 fun j h3 h4 => ?_
    cases h4
    exact evalPart_some_step (IH _ _ _ _ _ (zak h1) c M z s _ C fr H fun V z1 e1 r1 H1 => by
      rw [show u = SV.int j from zay h3] at r1
      obtain ⟨t, rfl⟩ := r1
      exact G _ z1 e1 (.int j t) H1)
theorem ix_ok (IH : ∀ j f g out g', self j f g = some (out, g') → zbq Γ (kf + 1) j f g out g') {b i : Expr} {pos : Pos} {u₀ : SV} {g₀ : Sg} (h1 : asV (self (.ev b) f g) = some (u₀, g₀)) (h0 : ixS Γ.K Γ.gd self u₀ i f g₀ = some (v, g')) (C : RCx Γ (kf + 1) c) (fr : Frm c f M z.ρ) (H : Cor Γ c M g z)
    (G : Got Γ c M g z s Q v g') : wpAny (model Γ.prog Γ.w) c.A (eval (.Subscript b i pos) c.env) Q c.E (z.sh s) := by
  refine Subscript_ (IH _ _ _ _ _ (zak h1) c M z s _ C fr H fun V z1 e1 r1 H1 => ?_)
  have fr1 := fr.mono e1.ext
  unfold ixS at h0
  cases hi : zby i with
  | some d =>
    rw [hi] at h0
    obtain ⟨lo', hi2, sp⟩ := d
    refine zaa h0 fun e0 h4 => ?_
    refine zac h4 fun lo g2 h2 h5 => ?_
    refine zac h5 fun hi' g3 h3 h => ?_
    clear h0 h4 h5
    obtain ⟨ps, rfl⟩ := zes hi
    cases sp with
    | some _ => cases e0
    | none =>
      refine wpAny_Slice (zja IH h2 C fr1 H1 fun W z2 e2 r2 H2 => zja IH h3 C (fr1.mono e2.ext) H2 fun X z3 e3 r3 H3 => evalPart_none_step ?_)
      refine ziu (n := "") (np := default) ?_
      exact zlb (z := z3) (fun _ _ => rfl) h H3 (r1.mono (e2.ext.trans e3.ext)) r2 r3 (fun _ _ => rfl) (((G.after e1).after e2).after e3)
  | none =>
    rw [hi] at h0
    refine zac h0 fun u g2 h3 h4 => ?_
    refine zag h4 fun c0 h5 h6 => ?_
    replace G := G.of' h6
    refine IH _ _ _ _ _ (zak h3) c M z1 s _ C fr1 H1 fun U z2 e2 r2 H2 => ziu (n := "") (np := default) ?_
    exact item_ok (zet hi) (fun _ _ => rfl) h5 C.toOrx H2 (r1.mono e2.ext) r2 fun W tk hW => ((G.after e1).after e2) _ ⟨_, _, _, tk, _⟩ Ex.same hW H2.toks
theorem idxS_eq {K : Frag} {u : Value} {vs : List SV} {n : Int} (h : idxS K u vs = some n) : ∃ d ls nn sl ys y j, u = .ref d ∧ K.lookup d = some ⟨.type "list", none, .seq (List.toArray ls) nn, sl⟩ ∧ vs = [.str y] ∧ StrsAre ls ys ∧ ys.length ≤ 100000 ∧ idxQ y ys = some j ∧ n = ((j : Nat) : Int) := by
  refine zaa h fun hb h => ?_
  refine zab h fun l h1 h => ?_
  refine zab h fun r h2 h => ?_
  refine zab h fun ys h3 h => ?_
  refine zab h fun v h4 h => ?_
  refine zab h fun y h5 h => ?_
  refine zaa h fun hz h => ?_
  refine zag h fun j h6 h7 => ?_
  obtain ⟨d, dd, nn, sl, rfl, hK⟩ := zjw h1
  have hb' : (match K.lookup d with | some o => o.dict.isNone | none => false) = true := hb
  rw [hK] at hb'
  have hdd : dd = none := by cases dd with | none => rfl | some _ => cases hb'
  subst hdd
  obtain rfl := c6 h5
  exact ⟨d, l, nn, sl, ys, y, j, rfl, hK, zbm h4, e6 (zfm h2) h3, zah hz, h6, h7.symm⟩
set_option maxRecDepth 20000 in
theorem meth_ok (IH : ∀ j f g out g', self j f g = some (out, g') → zbq Γ (kf + 1) j f g out g') (O : zbf Γ orc kf) {b : Expr} {x : Str} {ap pos : Pos} {args : List Expr} {u : SV} {g1 : Sg} (h1 : asV (self (.ev b) f g) = some (u, g1)) (h : zhn Γ.K orc self u x args f g1 = some (v, g')) (hnc : zds b = true)
    (hst : args.all zai = true) (hln : (ap.endLine == pos.line) = true) (h30 : args.length < 30) (C : RCx Γ (kf + 1) c) (fr : Frm c f M z.ρ) (H : Cor Γ c M g z) (G : Got Γ c M g z s Q v g') :
    wpAny (model Γ.prog Γ.w) c.A (eval (.Call (.Attribute b x ap) args [] pos) c.env) Q c.E (z.sh s) := by
  refine MethodCall_ (IH _ _ _ _ _ (zak h1) c M z s _ C fr H fun V z1 e1 r1 H1 => ?_) (meth_he hnc hst hln h30)
  have fr1 := fr.mono e1.ext
  unfold zhn at h
  cases hv : vI u with
  | some i =>
    rw [hv] at h
    refine zaa h fun hq h => ?_
    replace G := G.of h
    refine zae hq fun q1 q2 => ?_
    rw [zbh.mp q2]
    rw [List.isEmpty_iff.mp q1]
    rw [show u = SV.int i from zay hv] at r1
    obtain ⟨t, rfl⟩ := r1
    refine getMethod_int_bit_length ?_
    dsimp only
    refine callWith_method0 ?_
    refine call_int_bit_length ?_
    exact (G.after e1).now ⟨_, rfl⟩ H1
  | none =>
    rw [hv] at h
    unfold zlk at h
    cases hf : zjp Γ.K x u g1 with
    | some m =>
      rw [hf] at h
      refine zac h fun l g2 h3 h4 => ?_
      refine zlw (z := z1) hf C.toOrx H1 r1 fun hkp _ => ?_
      exact zcs (first := [V]) hst hkp (IH _ _ _ _ _ (b6 h3) c M z1 s _ _ C fr1 H1 fun Vs z2 e2 r2 H2 => ⟨C.X.keeps H2.F.keep, zdl O h4 C.toOrx H2 (.cons (r1.mono e2.ext) r2) ((G.after e1).after e2)⟩)
    | none =>
      rw [hf] at h
      by_cases hval : ∃ w, u = .val w
      · obtain ⟨w, rfl⟩ := hval
        refine zaa h fun hx h => ?_
        refine zac h fun l g2 h3 h4 => ?_
        refine zag h4 fun n hn h5 => ?_
        replace G := G.of' h5
        obtain ⟨d, ls, nn, sl, ys, y, j, rfl, hK, rfl, hs, hz, hj, rfl⟩ := idxS_eq hn
        have hV : V = .ref d := r1
        subst hV
        rw [zbh.mp hx]
        have ho := (C.X.keeps H1.F.keep) _ _ hK
        refine getMethod_builtin (T := "list") ⟨_, ho, rfl⟩ PySem.F.plainAttrs_list PySem.F.slot_list_index PySem.F.type_list_index (fun a e => by cases e; exact ⟨_, ho, rfl⟩) ?_
        refine zbt (first := [.ref d]) hst (IH _ _ _ _ _ (b6 h3) c M z1 s _ _ C fr1 H1 fun Vs z2 e2 r2 H2 => ?_)
        rcases r2 with _ | ⟨⟨t, rfl⟩, r2⟩
        cases r2
        exact zdd (lstK (C.X.keeps H2.F.keep) hK) hs hz hj (((G.after e1).after e2).now ⟨_, rfl⟩ H2)
      · have h2 : ((zjf g1.σ u x).bind fun i => zaf (asVs (self (.evs args) f g1)) fun l g1 => methS i u l g1) = some (v, g') := by
          cases u with
          | val w => exact absurd ⟨w, rfl⟩ hval
          | _ => exact h
        refine zab h2 fun i hi h => ?_
        refine zac h fun l g2 h3 h4 => ?_
        refine getm_ok (z := z1) hi H1 r1 ?_
        exact zbt (first := [V]) hst (IH _ _ _ _ _ (b6 h3) c M z1 s _ _ C fr1 H1 fun Vs z2 e2 r2 H2 => zmo h4 C.toOrx H2 (r1.mono e2.ext) r2 ((G.after e1).after e2))
theorem zmk {k0 : PySem.Const} {k : _} {pos : Pos} (h : zsu k0 = some v) (H : Cor Γ c M g z) (G : Got Γ c M g z s Q v g) : wpAny (model Γ.prog Γ.w) c.A (eval (.Constant k0 k pos) c.env) Q c.E (z.sh s) := by
  cases k0 with
  | int i => cases h; exact wpAny_Constant_int (G.now ⟨_, rfl⟩ H)
  | str x => cases h; exact wpAny_Constant_str (G.now ⟨_, rfl⟩ H)
  | none => cases h; exact wpAny_Constant_none (G _ z Ex.refl rfl H)
  | bool b => cases h; exact wpAny_Constant_bool (G _ z Ex.refl rfl H)
  | bytes b => cases h; exact PySem.W.Constant_bytes (G.now ⟨_, _, rfl, rfl⟩ H)
  | _ => cases h
theorem zmp (IH : ∀ j f g out g', self j f g = some (out, g') → zbq Γ (kf + 1) j f g out g') (O : zbf Γ orc kf) {e : Expr} {args : List Expr} {pos : Pos} (h : zdo Γ.K orc self e args pos f g = some (v, g')) (hst : args.all zai = true)
    (C : RCx Γ (kf + 1) c) (fr : Frm c f M z.ρ) (H : Cor Γ c M g z) (G : Got Γ c M g z s Q v g') : wpAny (model Γ.prog Γ.w) c.A (eval (.Call e args [] pos) c.env) Q c.E (z.sh s) := by
  have hc : zad (zaq e) (zaf (asV (self (.ev e) f g)) fun u g1 => (vV u).bind fun c => zad (f5 Γ.K c) (zaf (asVs (self (.evs args) f g1)) fun l g2 => zbp Γ.K orc c l g2)) = some (v, g') → wpAny (model Γ.prog Γ.w) c.A (eval (.Call e args [] pos) c.env) Q c.E (z.sh s) := by
    intro h
    refine zaa h fun hq h => ?_
    refine zac h fun u g0 h0 h => ?_
    refine zab h fun q hu h => ?_
    refine zaa h fun hkp h => ?_
    refine zac h fun l g1 h1 h2 => ?_
    clear h
    refine Call_ (IH _ _ _ _ _ (zak h0) c M z s _ C fr H fun V z0 e0 r0 H0 => ?_) (zkk hq _ _ _)
    rw [vV_eq hu] at r0
    have hV' : V = q := r0
    subst hV'
    have go := IH _ _ _ _ _ (b6 h1) c M z0 s
    have fr0 := fr.mono e0.ext
    cases V with
    | builtin id => exact zbt (first := []) hst (go _ _ C fr0 H0 fun Vs z1 e1 r1 H1 => zdl O h2 C.toOrx H1 r1 ((G.after e0).after e1))
    | type T => exact zfh hst (go _ _ C fr0 H0 fun Vs z1 e1 r1 H1 => zdl O h2 C.toOrx H1 r1 ((G.after e0).after e1))
    | ref f => exact zcs (first := []) hst hkp (go _ _ C fr0 H0 fun Vs z1 e1 r1 H1 => ⟨C.X.keeps H1.F.keep, zdl O h2 C.toOrx H1 r1 ((G.after e0).after e1)⟩)
    | _ => cases h2
  cases e with
  | Attribute b meth ap =>
    refine zaa h fun hg h => ?_
    refine zae hg fun hg h30 => ?_
    refine zae hg fun hnc hln => ?_
    refine zac h fun u g1 h1 h => ?_
    exact meth_ok IH O h1 h hnc hst hln (Nat.le_of_ble_eq_true h30) C fr H G
  | _ => exact hc h
end
theorem zjk {e : Expr} {k : Lc} (h : lcOf e = some k) : e = .ListComp k.elt [⟨.Name k.x k.px, k.it, (match k.ct with | none => [] | some t => [t]), 0⟩] k.scope k.ps := by
  cases e with
  | ListComp elt gs scope ps =>
    refine zab h fun q h1 h => ?_
    refine zag h fun r h2 hrfl => ?_
    subst hrfl
    rw [zbm h1]
    obtain ⟨t, it, ifs, a⟩ := q
    refine zaa h2 fun h3 h4 => ?_
    cases t with
    | Name x px =>
      refine zag h4 fun c h5 hrfl => ?_
      subst hrfl
      rw [of_decide_eq_true h3]
      cases ifs with
      | nil => cases h5; rfl
      | cons t r =>
        cases r with
        | nil => cases h5; rfl
        | cons _ _ => cases h5
    | _ => cases h4
  | _ => cases h
theorem zgw (k : NameKind) : (k == NameKind.free) = zhs k := by cases k <;> rfl
theorem zlo (k : NameKind) : (some k == some NameKind.cell) = zdn k := by cases k <;> rfl
theorem zsh {c : Cx} {f : Fi} {M : Str → Option Value} {ρ : List Addr} (fr : Frm c f M ρ) (hk : c.env.scope.kind = .function) (scope : Scope) : (relabel scope c.env).names = relS f scope.names := by
  show scope.names.map _ = scope.names.map _
  refine List.map_congr_left fun p _ => ?_
  obtain ⟨n, k⟩ := p
  dsimp only
  have e1 : (c.env.scope.kind == ScopeKind.function) = true := by rw [hk]; rfl
  have e2 : (c.env.kindOf n == some NameKind.cell) = (match look f.sc n with | some k => zdn k | none => false) := by
    show (c.env.scope.names.lookup n == _) = _
    rw [fr.nm, ← zap]
    cases look f.sc n with
    | none => rfl
    | some k => exact zlo k
  rw [e1, e2, zgw, Bool.and_true]
  cases (zhs k && match look f.sc n with | some k => zdn k | none => false) <;> rfl
theorem zgb {c : Cx} {f : Fi} {M : Str → Option Value} {ρ : List Addr} (fr : Frm c f M ρ) : ∀ {ns : List (Str × NameKind)} {cm : List (Str × Nat)} (acc : List (Str × Addr)), zfg f ns = some cm →
    ∃ cl, (forIn ns acc (fun (x : Str × NameKind) (r : List (Str × Addr)) => if (x.2 == NameKind.free) = true then (do let a ← cellOf c.env x.1; pure (ForInStep.yield ((x.1, a) :: r))) else (pure (ForInStep.yield r) : Sem _))) = (pure (cl ++ acc) : Sem (List (Str × Addr))) ∧
      (∀ x a, (x, a) ∈ cl → c.env.cells.lookup x = some a) ∧ ∀ x k, (x, k) ∈ cm → look f.cm x = some k ∧ ∃ a, (x, a) ∈ cl
  | [], cm, acc, h => by
    cases h
    exact ⟨[], rfl, fun _ _ h => (nomatch h), fun _ _ h => (nomatch h)⟩
  | (n, k) :: r, cm, acc, h => by
    rw [List.forIn_cons]
    have h' : (match zhs k with | true => (look f.cm n).bind fun k => (zfg f r).map fun l => (n, k) :: l | false => zfg f r) = some cm := h
    dsimp only
    rw [zgw]
    cases e : zhs k with
    | true =>
      rw [e] at h'
      refine zab h' fun j h1 h2 => ?_
      refine zag h2 fun l h3 hrfl => ?_
      subst hrfl
      obtain ⟨a, ha, _⟩ := fr.ce n j h1
      obtain ⟨cl, e1, e2, e3⟩ := zgb fr ((n, a) :: acc) h3
      have e0 : cellOf c.env n = pure a := by unfold cellOf; rw [ha]
      rw [if_pos rfl, e0]
      simp only [pure_bind]
      refine ⟨cl ++ [(n, a)], by rw [e1, List.append_assoc]; rfl, fun x b hx => ?_, fun x k hx => ?_⟩
      · rcases List.mem_append.mp hx with hx | hx
        · exact e2 x b hx
        · cases List.mem_singleton.mp hx; exact ha
      · rcases List.mem_cons.mp hx with hx | hx
        · cases hx; exact ⟨h1, a, List.mem_append.mpr (.inr (.head _))⟩
        · obtain ⟨y1, b, y2⟩ := e3 x k hx
          exact ⟨y1, b, List.mem_append.mpr (.inl y2)⟩
    | false =>
      rw [e] at h'
      rw [if_neg Bool.false_ne_true]
      simp only [pure_bind]
      exact zgb fr acc h'
theorem clos_ok {c : Cx} {f : Fi} {M : Str → Option Value} {ρ : List Addr} (fr : Frm c f M ρ) {scope : Scope} {cm : List (Str × Nat)} (h : zfg f scope.names = some cm) :
    ∃ cl, closureFor scope c.env = pure cl ∧ ∀ x k, look cm x = some k → ∃ a, cl.lookup x = some a ∧ ρ[k]? = some a := by
  obtain ⟨cl, e1, e2, e3⟩ := zgb fr [] h
  refine ⟨cl, ?_, fun x k hx => ?_⟩
  · unfold closureFor
    rw [List.append_nil] at e1
    refine Eq.trans ?_ (congrArg (fun m => m >>= fun cs => (pure cs : Sem (List (Str × Addr)))) e1)
    refine congrArg (fun m => m >>= fun cs => (pure cs : Sem (List (Str × Addr)))) ?_
    rfl
  · obtain ⟨h1, a, h2⟩ := e3 x k (zbk hx)
    obtain ⟨a', h3, h4⟩ := fr.ce x k h1
    cases hl : cl.lookup x with
    | none => exact absurd (List.lookup_eq_none_iff.mp hl (x, a) h2) (by simp)
    | some b =>
      rw [← zap] at hl
      have := e2 x b (zbk hl)
      rw [h3] at this
      cases this
      exact ⟨a', rfl, h4⟩
theorem zeh {k : Lc} (h : lcOk k = true) : k.scope.kind = .function ∧ (∀ y ∈ k.scope.names, y.2 ≠ .cell) ∧ (∀ y ∈ k.scope.names, y.2 = .local → k.scope.names.lookup y.1 = some .local) ∧ k.scope.names.lookup k.x = some .local ∧ zda k.x = true := by
  refine zae h fun h h4 => ?_
  refine zae h fun h h3 => ?_
  refine zae h fun h1 h2 => ?_
  refine ⟨?_, fun y hy e => ?_, fun y hy e => ?_, (b8 h4).1, ?_⟩
  · unfold zgi at h1
    cases hk : k.scope.kind <;> rw [hk] at h1 <;> first | rfl | cases h1
  · have := List.all_eq_true.mp h2 y hy
    rw [e] at this
    cases this
  · have := List.all_eq_true.mp h3 y hy
    rw [e] at this
    exact (b8 this).1
  · have := (b8 h4).2
    unfold zda
    rw [this]
    rfl
theorem zeg {c : Cx} {f : Fi} {M : Str → Option Value} {ρ : List Addr} (fr : Frm c f M ρ) (hk : c.env.scope.kind = .function) {k : Lc} (hok : lcOk k = true) {cm : List (Str × Nat)} (h : zfg f k.scope.names = some cm) :
    ∃ cl, closureFor k.scope c.env = pure cl ∧ LcFrm c k.scope cl k.x ⟨[], relS f k.scope.names, cm⟩ M ρ := by
  obtain ⟨cl, e1, e2⟩ := clos_ok fr h
  obtain ⟨h1, h2, h3, h4, h5⟩ := zeh hok
  refine ⟨cl, e1, fun c' C N u V ρ' he hc hN hx hu => ⟨fun y w hy => ?_, ?_, fun y j hy => ?_⟩⟩
  · rw [show look [(k.x, u)] y = _ from zaj] at hy
    by_cases hxy : k.x = y
    · subst hxy
      rw [if_pos rfl] at hy
      cases hy
      refine ⟨?_, V, ?_, hu⟩
      · unfold zat
        have : (relS f k.scope.names).lookup k.x = some .local := by
          rw [← zsh fr hk]
          exact lookup_relabel_local h4
        rw [zap, this]
        exact h5
      · unfold Cx.cur
        rw [hc]
        exact hN
    · rw [if_neg hxy] at hy
      cases hy
  · rw [he]
    exact zsh fr hk k.scope
  · obtain ⟨a, h6, h7⟩ := e2 y j hy
    rw [he]
    exact ⟨a, h6, hx _ _ h7⟩
section
open LCg LCt
variable {prog : Program} {w : World} {A : Around} {E : Value → Shared → Prop} {s : Shared} {h₀ : Heap} {L : Addr} {m : Str → Option Value} {env : Env}
noncomputable def SrcD (prog : Program) (w : World) (A : Around) (h₀ : Heap) (L : Addr) (m : Str → Option Value) (env : Env) (ct elt : Expr) (x : Str) (scope : Scope) (cl : List (Str × Addr)) (Fin : Shared → List Value → List (Addr × Obj) → Prop) (xv : Value) (s₁ : Shared) : Prop :=
  ∃ d od kvs news, xv = .ref d ∧ A.handled = none ∧ Fr h₀ L s₁.heap m ∧ News h₀ L s₁.heap news ∧ (d, od) ∈ news ∧ od.IsDictOf (PySem.strKind prog w) kvs ∧ (d == sysModules) = false ∧ kvs.length ≤ sizeLine ∧
    ∀ s₂ : Shared, (∃ h, s₂ = { s₁ with heap := h }) → CompRestT prog w A h₀ L m env ct elt x scope cl s₂ (fun nw => (d, od) ∈ nw) (fun i v => ∃ k y, kvs[i]? = some (k, y) ∧ (PySem.strKind prog w).is k v = true) (Fin s₂) kvs.length 0 [] news
theorem zkm {ct elt iter : Expr} {x : Str} {px : Pos} {scope : Scope} {cl : List (Str × Addr)} {pos : Pos} {Fin : Shared → List Value → List (Addr × Obj) → Prop} {xv : Value} {s₁ : Shared} {RR : Value → Addr → Result → Shared → Prop}
    (hcell : ∀ y ∈ scope.names, y.2 ≠ .cell) (hkind : scope.kind = .function) (hx : scope.names.lookup x = some .local) (h : SrcD prog w A h₀ L m env ct elt x scope cl Fin xv s₁)
    (hRR : ∀ s₂ D C h tk m' ys news', (∃ h, s₂ = { s₁ with heap := h }) → Fr h₀ L h m → News h₀ L h ((D, lst ys) :: news') → Off1 D news' → h.Ns C m' → h₀.get? C = none → h₀.get? D = none → C ≠ L → D ≠ L → C ≠ D → (∀ p ∈ news', p.1 ≠ C) → Fin s₂ ys news' → RR (.ref D) C (.ok .next) { s₂ with heap := h, toks := tk }) :
    wpAny (model prog w) A (pyIter xv) (fun it s₂ => wpAny (model prog w) A (newList []) (fun acc s₃ => wpAny (model prog w) A (newFunctionEnv scope env.globals cl [] env.qual none .none (some env)) (fun cenv s₄ =>
      codeAny (model prog w) A (.compStart (.ListComp elt [⟨.Name x px, iter, [ct], 0⟩] scope pos) 0 it acc { cenv with scope := relabel scope env }) (RR acc cenv.locals) s₄) E s₃) E s₂) E s₁ := by
  obtain ⟨d, od, kvs, news, rfl, hh, F, N, hm, hd, lo, hsz, R⟩ := h
  obtain ⟨ep, ha⟩ := KdkAt.of hd
  have hat := ha.dictAt (N _ hm).1
  have hlt : d < s₁.heap.objs.size := Heap.lt_size (N _ hm).1
  have hne : d ≠ s₁.heap.objs.size := Nat.ne_of_lt hlt
  refine wpAny_pyIter_dict lo hat ?_
  refine block_T (Walks.dictKeys (prog := prog) (w := w) (knd := PySem.strKind prog w) hh s₁.heap.objs.size d hne kvs ep) hsz (fun i h st => by obtain ⟨o, e, _⟩ := st.1; exact ⟨o, e⟩) (fun i h h' o nw st e e' k N S => ⟨by obtain ⟨o', q, r⟩ := st.1; rw [e] at q; cases q; exact ⟨o, e', r⟩, ha.dictAt (N _ S).1⟩) hcell hkind hx ⟨⟨_, Heap.get?_push_size _ rfl, rfl, rfl⟩, hat.push _⟩ (fun b hb => ?_)
    (F.keeps fun _ _ e => Heap.get?_push_of_some _ e) (N.grown fun _ _ e => Heap.get?_push_of_some _ e) (Nat.ne_of_lt F.ns.lt) (next_is_new F) (fun p hp => Nat.ne_of_lt (Heap.lt_size (N p hp).1)) hm (R _ ⟨_, rfl⟩) ?_
  · show b < (s₁.heap.push _).objs.size
    rw [Heap.size_push]
    rcases List.mem_cons.mp hb with rfl | hb
    · exact Nat.lt_succ_self _
    · rw [List.mem_singleton.mp hb]; exact Nat.lt_succ_of_lt hlt
  · intro D C h tk m' ys news' F' N' o1 hn hC₀ hD₀ hCL hDL hCD offC fin
    exact hRR _ D C h tk m' ys news' ⟨_, rfl⟩ F' N' o1 hn hC₀ hD₀ hCL hDL hCD offC fin
theorem zge {ct elt iter : Expr} {x : Str} {px : Pos} {scope : Scope} {cl : List (Str × Addr)} {pos : Pos} {Q : Value → Shared → Prop}
    (hclos : closureFor scope env = pure cl) (hcell : ∀ y ∈ scope.names, y.2 ≠ .cell) (hkind : scope.kind = .function)
    (hnames : ∀ y ∈ scope.names, y.2 = .local → scope.names.lookup y.1 = some .local) (hx : scope.names.lookup x = some .local)
    (h : wpAny (model prog w) A (eval iter env) (SrcD prog w A h₀ L m env ct elt x scope cl (fun s₂ => FinE h₀ L m s₂ Q)) E s)
    (hs : ∀ x, foldedSetIterable iter env x = pure x) :
    wpAny (model prog w) A (eval (.ListComp elt [⟨.Name x px, iter, [ct], 0⟩] scope pos) env) Q E s := by
  rw [eval_ListComp]
  refine wpAny_comprehension_free (use := none) rfl hs hclos hkind hnames (wpAny_mono h (fun xv s₁ h₁ => ?_) fun _ _ e => e)
  refine zkm hcell hkind hx h₁ fun s₂ D C h tk m' ys news' hs₂ F' N' o1 hn hC₀ hD₀ hCL hDL hCD offC fin => ?_
  refine ⟨m', hn, fun h'' hs'' => fin D h'' tk (F'.change hs'' hCL hC₀) (fun p hp => ?_) o1⟩
  refine ⟨hs''.extBut _ _ ?_ (N' p hp).1, (N' p hp).2⟩
  rcases List.mem_cons.mp hp with rfl | hp
  · exact Ne.symm hCD
  · exact offC p hp
theorem zck {ct elt iter : Expr} {x y : Str} {px py : Pos} {scope : Scope} {cl : List (Str × Addr)} {pos spos : Pos} {Q : Flow → Shared → Prop} (hLe : env.locals = L)
    (hsw : swapsWith (.ListComp elt [⟨.Name x px, iter, [ct], 0⟩] scope pos) (some (.Name y py)) spos.line env = pure true)
    (hclos : closureFor scope env = pure cl) (hcell : ∀ y ∈ scope.names, y.2 ≠ .cell) (hkind : scope.kind = .function)
    (hnames : ∀ y ∈ scope.names, y.2 = .local → scope.names.lookup y.1 = some .local) (hx : scope.names.lookup x = some .local)
    (hy : env.kindOf y = some .local) (hp : (env.scope.kind == .class || (env.scope.kind == .module && env.locals != env.globals)) = false)
    (h : wpAny (model prog w) A (eval iter env) (SrcD prog w A h₀ L m env ct elt x scope cl (fun s₂ => FinA h₀ L m s₂ y Q)) E s)
    (hs : ∀ x, foldedSetIterable iter env x = pure x) :
    wpAny (model prog w) A (exec (.Assign [.Name y py] (.ListComp elt [⟨.Name x px, iter, [ct], 0⟩] scope pos) spos) env) Q E s := by
  subst hLe
  rw [exec_Assign_Name_used _ _ _ _ hsw]
  refine wpAny_bind (wpAny_standAt (wpAny_bind ?_))
  show wpAny _ A (do let _ ← comprehension (.ListComp elt [⟨.Name x px, iter, [ct], 0⟩] scope pos) scope env _ (newList []) false (eval iter env) (some (assign (.Name y py) env))) _ _ s
  refine wpAny_bind (wpAny_mono (wpAny_comprehension_free (use := some (assign (.Name y py) env)) (Q := fun _ s' => Q .next s') rfl hs hclos hkind hnames
    (wpAny_mono h (fun xv s₁ h₁ => ?_) fun _ _ e => e)) (fun _ s' hq => wpAny_pure (wpAny_pure hq)) fun _ _ e => e)
  refine zkm hcell hkind hx h₁ fun s₂ D C h tk m' ys news' hs₂ F' N' o1 hn hC₀ hD₀ hCL hDL hCD offC fin => ?_
  show wpAny _ A (assign (.Name y py) env (.ref D)) _ _ _
  refine wpAny_assign_Name (wpAny_storeName_local hy F'.ns (fun h₂ hn₂ hs₂ => ?_) hp)
  have hL₀ : h₀.get? env.locals = none := Heap.get?_none_of_le F'.above
  have F₂ : Fr h₀ env.locals h₂ (fun z => if z = y then some (.ref D) else m z) := ⟨hn₂, fun b o e => hs₂.extBut b o (fun q => by rw [q, hL₀] at e; cases e) (F'.keep b o e), F'.above⟩
  refine ⟨m', hn.sameBut hs₂ hCL, fun h'' hs'' => fin D h'' _ (F₂.change hs'' hCL hC₀) (fun p hp => ?_) o1⟩
  have z : h₂.get? p.1 = some p.2 := hs₂.extBut _ _ (N' p hp).2.1 (N' p hp).1
  refine ⟨hs''.extBut _ _ ?_ z, (N' p hp).2⟩
  rcases List.mem_cons.mp hp with rfl | hp
  · exact Ne.symm hCD
  · exact offC p hp
end
section
open LCg LCt
variable {Γ : Gm} {orc : Orc} {kf : Nat} {self : Job → Fi → Sg → Option (Out × Sg)} {c : Cx} {M : Str → Option Value} {z : Zs} {s : Shared} {f : Fi} {g g' : Sg} {v : SV}
theorem Led.less {R R' : List (Addr × Obj)} {ρ : List Addr} {nw : List (Addr × Obj)} (H : Led Γ R g ρ nw) (h : ∀ p ∈ R', ∀ q ∈ nw, p.1 ≠ q.1) : Led Γ R' g ρ nw := ⟨H.map, H.nd, H.lo, H.len, H.obj, h, H.tl⟩
theorem zml (IH : ∀ j f g out g', self j f g = some (out, g') → zbq Γ (kf + 1) j f g out g') {h : Option (Nat × Nat)} {x : Str} {t elt : Expr} {v : SV} {r' r : List SV} {o : Option SV} {g1 : Sg}
    (h1 : cmpT self (some t) elt ⟨[(x, v)], f.sc, f.cm⟩ g = some (o, g1)) (hh : held h g1 = true) (hγ : g1.γ = g.γ) (h3 : asVs (self (.cmp h x (some t) elt r') f g1) = some (r, g')) : CmpOK Γ (kf + 1) h x (some t) elt (v :: r') f g (zke o r) g' := by
  intro c M z s scope cl S P i acc ys Fin C hk hf led hg hys hP hS hF
  refine CompRestT.succ ?_
  intro V I oI C' oC D m₂ h' tk E' hPv hC hx F N off ne
  obtain ⟨u, hu, hru⟩ := hP 0 V hPv
  have hu' : v = u := Option.some.inj hu
  subst hu'
  have offm := off.mem
  have e0 : ({ s with heap := h', toks := tk } : Shared) = (⟨z.ρ, z.nw, h', tk, z.g⟩ : Zs).sh s := by
    unfold Zs.sh
    rw [hg]
  have sep0 : ∀ p ∈ (I, oI) :: (C', oC) :: (D, lst ys) :: c.rest, ∀ q ∈ z.nw, p.1 ≠ q.1 := fun p hp q hq => by
    have o3 := offm q (List.mem_append.mpr (.inl hq))
    rcases List.mem_cons.mp hp with rfl | hp
    · exact Ne.symm o3.1
    · rcases List.mem_cons.mp hp with rfl | hp
      · exact Ne.symm o3.2.1
      · rcases List.mem_cons.mp hp with rfl | hp
        · exact Ne.symm o3.2.2
        · exact led.sep p hp q hq
  have H0 : Cor Γ { c with env := compEnvC scope cl C' c.env, rest := (I, oI) :: (C', oC) :: (D, lst ys) :: c.rest, E := E', cmp := some m₂ } M g ⟨z.ρ, z.nw, h', tk, z.g⟩ := ⟨F, fun p hp => N p (by
    rcases List.mem_append.mp hp with hp | hp
    · exact .tail _ (.tail _ (.tail _ (List.mem_append.mpr (.inl hp))))
    · rcases List.mem_cons.mp hp with rfl | hp
      · exact .head _
      · rcases List.mem_cons.mp hp with rfl | hp
        · exact .tail _ (.head _)
        · rcases List.mem_cons.mp hp with rfl | hp
          · exact .tail _ (.tail _ (.head _))
          · exact .tail _ (.tail _ (.tail _ (List.mem_append.mpr (.inr hp))))), led.less sep0⟩
  have C1 : RCx Γ (kf + 1) { c with env := compEnvC scope cl C' c.env, rest := (I, oI) :: (C', oC) :: (D, lst ys) :: c.rest, E := E', cmp := some m₂ } :=
    ⟨⟨C.hand, C.stk, C.fr, C.fk, C.dep, C.uni, C.X, C.T, C.gd⟩, hk, C.gl, C.bl, (fun e => by cases e), fun N e => by cases e; exact ⟨oC, .tail _ (.head _), hC⟩⟩
  have fr0 := hf { c with env := compEnvC scope cl C' c.env, rest := (I, oI) :: (C', oC) :: (D, lst ys) :: c.rest, E := E', cmp := some m₂ } C' m₂ v V z.ρ rfl rfl hx Ext.refl hru
  have J := IH _ _ _ _ _ (b6 h3)
  have fin : ∀ (z2 : Zs) (rest : Value → List (Addr × Obj) → Prop) (W : Value) (acc' : List SV) (ys' : List Value), (CompRestT Γ.prog Γ.w c.A c.h₀ c.L M c.env t elt x scope cl s S P Fin r'.length (i + 1) ys' (z2.nw ++ c.rest) → rest W (z2.nw ++ c.rest)) → acc' ++ r = acc ++ zke o r → RVs z2.ρ acc' ys' →
      Ex ⟨z.ρ, z.nw, h', tk, z.g⟩ g z2 g1 → Cor Γ { c with env := compEnvC scope cl C' c.env, rest := (I, oI) :: (C', oC) :: (D, lst ys) :: c.rest, E := E', cmp := some m₂ } M g1 z2 → CompEnd c.h₀ c.L M { s with heap := h', toks := tk } I oI C' oC D (lst ys) S rest W (z2.sh s) := by
    intro z2 rest W acc' ys' hr hacc hys' e2 H2
    have ex : Ex z g z2 g1 := Ex.same.trans e2
    have hg2 : z2.g = s.gens := (e2.gq.2 hγ).trans hg
    have led2 : Led Γ c.rest g1 z2.ρ z2.nw := H2.led.less fun p hp => H2.led.sep p (.tail _ (.tail _ (.tail _ hp)))
    refine ⟨z2.h, z2.tk, z2.nw ++ c.rest, by unfold Zs.sh; rw [hg2], H2.F, fun p hp => H2.N p ?_, Off3.of fun p hp => ?_, hS z2 g1 ex hh led2, hr ?_⟩
    · rcases List.mem_cons.mp hp with rfl | hp
      · exact List.mem_append.mpr (.inr (.head _))
      · rcases List.mem_cons.mp hp with rfl | hp
        · exact List.mem_append.mpr (.inr (.tail _ (.head _)))
        · rcases List.mem_cons.mp hp with rfl | hp
          · exact List.mem_append.mpr (.inr (.tail _ (.tail _ (.head _))))
          · rcases List.mem_append.mp hp with hp | hp
            · exact List.mem_append.mpr (.inl hp)
            · exact List.mem_append.mpr (.inr (.tail _ (.tail _ (.tail _ hp))))
    · rcases List.mem_append.mp hp with hp | hp
      · exact ⟨Ne.symm (H2.led.sep _ (.head _) p hp), Ne.symm (H2.led.sep _ (.tail _ (.head _)) p hp), Ne.symm (H2.led.sep _ (.tail _ (.tail _ (.head _))) p hp)⟩
      · exact offm p (List.mem_append.mpr (.inr hp))
    · exact J c M z2 s scope cl S P (i + 1) acc' ys' Fin C hk (fun c' C N u V ρ' a b d e r => hf c' C N u V ρ' a b d (ex.ext.trans e) r) led2 hg2 hys' (fun j U hU => by
        obtain ⟨u, h5, h6⟩ := hP (j + 1) U (by rw [show i + (j + 1) = i + 1 + j by omega]; exact hU)
        exact ⟨u, h5, h6.mono ex.ext⟩) (fun z' g' e => hS z' g' (ex.trans e)) fun z' ys' e l hg' r => hF z' ys' (ex.trans e) l hg' (by rw [← hacc]; exact r)
  refine zac h1 fun b g0 hb h1' => ?_
  rw [e0]
  refine IH _ _ _ _ _ (zbu hb) _ M ⟨z.ρ, z.nw, h', tk, z.g⟩ s _ C1 fr0 H0 fun z1 e1 H1 => ?_
  cases b with
  | false =>
    cases h1'
    rw [if_neg Bool.false_ne_true, ← e0]
    exact fin z1 _ _ acc ys id rfl (hys.mono e1.ext) e1 H1
  | true =>
    refine zac h1' fun w g2 hw e => ?_
    cases e
    rw [if_pos rfl]
    refine IH _ _ _ _ _ (zak hw) _ M z1 s _ C1 (fr0.mono e1.ext) H1 fun W z2 e2 r2 H2 => ?_
    rw [← e0]
    exact fin z2 _ W (acc ++ [w]) (ys ++ [W]) id (by rw [List.append_assoc]; rfl) ((hys.mono (e1.ext.trans e2.ext)).append (.cons r2 .nil)) (e1.trans e2) H2
theorem zkf (IH : ∀ j f g out g', self j f g = some (out, g') → zbq Γ (kf + 1) j f g out g') {h : Option (Nat × Nat)} {x : Str} {elt : Expr} {v : SV} {r' r : List SV} {o : Option SV} {g1 : Sg}
    (h1 : cmpT self none elt ⟨[(x, v)], f.sc, f.cm⟩ g = some (o, g1)) (hh : held h g1 = true) (hγ : g1.γ = g.γ) (h3 : asVs (self (.cmp h x none elt r') f g1) = some (r, g')) : CmpOK Γ (kf + 1) h x none elt (v :: r') f g (zke o r) g' := by
  intro c M z s scope cl S P i acc ys Fin C hk hf led hg hys hP hS hF
  refine CompRest.succ ?_
  intro V I oI C' oC D m₂ h' tk E' hPv hC hx F N off ne
  obtain ⟨u, hu, hru⟩ := hP 0 V hPv
  have hu' : v = u := Option.some.inj hu
  subst hu'
  have offm := off.mem
  have e0 : ({ s with heap := h', toks := tk } : Shared) = (⟨z.ρ, z.nw, h', tk, z.g⟩ : Zs).sh s := by
    unfold Zs.sh
    rw [hg]
  have sep0 : ∀ p ∈ (I, oI) :: (C', oC) :: (D, lst ys) :: c.rest, ∀ q ∈ z.nw, p.1 ≠ q.1 := fun p hp q hq => by
    have o3 := offm q (List.mem_append.mpr (.inl hq))
    rcases List.mem_cons.mp hp with rfl | hp
    · exact Ne.symm o3.1
    · rcases List.mem_cons.mp hp with rfl | hp
      · exact Ne.symm o3.2.1
      · rcases List.mem_cons.mp hp with rfl | hp
        · exact Ne.symm o3.2.2
        · exact led.sep p hp q hq
  have H0 : Cor Γ { c with env := compEnvC scope cl C' c.env, rest := (I, oI) :: (C', oC) :: (D, lst ys) :: c.rest, E := E', cmp := some m₂ } M g ⟨z.ρ, z.nw, h', tk, z.g⟩ := ⟨F, fun p hp => N p (by
    rcases List.mem_append.mp hp with hp | hp
    · exact .tail _ (.tail _ (.tail _ (List.mem_append.mpr (.inl hp))))
    · rcases List.mem_cons.mp hp with rfl | hp
      · exact .head _
      · rcases List.mem_cons.mp hp with rfl | hp
        · exact .tail _ (.head _)
        · rcases List.mem_cons.mp hp with rfl | hp
          · exact .tail _ (.tail _ (.head _))
          · exact .tail _ (.tail _ (.tail _ (List.mem_append.mpr (.inr hp))))), led.less sep0⟩
  have C1 : RCx Γ (kf + 1) { c with env := compEnvC scope cl C' c.env, rest := (I, oI) :: (C', oC) :: (D, lst ys) :: c.rest, E := E', cmp := some m₂ } :=
    ⟨⟨C.hand, C.stk, C.fr, C.fk, C.dep, C.uni, C.X, C.T, C.gd⟩, hk, C.gl, C.bl, (fun e => by cases e), fun N e => by cases e; exact ⟨oC, .tail _ (.head _), hC⟩⟩
  have fr0 := hf { c with env := compEnvC scope cl C' c.env, rest := (I, oI) :: (C', oC) :: (D, lst ys) :: c.rest, E := E', cmp := some m₂ } C' m₂ v V z.ρ rfl rfl hx Ext.refl hru
  have J := IH _ _ _ _ _ (b6 h3)
  have fin : ∀ (z2 : Zs) (rest : Value → List (Addr × Obj) → Prop) (W : Value) (acc' : List SV) (ys' : List Value), (CompRest Γ.prog Γ.w c.A c.h₀ c.L M c.env elt x scope cl s S P Fin r'.length (i + 1) ys' (z2.nw ++ c.rest) → rest W (z2.nw ++ c.rest)) → acc' ++ r = acc ++ zke o r → RVs z2.ρ acc' ys' →
      Ex ⟨z.ρ, z.nw, h', tk, z.g⟩ g z2 g1 → Cor Γ { c with env := compEnvC scope cl C' c.env, rest := (I, oI) :: (C', oC) :: (D, lst ys) :: c.rest, E := E', cmp := some m₂ } M g1 z2 → CompEnd c.h₀ c.L M { s with heap := h', toks := tk } I oI C' oC D (lst ys) S rest W (z2.sh s) := by
    intro z2 rest W acc' ys' hr hacc hys' e2 H2
    have ex : Ex z g z2 g1 := Ex.same.trans e2
    have hg2 : z2.g = s.gens := (e2.gq.2 hγ).trans hg
    have led2 : Led Γ c.rest g1 z2.ρ z2.nw := H2.led.less fun p hp => H2.led.sep p (.tail _ (.tail _ (.tail _ hp)))
    refine ⟨z2.h, z2.tk, z2.nw ++ c.rest, by unfold Zs.sh; rw [hg2], H2.F, fun p hp => H2.N p ?_, Off3.of fun p hp => ?_, hS z2 g1 ex hh led2, hr ?_⟩
    · rcases List.mem_cons.mp hp with rfl | hp
      · exact List.mem_append.mpr (.inr (.head _))
      · rcases List.mem_cons.mp hp with rfl | hp
        · exact List.mem_append.mpr (.inr (.tail _ (.head _)))
        · rcases List.mem_cons.mp hp with rfl | hp
          · exact List.mem_append.mpr (.inr (.tail _ (.tail _ (.head _))))
          · rcases List.mem_append.mp hp with hp | hp
            · exact List.mem_append.mpr (.inl hp)
            · exact List.mem_append.mpr (.inr (.tail _ (.tail _ (.tail _ hp))))
    · rcases List.mem_append.mp hp with hp | hp
      · exact ⟨Ne.symm (H2.led.sep _ (.head _) p hp), Ne.symm (H2.led.sep _ (.tail _ (.head _)) p hp), Ne.symm (H2.led.sep _ (.tail _ (.tail _ (.head _))) p hp)⟩
      · exact offm p (List.mem_append.mpr (.inr hp))
    · exact J c M z2 s scope cl S P (i + 1) acc' ys' Fin C hk (fun c' C N u V ρ' a b d e r => hf c' C N u V ρ' a b d (ex.ext.trans e) r) led2 hg2 hys' (fun j U hU => by
        obtain ⟨u, h5, h6⟩ := hP (j + 1) U (by rw [show i + (j + 1) = i + 1 + j by omega]; exact hU)
        exact ⟨u, h5, h6.mono ex.ext⟩) (fun z' g' e => hS z' g' (ex.trans e)) fun z' ys' e l hg' r => hF z' ys' (ex.trans e) l hg' (by rw [← hacc]; exact r)
  refine zac h1 fun w g2 hw e => ?_
  cases e
  rw [e0]
  refine IH _ _ _ _ _ (zak hw) _ M ⟨z.ρ, z.nw, h', tk, z.g⟩ s _ C1 fr0 H0 fun W z2 e2 r2 H2 => ?_
  rw [← e0]
  exact fin z2 _ W (acc ++ [w]) (ys ++ [W]) id (by rw [List.append_assoc]; rfl) ((hys.mono e2.ext).append (.cons r2 .nil)) e2 H2
theorem zjl {ρ : List Addr} {l : List (Str × SV)} {kvs : List (Str × Value)} (r : RKs ρ l kvs) : ∀ {i : Nat} {k : Str} {y : Value}, kvs[i]? = some (k, y) → (l.map fun p => SV.str p.1)[i]? = some (SV.str k) := by
  induction r with
  | nil => intro i k y e; cases e
  | cons a _ ih =>
    intro i k y e
    cases i with
    | zero => cases e; rfl
    | succ i => exact ih e
theorem zcn {k tt : Nat} {z1 z' : Zs} {g1 g' : Sg} {d : Addr} {o : Obj} (ht : g1.τ[k]? = some tt) (hk : z1.nw[k]? = some (d, o)) (e : Ex z1 g1 z' g') (hh : held (some (k, tt)) g' = true) : (d, o) ∈ z'.nw := by
  obtain ⟨t', e1, _, e3⟩ := e.stp k tt ht
  have hh' : (match g'.τ[k]? with | some t' => Nat.beq t' tt | none => false) = true := hh
  rw [e1] at hh'
  exact List.mem_of_getElem? ((e3 (Nat.eq_of_beq_eq_true hh')).2.trans hk)
theorem zir {ρ : List Addr} : ∀ {l : List Value} {r : List SV}, mapS zca l = some r → ∀ {j : Nat} {V : Value}, l[j]? = some V → ∃ u, r[j]? = some u ∧ RV ρ u V
  | [], _, h, _, _, e => by cases e
  | v :: l, r, h, j, V, e => by
    obtain ⟨k, ks, h1, h2, rfl⟩ := zav h
    cases j with
    | zero => cases e; exact ⟨k, rfl, c8 h1⟩
    | succ j => exact zir h2 (j := j) e
theorem zsn {h : Option (Nat × Nat)} {l0 : List SV} {g0 : Sg} {t elt : Expr} {x : Str} {scope : Scope} {cl : List (Str × Addr)} {Fin : Shared → List Value → List (Addr × Obj) → Prop} (h3 : srcS Γ.K v g0 = some (h, l0)) (C : RCx Γ kf c)
    (R : ∀ (z1 : Zs) (s₂ : Shared) (S : List (Addr × Obj) → Prop) (P : Nat → Value → Prop), Ex z g z1 g0 → Cor Γ c M g0 z1 → z1.g = s₂.gens → (∃ h, s₂ = { z1.sh s with heap := h }) → (∀ j V, P j V → ∃ u, l0[j]? = some u ∧ RV z1.ρ u V) → (∀ z' g', Ex z1 g0 z' g' → held h g' = true → Led Γ c.rest g' z'.ρ z'.nw → S (z'.nw ++ c.rest)) →
      CompRestT Γ.prog Γ.w c.A c.h₀ c.L M c.env t elt x scope cl s₂ S P (Fin s₂) l0.length 0 [] (z1.nw ++ c.rest)) :
    (∀ V z1, Ex z g z1 g0 → RV z1.ρ v V → Cor Γ c M g0 z1 → CompSrcT Γ.prog Γ.w c.A c.h₀ c.L M c.env t elt x scope cl Fin V (z1.sh s)) ∨
      (∀ V z1, Ex z g z1 g0 → RV z1.ρ v V → Cor Γ c M g0 z1 → SrcD Γ.prog Γ.w c.A c.h₀ c.L M c.env t elt x scope cl Fin V (z1.sh s)) := by
  cases v with
  | val u =>
    refine zab h3 fun l h4 h5 => ?_
    refine zaa h5 fun hz h6 => ?_
    refine zag h6 fun r h7 h8 => ?_
    cases h8
    clear h3 h5 h6
    obtain ⟨d, dd, n, sl, rfl, hK⟩ := zjw h4
    have hz' := zah hz
    refine .inl fun V z1 e1 r1 H1 => ?_
    have r1' : V = .ref d := r1
    subst r1'
    have hl : l0.length = l.toArray.size := (zef h7).trans (List.size_toArray).symm
    refine CompSrcT.base C.hand H1.F H1.N (lstK C.X hK) (by rw [List.size_toArray, sizeLine_eq]; omega) fun hp => ?_
    rw [← hl]
    exact R z1 { z1.sh s with heap := hp } _ _ e1 H1 rfl ⟨hp, rfl⟩ (fun j V hj => zir h7 (by simpa using hj)) fun _ _ _ _ _ => .inl (lstK C.X hK)
  | obj k =>
    refine zac (show zaf (oO g0.σ (.obj k)) (fun k o => (g0.τ[k]?).bind fun tt => srcO k tt o) = some (h, l0) from h3) fun k' so hq h4 => ?_
    refine zab h4 fun tt ht h5 => ?_
    clear h3 h4
    obtain ⟨hk', hs⟩ := zas hq
    have hk'' : k = k' := by cases hk'; rfl
    subst hk''
    have hD : ∀ l, soS so = some l → l.length ≤ 100000 → h = some (k, tt) → l0 = l.map (fun p => SV.str p.1) → ∀ V z1, Ex z g z1 g0 → RV z1.ρ (.obj k) V → Cor Γ c M g0 z1 → SrcD Γ.prog Γ.w c.A c.h₀ c.L M c.env t elt x scope cl Fin V (z1.sh s) := by
      intro l hl hz hh hl0 V z1 e1 r1 H1
      obtain ⟨D, o, rfl, hD, hkk, hm, hr⟩ := H1.ob r1 ⟨rfl, hs⟩
      obtain ⟨kvs, hd, hr⟩ := hr.sdict hl
      have e0 : l0.length = kvs.length := by rw [hl0, List.length_map, hr.length]
      refine ⟨D, o, kvs, _, rfl, C.hand, H1.F, H1.N, hm, hd, H1.led.lo _ _ D hs (e7 hl) hD, by rw [hr.length, sizeLine_eq]; omega, fun s₂ hs₂ => ?_⟩
      rw [← e0]
      refine R z1 s₂ _ _ e1 H1 (by obtain ⟨_, rfl⟩ := hs₂; rfl) hs₂ (fun j V hj => ?_) fun z' g' e' hh' _ => List.mem_append.mpr (.inl (zcn ht hkk e' (hh ▸ hh')))
      obtain ⟨key, y, h6, h7⟩ := hj
      obtain ⟨tk, rfl⟩ := Value.isStrOf_shape h7
      exact ⟨.str key, by rw [hl0]; exact zjl hr h6, ⟨tk, rfl⟩⟩
    cases so with
    | list l =>
      refine zaa h5 fun hz h6 => ?_
      cases h6
      have hz' := zah hz
      refine .inl fun V z1 e1 r1 H1 => ?_
      obtain ⟨D, o, rfl, hD, hkk, hm, vs, nn, rfl, hr⟩ := H1.ob r1 ⟨rfl, hs⟩
      have hl : l0.length = vs.toArray.size := by rw [List.size_toArray, hr.length]
      refine CompSrcT.ledger C.hand H1.F H1.N hm (by rw [← hl, sizeLine_eq]; omega) fun hp => ?_
      rw [← hl]
      refine R z1 { z1.sh s with heap := hp } _ _ e1 H1 rfl ⟨hp, rfl⟩ (fun j V hj => ?_) fun z' g' e' hh' _ => .inr ⟨_, List.mem_append.mpr (.inl (zcn ht hkk e' hh')), rfl, nn, rfl⟩
      have hj' : vs[j]? = some V := by simpa using hj
      have hjl : j < l0.length := by rw [hl, List.size_toArray]; exact (List.getElem?_eq_some_iff.mp hj').1
      obtain ⟨V', hV', hrv⟩ := hr.get (List.getElem?_eq_getElem hjl)
      rw [hj'] at hV'
      cases hV'
      exact ⟨_, List.getElem?_eq_getElem hjl, hrv⟩
    | dict l =>
      cases l with
      | nil =>
        cases h5
        exact .inr (hD [] rfl (Nat.zero_le _) rfl rfl)
      | cons _ _ => cases h5
    | sdict l =>
      refine zaa h5 fun hz h6 => ?_
      cases h6
      exact .inr (hD l rfl (zah hz) rfl rfl)
    | _ => cases h5
  | _ => cases h3
theorem zcd {e : Expr} (h : zlj e = true) : (∀ (t : Expr) (l : Nat) (env : Env), swapsWithSole [t] e l env = pure false) ∧ (∀ (es : List Expr) (k : Nat) (ps : Pos) (env : Env), swappedStores [.Tuple es k ps] e env = pure none) ∧ ∀ (env : Env) (x : Value), foldedSetIterable e env x = pure x := by
  cases e <;> first | (cases h; done) | exact ⟨fun _ _ _ => rfl, fun _ _ _ _ => rfl, fun _ _ => rfl⟩
theorem Off1.ne {D : Addr} : ∀ {l : List (Addr × Obj)}, Off1 D l → ∀ p ∈ l, p.1 ≠ D
  | [], _, _, h => nomatch h
  | _ :: _, x, p, h => by
    rcases List.mem_cons.mp h with rfl | h
    · exact x.1
    · exact Off1.ne x.2 p h
theorem lc_ok (IH : ∀ j f g out g', self j f g = some (out, g') → zbq Γ (kf + 1) j f g out g') {e : Expr} {k : Lc} {l : List SV} {g1 : Sg} (hk : lcOf e = some k) (h0 : lcS Γ.K self k f g = some (l, g1)) {Q : Value → Shared → Prop} (C : RCx Γ (kf + 1) c) (fr : Frm c f M z.ρ) (H : Cor Γ c M g z)
    (G : Got Γ c M g z s Q (mkO (.list l) g1).1 (mkO (.list l) g1).2) : wpAny (model Γ.prog Γ.w) c.A (eval e c.env) Q c.E (z.sh s) := by
  rw [zjk hk]
  refine zaa h0 fun hq h => ?_
  refine zae hq fun hnt hok => ?_
  refine zac h fun v g0 h1 h2' => ?_
  refine zaa h2' fun hLq h2 => ?_
  refine zab h2 fun cm hcm h3 => ?_
  refine zac h3 fun hd l0 hsrc h4 => ?_
  refine zac h4 fun r g2 h5 h6 => ?_
  cases h6
  cases hct : k.ct with
  | none =>
    rw [hct] at h5 hLq
    have J := IH _ _ _ _ _ (b6 h5)
    obtain ⟨cl, hclos, hf⟩ := zeg fr C.k hok hcm
    obtain ⟨k1, k2, k3, k4, _⟩ := zeh hok
    have go := fun Q => IH _ _ _ _ _ (zak h1) c M z s Q C fr H
    have hs := (zcd hnt).2.2 c.env
    obtain ⟨⟨ko, lo⟩, hL⟩ := Option.isSome_iff_exists.mp (show (oL g0.σ v).isSome = true from hLq)
    refine LCg.ListComp_U H.F hclos k2 k1 k3 k4 (go _ fun V z1 e1 r1 H1 => ?_) hs
    obtain ⟨rfl, hso⟩ := zhk (f := soL) (fun _ _ => zsa) hL
    have hL' : oO g0.σ (.obj ko) = some (ko, .list lo) := by
      show (nthS g0.σ ko).map (fun so => (ko, so)) = _
      rw [zao, hso]
      rfl
    refine zac (show zaf (oO g0.σ (.obj ko)) (fun k o => (g0.τ[k]?).bind fun tt => srcO k tt o) = some (hd, l0) from hsrc) fun k' so hq2 h7 => ?_
    rw [hL'] at hq2
    cases hq2
    refine zab h7 fun tt ht h8 => ?_
    refine zaa h8 fun hz h9 => ?_
    cases h9
    have hz' := zah hz
    obtain ⟨D, o, rfl, hD, hkk, hm, vs, nn, rfl, hr⟩ := H1.ob r1 ⟨rfl, hso⟩
    have hl : l0.length = vs.toArray.size := by rw [List.size_toArray, hr.length]
    refine LCg.CompSrc.ledger C.hand H1.F H1.N hm (by rw [← hl, sizeLine_eq]; omega) fun hp => ?_
    rw [← hl]
    refine J c M z1 { z1.sh s with heap := hp } k.scope cl _ _ 0 [] [] _ C k1 (fun c' C N u V ρ' a b d e r => hf c' C N u V ρ' a b d (e1.ext.trans e) r) H1.led rfl .nil (fun j V hj => ?_) (fun z' g' e' hh' _ => .inr ⟨_, List.mem_append.mpr (.inl (zcn ht hkk e' hh')), rfl, nn, rfl⟩) fun z' ys' e led hg' r => ?_
    · rw [Nat.zero_add] at hj
      have hj' : vs[j]? = some V := by simpa using hj
      have hjl : j < l0.length := by rw [hl, List.size_toArray]; exact (List.getElem?_eq_some_iff.mp hj').1
      obtain ⟨V', hV', hrv⟩ := hr.get (List.getElem?_eq_getElem hjl)
      rw [hj'] at hV'
      cases hV'
      exact ⟨_, List.getElem?_eq_getElem hjl, hrv⟩
    · intro D h tk F' N' o1
      have e2 : ({ ({ z1.sh s with heap := hp } : Shared) with heap := h, toks := tk } : Shared) = (⟨z'.ρ ++ [D], z'.nw ++ [(D, lst ys')], h, tk, z'.g⟩ : Zs).sh s := by unfold Zs.sh; rw [hg']; rfl
      rw [e2]
      exact G _ _ ((e1.trans e).trans led.exNew) (d7 led) (led.new F' N' (Off1.ne o1) (fun e => nomatch e) ⟨ys', _, rfl, r.mono Ext.snoc⟩)
  | some t =>
    rw [hct] at h5
    have J := IH _ _ _ _ _ (b6 h5)
    obtain ⟨cl, hclos, hf⟩ := zeg fr C.k hok hcm
    obtain ⟨k1, k2, k3, k4, _⟩ := zeh hok
    have go := fun Q => IH _ _ _ _ _ (zak h1) c M z s Q C fr H
    have hs := (zcd hnt).2.2 c.env
    rcases zsn (s := s) (Fin := fun s₂ => FinE c.h₀ c.L M s₂ Q) (cl := cl) (t := t) (elt := k.elt) (x := k.x) (scope := k.scope) (z := z) (g := g) (M := M) hsrc C (fun z1 s₂ S P e1 H1 hg hs₂ hP hS => J c M z1 s₂ k.scope cl S P 0 [] [] _ C k1 (fun c' C N u V ρ' a b d e r => hf c' C N u V ρ' a b d (e1.ext.trans e) r) H1.led hg .nil (fun j V hj => hP j V (by rw [Nat.zero_add] at hj; exact hj)) hS fun z' ys' e led hg' r => by
        intro D h tk F' N' o1
        obtain ⟨hp, rfl⟩ := hs₂
        have e2 : ({ ({ z1.sh s with heap := hp } : Shared) with heap := h, toks := tk } : Shared) = (⟨z'.ρ ++ [D], z'.nw ++ [(D, lst ys')], h, tk, z'.g⟩ : Zs).sh s := by unfold Zs.sh; rw [hg']; rfl
        rw [e2]
        exact G _ _ ((e1.trans e).trans led.exNew) (d7 led) (led.new F' N' (Off1.ne o1) (fun e => nomatch e) ⟨ys', _, rfl, r.mono Ext.snoc⟩)) with A | B
    · exact LCt.ListComp_T H.F hclos k2 k1 k3 k4 (go _ fun V z1 e1 r1 H1 => A V z1 e1 r1 H1) hs
    · exact zge hclos k2 k1 k3 k4 (go _ fun V z1 e1 r1 H1 => B V z1 e1 r1 H1) hs
theorem lca_ok (IH : ∀ j f g out g', self j f g = some (out, g') → zbq Γ (kf + 1) j f g out g') {e : Expr} {k : Lc} {l : List SV} {g1 : Sg} {y : Str} {py pos : Pos} (hk : lcOf e = some k) (h0 : lcS Γ.K self k f g = some (l, g1)) (hsw : l9 (.Name y py) k f = true) (h9 : k.ct.isSome = true) {Q : Flow → Shared → Prop} (C : RCx Γ (kf + 1) c) (hc : c.cmp = none) (fr : Frm c f M z.ρ) (H : Cor Γ c M g z)
    (G : GotF Γ c g z s Q (.next, setM f y (mkO (.list l) g1).1) (mkO (.list l) g1).2) : wpAny (model Γ.prog Γ.w) c.A (exec (.Assign [.Name y py] e pos) c.env) Q c.E (z.sh s) := by
  rw [zjk hk]
  refine zaa h0 fun hq h => ?_
  refine zae hq fun hnt hok => ?_
  refine zac h fun v g0 h1 h2' => ?_
  refine zaa h2' fun hLq h2 => ?_
  refine zab h2 fun cm hcm h3 => ?_
  refine zac h3 fun hd l0 hsrc h4 => ?_
  refine zac h4 fun r g2 h5 h6 => ?_
  cases h6
  refine zae (show (zat f.sc y && (py.line == k.ps.line) && !(k.scope.names.any fun p => p.1 == y && (p.2 == .local || p.2 == .cell))) = true from hsw) fun hq2 hq3 => ?_
  refine zae hq2 fun hy hln => ?_
  have hky : c.env.kindOf y = some .local := (fr.kind y).trans (b8 hy).1
  cases hct : k.ct with
  | none => rw [hct] at h9; cases h9
  | some t =>
    rw [hct] at h5
    have J := IH _ _ _ _ _ (b6 h5)
    obtain ⟨cl, hclos, hf⟩ := zeg fr C.k hok hcm
    obtain ⟨k1, k2, k3, k4, _⟩ := zeh hok
    have go := fun Q => IH _ _ _ _ _ (zak h1) c M z s Q C fr H
    have hs := (zcd hnt).2.2 c.env
    have hsw' : swapsWith (.ListComp k.elt [⟨.Name k.x k.px, k.it, [t], 0⟩] k.scope k.ps) (some (.Name y py)) pos.line c.env = pure true := by
      show (pure (_ && _ && _ && _) : Sem Bool) = _
      have b1 : (c.env.blockKind == ScopeKind.function) = true := by
        unfold Env.blockKind
        simp [C.k, ScopeKind.isAnnotationScope]
      have b2 : (c.env.kindOf y == some NameKind.local) = true := by rw [hky]; rfl
      rw [b1, b2]
      show (pure (true && true && (py.line == k.ps.line) && _) : Sem Bool) = _
      rw [hln]
      show (pure (!(k.scope.names.any fun p => p.1 == y && (p.2 == .local || p.2 == .cell))) : Sem Bool) = _
      rw [hq3]
    have hp : (c.env.scope.kind == .class || (c.env.scope.kind == .module && c.env.locals != c.env.globals)) = false := by rw [C.k]; rfl
    rcases zsn (s := s) (Fin := fun s₂ => FinA c.h₀ c.L M s₂ y Q) (cl := cl) (t := t) (elt := k.elt) (x := k.x) (scope := k.scope) (z := z) (g := g) (M := M) hsrc C (fun z1 s₂ S P e1 H1 hg hs₂ hP hS => J c M z1 s₂ k.scope cl S P 0 [] [] _ C k1 (fun c' C N u V ρ' a b d e r => hf c' C N u V ρ' a b d (e1.ext.trans e) r) H1.led hg .nil (fun j V hj => hP j V (by rw [Nat.zero_add] at hj; exact hj)) hS fun z' ys' e led hg' r => by
        intro D h tk F' N' o1
        obtain ⟨hp, rfl⟩ := hs₂
        have e2 : ({ ({ z1.sh s with heap := hp } : Shared) with heap := h, toks := tk } : Shared) = (⟨z'.ρ ++ [D], z'.nw ++ [(D, lst ys')], h, tk, z'.g⟩ : Zs).sh s := by unfold Zs.sh; rw [hg']; rfl
        rw [e2]
        exact G .next _ _ ((e1.trans e).trans led.exNew) rfl ((fr.mono ((e1.trans e).ext.trans Ext.snoc)).put hc hy (d7 led)) (led.new F' N' (Off1.ne o1) (fun e => nomatch e) ⟨ys', _, rfl, r.mono Ext.snoc⟩)) with A | B
    · exact LCt.Assign_ListComp_T H.F (C.fn hc) hsw' hclos k2 k1 k3 k4 hky hp (go _ fun V z1 e1 r1 H1 => A V z1 e1 r1 H1) hs
    · exact zck (C.fn hc) hsw' hclos k2 k1 k3 k4 hky hp (go _ fun V z1 e1 r1 H1 => B V z1 e1 r1 H1) hs
end
theorem d8 {r : Expr} (h : zbx r = true) (op : CmpOp) : behindInMarks op r = false := by cases r <;> first | rfl | cases h
section
variable {Γ : Gm} {orc : Orc} {kf : Nat} {self : Job → Fi → Sg → Option (Out × Sg)} {c : Cx} {M : Str → Option Value} {z : Zs} {s : Shared} {f : Fi} {g g' : Sg} {v : SV}
theorem ev_ok (IH : ∀ j f g out g', self j f g = some (out, g') → zbq Γ (kf + 1) j f g out g') (O : zbf Γ orc kf) {e : Expr} (h : evS Γ.K Γ.gd orc self e f g = some (v, g')) : EvOK Γ (kf + 1) e f g v g' := by
  intro c M z s Q C fr H G
  cases e with
  | Constant k0 k pos =>
    refine zag h fun u hu e => ?_
    replace G := G.of' e
    exact zmk hu H G
  | Name x pos =>
    refine zag h fun u hu e => ?_
    replace G := G.of' e
    exact zfr hu C fr H fun V hV => G V z Ex.refl hV H
  | List es pos =>
    refine zac h fun l g1 h1 h2 => ?_
    refine zaa h2 fun hz h3 => ?_
    replace G := G.of h3
    exact List_ (IH _ _ _ _ _ (b6 h1) c M z s _ _ C fr H fun Vs z1 e1 r1 H1 => list_ok hz H1 r1 (G.after e1))
  | Tuple es k pos =>
    refine zac h fun l g1 h1 h2 => ?_
    refine zaa h2 fun hz h3 => ?_
    replace G := G.of h3
    exact Tuple_ (IH _ _ _ _ _ (b6 h1) c M z s _ _ C fr H fun Vs z1 e1 r1 H1 => tup_ok hz H1 r1 (G.after e1))
  | Dict ks vs pos =>
    refine zaa h fun e h => ?_
    replace G := G.of h
    refine zae e fun e1 e2 => ?_
    rw [List.isEmpty_iff.mp e1, List.isEmpty_iff.mp e2]
    exact dict_ok C.T.nolimit H G
  | BinOp l op r pos =>
    refine zac h fun a g1 h1 h2 => ?_
    refine zac h2 fun b g2 h3 h4 => ?_
    exact wpAny_BinOp (IH _ _ _ _ _ (zak h1) c M z s _ C fr H fun V z1 e1 r1 H1 =>
      IH _ _ _ _ _ (zak h3) c M z1 s _ C (fr.mono e1.ext) H1 fun U z2 e2 r2 H2 => bin_ok h4 H2 (r1.mono e2.ext) r2 ((G.after e1).after e2))
  | Compare l ops rs pos =>
    refine zab h fun op o1 h => ?_
    refine zab h fun r o2 h => ?_
    refine zaa h fun hn h => ?_
    refine zac h fun a g1 h1 h2 => ?_
    refine zac h2 fun b g2 h3 h4 => ?_
    refine zag h4 fun c0 h5 h6 => ?_
    replace G := G.of' h6
    rw [zbm o1, zbm o2]
    exact wpAny_Compare1 (IH _ _ _ _ _ (zak h1) c M z s _ C fr H fun V z1 e1 r1 H1 =>
      IH _ _ _ _ _ (zak h3) c M z1 s _ C (fr.mono e1.ext) H1 fun U z2 e2 r2 H2 => zhc h5 C.toOrx H2 (r1.mono e2.ext) r2 fun tk => ((G.after e1).after e2).now rfl H2) (d8 hn _)
  | Subscript b i pos =>
    refine zac h fun u g1 h1 h2 => ?_
    exact ix_ok IH h1 h2 C fr H G
  | Attribute b x pos =>
    refine zaa h fun hq h => ?_
    refine zac h fun u g1 h1 h2 => ?_
    refine zag h2 fun u' hu e => ?_
    replace G := G.of' e
    exact att_he hq (IH _ _ _ _ _ (zak h1) c M z s _ C fr H fun V z1 e1 r1 H1 => att_ok hu C.toOrx H1 r1 fun W tk hW => (G.after e1).now hW H1)
  | Call e args kws pos =>
    refine zaa h fun q h => ?_
    refine zae q fun e1 hst => ?_
    rw [List.isEmpty_iff.mp e1]
    exact zmp IH O h hst C fr H G
  | ListComp elt gs scope ps =>
    refine zab h fun k hk h => ?_
    refine zac h fun l g1 h1 h2 => ?_
    replace G := G.of h2
    exact lc_ok IH hk h1 C fr H G
  | _ => cases h
theorem storeC {prog : Program} {w : World} {A : Around} {E : Value → Shared → Prop} {s : Shared} {h₀ : Heap} {L a : Addr} {m : Str → Option Value} {env : Env} {news : List (Addr × Obj)} {gg : Obj → List (Addr × Obj)} {o : Obj} {v₀ : Option Value} {v : Value} {x : Str} {Q : Unit → Shared → Prop} (F : Fr h₀ L s.heap m) (N : News h₀ L s.heap news) (hc : env.cells.lookup x = some a) (U : UpdF a o news gg) (hd : o.data = .cell v₀)
    (h : ∀ h' o', Fr h₀ L h' m → News h₀ L h' (gg o') → o'.data = .cell (some v) → Q () { s with heap := h' }) (hk : env.scope.kind = .function) (hx : env.kindOf x = some .cell) : wpAny (model prog w) A (storeName env x v) Q E s := by
  obtain ⟨own, rest, rfl, hg, h1, h2⟩ := U.split
  have hmem := N (a, o) (List.mem_append_right _ (.head _))
  refine wpAny_storeName_cell hk hx hc ⟨o, hmem.1, hd⟩ fun h' hv hs => ?_
  obtain ⟨o', ho', hd'⟩ := hv
  refine h h' o' ⟨F.ns.sameBut hs (Ne.symm hmem.2.1), fun b ob e => (hs.2 b (fun q => ?_)).trans (F.keep b ob e), F.above⟩ (hg o' ▸ N.setAt h1 h2 hs ho') hd'
  rw [q, hmem.2.2] at e; cases e
theorem RCx.noCls (C : RCx Γ kf c) : (c.env.scope.kind == .class || (c.env.scope.kind == .module && c.env.locals != c.env.globals)) = false := by rw [C.k]; rfl
theorem RCx.inter (C : RCx Γ kf c) : interactive c.env = false := by
  show (c.env.scope.kind == .module && _) = false
  rw [C.k]
  rfl
theorem zbi {x : Str} {V : Value} {Q : Unit → Shared → Prop} (hx : zat f.sc x = true) (C : RCx Γ kf c) (hc : c.cmp = none) (fr : Frm c f M z.ρ) (H : Cor Γ c M g z) (hv : RV z.ρ v V)
    (G : ∀ z', Ex z g z' g → Frm c (setM f x v) (fun y => if y = x then some V else M y) z'.ρ → Cor Γ c (fun y => if y = x then some V else M y) g z' → Q () (z'.sh s)) : wpAny (model Γ.prog Γ.w) c.A (storeName c.env x V) Q c.E (z.sh s) := by
  have e := C.fn hc
  refine wpAny_storeName_local ((fr.kind x).trans (b8 hx).1) (e ▸ H.F.ns) (fun h' hn hs => ?_) C.noCls
  rw [e] at hn hs
  exact G ⟨_, _, _, _, _⟩ Ex.same (fr.put hc hx hv) ⟨H.F.set hn hs, H.N.set hs, H.led⟩
theorem zcy {sc : List (Str × NameKind)} {x : Str} (h : (match look sc x with | some k => zdn k | none => false) = true) : sc.lookup x = some .cell := by
  rw [zap] at h
  cases e : sc.lookup x with
  | none => rw [e] at h; cases h
  | some k =>
    rw [e] at h
    cases k <;> first | rfl | cases h
theorem zks {x : Str} {ps : Pos} {V : Value} {Q : Unit → Shared → Prop} {f' : Fi} (h : asgT (.Name x ps) v f g = some (f', g')) (C : RCx Γ kf c) (hc : c.cmp = none) (fr : Frm c f M z.ρ) (H : Cor Γ c M g z) (hv : RV z.ρ v V)
    (G : ∀ M' z', Ex z g z' g' → Frm c f' M' z'.ρ → Cor Γ c M' g' z' → Q () (z'.sh s)) : wpAny (model Γ.prog Γ.w) c.A (storeName c.env x V) Q c.E (z.sh s) := by
  have h' : (match zat f.sc x with | true => some (setM f x v, g) | false => zad (match look f.sc x with | some k => zdn k | none => false) ((look f.cm x).bind fun k => (g.σ[k]?).bind fun so => (match so with | .cell _ => some (f, setO g k (.cell (some v))) | _ => none))) = some (f', g') := h
  cases hx : zat f.sc x with
  | true =>
    rw [hx] at h'
    cases h'
    exact zbi hx C hc fr H hv fun z' e' fr' H' => G _ z' e' fr' H'
  | false =>
    rw [hx] at h'
    refine zaa h' fun hk h1 => ?_
    refine zab h1 fun k h2 h3 => ?_
    refine zab h3 fun so h4 h5 => ?_
    clear h h' h1 h3
    cases so with
    | cell o =>
      cases h5
      obtain ⟨a, ha, hρ⟩ := fr.ce x k h2
      obtain ⟨a', ob, e, _, hk', hm, W, hd, _⟩ := H.obj (V := .ref a) ⟨a, hρ, rfl⟩ h4
      cases e
      exact storeC H.F H.N ha (H.upd hk') hd (fun h' o' F' N' hd' => G M ⟨_, _, _, _, _⟩ zfd fr (H.put hk' F' N' (fun e => nomatch e) ⟨_, hd', V, rfl, hv⟩)) C.k ((fr.kind x).trans (zcy hk))
    | _ => cases h5
theorem zsw {t : Expr} {V : Value} {Q : Unit → Shared → Prop} {f' : Fi} (h : asgT t v f g = some (f', g')) (C : RCx Γ kf c) (hc : c.cmp = none) (fr : Frm c f M z.ρ) (H : Cor Γ c M g z) (hv : RV z.ρ v V)
    (G : ∀ M' z', Ex z g z' g' → Frm c f' M' z'.ρ → Cor Γ c M' g' z' → Q () (z'.sh s)) : wpAny (model Γ.prog Γ.w) c.A (assign t c.env V) Q c.E (z.sh s) := by
  cases t with
  | Name x ps =>
    exact PyProof.Rows.assign_Name (zks h C hc fr H hv G)
  | Tuple es k ps =>
    unfold asgT at h
    dsimp only [zeq] at h
    cases h3e : zit es with
    | some q =>
      rw [h3e] at h
      refine zab (show asg3 q.1 q.2.1 q.2.2 v f g = some (f', g') from h) fun x h2 h => ?_
      refine zab h fun y h3 h => ?_
      refine zab h fun u h4 h => ?_
      refine zac h fun k l h5 h => ?_
      refine zab h fun r h6 h => ?_
      refine zaa h fun hx h => ?_
      cases h
      refine zae hx fun hx hyu => ?_
      refine zae hyu fun hy hu => ?_
      obtain ⟨p1, e1⟩ := zau h2
      obtain ⟨p2, e2⟩ := zau h3
      obtain ⟨p3, e3⟩ := zau h4
      rw [zdz h3e, e1, e2, e3]
      obtain ⟨D, us, nn, rfl, hm, hr⟩ := H.tup hv h5
      rw [zdz h6] at hr
      rcases hr with _ | ⟨ha, hr⟩
      rcases hr with _ | ⟨hb, hr⟩
      rcases hr with _ | ⟨hd, hr⟩
      cases hr
      refine unpackN_ (items := (_ :: _ :: _ :: []).toArray) H.F H.N ⟨_, (H.N _ hm).1, rfl, nn, rfl⟩ C.hand rfl rfl fun h' F' N' => ?_
      have H1 : Cor Γ c M g ⟨z.ρ, z.nw, h', z.tk, z.g⟩ := H.same F' N'
      refine assignInOrder_cons (PyProof.Rows.assign_Name (zbi (z := ⟨z.ρ, z.nw, h', z.tk, z.g⟩) hx C hc fr H1 ha fun z2 e2 fr2 H2 => ?_))
      refine assignInOrder_cons (PyProof.Rows.assign_Name (zbi (f := setM f x r.1) hy C hc fr2 H2 (hb.mono e2.ext) fun z3 e3 fr3 H3 => ?_))
      refine assignInOrder_cons (PyProof.Rows.assign_Name (zbi (f := setM (setM f x r.1) y r.2.1) hu C hc fr3 H3 (hd.mono (e2.trans e3).ext) fun z4 e4 fr4 H4 => ?_))
      exact assignInOrder_nil (G _ z4 (Ex.same.trans ((e2.trans e3).trans e4)) fr4 H4)
    | none =>
    rw [h3e] at h
    refine zac h fun e1 e2 h1 h => ?_
    refine zab h fun x h2 h => ?_
    refine zab h fun y h3 h => ?_
    refine zac h fun k l h4 h => ?_
    refine zac h fun a b h5 h => ?_
    refine zaa h fun hx h => ?_
    cases h
    refine zae hx fun hx hy => ?_
    obtain ⟨p1, rfl⟩ := zau h2
    obtain ⟨p2, rfl⟩ := zau h3
    rw [zbw h1]
    obtain ⟨D, us, nn, rfl, hm, hr⟩ := H.tup hv h4
    rw [zbw h5] at hr
    rcases hr with _ | ⟨ha, hr⟩
    rcases hr with _ | ⟨hb, hr⟩
    cases hr
    refine unpackN_ (items := (_ :: _ :: []).toArray) H.F H.N ⟨_, (H.N _ hm).1, rfl, nn, rfl⟩ C.hand rfl rfl fun h' F' N' => ?_
    have H1 : Cor Γ c M g ⟨z.ρ, z.nw, h', z.tk, z.g⟩ := H.same F' N'
    refine assignInOrder_cons (PyProof.Rows.assign_Name (zbi (z := ⟨z.ρ, z.nw, h', z.tk, z.g⟩) hx C hc fr H1 ha fun z2 e2 fr2 H2 => ?_))
    refine assignInOrder_cons (PyProof.Rows.assign_Name (zbi (f := setM f x a) hy C hc fr2 H2 (hb.mono e2.ext) fun z3 e3 fr3 H3 => ?_))
    exact assignInOrder_nil (G _ z3 (Ex.same.trans (e2.trans e3)) fr3 H3)
  | _ => cases h
theorem tru_ok {b : Bool} {V : Value} {σ : List SO} {Q : Bool → Shared → Prop} {sh : Shared} (h : truS σ v = some b) {ρ : List Addr} (hv : RV ρ v V) (G : Q b sh) : wpAny (model Γ.prog Γ.w) c.A (truthy V) Q c.E sh := by
  cases v with
  | bool x =>
    cases h
    have hv' : V = .bool b := hv
    subst hv'
    exact wpAny_truthy_bool G
  | int i =>
    cases h
    obtain ⟨t, rfl⟩ := hv
    exact PyProof.Rows.truthy_int G
  | _ => cases h
theorem ztt (IH : ∀ j f g out g', self j f g = some (out, g') → zbq Γ kf j f g out g') {e : Expr} {b : Bool} (h : zhf Γ.K Γ.gd self e f g = some (b, g')) : zsx Γ kf e f g b g' := by
  intro c M z s Q C fr H G
  have plain : ∀ {e : Expr} (he : isTrue e c.env (eval e c.env) = (do let v ← eval e c.env; standAt e.pos; holding [v] (truthy v))), (zaf (asV (self (.ev e) f g)) fun v g1 => (truS g1.σ v).map fun c => (c, g1)) = some (b, g') → wpAny (model Γ.prog Γ.w) c.A (isTrue e c.env (eval e c.env)) Q c.E (z.sh s) := by
    intro e he h
    refine zac h fun u g1 h1 h2 => ?_
    refine zag h2 fun x hx h3 => ?_
    cases h3
    exact isTrue_plain (IH _ _ _ _ _ (zak h1) c M z s _ C fr H fun V z1 e1 r1 H1 => tru_ok hx r1 (G z1 e1 H1)) he
  cases e with
  | BoolOp op l pos =>
    cases l with
    | nil => cases op <;> cases h
    | cons x r =>
      cases op with
      | And =>
        refine zac h fun b0 g1 h1 h2 => ?_
        refine isTrue_and (IH _ _ _ _ _ (zbu h1) c M z s _ C fr H fun z1 e1 H1 => ?_)
        cases b0 with
        | false =>
          cases h2
          exact G z1 e1 H1
        | true =>
          cases r with
          | nil =>
            cases h2
            exact isTrue_and_nil (G z1 e1 H1)
          | cons y r => exact IH _ _ _ _ _ (zbu h2) c M z1 s _ C (fr.mono e1.ext) H1 fun z2 e2 H2 => G z2 (e1.trans e2) H2
      | Or =>
        refine zac h fun b0 g1 h1 h2 => ?_
        refine isTrue_or (IH _ _ _ _ _ (zbu h1) c M z s _ C fr H fun z1 e1 H1 => ?_)
        cases b0 with
        | true =>
          cases h2
          exact G z1 e1 H1
        | false =>
          cases r with
          | nil =>
            cases h2
            exact isTrue_or_nil (G z1 e1 H1)
          | cons y r => exact IH _ _ _ _ _ (zbu h2) c M z1 s _ C (fr.mono e1.ext) H1 fun z2 e2 H2 => G z2 (e1.trans e2) H2
  | UnaryOp op e pos =>
    refine zaa h fun ho h => ?_
    refine f4 h fun b0 g1 h1 h2 => ?_
    cases h2
    obtain rfl := of_decide_eq_true ho
    exact isTrue_not (IH _ _ _ _ _ (zbu h1) c M z s _ C fr H fun z1 e1 H1 => G z1 e1 H1)
  | Compare l ops rs pos =>
    cases ops with
    | nil => cases h
    | cons op ops =>
      cases rs with
      | nil => cases h
      | cons r rs =>
        refine zaa h fun hn h1 => ?_
        refine zae hn fun hn hns => ?_
        refine zac h1 fun a g1 h2 h3 => ?_
        refine zac h3 fun b' g2 h4 h5 => ?_
        refine zab h5 fun c0 h6 h7 => ?_
        clear h h1 h3 h5
        cases ops with
        | nil =>
          refine zaa h7 fun he h8 => ?_
          cases h8
          rw [List.isEmpty_iff.mp he]
          exact wpAny_isTrue_Compare1 (IH _ _ _ _ _ (zak h2) c M z s _ C fr H fun V z1 e1 r1 H1 =>
            IH _ _ _ _ _ (zak h4) c M z1 s _ C (fr.mono e1.ext) H1 fun U z2 e2 r2 H2 => zhc h6 C.toOrx H2 (r1.mono e2.ext) r2 fun tk => wpAny_truthy_bool (G ⟨_, _, _, tk, _⟩ ((e1.trans e2).trans Ex.same) H2.toks)) (d8 hn _)
        | cons op2 ops2 =>
          refine zaa h7 fun he h8 => ?_
          refine zab h8 fun r' hr' h9 => ?_
          clear h7 h8
          rw [List.isEmpty_iff.mp he]
          rw [zbm hr'] at hns ⊢
          have hn2 : zbx r' = true := (Bool.and_eq_true_iff.mp (show (zbx r' && true) = true from hns)).1
          refine isTrue_chain (IH _ _ _ _ _ (zak h2) c M z s _ C fr H fun V z1 e1 r1 H1 => ?_) (d8 hn2 op2)
          refine test_link (IH _ _ _ _ _ (zak h4) c M z1 s _ C (fr.mono e1.ext) H1 fun U z2 e2 r2 H2 => zhc h6 C.toOrx H2 (r1.mono e2.ext) r2 fun tk => wpAny_truthy_bool ?_)
          have H2' := H2.toks (tk := tk)
          have e12 : Ex z g ⟨z2.ρ, z2.nw, z2.h, tk, z2.g⟩ g2 := (e1.trans e2).trans Ex.same
          cases c0 with
          | false =>
            cases h9
            exact G _ e12 H2'
          | true =>
            refine zac h9 fun d g3 h10 h11 => ?_
            refine zag h11 fun c1 h12 h13 => ?_
            cases h13
            exact test_last (IH _ _ _ _ _ (zak h10) c M ⟨z2.ρ, z2.nw, z2.h, tk, z2.g⟩ s _ C (fr.mono (e1.ext.trans e2.ext)) H2' fun W z3 e3 r3 H3 => zhc h12 C.toOrx H3 (r2.mono e3.ext) r3 fun tk => wpAny_truthy_bool (G ⟨_, _, _, tk, _⟩ ((e12.trans e3).trans Ex.same) H3.toks))
  | BinOp l op r pos => exact plain rfl h
  | Subscript b i pos => exact plain rfl h
  | Call e a k p => exact plain rfl h
  | Name x p => exact plain rfl h
  | Constant k0 k p => exact plain rfl h
  | _ => cases h
end
section
variable {Γ : Gm} {orc : Orc} {kf : Nat} {c : Cx} {M : Str → Option Value} {z : Zs} {s : Shared} {f : Fi} {g g' : Sg} {v : SV} {n : Nat} {c0 : Option (Nat × Nat)} {t : Expr} {l : List SV} {b : List Stmt} {p : Fl × Fi} {Q : Flow → Shared → Prop}
theorem GotF.after {z1 : Zs} {g1 : Sg} (G : GotF Γ c g z s Q p g') (e : Ex z g z1 g1) : GotF Γ c g1 z1 s Q p g' := fun FL M' z' e' hv hf hn => G FL M' z' (e.trans e') hv hf hn
inductive LoopC (Γ : Gm) (orc : Orc) (c0 : Option (Nat × Nat)) (t : Expr) (l : List SV) (b : List Stmt) (p : Fl × Fi) (m : Nat) (f : Fi) (g g' : Sg) : Prop
  | inl : l = [] → p = (.next, f) → g' = g → LoopC Γ orc c0 t l b p m f g g'
  | inr (v : SV) (r : List SV) (f1 : Fi) (g1 : Sg) (p1 : Fl × Fi) (g2 : Sg) : l = v :: r → asgT t v f g = some (f1, g1) → run Γ.K Γ.gd orc m (.ex b) f1 g1 = some (.f p1, g2) → zky (run Γ.K Γ.gd orc m (.loop c0 t r b)) p1 g2 = some (.f p, g') → LoopC Γ orc c0 t l b p m f g g'
inductive LoopI (Γ : Gm) (orc : Orc) (c0 : Option (Nat × Nat)) (t : Expr) (l : List SV) (b : List Stmt) (p : Fl × Fi) (n : Nat) (f : Fi) (g g' : Sg) : Prop
  | mk (m : Nat) : n = m + 1 → held c0 g = true → LoopC Γ orc c0 t l b p m f g g' → LoopI Γ orc c0 t l b p n f g g'
theorem zgr (h : run Γ.K Γ.gd orc n (.loop c0 t l b) f g = some (.f p, g')) : LoopI Γ orc c0 t l b p n f g g' := by
  cases n with
  | zero => cases h
  | succ m =>
    refine zaa (show zad (held c0 g) (match l with | [] => some (Out.f (.next, f), g) | v :: r => zaf (asgT t v f g) fun f₁ g₁ => zaf (asF (run Γ.K Γ.gd orc m (.ex b) f₁ g₁)) (zky (run Γ.K Γ.gd orc m (.loop c0 t r b)))) = some (.f p, g') from h) fun hh h => ?_
    refine ⟨m, rfl, hh, ?_⟩
    cases l with
    | nil => cases h; exact .inl rfl rfl rfl
    | cons v r =>
      refine zac h fun f1 g1 h1 h => ?_
      refine zac h fun p1 g2 h2 h => ?_
      exact .inr v r f1 g1 p1 g2 rfl h1 (zct h2) h
theorem zfv {prog : Program} {w : World} {k : Int} {v : Value} (h : (PySem.intKind prog w).is k v = true) : ∃ t, v = .int k t := by
  cases v with
  | int i t => exact ⟨t, by rw [show i = k from by simpa [PySem.intKind, Value.isInt] using h]⟩
  | _ => simp [PySem.intKind, Value.isInt] at h
theorem zlp {ρ : List Addr} {l : List (Int × SV)} {kvs : List (Int × Value)} (r : RKs ρ l kvs) : ∀ {i : Nat} {k : Int} {y : Value}, kvs[i]? = some (k, y) → (l.map fun p => SV.int p.1)[i]? = some (SV.int k) := by
  induction r with
  | nil => intro i k y e; cases e
  | cons a _ ih =>
    intro i k y e
    cases i with
    | zero => cases e; rfl
    | succ i => exact ih e
inductive ForI (Γ : Gm) (orc : Orc) (c0 : Option (Nat × Nat)) (t : Expr) (l : List SV) (b : List Stmt) (p : Fl × Fi) (n : Nat) (g g' : Sg) (c : Cx) (z : Zs) (s : Shared) (I : Addr) (St : Nat → Heap → Prop) (k : Nat) (s' : Shared) : Prop
  | mk (i m : Nat) (f' : Fi) (M' : Str → Option Value) (g1 : Sg) (z' : Zs) : k = l.length + 1 - i → i ≤ l.length → m ≤ n → s' = z'.sh s → run Γ.K Γ.gd orc m (.loop c0 t (l.drop i) b) f' g1 = some (.f p, g') → Ex z g z' g1 → Frm c f' M' z'.ρ → Cor Γ c M' g1 z' → St i z'.h → (∀ p ∈ z'.nw ++ c.rest, p.1 ≠ I) → ForI Γ orc c0 t l b p n g g' c z s I St k s'
theorem zel {I : Addr} {fp : List Addr} {P : Nat → Value → Prop} {St : Nat → Heap → Prop} {S : List (Addr × Obj) → Prop} (IH : ∀ m, m ≤ n → ∀ j f g out g', run Γ.K Γ.gd orc m j f g = some (out, g') → zbq Γ kf j f g out g')
    (W : Walks Γ.prog Γ.w c.A I fp [I] l.length P St) (hIo : ∀ i h, St i h → ∃ o, h.get? I = some o)
    (hSt : ∀ i (h h' : Heap) o nw, St i h → h.get? I = some o → h'.get? I = some o → (∀ b o, c.h₀.get? b = some o → h'.get? b = some o) → News c.h₀ c.L h' nw → S nw → St i h')
    (hS : ∀ z' g', Ex z g z' g' → held c0 g' = true → S (z'.nw ++ c.rest)) (hP : ∀ i V, P i V → ∃ u, l[i]? = some u ∧ RV z.ρ u V)
    (hgo : ∀ i V (s : Shared) (Q : Unit → Shared → Prop) (E : Value → Shared → Prop), St i s.heap → Q () s → wpAny (model Γ.prog Γ.w) c.A (letOwnedTupleGo t (.ref I) V) Q E s)
    (h : run Γ.K Γ.gd orc n (.loop c0 t l b) f g = some (.f p, g')) (C : RCx Γ kf c) (hc : c.cmp = none) (hE : PassesOwn (model Γ.prog Γ.w) c.A c.env c.E) (fr : Frm c f M z.ρ) (H : Cor Γ c M g z)
    (h0 : St 0 z.h) (hI0 : c.h₀.get? I = none) (hIL : c.L ≠ I) (hIn : ∀ p ∈ z.nw ++ c.rest, p.1 ≠ I) (G : GotF Γ c g z s Q p g') :
    codeAny (model Γ.prog Γ.w) c.A (.forLoop t (.ref I) b [] c.env) (fun r s' => match r with | .ok f => Q f s' | .error e => cameBackBy (model Γ.prog Γ.w) c.A c.env c.E e s') (z.sh s) := by
  have hL : c.env.locals = c.L := C.fn hc
  refine codeAny_forLoop_any (ForI Γ orc c0 t l b p n g g' c z s I St) ?_ (l.length + 1)
    ⟨0, n, f, M, g, z, rfl, Nat.zero_le _, Nat.le_refl _, rfl, h, Ex.refl, fr, H, h0, hIn⟩
  rintro k s' ⟨i, m, f', M', g1, z', rfl, hi, hm, rfl, hrun, e1, fr1, H1, hst, hIn1⟩
  have keep : ∀ h₂ : Heap, (∀ b o, b ∉ [I] → z'.h.get? b = some o → h₂.get? b = some o) → Fr c.h₀ c.L h₂ M' ∧ News c.h₀ c.L h₂ (z'.nw ++ c.rest) := fun h₂ hk => ⟨LCg.fr_but H1.F hk hIL hI0, LCg.news_but H1.N hk hIn1⟩
  obtain ⟨m', rfl, hh, hcase⟩ := zgr hrun
  by_cases hlt : i < l.length
  · rw [List.drop_eq_getElem_cons hlt] at hcase
    rcases hcase with ⟨e, _⟩ | ⟨u, r, f2, g2, p1, g3, e, ha, hb, hfin⟩
    · cases e
    · cases e
      refine W.item i _ _ _ hlt hst fun V h₂ tk₂ hPV hst₂ hk₂ => ?_
      obtain ⟨F2, N2⟩ := keep h₂ hk₂
      obtain ⟨u, hu, hru⟩ := hP i V hPV
      rw [List.getElem?_eq_getElem hlt] at hu
      cases hu
      obtain ⟨oI, hoI⟩ := hIo _ _ hst₂
      refine hgo _ _ _ _ _ hst₂ ?_
      have H2 : Cor Γ (c.cons (I, oI)) M' g1 ⟨z'.ρ, z'.nw, h₂, tk₂, z'.g⟩ := ⟨F2, fun p hp => by
          rcases List.mem_append.mp hp with hp | hp
          · exact N2 p (List.mem_append.mpr (.inl hp))
          · rcases List.mem_cons.mp hp with rfl | hp
            · exact ⟨hoI, Ne.symm hIL, hI0⟩
            · exact N2 p (List.mem_append.mpr (.inr hp)), H1.led.less fun p hp q hq => by
          rcases List.mem_cons.mp hp with rfl | hp
          · exact Ne.symm (hIn1 q (List.mem_append.mpr (.inl hq)))
          · exact H1.led.sep p hp q hq⟩
      have C2 : RCx Γ kf (c.cons (I, oI)) := ⟨⟨C.hand, C.stk, C.fr, C.fk, C.dep, C.uni, C.X, C.T, C.gd⟩, C.k, C.gl, C.bl, C.fn, fun N e => by rw [show c.cmp = some N from e] at hc; cases hc⟩
      have fr2 : Frm (c.cons (I, oI)) f' M' z'.ρ := ⟨fr1.rm, fr1.nm, fr1.ce⟩
      refine wpAny_passesOwn hE ?_
      refine zsw (c := (c.cons (I, oI))) (z := ⟨z'.ρ, z'.nw, h₂, tk₂, z'.g⟩) (s := s) ha C2 hc fr2 H2 (hru.mono e1.ext) fun M3 z3 e3 fr3 H3 => ?_
      refine wpAny_passesOwn hE ?_
      refine IH m' (by omega) _ _ _ _ _ hb (c.cons (I, oI)) M3 z3 s _ C2 hc hE fr3 H3 fun FL M4 z4 e4 r4 fr4 H4 => ?_
      have ex : Ex z g z4 g3 := (e1.trans Ex.same).trans (e3.trans e4)
      have fr4' : Frm c p1.2 M4 z4.ρ := ⟨fr4.rm, fr4.nm, fr4.ce⟩
      have H4' : Cor Γ c M4 g3 z4 := ⟨H4.F, fun p hp => H4.N p ((List.mem_append.mp hp).elim (fun hp => List.mem_append.mpr (.inl hp)) fun hp => List.mem_append.mpr (.inr (.tail _ hp))), H4.led.less fun p hp => H4.led.sep p (.tail _ hp)⟩
      obtain ⟨fl1, f3⟩ := p1
      cases fl1 with
      | next =>
        have r4' : FL = .next := r4
        subst r4'
        have hfin' : run Γ.K Γ.gd orc m' (.loop c0 t (l.drop (i + 1)) b) f3 g3 = some (.f p, g') := hfin
        obtain ⟨_, _, hh', _⟩ := zgr hfin'
        have hIz : (I, oI) ∈ z4.nw ++ (c.cons (I, oI)).rest := List.mem_append.mpr (.inr (.head _))
        refine ⟨l.length + 1 - (i + 1), by omega, i + 1, m', f3, M4, g3, z4, rfl, hlt, by omega, rfl, hfin', ex, fr4', H4', hSt _ _ _ _ _ hst₂ hoI (H4.N _ hIz).1 H4.F.keep H4'.N (hS z4 g3 ex hh'), fun q hq => ?_⟩
        rcases List.mem_append.mp hq with hq | hq
        · exact Ne.symm (H4.led.sep _ (.head _) q hq)
        · exact hIn1 q (List.mem_append.mpr (.inr hq))
      | brk =>
        cases hfin
        have r4' : FL = .brk := r4
        subst r4'
        exact G .next M4 z4 ex rfl fr4' H4'
      | ret v =>
        cases hfin
        obtain ⟨V, rfl, hV⟩ := r4
        exact G (.ret V) M4 z4 ex ⟨V, rfl, hV⟩ fr4' H4'
  · have hin : i = l.length := Nat.le_antisymm hi (Nat.not_lt.mp hlt)
    subst hin
    rw [List.drop_length] at hcase
    rcases hcase with ⟨_, rfl, rfl⟩ | ⟨_, _, _, _, _, _, e, _⟩
    · refine W.done _ _ _ hst fun h₂ tk₂ hk₂ => wpAny_execs_nil ?_
      obtain ⟨F2, N2⟩ := keep h₂ hk₂
      exact G .next M' ⟨_, _, h₂, tk₂, _⟩ e1.to rfl fr1 (H1.same F2 N2)
    · cases e
theorem zfx {x : Str} {xp : Pos} {prog : Program} {w : World} {A : Around} {I : Addr} {V : Value} {s : Shared} {Q : Unit → Shared → Prop} {E : Value → Shared → Prop} (h : Q () s) : wpAny (model prog w) A (letOwnedTupleGo (.Name x xp) (.ref I) V) Q E s := wpAny_pure h
theorem zem {o : Obj} {P : Nat → Value → Prop} {St : Nat → Heap → Prop} {x : Str} {xp : Pos} (IH : ∀ m, m ≤ n → ∀ j f g out g', run Γ.K Γ.gd orc m j f g = some (out, g') → zbq Γ kf j f g out g')
    (W : Walks Γ.prog Γ.w c.A z.h.objs.size [z.h.objs.size] [z.h.objs.size] l.length P St) (hIo : ∀ i h, St i h → ∃ o, h.get? z.h.objs.size = some o) (hP : ∀ i V, P i V → ∃ u, l[i]? = some u ∧ RV z.ρ u V)
    (h : run Γ.K Γ.gd orc n (.loop c0 (.Name x xp) l b) f g = some (.f p, g')) (C : RCx Γ kf c) (hc : c.cmp = none) (hE : PassesOwn (model Γ.prog Γ.w) c.A c.env c.E) (fr : Frm c f M z.ρ) (H : Cor Γ c M g z)
    (h0 : St 0 (z.h.push o)) (G : GotF Γ c g z s Q p g') :
    codeAny (model Γ.prog Γ.w) c.A (.forLoop (.Name x xp) (.ref z.h.objs.size) b [] c.env) (fun r s' => match r with | .ok f => Q f s' | .error e => cameBackBy (model Γ.prog Γ.w) c.A c.env c.E e s') { z.sh s with heap := z.h.push o } :=
  zel (z := ⟨z.ρ, z.nw, z.h.push o, z.tk, z.g⟩) (S := fun _ => True) IH W hIo (fun i h h' o' nw st e e' _ _ _ => W.frame i h h' st fun b hb ob eb => by
      rw [List.mem_singleton.mp hb] at eb ⊢
      rw [e] at eb
      rw [← eb]
      exact e') (fun _ _ _ _ => trivial) hP (fun _ _ _ _ _ _ hq => zfx hq) h C hc hE fr
    ⟨H.F.push _, fun q hq => ⟨Heap.get?_push_of_some _ (H.N q hq).1, (H.N q hq).2⟩, H.led⟩ h0 (next_is_new H.F) (Nat.ne_of_lt H.F.ns.lt) (fun q hq => Nat.ne_of_lt (Heap.lt_size (H.N q hq).1)) (G.after Ex.same)
theorem zhj {e e1 : Expr} (h : zfo e = some e1) : ∃ fp cp, e = .Call (.Name "range" fp) [e1] [] cp := by
  cases e with
  | Call f es kws cp =>
    refine zaa h fun h1 h => ?_
    refine zab h fun x h2 h => ?_
    refine zaa h fun h3 h4 => ?_
    obtain ⟨fp, rfl⟩ := zau h2
    rw [List.isEmpty_iff.mp h1, zbm h4, zbh.mp h3]
    exact ⟨fp, cp, rfl⟩
  | _ => cases h
theorem zls {o : Option SV} (h : isRng o = true) : o = some (.val (.type "range")) := by
  cases o with
  | none => cases h
  | some v =>
    cases v with
    | val v =>
      cases v with
      | type T => rw [of_decide_eq_true (show decide (T = "range") = true from h)]
      | _ => cases h
    | _ => cases h
theorem zcf {sc : List (Str × NameKind)} {t : Expr} (h : zfs sc t = true) : ∃ x xp, t = .Name x xp := by
  unfold zfs at h
  cases e : zbn t with
  | none => rw [e] at h; cases h
  | some x =>
    obtain ⟨p, rfl⟩ := zau e
    exact ⟨x, p, rfl⟩
theorem for_ok {it : Expr} {pos : Pos} {q : (Option (Nat × Nat) × List SV) × Sg}
    (IH : ∀ m, m ≤ n → ∀ j f g out g', run Γ.K Γ.gd orc m j f g = some (out, g') → zbq Γ kf j f g out g') (h0 : itS Γ.K (run Γ.K Γ.gd orc n) t it f g = some q) (hr : run Γ.K Γ.gd orc n (.loop q.1.1 t q.1.2 b) f q.2 = some (.f p, g'))
    (C : RCx Γ kf c) (hc : c.cmp = none) (hE : PassesOwn (model Γ.prog Γ.w) c.A c.env c.E) (fr : Frm c f M z.ρ) (H : Cor Γ c M g z) (G : GotF Γ c g z s Q p g') : wpAny (model Γ.prog Γ.w) c.A (exec (.For t it b [] pos) c.env) Q c.E (z.sh s) := by
  unfold itS at h0
  cases hro : zfo it with
  | some e1 =>
    rw [hro] at h0
    refine zaa h0 fun hg h1 => ?_
    refine zae hg fun hg hx => ?_
    refine zae hg fun hn hst => ?_
    refine zac h1 fun v g1 h2 h3 => ?_
    refine zab h3 fun N h4 h5 => ?_
    refine zab h5 fun N' hN h6 => ?_
    refine zaa h6 fun hz h7 => ?_
    cases h7
    clear h0 h1 h3 h5 h6
    obtain rfl := zbs hN
    have hz' := zah hz
    obtain ⟨fp, cp, rfl⟩ := zhj hro
    obtain ⟨x, xp, rfl⟩ := zcf hx
    refine wpAny_For (Call_ (zfr (zls hn) C fr H fun V hV => ?_)) fun _ => rfl
    have hV' : V = .type "range" := hV
    subst hV'
    refine callWith_type1 (args_cons (IH n (Nat.le_refl _) _ _ _ _ _ (zak h2) c M z s _ C fr H fun V z1 e1 r1 H1 => args_nil ?_) (zax hst _ _)) (zax hst _ _) rfl
    rw [show v = SV.int (N' : Int) from zay h4] at r1
    obtain ⟨tv, rfl⟩ := r1
    refine range1_rows H1.F H1.N fun h2 tk2 t₁ u₁ v₁ hR F2 N2 _ => ?_
    have hsz : Builtin.Range.rangeSize 0 (N' : Int) 1 = (N' : Int) := by unfold Builtin.Range.rangeSize; simp; omega
    have hsmall : Builtin.Range.small 0 (N' : Int) 1 = true := by
      unfold Builtin.Range.small
      rw [hsz]
      simp [Builtin.Range.rangeFitsLong]
      omega
    refine wpAny_pyIter_range hR hsmall ?_
    have hl : ((List.range N').map fun (i : Nat) => SV.int i).length = N' := by simp
    have W : Walks Γ.prog Γ.w c.A h2.objs.size [h2.objs.size] [h2.objs.size] ((List.range N').map fun (i : Nat) => SV.int i).length (fun i v => i < N' ∧ ∃ t, v = .int (0 + i * 1) t)
        (fun i h => IsRangeIter h h2.objs.size (0 + (i : Nat) * 1) ((N' : Int) - (i : Nat)) 1) := by rw [hl]; exact (Walks.range C.hand _ 0 1 N').bound
    refine zem (z := ⟨z1.ρ, z1.nw, h2, tk2, z1.g⟩) IH W (fun i h hi => ⟨_, hi⟩) ?_ hr C hc hE (fr.mono e1.ext) (H1.same F2 N2) (by show IsRangeIter _ _ _ _ _; rw [hsz]; simpa using Heap.get?_push_size _ rfl) (GotF.after G e1.to)
    rintro i v ⟨hin, t, rfl⟩
    exact ⟨.int (i : Int), by rw [List.getElem?_map, List.getElem?_range hin]; rfl, t, by rw [show 0 + (i : Int) * 1 = (i : Int) by omega]⟩
  | none =>
    rw [hro] at h0
    refine zaa h0 fun hnt h1 => ?_
    refine zac h1 fun u g1 h2 h3 => ?_
    refine zag h3 fun q' h4 hrfl => ?_
    subst hrfl
    clear h0 h1 h3
    have fs := (zcd hnt).2.2 c.env
    refine wpAny_For (IH n (Nat.le_refl _) _ _ _ _ _ (zak h2) c M z s _ C fr H fun V z1 e1 r1 H1 => ?_) fs
    have fr1 := fr.mono e1.ext
    have G1 := GotF.after G e1
    cases u with
    | bytes l =>
      refine zaa h4 fun hx h5 => ?_
      cases h5
      obtain ⟨x, xp, rfl⟩ := zcf hx
      obtain ⟨bb, tb, rfl, rfl⟩ := r1
      refine KBw.pyIter_bytes ?_
      have hl : ((KBw.bInts bb).map SV.int).length = bb.size := by rw [List.length_map, KBw.ints_length]
      refine zem (z := z1) IH (hl.symm ▸ KBw.walks (prog := Γ.prog) (w := Γ.w) C.hand z1.h.objs.size bb tb) (fun i h ⟨o, ho, _⟩ => ⟨o, ho⟩) ?_ hr C hc hE fr1 H1 ⟨_, Heap.get?_push_size _ rfl, rfl, rfl⟩ G1
      rintro i v ⟨u, tt', hu, rfl⟩
      exact ⟨.int (u.toNat : Int), by rw [List.getElem?_map, KBw.ints_get hu]; rfl, tt', rfl⟩
    | str x' =>
      refine zaa h4 fun hx h5 => ?_
      cases h5
      obtain ⟨x, xp, rfl⟩ := zcf hx
      obtain ⟨tb, rfl⟩ := r1
      have hl : (x'.cps.toList.map fun n => SV.str ⟨#[n]⟩).length = x'.cps.size := by simp
      have hP : ∀ i V, SignAt x' i V → ∃ u, (x'.cps.toList.map fun n => SV.str ⟨#[n]⟩)[i]? = some u ∧ RV z1.ρ u V := by
        rintro i v ⟨c', u, hu, rfl⟩
        have hu' : x'.cps.toList[i]? = some c' := by rw [Array.getElem?_toList]; exact hu
        exact ⟨.str ⟨#[c']⟩, by rw [List.getElem?_map, hu']; rfl, u, rfl⟩
      cases ha : x'.cps.all (· < 128) with
      | false => exact wpAny_pyIter_wide ha (zem (z := z1) IH (hl.symm ▸ Walks.strWide (prog := Γ.prog) (w := Γ.w) C.hand z1.h.objs.size x' tb) (fun i h ⟨o, ho, _⟩ => ⟨o, ho⟩) hP hr C hc hE fr1 H1 ⟨_, Heap.get?_push_size _ rfl, rfl, rfl⟩ G1)
      | true => exact wpAny_pyIter_ascii ha (zem (z := z1) IH (hl.symm ▸ Walks.strAscii (prog := Γ.prog) (w := Γ.w) C.hand z1.h.objs.size x' tb) (fun i h ⟨o, ho, _⟩ => ⟨o, ho⟩) hP hr C hc hE fr1 H1 ⟨_, Heap.get?_push_size _ rfl, rfl, rfl⟩ G1)
    | obj k =>
      refine zac (show zaf (oO g1.σ (.obj k)) (fun k o => (g1.τ[k]?).bind fun tt => iterO f.sc t k tt o) = some q' from h4) fun k' so ho h5 => ?_
      refine zab h5 fun tt ht h6 => ?_
      clear h4 h5
      obtain ⟨hk', hs⟩ := zas ho
      have hk'' : k = k' := by cases hk'; rfl
      subst hk''
      obtain ⟨D, o, rfl, hD, hkk, hm, hrr⟩ := H1.ob r1 ⟨rfl, hs⟩
      have hDI : D ≠ z1.h.objs.size := Nat.ne_of_lt (Heap.lt_size (H1.N _ hm).1)
      have H1p : ∀ o', Cor Γ c M g1 ⟨z1.ρ, z1.nw, z1.h.push o', z1.tk, z1.g⟩ := fun o' => ⟨H1.F.push _, fun q hq => ⟨Heap.get?_push_of_some _ (H1.N q hq).1, (H1.N q hq).2⟩, H1.led⟩
      have hin : ∀ p ∈ z1.nw ++ c.rest, p.1 ≠ z1.h.objs.size := fun q hq => Nat.ne_of_lt (Heap.lt_size (H1.N q hq).1)
      cases so with
      | list l =>
        cases h6
        obtain ⟨vs, nn, rfl, hrr⟩ := hrr
        have hls : z1.h.IsList D vs.toArray := ⟨_, (H1.N _ hm).1, rfl, nn, rfl⟩
        refine wpAny_pyIter_list hls ?_
        have hl : l.length = vs.toArray.size := by rw [List.size_toArray, hrr.length]
        refine zel (z := ⟨z1.ρ, z1.nw, z1.h.push _, z1.tk, z1.g⟩) (S := LCg.SrcAt c.h₀ D vs.toArray) IH (hl ▸ Walks.list (prog := Γ.prog) (w := Γ.w) C.hand z1.h.objs.size D hDI vs.toArray) (fun i h st => by obtain ⟨o, e, _⟩ := st.1; exact ⟨o, e⟩) LCg.list_st
          (fun z' g' e' hh' => .inr ⟨_, List.mem_append.mpr (.inl (zcn (z1 := z1) ht hkk (Ex.same.trans e') hh')), rfl, nn, rfl⟩) (fun i V hV => ?_) (fun i V s Q E st hq => letGo_listiter st.1 hq) hr C hc hE fr1 (H1p _) ⟨⟨_, Heap.get?_push_size _ rfl, rfl, rfl⟩, hls.at fun o e => Heap.get?_push_of_some _ e⟩ (next_is_new H1.F) (Nat.ne_of_lt H1.F.ns.lt) hin (G1.after Ex.same)
        have hV' : vs[i]? = some V := by simpa using hV
        have hil : i < l.length := by rw [← hrr.length]; exact (List.getElem?_eq_some_iff.mp hV').1
        obtain ⟨V', h7, h8⟩ := hrr.get (List.getElem?_eq_getElem hil)
        rw [hV'] at h7
        cases h7
        exact ⟨_, List.getElem?_eq_getElem hil, h8⟩
      | dict l =>
        refine zaa h6 fun hx h7 => ?_
        cases h7
        obtain ⟨x, xp, rfl⟩ := zcf hx
        obtain ⟨kvs, hd, hrr⟩ := hrr
        obtain ⟨ep, hka⟩ := KdkAt.of hd
        have hat := hka.dictAt (H1.N _ hm).1
        have lo := H1.led.lo _ _ D hs rfl hD
        refine wpAny_pyIter_dict lo hat ?_
        have hl : (l.map fun p => SV.int p.1).length = kvs.length := by rw [List.length_map, hrr.length]
        refine zel (z := ⟨z1.ρ, z1.nw, z1.h.push _, z1.tk, z1.g⟩) (S := fun nw => (D, o) ∈ nw) IH (hl.symm ▸ Walks.dictKeys (prog := Γ.prog) (w := Γ.w) (knd := PySem.intKind Γ.prog Γ.w) C.hand z1.h.objs.size D hDI kvs ep) (fun i h st => by obtain ⟨o, e, _⟩ := st.1; exact ⟨o, e⟩)
          (fun i h h' o nw st e e' k N S => ⟨by obtain ⟨o', q, r⟩ := st.1; obtain rfl := Option.some.inj (e.symm.trans q); exact ⟨_, e', r⟩, hka.dictAt (N _ S).1⟩)
          (fun z' g' e' hh' => List.mem_append.mpr (.inl (zcn (z1 := z1) ht hkk (Ex.same.trans e') hh'))) (fun i V hV => ?_) (fun i V s Q E st hq => zfx hq) hr C hc hE fr1 (H1p _) ⟨⟨_, Heap.get?_push_size _ rfl, rfl, by rw [hl]; rfl⟩, hat.push _⟩ (next_is_new H1.F) (Nat.ne_of_lt H1.F.ns.lt) hin (G1.after Ex.same)
        obtain ⟨key, y, h8, h9⟩ := hV
        obtain ⟨tk, rfl⟩ := zfv h9
        exact ⟨.int key, zlp hrr h8, tk, rfl⟩
      | sdict l =>
        refine zaa h6 fun hx h7 => ?_
        cases h7
        obtain ⟨x, xp, rfl⟩ := zcf hx
        obtain ⟨kvs, hd, hrr⟩ := hrr
        obtain ⟨ep, hka⟩ := KdkAt.of hd
        have hat := hka.dictAt (H1.N _ hm).1
        have lo := H1.led.lo _ _ D hs rfl hD
        refine wpAny_pyIter_dict lo hat ?_
        have hl : (l.map fun p => SV.str p.1).length = kvs.length := by rw [List.length_map, hrr.length]
        refine zel (z := ⟨z1.ρ, z1.nw, z1.h.push _, z1.tk, z1.g⟩) (S := fun nw => (D, o) ∈ nw) IH (hl.symm ▸ Walks.dictKeys (prog := Γ.prog) (w := Γ.w) (knd := PySem.strKind Γ.prog Γ.w) C.hand z1.h.objs.size D hDI kvs ep) (fun i h st => by obtain ⟨o, e, _⟩ := st.1; exact ⟨o, e⟩)
          (fun i h h' o nw st e e' k N S => ⟨by obtain ⟨o', q, r⟩ := st.1; obtain rfl := Option.some.inj (e.symm.trans q); exact ⟨_, e', r⟩, hka.dictAt (N _ S).1⟩)
          (fun z' g' e' hh' => List.mem_append.mpr (.inl (zcn (z1 := z1) ht hkk (Ex.same.trans e') hh'))) (fun i V hV => ?_) (fun i V s Q E st hq => zfx hq) hr C hc hE fr1 (H1p _) ⟨⟨_, Heap.get?_push_size _ rfl, rfl, by rw [hl]; rfl⟩, hat.push _⟩ (next_is_new H1.F) (Nat.ne_of_lt H1.F.ns.lt) hin (G1.after Ex.same)
        obtain ⟨key, y, h8, h9⟩ := hV
        obtain ⟨tk, rfl⟩ := Value.isStrOf_shape h9
        exact ⟨.str key, zjl hrr h8, tk, rfl⟩
      | _ => cases h6
    | _ => cases h4
end
theorem zhg {e : Expr} {f : Fi} {x : Str} {p : Pos} {c : Cx} {M : Str → Option Value} {ρ : List Addr} (hl : isLc e = true) (hq : cellQ (.Name x p) f = true) (fr : Frm c f M ρ) (n : Nat) : swapsWith e (some (.Name x p)) n c.env = pure false := by
  have hk : c.env.kindOf x = some .cell := (fr.kind x).trans (zcy hq)
  cases e with
  | ListComp elt gs scope ps =>
    show (pure (_ && _ && _ && _) : Sem Bool) = _
    rw [hk]
    have : (some NameKind.cell == some NameKind.local) = false := rfl
    rw [this]
    simp
  | _ => cases hl
section
variable {Γ : Gm} {orc : Orc} {kf : Nat} {c : Cx} {M : Str → Option Value} {z : Zs} {s : Shared} {f f' : Fi} {g g' : Sg} {v : SV} {n : Nat} {p : Fl × Fi} {Q : Flow → Shared → Prop}
theorem zkr {t e : Expr} {g1 : Sg} {pos : Pos} (IH : ∀ j f g out g', run Γ.K Γ.gd orc n j f g = some (out, g') → zbq Γ kf j f g out g') (h1 : asV (run Γ.K Γ.gd orc n (.ev e) f g) = some (v, g1)) (h : asgS Γ.K (run Γ.K Γ.gd orc n) t e v f g1 = some (f', g'))
    (C : RCx Γ kf c) (hc : c.cmp = none) (fr : Frm c f M z.ρ) (H : Cor Γ c M g z) (G : GotF Γ c g z s Q (.next, f') g') : wpAny (model Γ.prog Γ.w) c.A (exec (.Assign [t] e pos) c.env) Q c.E (z.sh s) := by
  have go := fun (Q : Value → Shared → Prop) => IH _ _ _ _ _ (zak h1) c M z s Q C fr H
  cases t with
  | Name x xp =>
    refine zaa h fun hg h => ?_
    have hs : swapsWith e (some (.Name x xp)) pos.line c.env = pure false := by
      rcases Bool.or_eq_true_iff.mp hg with hp | hp
      · exact zbj hp _ _ _
      · exact zae hp fun a b => zhg a b fr _
    refine wpAny_Assign_Name (go _ fun V z1 e1 r1 H1 => ?_) hs
    exact zks h C hc (fr.mono e1.ext) H1 r1 fun M' z2 e2 fr2 H2 => G .next M' z2 (e1.trans e2) rfl fr2 H2
  | Attribute b x ap =>
    refine zaa h fun hp h => ?_
    refine zab h fun y h2 h => ?_
    refine zab h fun u hn h => ?_
    refine zag h fun g2 h9 hrfl => ?_
    cases hrfl
    obtain ⟨bp, rfl⟩ := zau h2
    refine plainObj_wpAny_Assign_Attribute (go _ fun V z1 e1 r1 H1 => ?_) (zbj hp _ _ _)
    refine zfr hn C (fr.mono e1.ext) H1 fun U hU => u1 h9 C.toOrx H1 hU r1 fun z2 e2 H2 => ?_
    exact G .next M z2 (e1.trans e2) rfl (fr.mono (e1.ext.trans e2.ext)) H2
  | Tuple es k ps =>
    refine zaa h fun hp h => ?_
    obtain ⟨hs1, hs2, _⟩ := zcd hp
    refine Assign_Tuple (go _ fun V z1 e1 r1 H1 => ?_) (hs1 _ _ _) (hs2 _ _ _ _)
    exact zsw h C hc (fr.mono e1.ext) H1 r1 fun M' z2 e2 fr2 H2 => G .next M' z2 (e1.trans e2) rfl fr2 H2
  | Subscript b i ps =>
    refine zaa h fun hg h => ?_
    refine zae hg fun hp hx => ?_
    refine zac h fun a g2 h2 h => ?_
    refine zac h fun i' g3 h3 h => ?_
    refine zag h fun g4 h4 hrfl => ?_
    cases hrfl
    refine wpAny_Assign_Subscript (go _ fun V z1 e1 r1 H1 =>
      IH _ _ _ _ _ (zak h2) c M z1 s _ C (fr.mono e1.ext) H1 fun U z2 e2 r2 H2 =>
      IH _ _ _ _ _ (zak h3) c M z2 s _ C (fr.mono (e1.ext.trans e2.ext)) H2 fun X z3 e3 r3 H3 => ?_) (zbj hp _ _ _)
    exact ztw h4 C.toOrx H3 (r2.mono e3.ext) r3 (r1.mono (e2.ext.trans e3.ext)) fun z4 e4 H4 => G .next M z4 (((e1.trans e2).trans e3).trans e4) rfl (fr.mono (((e1.trans e2).trans e3).trans e4).ext) H4
  | _ => cases h
end
section
variable {Γ : Gm} {orc : Orc} {kf : Nat} {c : Cx} {M : Str → Option Value} {z : Zs} {s : Shared} {f f' : Fi} {g g' : Sg} {v : SV} {n : Nat} {p : Fl × Fi} {Q : Flow → Shared → Prop}
theorem zty {x : Stmt} (IH : ∀ m, m ≤ n → ∀ j f g out g', run Γ.K Γ.gd orc m j f g = some (out, g') → zbq Γ (kf + 1) j f g out g') (h : exS Γ.K (run Γ.K Γ.gd orc n) x f g = some (p, g'))
    (C : RCx Γ (kf + 1) c) (hc : c.cmp = none) (hE : PassesOwn (model Γ.prog Γ.w) c.A c.env c.E) (fr : Frm c f M z.ρ) (H : Cor Γ c M g z) (G : GotF Γ c g z s Q p g') : wpAny (model Γ.prog Γ.w) c.A (exec x c.env) Q c.E (z.sh s) := by
  have IHn := IH n (Nat.le_refl _)
  cases x with
  | Assign ts e pos =>
    refine zab h fun t h1 h => ?_
    refine f4 h fun f1 g1 h2 h => ?_
    cases h
    rw [zbm h1]
    unfold asgC at h2
    cases hk : lcOf e with
    | none =>
      rw [hk] at h2
      refine zac h2 fun v g1 h3 h4 => ?_
      exact zkr IHn h3 h4 C hc fr H G
    | some k =>
      rw [hk] at h2
      have h2' : (match l9 t k f with | true => zad k.ct.isSome <| (zbn t).bind fun y => zaf (lcS Γ.K (run Γ.K Γ.gd orc n) k f g) fun l g1 => some (setM f y (mkO (.list l) g1).1, (mkO (.list l) g1).2) | false => zaf (asV (run Γ.K Γ.gd orc n (.ev e) f g)) fun v g1 => asgS Γ.K (run Γ.K Γ.gd orc n) t e v f g1) = some (f1, _) := h2
      cases hs : l9 t k f with
      | true =>
        rw [hs] at h2'
        refine zaa h2' fun h9 h2' => ?_
        refine zab h2' fun y h3 h4 => ?_
        refine zac h4 fun l g1 h5 h6 => ?_
        cases h6
        obtain ⟨py, rfl⟩ := zau h3
        exact lca_ok IHn hk h5 hs h9 C hc fr H G
      | false =>
        rw [hs] at h2'
        refine zac h2' fun v g1 h3 h4 => ?_
        exact zkr IHn h3 h4 C hc fr H G
  | Expr e pos =>
    refine zaa h fun hp h => ?_
    refine zac h fun v g1 h1 h => ?_
    cases h
    exact wpAny_Expr_any (IHn _ _ _ _ _ (zak h1) c M z s _ C fr H fun V z1 e1 r1 H1 => G .next M z1 e1 rfl (fr.mono e1.ext) H1) C.inter (zbj hp _ _ _)
  | If t b o pos =>
    refine zac h fun b0 g1 h1 h => ?_
    refine wpAny_If (IHn _ _ _ _ _ (zbu h1) c M z s _ C fr H fun z1 e1 H1 => ?_)
    cases b0 with
    | true => exact IHn _ _ _ _ _ (zct h) c M z1 s _ C hc hE (fr.mono e1.ext) H1 (G.after e1)
    | false => exact IHn _ _ _ _ _ (zct h) c M z1 s _ C hc hE (fr.mono e1.ext) H1 (G.after e1)
  | While t b o pos =>
    refine zaa h fun ho h => ?_
    rw [List.isEmpty_iff.mp ho]
    exact whl_start 0 (IHn _ _ _ _ _ (zct h) 0 c M z s Q C hc hE fr H G)
  | For t it b o pos =>
    refine zaa h fun ho h => ?_
    refine zab h fun q h1 h => ?_
    rw [List.isEmpty_iff.mp ho]
    exact for_ok IH h1 (zct h) C hc hE fr H G
  | Return e pos =>
    cases e with
    | some e =>
      refine zac h fun v g1 h1 h => ?_
      cases h
      exact wpAny_Return_some (IHn _ _ _ _ _ (zak h1) c M z s _ C fr H fun V z1 e1 r1 H1 => G (.ret V) M z1 e1 ⟨V, rfl, r1⟩ (fr.mono e1.ext) H1)
    | none =>
      cases h
      exact wpAny_Return_none (G (.ret .none) M z Ex.refl ⟨_, rfl, rfl⟩ fr H)
  | Break pos =>
    cases h
    exact wpAny_Break (G .brk M z Ex.refl rfl fr H)
  | Try b hs o ff pos =>
    cases hs with
    | nil => cases h
    | cons h0 hs =>
      cases o with
      | cons _ _ => cases h
      | nil =>
        cases ff with
        | cons _ _ => cases h
        | nil =>
          have go : ∀ (E1 : Value → Shared → Prop), PassesOwn (model Γ.prog Γ.w) c.A c.env E1 → ∀ Q1 : Flow → Shared → Prop, GotF Γ c g z s Q1 p g' → wpAny (model Γ.prog Γ.w) c.A (execs b c.env) Q1 E1 (z.sh s) := fun E1 hE1 Q1 k =>
            IHn _ _ _ _ _ (zct (show asF (run Γ.K Γ.gd orc n (.ex b) f g) = some (p, g') from h)) { c with E := E1 } M z s Q1 ⟨⟨C.hand, C.stk, C.fr, C.fk, C.dep, C.uni, C.X, C.T, C.gd⟩, C.k, C.gl, C.bl, C.fn, C.cp⟩ hc hE1 ⟨fr.rm, fr.nm, fr.ce⟩ ⟨H.F, H.N, H.led⟩ fun FL M' z1 e1 r1 fr1 H1 => k FL M' z1 e1 r1 ⟨fr1.rm, fr1.nm, fr1.ce⟩ ⟨H1.F, H1.N, H1.led⟩
          refine wpAny_Try_except (go _ PassesOwn.looking _ fun FL M' z1 e1 r1 fr1 H1 => ?_)
          have G1 := G FL M' z1 e1 r1 fr1 H1
          cases FL with
          | next => exact wpAny_execs_nil G1
          | _ => exact G1
  | _ => cases h
theorem zgk (O : zbf Γ orc kf) : ∀ (n m : Nat), m ≤ n → ∀ j f g out g', run Γ.K Γ.gd orc m j f g = some (out, g') → zbq Γ (kf + 1) j f g out g'
  | _, 0, _, j, f, g, out, g', h => by cases h
  | 0, m + 1, hm, _, _, _, _, _, _ => absurd hm (by omega)
  | n + 1, m + 1, hm, j, f, g, out, g', h => by
    have IH : ∀ k, k ≤ m → ∀ j f g out g', run Γ.K Γ.gd orc k j f g = some (out, g') → zbq Γ (kf + 1) j f g out g' := fun k hk => zgk O n k (by omega)
    have IHm := IH m (Nat.le_refl _)
    have h' : step Γ.K Γ.gd orc (run Γ.K Γ.gd orc m) j f g = some (out, g') := h
    cases j with
    | ev e =>
      refine zac (show zaf (evS Γ.K Γ.gd orc (run Γ.K Γ.gd orc m) e f g) (fun v g1 => some (Out.v v, g1)) = some (out, g') from h') fun v g1 h1 h2 => ?_
      cases h2
      exact ev_ok IHm O h1
    | evs es =>
      cases es with
      | nil =>
        cases h'
        intro c M z s Q pos C fr H G
        exact args_nil (G [] z Ex.refl .nil H)
      | cons e r =>
        refine zaa h' fun hst h2 => ?_
        refine zac h2 fun v g1 h3 h4 => ?_
        refine zac h4 fun l g2 h5 h6 => ?_
        cases h6
        intro c M z s Q pos C fr H G
        exact args_cons (IHm _ _ _ _ _ (zak h3) c M z s _ C fr H fun V z1 e1 r1 H1 =>
          IHm _ _ _ _ _ (b6 h5) c M z1 s _ pos C (fr.mono e1.ext) H1 fun Vs z2 e2 r2 H2 => G (V :: Vs) z2 (e1.trans e2) (.cons (r1.mono e2.ext) r2) H2) (zax hst _ _)
    | test e =>
      refine zac (show zaf (zhf Γ.K Γ.gd (run Γ.K Γ.gd orc m) e f g) (fun v g1 => some (Out.b v, g1)) = some (out, g') from h') fun v g1 h1 h2 => ?_
      cases h2
      exact ztt IHm h1
    | ex b =>
      cases b with
      | nil =>
        cases h'
        intro c M z s Q C hc hE fr H G
        exact wpAny_execs_nil (G .next M z Ex.refl rfl fr H)
      | cons x r =>
        refine zac h' fun p g1 h1 h2 => ?_
        obtain ⟨fl, f1⟩ := p
        cases fl with
        | next =>
          have hJ := IHm _ _ _ _ _ h2
          cases out with
          | f fl' =>
            intro c M z s Q C hc hE fr H G
            refine wpAny_execs_cons (zty IH h1 C hc hE fr H fun FL M1 z1 e1 r1 fr1 H1 => ?_)
            have r1' : FL = .next := r1
            subst r1'
            exact hJ c M1 z1 s _ C hc hE fr1 H1 (G.after e1)
          | _ => trivial
        | brk =>
          cases h2
          intro c M z s Q C hc hE fr H G
          refine wpAny_execs_cons (zty IH h1 C hc hE fr H fun FL M1 z1 e1 r1 fr1 H1 => ?_)
          have r1' : FL = .brk := r1
          subst r1'
          exact G .brk M1 z1 e1 rfl fr1 H1
        | ret v =>
          cases h2
          intro c M z s Q C hc hE fr H G
          refine wpAny_execs_cons (zty IH h1 C hc hE fr H fun FL M1 z1 e1 r1 fr1 H1 => ?_)
          obtain ⟨V, rfl, hV⟩ := r1
          exact G (.ret V) M1 z1 e1 ⟨V, rfl, hV⟩ fr1 H1
    | whl t b =>
      refine zac h' fun b0 g1 h1 h2 => ?_
      cases b0 with
      | false =>
        cases h2
        intro k c M z s Q C hc hE fr H G
        refine whl_turn (k := 0) hE (IHm _ _ _ _ _ (zbu h1) c M z s _ C fr H fun z1 e1 H1 => ?_)
        exact WhlIf.no rfl (wpAny_execs_nil (G .next M z1 e1 rfl (fr.mono e1.ext) H1))
      | true =>
        refine zac h2 fun p1 g2 h3 h4 => ?_
        have hb := IHm _ _ _ _ _ (zct h3)
        obtain ⟨fl1, f1⟩ := p1
        cases fl1 with
        | next =>
          have hJ := IHm _ _ _ _ _ (show run Γ.K Γ.gd orc m (.whl t b) f1 g2 = some (out, g') from h4)
          cases out with
          | f fl' =>
            intro k c M z s Q C hc hE fr H G
            refine whl_turn (k := 0) hE (IHm _ _ _ _ _ (zbu h1) c M z s _ C fr H fun z1 e1 H1 => WhlIf.yes rfl ?_)
            refine hb c M z1 s _ C hc hE (fr.mono e1.ext) H1 fun FL M2 z2 e2 r2 fr2 H2 => ?_
            have r2' : FL = .next := r2
            subst r2'
            exact hJ 0 c M2 z2 s Q C hc hE fr2 H2 ((G.after e1).after e2)
          | _ => trivial
        | brk =>
          cases h4
          intro k c M z s Q C hc hE fr H G
          refine whl_turn (k := 0) hE (IHm _ _ _ _ _ (zbu h1) c M z s _ C fr H fun z1 e1 H1 => WhlIf.yes rfl ?_)
          refine hb c M z1 s _ C hc hE (fr.mono e1.ext) H1 fun FL M2 z2 e2 r2 fr2 H2 => ?_
          have r2' : FL = .brk := r2
          subst r2'
          exact G .next M2 z2 (e1.trans e2) rfl fr2 H2
        | ret v =>
          cases h4
          intro k c M z s Q C hc hE fr H G
          refine whl_turn (k := 0) hE (IHm _ _ _ _ _ (zbu h1) c M z s _ C fr H fun z1 e1 H1 => WhlIf.yes rfl ?_)
          refine hb c M z1 s _ C hc hE (fr.mono e1.ext) H1 fun FL M2 z2 e2 r2 fr2 H2 => ?_
          obtain ⟨V, rfl, hV⟩ := r2
          exact G (.ret V) M2 z2 (e1.trans e2) ⟨V, rfl, hV⟩ fr2 H2
    | loop c t l b =>
      show zbq Γ (kf + 1) (.loop c t l b) f g out g'
      cases out <;> trivial
    | cmp hh x ct elt l =>
      cases ct with
      | none =>
        refine zaa h' fun h0 h1 => ?_
        cases l with
        | nil =>
          cases h1
          intro c M z s scope cl S P i acc ys Fin C hk hf led hg hys hP hS hF
          exact LCg.CompRest.zero (hF z ys Ex.refl led hg (by rw [List.append_nil]; exact hys))
        | cons v r =>
          refine zac h1 fun o g1 h2 h3 => ?_
          refine zaa h3 fun h4 h5 => ?_
          refine zac h5 fun l' g2 h6 h7 => ?_
          cases h7
          refine zae h4 fun h8 h9 => ?_
          exact zkf IHm h2 h8 (Nat.eq_of_beq_eq_true h9) h6
      | some t =>
        refine zaa h' fun h0 h1 => ?_
        cases l with
        | nil =>
          cases h1
          intro c M z s scope cl S P i acc ys Fin C hk hf led hg hys hP hS hF
          exact LCt.CompRestT.zero (hF z ys Ex.refl led hg (by rw [List.append_nil]; exact hys))
        | cons v r =>
          refine zac h1 fun o g1 h2 h3 => ?_
          refine zaa h3 fun h4 h5 => ?_
          refine zac h5 fun l' g2 h6 h7 => ?_
          cases h7
          refine zae h4 fun h8 h9 => ?_
          exact zml IHm h2 h8 (Nat.eq_of_beq_eq_true h9) h6
end
structure FnE where
  f : Addr
  n : Nat
  ex : List (Str × SV)
noncomputable def zjy : List FnE → Addr → Nat → Option FnE
  | [], _, _ => none
  | e :: r, f, n => match Nat.beq e.f f && Nat.beq e.n n with
    | true => some e
    | false => zjy r f n
noncomputable def zipM : List Str → List SV → List (Str × SV)
  | x :: r, v :: l => (x, v) :: zipM r l
  | _, _ => []
noncomputable def zcb (x : Str) : List (Str × SV) → Bool
  | [] => true
  | p :: r => match sq p.1 x with
    | true => false
    | false => zcb x r
noncomputable def zcc : List (Str × SV) → Bool
  | [] => true
  | p :: r => zcb p.1 r && zcc r
noncomputable def fdOf (o : Obj) : Option FuncData := match o.data with
  | .func fd => some fd
  | _ => none
noncomputable def zdu (b : FuncBody) : Option (List Stmt) := match b with
  | .stmts b => some b
  | _ => none
noncomputable def zlu (sc : List (Str × NameKind)) (x : Str) : Bool := match look sc x with
  | some k => zdn k
  | none => false
noncomputable def celN (sc : List (Str × NameKind)) : List Str := (cellsFrom 0 sc []).map (·.1)
noncomputable def mkOs : List SO → Sg → Sg
  | [], g => g
  | so :: r, g => mkOs r (mkO so g).2
noncomputable def cmOf : Nat → List Str → List (Str × Nat)
  | _, [] => []
  | k, x :: r => (x, k) :: cmOf (k + 1) r
noncomputable def locB (sc : List (Str × NameKind)) : List (Str × SV) → List (Str × SV)
  | [] => []
  | p :: r => match zat sc p.1 with
    | true => p :: locB sc r
    | false => locB sc r
noncomputable def zjx (K : Frag) (fd : FuncData) (m : List (Str × SV)) : Bool :=
  decide (fd.globals = mainGlobals) && (decide (fd.builtins = builtinsNs) && (fd.closure.isEmpty && (codeIn K fd.code fd.qualname && (m.all (fun p => zat fd.scope.names p.1 || zlu fd.scope.names p.1) && (zcc m && (!fd.scope.isCoroutine && (!fd.scope.isGenerator && (zgi fd.scope && (zcc ((celN fd.scope.names).map fun x => (x, SV.none)) && (celN fd.scope.names).all (zlu fd.scope.names))))))))))
noncomputable def fnIn (e : FnE) (fd : FuncData) (vs : List SV) : List (Str × SV) := zipM (fd.params.args.map (·.arg)) vs ++ e.ex
noncomputable def outS (p : Fl × Fi) (g : Sg) : Option (SV × Sg) := match p.1 with
  | .ret v => some (v, g)
  | .next => some (.none, g)
  | .brk => none
noncomputable def fiOf (sc : List (Str × NameKind)) (b : List (Str × SV)) (g : Sg) : Fi := ⟨locB sc b, sc, cmOf g.σ.length (celN sc)⟩
noncomputable def sgOf (sc : List (Str × NameKind)) (b : List (Str × SV)) (g : Sg) : Sg := mkOs ((celN sc).map fun x => .cell (look b x)) g
noncomputable def zdf (K : Frag) (gd : List Addr) (T : List FnE) (N : Nat) (orc : Orc) : Orc := fun f vs g => (zjy T f vs.length).bind fun e => (K.lookup f).bind fun o => (fdOf o).bind fun fd => (zdu fd.body).bind fun body =>
  zad (zjx K fd (fnIn e fd vs)) (zaf (asF (run K gd orc N (.ex body) (fiOf fd.scope.names (fnIn e fd vs) g) (sgOf fd.scope.names (fnIn e fd vs) g))) outS)
inductive RBs (ρ : List Addr) : List (Str × SV) → List (Str × Value) → Prop
  | nil : RBs ρ [] []
  | cons {x : Str} {v : SV} {V : Value} {l : List (Str × SV)} {L : List (Str × Value)} : RV ρ v V → RBs ρ l L → RBs ρ ((x, v) :: l) ((x, V) :: L)
theorem RBs.append {ρ : List Addr} {l l' : List (Str × SV)} {L L' : List (Str × Value)} (r : RBs ρ l L) (r' : RBs ρ l' L') : RBs ρ (l ++ l') (L ++ L') := by
  induction r with
  | nil => exact r'
  | cons a _ ih => exact .cons a ih
theorem RBs.zip {ρ : List Addr} {vs : List SV} {Vs : List Value} (r : RVs ρ vs Vs) : ∀ ns : List Str, RBs ρ (zipM ns vs) (ns.zip Vs) := by
  induction r with
  | nil => intro ns; cases ns <;> exact .nil
  | cons a _ ih =>
    intro ns
    cases ns with
    | nil => exact .nil
    | cons x ns => exact .cons a (ih ns)
theorem d9 {x : Str} {p : Str × SV} {l : List (Str × SV)} (h : zcb x (p :: l) = true) : p.1 ≠ x ∧ zcb x l = true := by
  have h' : (match sq p.1 x with | true => false | false => zcb x l) = true := h
  cases hq : sq p.1 x with
  | true => rw [hq] at h'; cases h'
  | false =>
    rw [hq] at h'
    exact ⟨fun e => (by rw [zbh.mpr e] at hq; cases hq), h'⟩
section
variable {ρ : List Addr} {kd : Str → Option NameKind} {x : Str}
theorem RBs.keep {l : List (Str × SV)} {L : List (Str × Value)} (r : RBs ρ l L) : ∀ {m : Str → Option Value}, zcb x l = true → bindL kd L m x = m x ∧ bindC kd L m x = m x := by
  induction r with
  | nil => intro m _; exact ⟨rfl, rfl⟩
  | @cons y u U l L a _ ih =>
    intro m h
    have ⟨h1, h2⟩ := d9 h
    unfold bindL bindC
    have e0 : (fun z => if z = y then some U else m z) x = m x := if_neg fun e => h1 e.symm
    constructor
    · refine (ih h2).1.trans ?_
      split
      · exact e0
      · rfl
    · refine (ih h2).2.trans ?_
      split
      · rfl
      · exact e0
theorem RBs.locals {l : List (Str × SV)} {L : List (Str × Value)} (r : RBs ρ l L) (hk : kd x = some .local) : ∀ {m : Str → Option Value} {v : SV}, zcc l = true → look l x = some v → ∃ V, bindL kd L m x = some V ∧ RV ρ v V := by
  induction r with
  | nil => intro m v _ h; cases h
  | @cons y u U l L a r ih =>
    intro m v hn h
    refine zae (show (zcb y l && zcc l) = true from hn) fun h1 h2 => ?_
    rw [zaj] at h
    unfold bindL
    by_cases e : y = x
    · subst e
      rw [if_pos rfl] at h
      cases h
      exact ⟨U, by rw [(r.keep h1).1, if_pos hk]; exact if_pos rfl, a⟩
    · rw [if_neg e] at h
      exact ih h2 h
theorem RBs.cells {l : List (Str × SV)} {L : List (Str × Value)} (r : RBs ρ l L) (hk : kd x = some .cell) : ∀ {m : Str → Option Value}, zcc l = true → m x = none → RC ρ (look l x) (bindC kd L m x) := by
  induction r with
  | nil => intro m _ h; exact h
  | @cons y u U l L a r ih =>
    intro m hn hm
    refine zae (show (zcb y l && zcc l) = true from hn) fun h1 h2 => ?_
    rw [zaj]
    unfold bindC
    by_cases e : y = x
    · subst e
      rw [if_pos rfl, (r.keep h1).2, if_neg (by rw [hk]; decide)]
      exact ⟨U, if_pos rfl, a⟩
    · rw [if_neg e]
      refine ih h2 ?_
      split
      · exact hm
      · exact (if_neg fun q => e q.symm).trans hm
theorem RBs.keys {q : Str → Prop} {l : List (Str × SV)} {L : List (Str × Value)} (r : RBs ρ l L) (h : ∀ p ∈ l, q p.1) : ∀ p ∈ L, q p.1 := by
  induction r with
  | nil => exact fun _ h => (nomatch h)
  | cons a _ ih =>
    intro p hp
    rcases List.mem_cons.mp hp with rfl | hp
    · exact h _ (.head _)
    · exact ih (fun p hp => h p (.tail _ hp)) p hp
end
theorem zdb {sc : List (Str × NameKind)} {x : Str} {v : SV} : ∀ {l : List (Str × SV)}, look (locB sc l) x = some v → zat sc x = true ∧ look l x = some v
  | [], h => by cases h
  | p :: r, h => by
    have h' : look (match zat sc p.1 with | true => p :: locB sc r | false => locB sc r) x = some v := h
    rw [zaj]
    cases hp : zat sc p.1 with
    | true =>
      rw [hp] at h'
      rw [show look (p :: locB sc r) x = _ from zaj] at h'
      by_cases e : p.1 = x
      · rw [if_pos e] at h' ⊢
        exact ⟨e ▸ hp, h'⟩
      · rw [if_neg e] at h' ⊢
        exact zdb h'
    | false =>
      rw [hp] at h'
      obtain ⟨h1, h2⟩ := zdb h'
      rw [if_neg fun e => by rw [e, h1] at hp; cases hp]
      exact ⟨h1, h2⟩
noncomputable def fdAt (K : Frag) (f : Addr) : FuncData := match (K.lookup f).bind fdOf with
  | some fd => fd
  | none => default
noncomputable def BindOK (K : Frag) (e : FnE) : Prop := ∀ (s : Shared) (Vs : List Value), K.In s.heap → Vs.length = e.n → ∃ exV, (∀ ρ, RBs ρ e.ex exV) ∧ BindsTo s (fdAt K e.f) ⟨Vs, []⟩ (((fdAt K e.f).params.args.map (·.arg)).zip Vs ++ exV)
theorem zfc : ∀ {T : List FnE} {f : Addr} {n : Nat} {e : FnE}, zjy T f n = some e → e ∈ T ∧ e.f = f ∧ e.n = n
  | [], _, _, _, h => by cases h
  | x :: r, f, n, e, h => by
    have h' : (match Nat.beq x.f f && Nat.beq x.n n with | true => some x | false => zjy r f n) = some e := h
    cases hq : Nat.beq x.f f && Nat.beq x.n n with
    | true =>
      rw [hq] at h'
      cases h'
      exact zae hq fun a b => ⟨.head _, Nat.eq_of_beq_eq_true a, Nat.eq_of_beq_eq_true b⟩
    | false =>
      rw [hq] at h'
      obtain ⟨a, b⟩ := zfc h'
      exact ⟨.tail _ a, b⟩
theorem fdOf_eq {o : Obj} {fd : FuncData} (h : fdOf o = some fd) : o = ⟨o.cls, o.dict, .func fd, o.slots⟩ := by
  obtain ⟨c, d, da, sl⟩ := o
  cases da <;> cases h <;> rfl
theorem zkl {b : FuncBody} {l : List Stmt} (h : zdu b = some l) : b = .stmts l := by cases b <;> cases h <;> rfl
theorem fd_fn {fd : FuncData} {body : List Stmt} (h1 : fd.globals = mainGlobals) (h2 : fd.builtins = builtinsNs) (h3 : fd.closure = []) (h4 : fd.body = .stmts body) : fd = fnOf fd.name fd.qualname fd.params body fd.scope fd.defaults fd.kwdefaults fd.doc fd.pyModule fd.annotations fd.code fd.closureTuple := by
  obtain ⟨a1, a2, a3, a4, a5, a6, a7, a8, a9, a10, a11, a12, a13, a14, a15⟩ := fd
  subst h1 h2 h3 h4
  rfl
theorem zey : ∀ {l : List Str}, zcc (l.map fun x => (x, SV.none)) = true → l.Nodup
  | [], _ => List.nodup_nil
  | x :: r, h => by
    refine zae (show (zcb x (r.map fun x => (x, SV.none)) && zcc (r.map fun x => (x, SV.none))) = true from h) fun h1 h2 => ?_
    refine List.nodup_cons.mpr ⟨?_, zey h2⟩
    clear h h2
    induction r with
    | nil => exact List.not_mem_nil
    | cons y r ih =>
      obtain ⟨h3, h4⟩ := d9 h1
      intro hm
      rcases List.mem_cons.mp hm with e | hm
      · exact h3 e.symm
      · exact ih h4 hm
theorem zeo : ∀ (names : List (Str × NameKind)) (n lo : Nat) (acc : List (Str × Addr)), lo ≤ n → (∀ p ∈ acc, lo ≤ p.2 ∧ p.2 < n) → (acc.map (·.2)).Nodup → (∀ p ∈ cellsFrom n names acc, lo ≤ p.2) ∧ ((cellsFrom n names acc).map (·.2)).Nodup
  | [], n, lo, acc, _, h, hn => ⟨fun p hp => (h p hp).1, hn⟩
  | (x, k) :: r, n, lo, acc, hl, h, hn => by
    unfold cellsFrom
    cases hk : k == NameKind.cell with
    | false => rw [if_neg Bool.false_ne_true]; exact zeo r n lo acc hl h hn
    | true =>
      rw [if_pos rfl]
      refine zeo r (n + 1) lo _ (Nat.le_succ_of_le hl) (fun p hp => ?_) (List.nodup_cons.mpr ⟨fun hm => ?_, hn⟩)
      · rcases List.mem_cons.mp hp with rfl | hp
        · exact ⟨hl, Nat.lt_succ_self _⟩
        · exact ⟨(h p hp).1, Nat.lt_succ_of_lt (h p hp).2⟩
      · obtain ⟨p, hp, e⟩ := List.mem_map.mp hm
        exact absurd (h p hp).2 (by rw [e]; exact Nat.lt_irrefl _)
theorem cm_at {x : Str} : ∀ {cs : List (Str × Addr)} {j k : Nat} {ρ : List Addr}, ρ.length = j → look (cmOf j (cs.map (·.1))) x = some k → ∃ a, cs.lookup x = some a ∧ (ρ ++ cs.map (·.2))[k]? = some a
  | [], _, _, _, _, h => by cases h
  | (y, a) :: r, j, k, ρ, hl, h => by
    rw [show look (cmOf j (((y, a) :: r).map (·.1))) x = _ from zaj] at h
    rw [List.lookup_cons]
    by_cases e : y = x
    · rw [if_pos e] at h
      cases h
      rw [show (x == y) = true by simpa using e.symm]
      exact ⟨a, rfl, by rw [List.map_cons, List.getElem?_append_right (by omega), hl, Nat.sub_self]; rfl⟩
    · rw [if_neg e] at h
      rw [show (x == y) = false by simpa using fun q => e q.symm]
      obtain ⟨b, h1, h2⟩ := cm_at (ρ := ρ ++ [a]) (by rw [List.length_append, hl]; rfl) h
      exact ⟨b, h1, by rw [List.append_assoc] at h2; exact h2⟩
section
variable {Γ : Gm} {R : List (Addr × Obj)}
theorem Led.pushs {cm : Str → Option Value} : ∀ {cs : List (Str × Addr)} {cells : List (Addr × Obj)} {b : List (Str × SV)} {g : Sg} {z : Zs}, CellsAre cm cs cells → Led Γ R g z.ρ z.nw → (∀ p ∈ cs, RC z.ρ (look b p.1) (cm p.1)) → (cs.map (·.2)).Nodup → (∀ p ∈ cs, (∀ q ∈ z.nw, q.1 ≠ p.2) ∧ ∀ q ∈ R, q.1 ≠ p.2) →
    Led Γ R (mkOs ((cs.map (·.1)).map fun x => .cell (look b x)) g) (z.ρ ++ cs.map (·.2)) (z.nw ++ cells) ∧ ∀ h' tk, Ex z g ⟨z.ρ ++ cs.map (·.2), z.nw ++ cells, h', tk, z.g⟩ (mkOs ((cs.map (·.1)).map fun x => .cell (look b x)) g)
  | _, _, b, g, z, .nil, led, _, _, _ => by
    refine ⟨?_, fun h' tk => ?_⟩
    · show Led Γ R g (z.ρ ++ []) (z.nw ++ [])
      rw [List.append_nil, List.append_nil]
      exact led
    · show Ex z g ⟨z.ρ ++ [], z.nw ++ [], h', tk, z.g⟩ g
      rw [List.append_nil, List.append_nil]
      exact Ex.same
  | _, _, b, g, z, @CellsAre.cons _ n a o cs cells hd r, led, hc, hn, hf => by
    have hn' := List.nodup_cons.mp hn
    have f0 := hf (n, a) (.head _)
    have led1 : Led Γ R (mkO (.cell (look b n)) g).2 (z.ρ ++ [a]) (z.nw ++ [(a, o)]) := led.push f0.1 f0.2 (fun e => nomatch e) ⟨_, hd, (hc (n, a) (.head _)).mono Ext.snoc⟩
    obtain ⟨h1, h2⟩ := Led.pushs (z := ⟨z.ρ ++ [a], z.nw ++ [(a, o)], z.h, z.tk, z.g⟩) (b := b) r led1 (fun p hp => (hc p (.tail _ hp)).mono Ext.snoc) hn'.2 (fun p hp => ⟨fun q hq => (List.mem_append.mp hq).elim ((hf p (.tail _ hp)).1 q) fun hq => by
      rw [List.mem_singleton.mp hq]
      exact fun e => hn'.1 (List.mem_map.mpr ⟨p, hp, e.symm⟩), (hf p (.tail _ hp)).2⟩)
    · refine ⟨?_, fun h' tk => ?_⟩
      · have := h1
        dsimp only at this
        rw [List.append_assoc, List.append_assoc] at this
        exact this
      · have := (Led.exNew (so := .cell (look b n)) (D := a) (o := o) (h' := z.h) (tk := z.tk) led).trans (h2 h' tk)
        dsimp only at this
        rw [List.append_assoc, List.append_assoc] at this
        exact this
end
theorem zln {sc : List (Str × NameKind)} {x : Str} (h : (zat sc x || zlu sc x) = true) : sc.lookup x = some .local ∨ sc.lookup x = some .cell := by
  rcases Bool.or_eq_true_iff.mp h with h | h
  · exact .inl (b8 h).1
  · exact .inr (zcy h)
section
variable {Γ : Gm} {orc : Orc} {kf N : Nat} {T : List FnE}
theorem zgx (HB : ∀ e ∈ T, BindOK Γ.K e) (O : zbf Γ orc kf) : zbf Γ (zdf Γ.K Γ.gd T N orc) (kf + 2) := by
  intro f vs g v g' c M z Vs s R h H hv C G
  refine zab h fun e he h => ?_
  refine zab h fun o hK h => ?_
  refine zab h fun fd hfd h => ?_
  refine zab h fun body hbody h => ?_
  refine zaa h fun hg h => ?_
  refine zac h fun p1 g1 h1 h2 => ?_
  obtain ⟨hem, rfl, hn⟩ := zfc he
  refine zae (show (decide (fd.globals = mainGlobals) && _) = true from hg) fun g1 hg => ?_
  refine zae hg fun g2 hg => ?_
  refine zae hg fun g3 hg => ?_
  refine zae hg fun g4 hg => ?_
  refine zae hg fun g5 hg => ?_
  refine zae hg fun g6 hg => ?_
  refine zae hg fun g7 hg => ?_
  refine zae hg fun g8 hg => ?_
  refine zae hg fun g9 hg => ?_
  refine zae hg fun g10 g11 => ?_
  have hkf : fd.scope.kind = .function := by
    unfold zgi at g9
    cases hk : fd.scope.kind <;> rw [hk] at g9 <;> first | rfl | cases g9
  have hat : fdAt Γ.K e.f = fd := by unfold fdAt; rw [hK]; show (match fdOf o with | some fd => fd | none => default) = fd; rw [hfd]
  rw [fdOf_eq hfd] at hK
  obtain ⟨exV, hex, hbind⟩ := HB e hem (z.sh s) Vs (C.X.keeps H.F.keep) (by rw [hv.length]; exact hn.symm)
  rw [hat] at hbind
  have hrb : RBs z.ρ (fnIn e fd vs) ((fd.params.args.map (·.arg)).zip Vs ++ exV) := (RBs.zip hv _).append (hex z.ρ)
  have hfn := fd_fn (of_decide_eq_true g1) (of_decide_eq_true g2) (List.isEmpty_iff.mp g3) (zkl hbody)
  rw [hfn] at hK
  obtain ⟨outer, A₀, base, hfr, B⟩ := C.stk
  have hd := C.dep
  have hu := C.uni
  refine code_defC (p := Γ.p) (loose := Γ.loose) (mean := Γ.mean) (mg := Γ.mg) (mb := Γ.mb) B H.F C.X H.N C.T hfr C.fr C.fk hK g4 (by omega) (hfn ▸ hbind) (List.all_eq_true.mpr fun q hq => ?_) (zey g10) (fun G' L' hh1 tk1 cells FG F1 N1 Y1 B1 X1 T1 l1 => ?_) (by simpa using g7) (by simpa using g8) hkf
  · rcases zln (hrb.keys (q := fun x => (zat fd.scope.names x || zlu fd.scope.names x) = true) (fun q hq => List.all_eq_true.mp g5 q hq) q hq) with e | e <;> rw [e] <;> rfl
  obtain ⟨ca1, ca2⟩ := zeo fd.scope.names (L' + 1) (L' + 1) [] (Nat.le_refl _) (fun _ h => nomatch h) List.nodup_nil
  have hcn : (cellsFrom (L' + 1) fd.scope.names []).map (·.1) = celN fd.scope.names := cellsFrom_names _ _ _ _ _ rfl
  have hab : ∀ q ∈ cellsFrom (L' + 1) fd.scope.names [], ∀ r ∈ z.nw ++ c.rest, r.1 ≠ q.2 := fun q hq r hr => Nat.ne_of_lt (Nat.lt_of_lt_of_le (l1 r hr) (Nat.le_of_succ_le (ca1 q hq)))
  obtain ⟨led1, ex1⟩ := Led.pushs (b := fnIn e fd vs) Y1 H.led (fun q hq => hrb.cells (show (envOfC fd.qualname fd.scope L' e.f fd.code).kindOf q.1 = some .cell from zcy (List.all_eq_true.mp g11 q.1 (hcn ▸ List.mem_map_of_mem hq))) g6 rfl) ca2 (fun q hq => ⟨fun r hr => hab q hq r (List.mem_append.mpr (.inl hr)), fun r hr => hab q hq r (List.mem_append.mpr (.inr hr))⟩)
  rw [hcn] at led1 ex1
  refine zgk O N N (Nat.le_refl _) _ _ _ _ _ (zct h1) ⟨c.A.deeper (envOfC fd.qualname fd.scope L' e.f fd.code), envOfC fd.qualname fd.scope L' e.f fd.code, envOfC fd.qualname fd.scope L' e.f fd.code, G', L', c.rest, _, none⟩ _ ⟨z.ρ ++ (cellsFrom (L' + 1) fd.scope.names []).map (·.2), z.nw ++ cells, hh1, tk1, z.g⟩ s _
    ⟨⟨C.hand, ⟨c.fenv :: outer, c.A, base, Around.frames_deeper hfr, B1⟩, rfl, hkf, by show (c.A.deeper _).depth + _ < _; rw [depth_deeper]; omega, by show (c.A.deeper _).units + _ + 70 < _; rw [units_deeper]; omega, X1, T1, C.gd⟩, hkf, rfl, rfl, fun _ => rfl, fun _ e => nomatch e⟩ rfl (by passes_own)
    ⟨fun x u hx => ?_, rfl, fun x k hx => ?_⟩ ⟨F1, fun q hq => N1 q ?_, led1⟩ fun FL M2 z2 e2 r2 fr2 H2 => ?_
  · obtain ⟨h3, h4⟩ := zdb (show look (locB fd.scope.names (fnIn e fd vs)) x = some u from hx)
    obtain ⟨V, h5, h6⟩ := hrb.locals (kd := (envOfC fd.qualname fd.scope L' e.f fd.code).kindOf) (m := fun _ => none) (b8 h3).1 g6 h4
    exact ⟨h3, V, h5, h6.mono Ext.app⟩
  · have hx' : look (cmOf g.σ.length (celN fd.scope.names)) x = some k := hx
    rw [← H.led.size] at hx'
    exact cm_at (cs := cellsFrom (L' + 1) fd.scope.names []) rfl (by rw [hcn]; exact hx')
  · rcases List.mem_append.mp hq with hq | hq
    · exact (List.mem_append.mp hq).elim (fun h => List.mem_append.mpr (.inr (List.mem_append.mpr (.inl h)))) fun h => List.mem_append.mpr (.inl h)
    · exact List.mem_append.mpr (.inr (List.mem_append.mpr (.inr hq)))
  · have ex := (ex1 hh1 tk1).trans e2
    refine leaveK_ H2.F H2.N fun F3 N3 => ?_
    obtain ⟨fl, f1⟩ := p1
    cases fl with
    | next =>
      cases h2
      have r2' : FL = .next := r2
      subst r2'
      exact G .none z2 ex rfl ⟨F3, N3, H2.led⟩
    | brk => cases h2
    | ret u =>
      cases h2
      obtain ⟨V, rfl, hV⟩ := r2
      exact G V z2 ex hV ⟨F3, N3, H2.led⟩
noncomputable def zce : Orc := fun _ _ _ => none
theorem zee : zbf Γ zce 0 := fun _ _ _ _ _ _ _ _ _ _ _ h => by cases h
end
section
variable {Γ : Gm} {N : Nat} {T : List FnE}
theorem Orx.less {c : Cx} {a b : Nat} (C : Orx Γ b c) (h : a ≤ b) : Orx Γ a c := ⟨C.hand, C.stk, C.fr, C.fk, by have := C.dep; omega, by have := C.uni; omega, C.X, C.T, C.gd⟩
end

section
variable {K : Frag} {gd : List Addr} {orc : Orc} {f : Fi} {g : Sg}
theorem j4 {m : Nat} {e : Expr} {b : Bool} (h : zhf K gd (run K gd orc m) e f g = some (b, g)) : run K gd orc (m + 1) (.test e) f g = some (.b b, g) := by
  show zaf (zhf K gd (run K gd orc m) e f g) (fun v g1 => some (Out.b v, g1)) = _
  rw [h]
  rfl
end
theorem len1 {α : Type} : ∀ {l : List α}, l.length = 1 → ∃ a, l = [a]
  | [a], _ => ⟨a, rfl⟩
theorem len2 {α : Type} : ∀ {l : List α}, l.length = 2 → ∃ a b, l = [a, b]
  | [a, b], _ => ⟨a, b, rfl⟩
theorem len3 {α : Type} : ∀ {l : List α}, l.length = 3 → ∃ a b c, l = [a, b, c]
  | [a, b, c], _ => ⟨a, b, c, rfl⟩
theorem len4 {α : Type} : ∀ {l : List α}, l.length = 4 → ∃ a b c d, l = [a, b, c, d]
  | [a, b, c, d], _ => ⟨a, b, c, d, rfl⟩
theorem len6 {α : Type} : ∀ {l : List α}, l.length = 6 → ∃ a b c d e f, l = [a, b, c, d, e, f]
  | [a, b, c, d, e, f], _ => ⟨a, b, c, d, e, f, rfl⟩
section
variable {K : Frag} {f : Addr}
theorem bd1 (h : ∀ a, bindArgs (fdAt K f) ⟨[a], []⟩ = pure (((fdAt K f).params.args.map (·.arg)).zip [a] ++ [])) : BindOK K ⟨f, 1, []⟩ := fun s Vs X hl => by
  obtain ⟨a, rfl⟩ := len1 hl
  exact ⟨[], fun _ => .nil, BindsTo.of_eq (h a)⟩
theorem bd2 (h : ∀ a b, bindArgs (fdAt K f) ⟨[a, b], []⟩ = pure (((fdAt K f).params.args.map (·.arg)).zip [a, b] ++ [])) : BindOK K ⟨f, 2, []⟩ := fun s Vs X hl => by
  obtain ⟨a, b, rfl⟩ := len2 hl
  exact ⟨[], fun _ => .nil, BindsTo.of_eq (h a b)⟩
theorem bd3 (h : ∀ a b c, bindArgs (fdAt K f) ⟨[a, b, c], []⟩ = pure (((fdAt K f).params.args.map (·.arg)).zip [a, b, c] ++ [])) : BindOK K ⟨f, 3, []⟩ := fun s Vs X hl => by
  obtain ⟨a, b, c, rfl⟩ := len3 hl
  exact ⟨[], fun _ => .nil, BindsTo.of_eq (h a b c)⟩
theorem bd4 (h : ∀ a b c d, bindArgs (fdAt K f) ⟨[a, b, c, d], []⟩ = pure (((fdAt K f).params.args.map (·.arg)).zip [a, b, c, d] ++ [])) : BindOK K ⟨f, 4, []⟩ := fun s Vs X hl => by
  obtain ⟨a, b, c, d, rfl⟩ := len4 hl
  exact ⟨[], fun _ => .nil, BindsTo.of_eq (h a b c d)⟩
theorem bd6 (h : ∀ a b c d e g, bindArgs (fdAt K f) ⟨[a, b, c, d, e, g], []⟩ = pure (((fdAt K f).params.args.map (·.arg)).zip [a, b, c, d, e, g] ++ [])) : BindOK K ⟨f, 6, []⟩ := fun s Vs X hl => by
  obtain ⟨a, b, c, d, e, g, rfl⟩ := len6 hl
  exact ⟨[], fun _ => .nil, BindsTo.of_eq (h a b c d e g)⟩
theorem zfy {c : Value} {d : Option Addr} {fd : FuncData} {sl : Array (Option Value)} (h : K.lookup f = some ⟨c, d, .func fd, sl⟩) : fdAt K f = fd := by
  unfold fdAt
  rw [h]
  rfl
theorem bdX1 {ex : List (Str × SV)} {exV : List (Str × Value)} {c : Value} {d : Option Addr} {fd : FuncData} {sl : Array (Option Value)} (h : K.lookup f = some ⟨c, d, .func fd, sl⟩) (r : ∀ ρ, RBs ρ ex exV) (hb : ∀ (s : Shared) (a : Value), K.In s.heap → BindsTo s fd ⟨[a], []⟩ ((fd.params.args.map (·.arg)).zip [a] ++ exV)) : BindOK K ⟨f, 1, ex⟩ := by
  intro s Vs X hl
  obtain ⟨a, rfl⟩ := len1 hl
  rw [zfy h]
  exact ⟨exV, r, hb s a X⟩
theorem bdX2 {ex : List (Str × SV)} {exV : List (Str × Value)} {c : Value} {d : Option Addr} {fd : FuncData} {sl : Array (Option Value)} (h : K.lookup f = some ⟨c, d, .func fd, sl⟩) (r : ∀ ρ, RBs ρ ex exV) (hb : ∀ (s : Shared) (a b : Value), K.In s.heap → BindsTo s fd ⟨[a, b], []⟩ ((fd.params.args.map (·.arg)).zip [a, b] ++ exV)) : BindOK K ⟨f, 2, ex⟩ := by
  intro s Vs X hl
  obtain ⟨a, b, rfl⟩ := len2 hl
  rw [zfy h]
  exact ⟨exV, r, hb s a b X⟩
theorem bdX3 {ex : List (Str × SV)} {exV : List (Str × Value)} {c : Value} {d : Option Addr} {fd : FuncData} {sl : Array (Option Value)} (h : K.lookup f = some ⟨c, d, .func fd, sl⟩) (r : ∀ ρ, RBs ρ ex exV) (hb : ∀ (s : Shared) (a b e : Value), K.In s.heap → BindsTo s fd ⟨[a, b, e], []⟩ ((fd.params.args.map (·.arg)).zip [a, b, e] ++ exV)) : BindOK K ⟨f, 3, ex⟩ := by
  intro s Vs X hl
  obtain ⟨a, b, e, rfl⟩ := len3 hl
  rw [zfy h]
  exact ⟨exV, r, hb s a b e X⟩
end
noncomputable def zcw : SV → Bool
  | .obj _ => false
  | _ => true
noncomputable def instS (C : Addr) (v : SV) (g : Sg) : Option (List (Str × SV)) := (oI g.σ v).bind fun q => zad (Nat.beq q.2.1 C && q.2.2.2.all (fun p => zcw p.2) && Nat.beq g.γ 0) (some q.2.2.2)
theorem RV.atom {ρ : List Addr} : ∀ {v : SV} {V : Value}, zcw v = true → RV ρ v V → RV [] v V
  | .none, _, _, e => e
  | .bool _, _, _, e => e
  | .int _, _, _, e => e
  | .val _, _, _, e => e
  | .bytes _, _, _, e => e
  | .str _, _, _, e => e
theorem RAs.atoms {P : Params} {ρ : List Addr} {l : List (Str × SV)} {es : List DictEntry} (r : RAs P ρ l es) (h : l.all (fun p => zcw p.2) = true) : RAs P [] l es := by
  induction r with
  | nil => exact .nil
  | cons a _ ih =>
    refine zae h fun h1 h2 => ?_
    exact .cons (a.atom h1) (ih h2)
theorem RAs.any {P : Params} {ρ : List Addr} {l : List (Str × SV)} {es : List DictEntry} (r : RAs P [] l es) : RAs P ρ l es := r.mono fun k a e => by cases e
theorem Led.bare {Γ : Gm} {R : List (Addr × Obj)} : Led Γ R ⟨[], [], 0⟩ [] [] := ⟨rfl, List.nodup_nil, (fun _ _ _ h => by cases h), rfl, (fun _ _ _ h => by cases h), (fun _ _ _ h => by cases h), rfl⟩
noncomputable def zia (P : Params) (C : Addr) (at0 : List (Str × SV)) (X D : Addr) (o od : Obj) : Prop := o = { cls := .ref C, dict := some D, data := .plain } ∧ ∃ es n, od = { cls := .type "dict", data := .dict (List.toArray es) n } ∧ RAs P [] at0 es
noncomputable def Off2 (X D : Addr) (news : List (Addr × Obj)) : Prop := (∀ p ∈ news, p.1 ≠ X) ∧ (∀ p ∈ news, p.1 ≠ D) ∧ X ≠ D
theorem Off2.less {X D : Addr} {news news' : List (Addr × Obj)} (h : Off2 X D news) (hs : ∀ p ∈ news', p ∈ news) : Off2 X D news' := ⟨fun p hp => h.1 p (hs p hp), fun p hp => h.2.1 p (hs p hp), h.2.2⟩
noncomputable def zmu (R X D : Addr) (news : List (Addr × Obj)) : Prop := R ≠ X ∧ R ≠ D ∧ ∀ p ∈ news, p.1 ≠ R
noncomputable def MbO2 (P : Params) (C : Addr) (at0 : List (Str × SV)) (news : List (Addr × Obj)) (r : Value) (news' : List (Addr × Obj)) : Prop := ∃ (X D : Addr) (o od : Obj), r = .ref X ∧ news' = (X, o) :: (D, od) :: news ∧ zia P C at0 X D o od ∧ Off2 X D news
noncomputable def MbC3 (f C : Addr) (Dm : Array UInt8 → Prop) (at0 : Array UInt8 → List (Str × SV)) (prog : Program) (w : World) (K : Frag) (p : Program) (loose : List Str) (mean : ExcName → Option Value) (mg mb : Str → Option Value) : Prop :=
  ∀ (b : Array UInt8) (tb tm tk : Tok) (news : List (Addr × Obj)), Dm b → Fun prog w K p loose mean mg mb 80 f [.bytes b tb, .str (Str.ofString "best") tm, .str (Str.ofString "crc32") tk] news (MbO2 w.params C (at0 b) news)
noncomputable def MsO2 (P : Params) (C : Addr) (at0 : List (Str × SV)) (news : List (Addr × Obj)) (r : Value) (news' : List (Addr × Obj)) : Prop := ∃ (R X D : Addr) (o od : Obj), r = .ref R ∧ news' = (R, listOf #[.ref X] 1) :: (X, o) :: (D, od) :: news ∧ zia P C at0 X D o od ∧ Off2 X D news ∧ zmu R X D news
noncomputable def MsX (f : Addr) (b : Array UInt8) (O : List (Addr × Obj) → Value → List (Addr × Obj) → Prop) (prog : Program) (w : World) (K : Frag) (p : Program) (loose : List Str) (mean : ExcName → Option Value) (mg mb : Str → Option Value) : Prop :=
  ∀ (tb ts tm tk : Tok) (news : List (Addr × Obj)) (dp un : Nat) (gd : Option (List Code)) (fenv : Env) (outer : List Env) (A₀ : Around) (base h₀ : Heap) (L : Addr) (m : Str → Option Value) (s : Shared) (R : Result → Shared → Prop),
    fenv.frame = some L → fenv.scope.kind = .function → Below A₀ base outer h₀ → Fr h₀ L s.heap m → K.In h₀ → News h₀ L s.heap news → Top p loose mean mg mb h₀ → dp + 90 < recursionLimit → un + 8 * 90 < cLine →
    (∀ r news' h' tk' g', GRow s.gens g' → O news r news' → Fr h₀ L h' m → News h₀ L h' news' → R (.ok (.ret r)) { s with heap := h', gens := g', toks := tk' }) →
    codeAny (model prog w) { handled := none, depth := dp, frames := some (fenv :: outer), guards := gd, units := un } (.call (.ref f) ⟨[.bytes b tb, .int 4096 ts, .str (Str.ofString "best") tm, .str (Str.ofString "crc32") tk], []⟩) R s
noncomputable def MsN2 (news : List (Addr × Obj)) (r : Value) (news' : List (Addr × Obj)) : Prop := ∃ R, r = .ref R ∧ news' = (R, listOf #[] 0) :: news ∧ ∀ p ∈ news, p.1 ≠ R
noncomputable def CutV3 (b : Array UInt8) (v : Value) : Prop := ∃ t, v = .bytes b t
theorem zmi {b : Array UInt8} {t : Tok} (hb : b.size ≤ 4096) : CutV3 b (.bytes (KBy.picked b (some 0) (some (0 + 4096))) t) := by
  refine ⟨t, ?_⟩
  have e : KBy.picked b (some 0) (some (0 + 4096)) = b := by
    rw [KBc.picked_eq]
    show ((b.toList.drop (clipAt b.size 0)).take (clipAt b.size 4096 - clipAt b.size 0)).toArray = b
    rw [show clipAt b.size 0 = 0 from (clipAt_nat b.size 0).trans (Nat.zero_min _), show clipAt b.size 4096 = b.size from (clipAt_nat b.size 4096).trans (Nat.min_eq_right hb), List.drop_zero, Nat.sub_zero, List.take_of_length_le (by simp), Array.toArray_toList]
  rw [e]
noncomputable def CutF2 (P : Params) (Cb : Addr) (at0 : List (Str × SV)) (news : List (Addr × Obj)) (D : Addr) (y : Value) (newsF : List (Addr × Obj)) : Prop := ∃ (X D' : Addr) (o od : Obj), y = .ref X ∧ newsF = (X, o) :: (D', od) :: news ∧ zia P Cb at0 X D' o od ∧ Off2 X D' news ∧ zmu D X D' news
section
open LCg
variable {prog : Program} {w : World} {A : Around} {E : Value → Shared → Prop} {s : Shared} {h₀ : Heap} {L : Addr} {m : Str → Option Value} {news : List (Addr × Obj)} {env : Env}
theorem zmh {P : Params} {Cb : Addr} {at0 : List (Str × SV)} {b0 : Array UInt8} {elt : Expr} {x : Str} {scope : Scope} {cl : List (Str × Addr)} {st1 st2 st3 : Stmt} {test e : Expr} {yp ep wp : Pos} {genv : Env} {L' G : Addr} {oG : Obj} {h₂ : Heap} {tk : Nat} {m1 : Str → Option Value} {Q : Value → Shared → Prop}
    (F : Fr h₀ L h₂ m) (N : News h₀ L h₂ ((G, oG) :: news)) (FL : Fr h₀ L' h₂ m1) (l0 : ∀ p ∈ news, p.1 < L') (lL : L < L') (lG : L' < G) (hGG : ∀ h' : Heap, h'.get? G = some oG → h'.IsGen G s.gens.size) (hL0 : h₀.get? L' = none)
    (hh : A.handled = none) (hl : h₀.NoLimit) (hroom : A.depth < recursionLimit) (hco : genv.scope.isCoroutine = false) (hi : interactive genv = false)
    (t1 : ∀ A' E' s, Fr h₀ L' s.heap m1 → wpAny (model prog w) A' (exec st1 genv) (GnF h₀ L' (i8 m1) s) E' s)
    (t2 : ∀ A' E' s₀ s, GnB h₀ L' (i8 m1) s₀ s → wpAny (model prog w) A' (exec st2 genv) (GnF h₀ L' (zdm m1) s₀) E' s)
    (tyes : ∀ A' E' s₀ s, GnB h₀ L' (zdm m1) s₀ s → wpAny (model prog w) A' (isTrue test genv (eval test genv)) (GnT h₀ L' (zdm m1) s₀ true) E' s)
    (ty : ∀ A' E' s₀ s, GnB h₀ L' (zdm m1) s₀ s → wpAny (model prog w) A' (eval e genv) (GnV h₀ L' (zdm m1) s₀ (CutV3 b0)) E' s)
    (t3 : ∀ A' E' s, GnC h₀ L' (zdm m1) s → wpAny (model prog w) A' (exec st3 genv) (GnF h₀ L' (CutM3 m1) s) E' s)
    (tno : ∀ A' E' s₀ s, GnB h₀ L' (CutM3 m1) s₀ s → wpAny (model prog w) A' (isTrue test genv (eval test genv)) (GnT h₀ L' (CutM3 m1) s₀ false) E' s)
    (helt : ∀ C D v h tk gens' oC oL m₂ (E' : Value → Shared → Prop), (∀ p ∈ news, p.1 < L') → L' < G → G < D → D < C → CutV3 b0 v → NsObj oC m₂ → m₂ x = some v → Fr h₀ L h m → News h₀ L h ((C, oC) :: (D, lst []) :: (L', oL) :: (G, oG) :: news) →
      wpAny (model prog w) A (eval elt (compEnvC scope cl C env)) (CgEnd h₀ L m { s with heap := h, gens := gens', toks := tk } C D L' G oC oL oG (CutF2 P Cb at0 news D)) E' { s with heap := h, gens := gens', toks := tk })
    (hdone : ∀ D X D' o od h tk gens', GRow s.gens gens' → zia P Cb at0 X D' o od → Off2 X D' news → zmu D X D' news → Fr h₀ L h m → News h₀ L h ((D, listOf #[.ref X] 1) :: (X, o) :: (D', od) :: news) → Q (.ref D) { s with heap := h, gens := gens', toks := tk }) :
    wpAny (model prog w) A (pyIter (.ref G)) (fun it s₂ => ∃ news, Fr h₀ L s₂.heap m ∧ News h₀ L s₂.heap news ∧
      (∀ (s : Shared) (Q : Value → Shared → Prop) (E : Value → Shared → Prop), (∀ b o, s₂.heap.get? b = some o → s.heap.get? b = some o) → Q it s → wpAny (model prog w) A (pyIter it) Q E s) ∧
      ∀ C D, (∀ p ∈ news, p.1 < D) → D < C → L < D → ∃ (J : Nat → List Value → List (Addr × Obj) → Shared → Prop) (Fin : List Value → List (Addr × Obj) → Shared → Prop) (n : Nat),
        (∀ h tk, (∀ b o, s₂.heap.get? b = some o → h.get? b = some o) → J n [] news { s₂ with heap := h, toks := tk }) ∧ zdw prog w A h₀ L m env it elt x scope cl C D J Fin ∧
        ∀ ys news₁ s' h'', Fr h₀ L h'' m → News h₀ L h'' ((D, lst ys) :: news₁) → Fin ys news₁ s' → Q (.ref D) { s' with heap := h'' }) E { s with heap := h₂, gens := s.gens.push (.fresh (.func (zaz st1 st2 st3 test e yp ep wp) genv)), toks := tk } := by
  refine cut_src (Fin := CutF2 P Cb at0 news) F N FL l0 lL lG hGG hL0 hh hl hroom hco hi t1 t2 tyes ty t3 tno helt ?_
  rintro D y newsF h tk g' hg ⟨X, D', o, od, rfl, rfl, b1, b2, b3⟩ F' N'
  exact hdone D X D' o od h tk g' hg b1 b2 b3 F' N'
theorem ms_ret2 {P : Params} {Cb : Addr} {at0 : List (Str × SV)} {R : Result → Shared → Prop} {h : Heap} {R' X D : Addr} {o od : Obj} {led news' : List (Addr × Obj)} {tk : Nat} {g : Array GenState}
    (hret : ∀ r news' h' tk' g', GRow s.gens g' → MsO2 P Cb at0 news r news' → Fr h₀ L h' m → News h₀ L h' news' → R (.ok (.ret r)) { s with heap := h', gens := g', toks := tk' }) (hG : GRow s.gens g) (F : Fr h₀ L h m) (N : News h₀ L h led) (hs : ∀ p ∈ (R', listOf #[.ref X] 1) :: (X, o) :: (D, od) :: news, p ∈ led) (hn : ∀ p ∈ news, p ∈ news') (l : zia P Cb at0 X D o od) (l1 : Off2 X D news') (l2 : zmu R' X D news') :
    R (.ok (.ret (.ref R'))) { s with heap := h, gens := g, toks := tk } := hret _ _ _ _ _ hG ⟨R', X, D, o, od, rfl, rfl, l, l1.less hn, l2.1, l2.2.1, fun p hp => l2.2.2 p (hn p hp)⟩ F fun p hp => N p (hs p hp)
theorem cg_end2 {P : Params} {Cb : Addr} {at0 : List (Str × SV)} {h : Heap} {C D L' G X D' : Addr} {oC oL oG o od : Obj} {led : List (Addr × Obj)} {tk : Nat} (F : Fr h₀ L h m) (N : News h₀ L h ((X, o) :: (D', od) :: (C, oC) :: (D, lst []) :: (L', oL) :: (G, oG) :: led)) (hs : ∀ p ∈ news, p ∈ led)
    (l1 : zia P Cb at0 X D' o od) (l2 : Off2 X D' ((C, oC) :: (D, lst []) :: (L', oL) :: (G, oG) :: led)) (l0 : ∀ p ∈ led, p.1 < L') (lG : L' < G) (lD : G < D) (lC : D < C) :
    CgEnd h₀ L m s C D L' G oC oL oG (CutF2 P Cb at0 news D) (.ref X) { s with heap := h, toks := tk } := by
  have k1 : ∀ p ∈ news, p.1 < L' := fun p hp => l0 p (hs p hp)
  have kL : L' < D := Nat.lt_trans lG lD
  obtain ⟨x1, x2, x3⟩ := l2
  refine ⟨h, tk, (X, o) :: (D', od) :: news, rfl, F, fun p hp => N p ?_, fun p hp => ?_, fun p hp => ?_, ⟨X, D', o, od, rfl, rfl, l1, ⟨fun p hp => x1 p (.tail _ (.tail _ (.tail _ (.tail _ (hs p hp))))), fun p hp => x2 p (.tail _ (.tail _ (.tail _ (.tail _ (hs p hp))))), x3⟩, x1 _ (.tail _ (.head _)), x2 _ (.tail _ (.head _)), fun p hp => Nat.ne_of_lt (Nat.lt_trans (k1 p hp) kL)⟩⟩
  · simp only [List.mem_cons] at hp ⊢
    rcases hp with h | h | h | h | h | h | h
    · simp [h]
    · simp [h]
    · simp [h]
    · simp [h]
    · simp [h]
    · simp [h]
    · simp [hs p h]
  · rcases List.mem_cons.mp hp with rfl | hp
    · exact ⟨Ne.symm (x1 _ (.head _)), Ne.symm (x1 _ (.tail _ (.head _)))⟩
    · rcases List.mem_cons.mp hp with rfl | hp
      · exact ⟨Ne.symm (x2 _ (.head _)), Ne.symm (x2 _ (.tail _ (.head _)))⟩
      · have := k1 p hp
        exact ⟨Nat.ne_of_lt (Nat.lt_trans this (Nat.lt_trans kL lC)), Nat.ne_of_lt (Nat.lt_trans this kL)⟩
  · rcases List.mem_cons.mp hp with rfl | hp
    · exact Ne.symm (x1 _ (.tail _ (.tail _ (.head _))))
    · rcases List.mem_cons.mp hp with rfl | hp
      · exact Ne.symm (x2 _ (.tail _ (.tail _ (.head _))))
      · exact Nat.ne_of_lt (k1 p hp)
end
section
open LCg
variable {prog : Program} {w : World} {A : Around} {E : Value → Shared → Prop} {s : Shared} {h₀ : Heap} {L : Addr} {m : Str → Option Value} {news : List (Addr × Obj)} {env : Env}
theorem zmg {elt : Expr} {x : Str} {scope : Scope} {cl : List (Str × Addr)} {st1 st2 st3 : Stmt} {test e : Expr} {yp ep wp : Pos} {genv : Env} {L' G : Addr} {oG : Obj} {h₂ : Heap} {tk : Nat} {m1 : Str → Option Value} {Q : Value → Shared → Prop}
    (F : Fr h₀ L h₂ m) (N : News h₀ L h₂ ((G, oG) :: news)) (FL : Fr h₀ L' h₂ m1) (l0 : ∀ p ∈ news, p.1 < L') (lL : L < L') (lG : L' < G) (hGG : ∀ h' : Heap, h'.get? G = some oG → h'.IsGen G s.gens.size)
    (hh : A.handled = none) (hl : h₀.NoLimit) (hroom : A.depth < recursionLimit)
    (t1 : ∀ A' E' s, Fr h₀ L' s.heap m1 → wpAny (model prog w) A' (exec st1 genv) (GnF h₀ L' (i8 m1) s) E' s)
    (t2 : ∀ A' E' s₀ s, GnB h₀ L' (i8 m1) s₀ s → wpAny (model prog w) A' (exec st2 genv) (GnF h₀ L' (zdm m1) s₀) E' s)
    (tno : ∀ A' E' s₀ s, GnB h₀ L' (zdm m1) s₀ s → wpAny (model prog w) A' (isTrue test genv (eval test genv)) (GnT h₀ L' (zdm m1) s₀ false) E' s)
    (hdone : ∀ D h tk gens', GRow s.gens gens' → (∀ p ∈ news, p.1 < D) → Fr h₀ L h m → News h₀ L h ((D, lst []) :: news) → Q (.ref D) { s with heap := h, gens := gens', toks := tk }) :
    wpAny (model prog w) A (pyIter (.ref G)) (fun it s₂ => ∃ news, Fr h₀ L s₂.heap m ∧ News h₀ L s₂.heap news ∧
      (∀ (s : Shared) (Q : Value → Shared → Prop) (E : Value → Shared → Prop), (∀ b o, s₂.heap.get? b = some o → s.heap.get? b = some o) → Q it s → wpAny (model prog w) A (pyIter it) Q E s) ∧
      ∀ C D, (∀ p ∈ news, p.1 < D) → D < C → L < D → ∃ (J : Nat → List Value → List (Addr × Obj) → Shared → Prop) (Fin : List Value → List (Addr × Obj) → Shared → Prop) (n : Nat),
        (∀ h tk, (∀ b o, s₂.heap.get? b = some o → h.get? b = some o) → J n [] news { s₂ with heap := h, toks := tk }) ∧ zdw prog w A h₀ L m env it elt x scope cl C D J Fin ∧
        ∀ ys news₁ s' h'', Fr h₀ L h'' m → News h₀ L h'' ((D, lst ys) :: news₁) → Fin ys news₁ s' → Q (.ref D) { s' with heap := h'' }) E { s with heap := h₂, gens := s.gens.push (.fresh (.func (zaz st1 st2 st3 test e yp ep wp) genv)), toks := tk } := by
  have hG := N (G, oG) (.head _)
  refine wpAny_pyIter_gen (hGG _ hG.1) ⟨(G, oG) :: news, F, N, fun s' Q' E' up hq => wpAny_pyIter_gen (hGG _ (up _ _ hG.1)) hq, fun C D l1 l2 l3 => ?_⟩
  have l4 : G < D := l1 _ (.head _)
  refine ⟨fun k ys nx s' => k = 0 ∧ ys = [] ∧ nx = (G, oG) :: news ∧ ∃ h tk', s' = { s with heap := h, gens := s.gens.push (.fresh (.func (zaz st1 st2 st3 test e yp ep wp) genv)), toks := tk' } ∧ ∀ b o, h₂.get? b = some o → h.get? b = some o,
    fun ys nx s' => ys = [] ∧ nx = (G, oG) :: news ∧ ∃ h tk', s' = { s with heap := h, gens := s.gens.push .finished, toks := tk' }, 0, fun h tk' up => ⟨rfl, rfl, rfl, h, tk', rfl, up⟩, ?_, ?_⟩
  · intro k ys nx s' oC E' hJ F' N' offCD
    obtain ⟨rfl, rfl, rfl, h, tk', rfl, up⟩ := hJ
    have FL' : Fr h₀ L' h m1 := FL.keeps up
    have hg0 : (s.gens.push (GenState.fresh (.func (zaz st1 st2 st3 test e yp ep wp) genv)))[s.gens.size]? = some (.fresh (.func (zaz st1 st2 st3 test e yp ep wp) genv)) := by simp
    have hCL : C ≠ L' := fun e => absurd (Nat.lt_trans lG l4) (e ▸ Nat.lt_asymm l2)
    have hDL : D ≠ L' := fun e => absurd (Nat.lt_trans lG l4) (e ▸ Nat.lt_irrefl _)
    refine zhm (g := s.gens.size) (B3 := GnB h₀ L' (zdm m1)) (B4 := GnB h₀ L' (zdm m1)) hh (hl.keeps F'.keep) hroom (hGG _ (up _ _ hG.1)) hg0 ?_ tno ?_
    · intro A' E'
      exact wpAny_mono (t1 A' E' _ FL') (fun f s₁ hf => ⟨hf.1, wpAny_mono (t2 A' E' _ _ hf.2) (fun _ _ q => q) fun _ _ q => q⟩) fun _ _ q => q
    · rintro s₁ ⟨h₁, tk₁, mx, rfl, hmx, FL₁, kp₁⟩ h' up'
      have kp' : KpL L' h h' := KpL.trans (show KpL L' h h₁ from kp₁) (KpL.of up')
      have F2 : Fr h₀ L h' m := fr_kp F' (FL₁.keeps up') kp' (Nat.ne_of_lt lL)
      refine ⟨(G, oG) :: news, F2, zfq N' kp' fun p hp => ?_, offCD, fun h₂' kp₂ => ⟨rfl, rfl, h₂', tk₁, ?_⟩⟩
      · rcases List.mem_cons.mp hp with rfl | hp
        · exact hCL
        · rcases List.mem_cons.mp hp with rfl | hp
          · exact hDL
          · rcases List.mem_cons.mp hp with rfl | hp
            · exact Nat.ne_of_gt lG
            · exact Nat.ne_of_lt (l0 p hp)
      · have eg : ((({ s with heap := h, gens := s.gens.push (.fresh (.func (zaz st1 st2 st3 test e yp ep wp) genv)), toks := tk' } : Shared).setGen s.gens.size .running).gens).setIfInBounds s.gens.size .finished = s.gens.push .finished := by
          show (((s.gens.push _).setIfInBounds s.gens.size .running).setIfInBounds s.gens.size .finished) = _
          rw [zbb, zbb]
        show ({ s with heap := h₂', gens := _, toks := tk₁ } : Shared) = _
        rw [← eg]; rfl
  · intro ys news₁ s' h'' F'' N'' fin
    obtain ⟨rfl, rfl, h, tk', rfl⟩ := fin
    refine hdone D h'' tk' _ zfa (fun p hp => Nat.lt_trans (l0 p hp) (Nat.lt_trans lG l4)) F'' fun p hp => ?_
    rcases List.mem_cons.mp hp with rfl | hp
    · exact N'' _ (.head _)
    · exact N'' p (.tail _ (.tail _ hp))
theorem ms_retN {R : Result → Shared → Prop} {h : Heap} {R' : Addr} {led : List (Addr × Obj)} {tk : Nat} {g : Array GenState} {nw : List (Addr × Obj)}
    (hret : ∀ r news' h' tk' g', GRow s.gens g' → MsN2 news r news' → Fr h₀ L h' m → News h₀ L h' news' → R (.ok (.ret r)) { s with heap := h', gens := g', toks := tk' }) (hG : GRow s.gens g) (F : Fr h₀ L h m) (N : News h₀ L h led) (hs : ∀ p ∈ (R', listOf #[] 0) :: news, p ∈ led) (hn : ∀ p ∈ news, p ∈ nw) (l : ∀ p ∈ nw, p.1 < R') :
    R (.ok (.ret (.ref R'))) { s with heap := h, gens := g, toks := tk } := hret _ _ _ _ _ hG ⟨R', rfl, rfl, fun p hp => Nat.ne_of_lt (l p (hn p hp))⟩ F fun p hp => N p (hs p hp)
end
section
variable {Γ : Gm} {orc : Orc} {kf : Nat}
theorem mb_of3 (O : zbf Γ orc kf) (hk : kf ≤ 40) (hgd : ∀ a, memA a Γ.gd = true → (∃ es n, Γ.K.lookup a = some ⟨.type "dict", none, .dict es n, #[]⟩ ∧ KeysLit Γ.w.params es.toList) ∧ (a == sysModules) = false) {f C : Addr} {b : Array UInt8} {l0 : List Int} (hb0 : KBw.bInts b = l0) {at0 : List (Str × SV)} {tb tm tk : Tok} {news : List (Addr × Obj)}
    (h : ((orc f [.bytes l0, .str (Str.ofString "best"), .str (Str.ofString "crc32")] ⟨[], [], 0⟩).bind fun p => instS C p.1 p.2) = some at0) : Fun Γ.prog Γ.w Γ.K Γ.p Γ.loose Γ.mean Γ.mg Γ.mb 80 f [.bytes b tb, .str (Str.ofString "best") tm, .str (Str.ofString "crc32") tk] news (MbO2 Γ.w.params C at0 news) := by
  intro dp un gd cn cs a ccd cl outer A₀ base h₀ L m s Q E B F X N T hkd hd hu hret
  refine zab h fun p h1 h2 => ?_
  clear h
  obtain ⟨v, g'⟩ := p
  refine zab h2 fun q h3 h4 => ?_
  clear h2
  refine zaa h4 fun h5 h6 => ?_
  clear h4
  have hat : q.2.2.2 = at0 := Option.some.inj h6
  clear h6
  refine zae h5 fun h8 h7 => ?_
  clear h5
  refine zae h8 fun h9 h6 => ?_
  clear h8
  have hC : q.2.1 = C := Nat.eq_of_beq_eq_true h9
  clear h9
  refine wpAny_call (O f _ _ v g' ⟨ktrTop dp un gd cn cs L a ccd cl outer, envX cn cs L a ccd cl, envX cn cs L a ccd cl, h₀, L, news, E, none⟩ m ⟨[], [], s.heap, s.toks, s.gens⟩ [.bytes b tb, .str (Str.ofString "best") tm, .str (Str.ofString "crc32") tk] s _ h1 ⟨F, N, Led.bare⟩ (.cons ⟨_, _, rfl, hb0⟩ (.cons ⟨_, rfl⟩ (.cons ⟨_, rfl⟩ .nil)))
    ⟨rfl, ⟨outer, A₀, base, rfl, B⟩, rfl, hkd, by show dp + _ < _; omega, by show un + _ + 70 < _; omega, X, T, hgd⟩ fun r z' e1 r1 H1 => ?_)
  have hgen : z'.g = s.gens := e1.gq.2 (Nat.eq_of_beq_eq_true h7)
  have e0 : z'.sh s = { s with heap := z'.h, toks := z'.tk } := by unfold Zs.sh; rw [hgen]
  show Q r (z'.sh s)
  rw [e0]
  refine zac h3 fun k so i1 ia => ?_
  refine zac ia fun Cl d i2 ib => ?_
  refine zab ib fun so' i3 ic => ?_
  refine zag ic fun l i4 hq => ?_
  clear h3 ia ib ic
  subst hq
  have hC' : Cl = C := hC
  clear hC
  subst hC'
  have hat' : l = at0 := hat
  clear hat
  subst hat'
  obtain ⟨j1, j2⟩ := zas i1
  rw [zsb i2] at j2
  rw [zao, zse i4] at i3
  obtain ⟨X', o, rfl, hx, hkk, hm, D, hD, rfl⟩ := H1.ob r1 ⟨j1, j2⟩
  obtain ⟨D', od, e, hD', hkD, hmD, es, n, rfl, hr⟩ := H1.obj (V := .ref D) ⟨D, hD, rfl⟩ i3
  cases e
  have hne : k ≠ d := fun e => by rw [e, i3] at j2; cases j2
  have hN : ∀ p ∈ (X', ({ cls := .ref Cl, dict := some D, data := .plain } : Obj)) :: (D, ({ cls := .type "dict", data := .dict es.toArray n } : Obj)) :: news, p ∈ z'.nw ++ news := fun p hp => by
    rcases List.mem_cons.mp hp with rfl | hp
    · exact hm
    · rcases List.mem_cons.mp hp with rfl | hp
      · exact hmD
      · exact List.mem_append.mpr (.inr hp)
  exact hret _ _ _ _ ⟨X', D, _, _, rfl, rfl, ⟨rfl, es, n, rfl, hr.atoms h6⟩, fun p hp => H1.led.sep p hp _ (List.mem_of_getElem? hkk), fun p hp => H1.led.sep p hp _ (List.mem_of_getElem? hkD), H1.led.ne hne hkk hkD⟩ H1.F fun p hp => H1.N p (hN p hp)
noncomputable def msO3 (f0 C : Addr) (MT : List (List Int × List (Str × SV))) : Orc := fun f vs g => zad (Nat.beq f f0) (match vs with
  | v :: n :: r => (two r).bind fun q => (vB v).bind fun l => (vI n).bind fun n => (vS q.1).bind fun m => (vS q.2).bind fun k => zad (decide (n = 4096) && sq m "best" && sq k "crc32") (match l with
    | [] => some (SV.obj g.σ.length, ⟨g.σ ++ [.list []], g.τ ++ [0], g.γ + 1⟩)
    | _ :: _ => (zaw leqI MT l).map fun at0 => (SV.obj (g.σ.length + 2), ⟨g.σ ++ [.att at0] ++ [.inst C g.σ.length] ++ [.list [.obj (g.σ.length + 1)]], g.τ ++ [0] ++ [0] ++ [0], g.γ + 1⟩))
  | _ => none)
theorem msO3_ok {f0 C : Addr} {MT : List (List Int × List (Str × SV))} (hms : ∀ l a, zaw leqI MT l = some a → ∀ b, KBw.bInts b = l → MsX f0 b (MsO2 Γ.w.params C a) Γ.prog Γ.w Γ.K Γ.p Γ.loose Γ.mean Γ.mg Γ.mb) (hmn : MsX f0 #[] MsN2 Γ.prog Γ.w Γ.K Γ.p Γ.loose Γ.mean Γ.mg Γ.mb) : zbf Γ (msO3 f0 C MT) 144 := by
  intro f vs g v g' c M z Vs s R h H hv Cc G
  refine zaa h fun hf hx0 => ?_
  clear h
  have hf' := Nat.eq_of_beq_eq_true hf
  clear hf
  subst hf'
  cases hv with
  | nil => cases hx0
  | cons r1 hv =>
    cases hv with
    | nil => cases hx0
    | cons r2 hv =>
      refine zab hx0 fun q h1 hx1 => ?_
      refine zab hx1 fun l h2 hx2 => ?_
      refine zab hx2 fun n h4 hx4 => ?_
      refine zab hx4 fun m5 h5 hx5 => ?_
      refine zab hx5 fun k6 h6 hx6 => ?_
      refine zaa hx6 fun h7 hx7 => ?_
      clear hx0 hx1 hx2 hx4 hx5 hx6
      refine zae h7 fun h7a h10 => ?_
      clear h7
      refine zae h7a fun h7b h11 => ?_
      clear h7a
      obtain rfl := of_decide_eq_true h7b
      rw [zfn h2] at r1
      rw [zay h4] at r2
      rw [zbw h1, c6 h5, c6 h6, zbh.mp h10, zbh.mp h11] at hv
      obtain ⟨b, tb, rfl, hb⟩ := r1
      obtain ⟨ts, rfl⟩ := r2
      rcases hv with _ | ⟨⟨tm, rfl⟩, hv⟩
      rcases hv with _ | ⟨⟨tk, rfl⟩, hv⟩
      cases hv
      obtain ⟨outer, A₀, base, hfr, B⟩ := Cc.stk
      have hd := Cc.dep
      have hu := Cc.uni
      have hA : c.A = { handled := none, depth := c.A.depth, frames := some (c.fenv :: outer), guards := c.A.guards, units := c.A.units } := by
        have h1 := Cc.hand
        rcases hA : c.A with ⟨a1, a2, a3, a4, a5⟩
        rw [hA] at h1 hfr
        have h1' : _ = none := h1
        have hfr' : _ = some (c.fenv :: outer) := hfr
        simp only at h1 hfr
        rw [h1, hfr]
      rw [hA]
      cases l with
      | nil =>
        cases hx7
        have hb' : b = #[] := Array.eq_empty_of_size_eq_zero (by rw [← KBw.ints_length, hb]; rfl)
        subst hb'
        refine hmn tb ts tm tk (z.nw ++ c.rest) c.A.depth c.A.units c.A.guards c.fenv outer A₀ base c.h₀ c.L M (z.sh s) R Cc.fr Cc.fk B H.F Cc.X H.N Cc.T (by omega) (by omega) fun r news' h' tk' gg hg hout F' N' => ?_
        obtain ⟨R', rfl, rfl, ho⟩ := hout
        have led1 : Led Γ c.rest (mkO (.list []) g).2 (z.ρ ++ [R']) (z.nw ++ [(R', listOf #[] 0)]) := H.led.push (fun p hp => ho p (List.mem_append.mpr (.inl hp))) (fun p hp => ho p (List.mem_append.mpr (.inr hp))) (fun e => nomatch e) ⟨[], 0, rfl, .nil⟩
        have ex := (H.led.exNew (so := .list []) (D := R') (o := listOf #[] 0) (h' := h') (tk := tk'))
        refine G (.ref R') ⟨z.ρ ++ [R'], _, h', tk', gg⟩ ⟨ex.ext, ex.stp, hg, Nat.le_succ _, fun e => absurd e (Nat.succ_ne_self _)⟩ ⟨R', by rw [← H.led.size]; simp, rfl⟩ ⟨F', fun p hp => N' p ?_, ⟨led1.map, led1.nd, led1.lo, led1.len, led1.obj, led1.sep, led1.tl⟩⟩
        rcases List.mem_append.mp hp with hp | hp
        · rcases List.mem_append.mp hp with hp | hp
          · exact .tail _ (List.mem_append.mpr (.inl hp))
          · rw [List.mem_singleton.mp hp]; exact .head _
        · exact .tail _ (List.mem_append.mpr (.inr hp))
      | cons i0 l0 =>
        refine zag hx7 fun a h8 h9 => ?_
        cases h9
        refine hms _ a h8 b hb tb ts tm tk (z.nw ++ c.rest) c.A.depth c.A.units c.A.guards c.fenv outer A₀ base c.h₀ c.L M (z.sh s) R Cc.fr Cc.fk B H.F Cc.X H.N Cc.T (by omega) (by omega) fun r news' h' tk' gg hg hout F' N' => ?_
        obtain ⟨R', X, D, o, od, rfl, rfl, ⟨rfl, es, nn, rfl, hr⟩, ho2, ho3⟩ := hout
        have led1 : Led Γ c.rest (mkO (.att (a)) g).2 (z.ρ ++ [D]) (z.nw ++ [(D, _)]) := H.led.push (fun p hp => ho2.2.1 p (List.mem_append.mpr (.inl hp))) (fun p hp => ho2.2.1 p (List.mem_append.mpr (.inr hp))) (fun e => nomatch e) ⟨es, nn, rfl, hr.any⟩
        have led2 : Led Γ c.rest (mkO (.inst C g.σ.length) (mkO (.att (a)) g).2).2 (z.ρ ++ [D] ++ [X]) (z.nw ++ [(D, _)] ++ [(X, _)]) := led1.push (fun p hp => by
          rcases List.mem_append.mp hp with hp | hp
          · exact ho2.1 p (List.mem_append.mpr (.inl hp))
          · rw [List.mem_singleton.mp hp]; exact Ne.symm ho2.2.2) (fun p hp => ho2.1 p (List.mem_append.mpr (.inr hp))) (fun e => nomatch e) ⟨D, by rw [← H.led.size]; simp, rfl⟩
        have led3 : Led Γ c.rest (mkO (.list [.obj (g.σ.length + 1)]) (mkO (.inst C g.σ.length) (mkO (.att (a)) g).2).2).2 (z.ρ ++ [D] ++ [X] ++ [R']) (z.nw ++ [(D, _)] ++ [(X, _)] ++ [(R', listOf #[.ref X] 1)]) := led2.push (fun p hp => by
          rcases List.mem_append.mp hp with hp | hp
          · rcases List.mem_append.mp hp with hp | hp
            · exact ho3.2.2 p (List.mem_append.mpr (.inl hp))
            · rw [List.mem_singleton.mp hp]; exact Ne.symm ho3.2.1
          · rw [List.mem_singleton.mp hp]; exact Ne.symm ho3.1) (fun p hp => ho3.2.2 p (List.mem_append.mpr (.inr hp))) (fun e => nomatch e) ⟨[.ref X], 1, rfl, .cons ⟨X, by rw [← H.led.size]; simp, rfl⟩ .nil⟩
        have ex := ((H.led.exNew (so := .att (a)) (D := D) (o := { cls := .type "dict", data := .dict es.toArray nn }) (h' := h') (tk := tk')).trans (led1.exNew (z := ⟨z.ρ ++ [D], _, h', tk', z.g⟩) (so := .inst C g.σ.length) (D := X) (o := { cls := .ref C, dict := some D, data := .plain }) (h' := h') (tk := tk'))).trans (led2.exNew (z := ⟨z.ρ ++ [D] ++ [X], _, h', tk', z.g⟩) (so := .list [.obj (g.σ.length + 1)]) (D := R') (o := listOf #[.ref X] 1) (h' := h') (tk := tk'))
        refine G (.ref R') ⟨z.ρ ++ [D] ++ [X] ++ [R'], _, h', tk', gg⟩ ⟨ex.ext, ex.stp, hg, Nat.le_succ _, fun e => absurd e (Nat.succ_ne_self _)⟩ ⟨R', by rw [← H.led.size]; simp, rfl⟩ ⟨F', fun p hp => N' p ?_, ⟨led3.map, led3.nd, led3.lo, led3.len, led3.obj, led3.sep, led3.tl⟩⟩
        rcases List.mem_append.mp hp with hp | hp
        · rcases List.mem_append.mp hp with hp | hp
          · rcases List.mem_append.mp hp with hp | hp
            · rcases List.mem_append.mp hp with hp | hp
              · exact .tail _ (.tail _ (.tail _ (List.mem_append.mpr (.inl hp))))
              · rw [List.mem_singleton.mp hp]; exact .tail _ (.tail _ (.head _))
            · rw [List.mem_singleton.mp hp]; exact .tail _ (.head _)
          · rw [List.mem_singleton.mp hp]; exact .head _
        · exact .tail _ (.tail _ (.tail _ (List.mem_append.mpr (.inr hp))))
end
noncomputable def zlg (orc : Orc) : Orc := fun f vs g => zad (vs.all zcw) (zaf (orc f vs ⟨[], [], 0⟩) fun v g1 => zad (zcw v && Nat.beq g1.γ 0) (some (v, g)))
theorem RVs.atoms {ρ : List Addr} {l : List SV} {L : List Value} (r : RVs ρ l L) (h : l.all zcw = true) : RVs [] l L := by
  induction r with
  | nil => exact .nil
  | cons a _ ih =>
    refine zae (show (zcw _ && List.all _ zcw) = true from h) fun h1 h2 => ?_
    exact .cons (a.atom h1) (ih h2)
theorem zub {Γ : Gm} {orc : Orc} {kf : Nat} (O : zbf Γ orc kf) : zbf Γ (zlg orc) kf := by
  intro f vs g v g' c M z Vs s R h H hv C G
  refine zaa h fun ha h1 => ?_
  refine zac h1 fun p1 p2 h2 h3 => ?_
  refine zaa h3 fun hg h4 => ?_
  cases h4
  refine zae hg fun ha2 hγ => ?_
  refine O f vs ⟨[], [], 0⟩ v p2 { c with rest := z.nw ++ c.rest } M ⟨[], [], z.h, z.tk, z.g⟩ Vs s R h2 ⟨H.F, H.N, Led.bare⟩ (hv.atoms ha) ⟨C.hand, C.stk, C.fr, C.fk, C.dep, C.uni, C.X, C.T, C.gd⟩ fun r z' e1 r1 H1 => ?_
  have hgen : z'.g = z.g := e1.gq.2 (Nat.eq_of_beq_eq_true hγ)
  have e0 : z'.sh s = (⟨z.ρ, z.nw, z'.h, z'.tk, z.g⟩ : Zs).sh s := by unfold Zs.sh; rw [hgen]
  rw [e0]
  exact G r ⟨z.ρ, z.nw, z'.h, z'.tk, z.g⟩ Ex.same ((r1.atom ha2).mono fun k a e => by cases e) ⟨H1.F, fun q hq => H1.N q (List.mem_append.mpr (.inr hq)), H.led⟩
noncomputable def orcP (K : Frag) (gd : List Addr) (T : List FnE) (PL : List Addr) (N : Nat) (o0 : Orc) : Nat → Orc
  | 0 => o0
  | d + 1 => fun f vs g => match o0 f vs g with
    | some r => some r
    | none => match memA f PL && vs.all zcw with
      | true => zlg (zdf K gd T N (orcP K gd T PL N o0 d)) f vs g
      | false => zdf K gd T N (orcP K gd T PL N o0 d) f vs g
theorem zec {Γ : Gm} {N : Nat} {T : List FnE} {PL : List Addr} {o0 : Orc} {k0 : Nat} (HB : ∀ e ∈ T, BindOK Γ.K e) (O0 : zbf Γ o0 k0) : ∀ d, zbf Γ (orcP Γ.K Γ.gd T PL N o0 d) (k0 + 2 * d)
  | 0 => O0
  | d + 1 => by
    have hf : zbf Γ (zdf Γ.K Γ.gd T N (orcP Γ.K Γ.gd T PL N o0 d)) (k0 + 2 * d + 2) := fun f vs g v g' c M z Vs s R h H hv C G => zgx HB (zec HB O0 d) f vs g v g' c M z Vs s R h H hv C G
    intro f vs g v g' c M z Vs s R h H hv C G
    have h' : (match o0 f vs g with
      | some r => some r
      | none => match memA f PL && vs.all zcw with
        | true => zlg (zdf Γ.K Γ.gd T N (orcP Γ.K Γ.gd T PL N o0 d)) f vs g
        | false => zdf Γ.K Γ.gd T N (orcP Γ.K Γ.gd T PL N o0 d) f vs g) = some (v, g') := h
    cases e : o0 f vs g with
    | some r =>
      rw [e] at h'
      cases h'
      exact O0 f vs g v g' c M z Vs s R e H hv (C.less (by omega)) G
    | none =>
      rw [e] at h'
      have h2 : (match memA f PL && vs.all zcw with
        | true => zlg (zdf Γ.K Γ.gd T N (orcP Γ.K Γ.gd T PL N o0 d)) f vs g
        | false => zdf Γ.K Γ.gd T N (orcP Γ.K Γ.gd T PL N o0 d) f vs g) = some (v, g') := h'
      cases q : memA f PL && vs.all zcw with
      | true => rw [q] at h2; exact zub hf f vs g v g' c M z Vs s R h2 H hv C G
      | false => rw [q] at h2; exact hf f vs g v g' c M z Vs s R h2 H hv C G
end
end Mine
namespace Mine
noncomputable def KX (P : Params) : Frag := (nat_lit 0, boot_o_0 P) :: (nat_lit 1, boot_o_1 P) :: (nat_lit 2, boot_o_2 P) :: (nat_lit 3, x3_22 P) :: (nat_lit 4, boot_o_4 P) :: (nat_lit 5, boot_o_5 P) :: (nat_lit 6, boot_o_6 P) :: (nat_lit 7, boot_o_7 P) :: (nat_lit 8, boot_o_8 P) :: (nat_lit 9, boot_o_9 P) :: (nat_lit 10, boot_o_10 P) :: (nat_lit 11, ztq P) :: (nat_lit 12, zqn P) :: (nat_lit 13, ztp P) :: (nat_lit 14, zto P) :: (nat_lit 15, ztn P) :: (nat_lit 31, ztm P) :: (nat_lit 37, ztl P) :: (nat_lit 38, ztk P) :: (nat_lit 44, ztj P) :: (nat_lit 50, zti P) :: (nat_lit 51, zth P) :: (nat_lit 56, ztg P) :: (nat_lit 62, ztf P) :: (nat_lit 63, zte P) :: (nat_lit 68, ztd P) :: (nat_lit 74, ztc P) :: (nat_lit 75, ztb P) :: (nat_lit 80, zta P) :: (nat_lit 93, t6 P) :: (nat_lit 94, t5 P) :: (nat_lit 99, zsz P) :: (nat_lit 109, ziq P) :: (nat_lit 110, zio P) :: (nat_lit 116, zin P) :: (nat_lit 117, zim P) :: (nat_lit 123, zil P) :: (nat_lit 124, zik P) :: (nat_lit 137, zij P) :: (nat_lit 138, zii P) :: (nat_lit 158, zih P) :: (nat_lit 159, zig P) :: (nat_lit 161, zif P) :: (nat_lit 162, zie P) :: (nat_lit 169, zid P) :: (nat_lit 238, zic P) :: (nat_lit 239, zib P) :: (nat_lit 249, zna P) :: (nat_lit 250, n8 P) :: (nat_lit 256, n7 P) :: (nat_lit 257, n6 P) :: (nat_lit 263, n5 P) :: (nat_lit 264, n4 P) :: (nat_lit 270, n3 P) :: (nat_lit 271, n1 P) :: (nat_lit 277, n0 P) :: (nat_lit 278, zmz P) :: (nat_lit 284, zmy P) :: (nat_lit 285, zmx P) :: (nat_lit 291, zmw P) :: (nat_lit 292, zmv P) :: (nat_lit 301, ls 256) :: (nat_lit 1330, ⟨(.type "tuple"), none, .seq #[(.int 0 17467)] 0, #[]⟩) :: (nat_lit 1336, ⟨(.type "code"), none, .fields #[(vs "crc32" 17468), (vs "crc32" 17469), (vs "/claim/cut.py" 17470), (.int 201 0), (.int 2 0), (.int 0 0), (.int 0 0), (.int 3 0), (.ref 1331), (.bool true), (.int 181 0), (.ref 1332), .none, (.ref 1333), (.ref 1334), (.ref 1335), (.int 17475 0), (.int 201 0), (vs "/claim/cut.py" 17476)], #[]⟩) :: (nat_lit 1337, ⟨(.type "function"), none, fo (S 22) (q "crc32") (.ref 1330) .none .none (vs "packkit.checks" 552) none (.ref 1336) .none 3 0, #[]⟩) :: (nat_lit 1370, ⟨(.type "list"), none, .seq #[(vs "none" 17524), (vs "xor8" 17525), (vs "sum8" 17526), (vs "fletcher16" 17527), (vs "adler32" 17528), (vs "crc32" 17529)] 0, #[]⟩) :: (nat_lit 1371, ⟨(.type "dict"), none, .dict #[en P "none" 17531 (.int 0 17532), en P "xor8" 17533 (.int 1 17534), en P "sum8" 17535 (.int 1 17536), en P "fletcher16" 17537 (.int 2 17538), en P "adler32" 17539 (.int 4 17540), en P "crc32" 17541 (.int 4 17542)] 6, #[]⟩) :: (nat_lit 1377, ⟨(.type "code"), none, .fields #[(vs "width" 17550), (vs "width" 17551), (vs "/claim/cut.py" 17552), (.int 232 0), (.int 1 0), (.int 0 0), (.int 0 0), (.int 3 0), (.ref 1372), (.bool true), (.int 181 0), (.ref 1373), .none, (.ref 1374), (.ref 1375), (.ref 1376), (.int 17554 0), (.int 232 0), (vs "/claim/cut.py" 17555)], #[]⟩) :: (nat_lit 1378, ⟨(.type "function"), none, fo (S 29) (q "width") .none .none .none (vs "packkit.checks" 552) none (.ref 1377) .none 3 0, #[]⟩) :: (nat_lit 1384, ⟨(.type "code"), none, .fields #[(vs "first" 17557), (vs "first" 17558), (vs "/claim/cut.py" 17559), (.int 236 0), (.int 1 0), (.int 0 0), (.int 0 0), (.int 3 0), (.ref 1379), (.bool true), (.int 181 0), (.ref 1380), .none, (.ref 1381), (.ref 1382), (.ref 1383), (.int 17561 0), (.int 236 0), (vs "/claim/cut.py" 17562)], #[]⟩) :: (nat_lit 1385, ⟨(.type "function"), none, fo (S 30) (q "first") .none .none .none (vs "packkit.checks" 552) none (.ref 1384) .none 3 0, #[]⟩) :: (nat_lit 1391, ⟨(.type "code"), none, .fields #[(vs "go_on" 17564), (vs "go_on" 17565), (vs "/claim/cut.py" 17566), (.int 241 0), (.int 3 0), (.int 0 0), (.int 0 0), (.int 3 0), (.ref 1386), (.bool true), (.int 181 0), (.ref 1387), .none, (.ref 1388), (.ref 1389), (.ref 1390), (.int 17570 0), (.int 241 0), (vs "/claim/cut.py" 17571)], #[]⟩) :: (nat_lit 1392, ⟨(.type "function"), none, fo (S 31) (q "go_on") .none .none .none (vs "packkit.checks" 552) none (.ref 1391) .none 3 0, #[]⟩) :: (nat_lit 1398, ⟨(.type "code"), none, .fields #[(vs "check" 17573), (vs "check" 17574), (vs "/claim/cut.py" 17575), (.int 254 0), (.int 2 0), (.int 0 0), (.int 0 0), (.int 3 0), (.ref 1393), (.bool true), (.int 181 0), (.ref 1394), .none, (.ref 1395), (.ref 1396), (.ref 1397), (.int 17578 0), (.int 254 0), (vs "/claim/cut.py" 17579)], #[]⟩) :: (nat_lit 1399, ⟨(.type "function"), none, fo (S 32) (q "check") .none .none .none (vs "packkit.checks" 552) none (.ref 1398) .none 3 0, #[]⟩) :: (nat_lit 1405, ⟨(.type "code"), none, .fields #[(vs "split_runs" 17585), (vs "split_runs" 17586), (vs "/claim/cut.py" 17587), (.int 258 0), (.int 1 0), (.int 0 0), (.int 0 0), (.int 3 0), (.ref 1400), (.bool true), (.int 181 0), (.ref 1401), .none, (.ref 1402), (.ref 1403), (.ref 1404), (.int 17593 0), (.int 258 0), (vs "/claim/cut.py" 17594)], #[]⟩) :: (nat_lit 1406, ⟨(.type "function"), none, fo (S 35) (q "split_runs") .none .none .none (vs "packkit.runs" 17581) none (.ref 1405) .none 3 0, #[]⟩) :: (nat_lit 1412, ⟨(.type "code"), none, .fields #[(vs "_literals" 17596), (vs "_literals" 17597), (vs "/claim/cut.py" 17598), (.int 269 0), (.int 2 0), (.int 0 0), (.int 0 0), (.int 3 0), (.ref 1407), (.bool true), (.int 181 0), (.ref 1408), .none, (.ref 1409), (.ref 1410), (.ref 1411), (.int 17603 0), (.int 269 0), (vs "/claim/cut.py" 17604)], #[]⟩) :: (nat_lit 1413, ⟨(.type "function"), none, fo (S 36) (q "_literals") .none .none .none (vs "packkit.runs" 17581) none (.ref 1412) .none 3 0, #[]⟩) :: (nat_lit 1419, ⟨(.type "code"), none, .fields #[(vs "pack" 17606), (vs "pack" 17607), (vs "/claim/cut.py" 17608), (.int 276 0), (.int 1 0), (.int 0 0), (.int 0 0), (.int 3 0), (.ref 1414), (.bool true), (.int 181 0), (.ref 1415), .none, (.ref 1416), (.ref 1417), (.ref 1418), (.int 17615 0), (.int 276 0), (vs "/claim/cut.py" 17616)], #[]⟩) :: (nat_lit 1420, ⟨(.type "function"), none, fo (S 37) (q "pack") .none .none .none (vs "packkit.runs" 17581) none (.ref 1419) .none 3 0, #[]⟩) :: (nat_lit 1433, ⟨(.type "code"), none, .fields #[(vs "count_bytes" 17635), (vs "count_bytes" 17636), (vs "/claim/cut.py" 17637), (.int 314 0), (.int 1 0), (.int 0 0), (.int 0 0), (.int 3 0), (.ref 1428), (.bool true), (.int 181 0), (.ref 1429), .none, (.ref 1430), (.ref 1431), (.ref 1432), (.int 17641 0), (.int 314 0), (vs "/claim/cut.py" 17642)], #[]⟩) :: (nat_lit 1434, ⟨(.type "function"), none, fo (S 43) (q "count_bytes") .none .none .none (vs "packkit.huffman" 17631) none (.ref 1433) .none 3 0, #[]⟩) :: (nat_lit 1440, ⟨(.type "code"), none, .fields #[(vs "_depths" 17644), (vs "_depths" 17645), (vs "/claim/cut.py" 17646), (.int 319 0), (.int 1 0), (.int 0 0), (.int 0 0), (.int 3 0), (.ref 1435), (.bool true), (.int 181 0), (.ref 1436), .none, (.ref 1437), (.ref 1438), (.ref 1439), (.int 17658 0), (.int 319 0), (vs "/claim/cut.py" 17659)], #[]⟩) :: (nat_lit 1441, ⟨(.type "function"), none, fo (S 44) (q "_depths") .none .none .none (vs "packkit.huffman" 17631) none (.ref 1440) .none 3 0, #[]⟩) :: (nat_lit 1442, ⟨(.type "tuple"), none, .seq #[(.int 15 17633)] 0, #[]⟩) :: (nat_lit 1446, ⟨(.type "code"), none, .fields #[(vs "code_lengths" 17661), (vs "code_lengths" 17662), (vs "/claim/cut.py" 17663), (.int 342 0), (.int 2 0), (.int 0 0), (.int 0 0), (.int 3 0), (.ref 1443), (.bool true), (.int 181 0), (.ref 1444), .none, .none, .none, (.ref 1445), (.int 17664 0), (.int 342 0), (vs "/claim/cut.py" 17665)], #[]⟩) :: (nat_lit 1447, ⟨(.type "function"), none, fo (S 45) (q "code_lengths") (.ref 1442) .none .none (vs "packkit.huffman" 17631) none (.ref 1446) .none 3 0, #[]⟩) :: (nat_lit 1460, ⟨(.type "code"), none, .fields #[(vs "canonical" 17676), (vs "canonical" 17677), (vs "/claim/cut.py" 17678), (.int 372 0), (.int 1 0), (.int 0 0), (.int 0 0), (.int 3 0), (.ref 1455), (.bool true), (.int 181 0), (.ref 1456), .none, (.ref 1457), (.ref 1458), (.ref 1459), (.int 17686 0), (.int 372 0), (vs "/claim/cut.py" 17687)], #[]⟩) :: (nat_lit 1461, ⟨(.type "function"), none, fo (S 47) (q "canonical") .none .none .none (vs "packkit.huffman" 17631) none (.ref 1460) .none 3 0, #[]⟩) :: (nat_lit 1464, ⟨(.type "dict"), none, .dict #[en P "__module__" 17696 (vs "packkit.huffman" 17631), en P "__qualname__" 17698 (vs "Decoder" 17697), en P "__firstlineno__" 17700 (.int 387 17699), en P "__init__" 17712 (.ref 1475), en P "symbol" 17722 (.ref 1482), en P "__static_attributes__" 17724 (.ref 1483)] 6, #[]⟩) :: (nat_lit 1484, ⟨(.type "dict"), none, .dict #[en P "__module__" 17696 (vs "packkit.huffman" 17631), en P "__firstlineno__" 17700 (.int 387 17699), en P "__init__" 17712 (.ref 1475), en P "symbol" 17722 (.ref 1482), en P "__static_attributes__" 17724 (.ref 1483), en P "__dict__" 17726 (.ref 1486), en P "__weakref__" 17728 (.ref 1487), en P "__doc__" 17729 .none] 4, #[]⟩) :: (nat_lit 1485, ⟨(.type "type"), none, .cls { name := (q "Decoder"), bases := [(.type "object")], mro := [(.ref 1485), (.type "object")], ns := 1484, qualname := (q "Decoder"), hasDict := true, slotNames := [], subclasses := [], abstract := false, collection := .none, hasDel := false }, #[none, none, some (vs "Decoder" 17689), some (vs "Decoder" 17697), some (.builtin "object.__new__"), some (.bool true)]⟩) :: (nat_lit 1495, ⟨(.type "code"), none, .fields #[(vs "write_lengths" 17732), (vs "write_lengths" 17733), (vs "/claim/cut.py" 17734), (.int 405 0), (.int 2 0), (.int 0 0), (.int 0 0), (.int 3 0), (.ref 1490), (.bool true), (.int 181 0), (.ref 1491), .none, (.ref 1492), (.ref 1493), (.ref 1494), (.int 17740 0), (.int 405 0), (vs "/claim/cut.py" 17741)], #[]⟩) :: (nat_lit 1496, ⟨(.type "function"), none, fo (S 49) (q "write_lengths") .none .none .none (vs "packkit.huffman" 17631) none (.ref 1495) .none 3 0, #[]⟩) :: (nat_lit 1509, ⟨(.type "code"), none, .fields #[(vs "pack" 17754), (vs "pack" 17755), (vs "/claim/cut.py" 17756), (.int 431 0), (.int 1 0), (.int 0 0), (.int 0 0), (.int 3 0), (.ref 1504), (.bool true), (.int 181 0), (.ref 1505), .none, (.ref 1506), (.ref 1507), (.ref 1508), (.int 17765 0), (.int 431 0), (vs "/claim/cut.py" 17766)], #[]⟩) :: (nat_lit 1510, ⟨(.type "function"), none, fo (S 51) (q "pack") .none .none .none (vs "packkit.huffman" 17631) none (.ref 1509) .none 3 0, #[]⟩) :: (nat_lit 1523, ⟨(.type "code"), none, .fields #[(vs "_common" 17793), (vs "_common" 17794), (vs "/claim/cut.py" 17795), (.int 464 0), (.int 4 0), (.int 0 0), (.int 0 0), (.int 3 0), (.ref 1518), (.bool true), (.int 181 0), (.ref 1519), .none, (.ref 1520), (.ref 1521), (.ref 1522), (.int 17801 0), (.int 464 0), (vs "/claim/cut.py" 17802)], #[]⟩) :: (nat_lit 1524, ⟨(.type "function"), none, fo (S 60) (q "_common") .none .none .none (vs "packkit.lz77" 17783) none (.ref 1523) .none 3 0, #[]⟩) :: (nat_lit 1527, ⟨(.type "dict"), none, .dict #[en P "__module__" 17811 (vs "packkit.lz77" 17783), en P "__qualname__" 17813 (vs "Finder" 17812), en P "__firstlineno__" 17815 (.int 469 17814), en P "__init__" 17824 (.ref 1538), en P "add" 17833 (.ref 1545), en P "best" 17849 (.ref 1552), en P "__static_attributes__" 17853 (.ref 1553)] 7, #[]⟩) :: (nat_lit 1537, ⟨(.type "code"), none, .fields #[(vs "__init__" 17816), (vs "Finder.__init__" 17817), (vs "/claim/cut.py" 17818), (.int 471 0), (.int 3 0), (.int 0 0), (.int 0 0), (.int 3 0), (.ref 1532), (.bool true), (.int 181 0), (.ref 1533), .none, (.ref 1534), (.ref 1535), (.ref 1536), (.int 17822 0), (.int 471 0), (vs "/claim/cut.py" 17823)], #[]⟩) :: (nat_lit 1538, ⟨(.type "function"), none, fo (C 61 0) (q "Finder.__init__") .none .none .none (vs "packkit.lz77" 17783) none (.ref 1537) .none 3 0, #[]⟩) :: (nat_lit 1544, ⟨(.type "code"), none, .fields #[(vs "add" 17825), (vs "Finder.add" 17826), (vs "/claim/cut.py" 17827), (.int 476 0), (.int 2 0), (.int 0 0), (.int 0 0), (.int 3 0), (.ref 1539), (.bool true), (.int 181 0), (.ref 1540), .none, (.ref 1541), (.ref 1542), (.ref 1543), (.int 17831 0), (.int 476 0), (vs "/claim/cut.py" 17832)], #[]⟩) :: (nat_lit 1545, ⟨(.type "function"), none, fo (C 61 1) (q "Finder.add") .none .none .none (vs "packkit.lz77" 17783) none (.ref 1544) .none 3 0, #[]⟩) :: (nat_lit 1551, ⟨(.type "code"), none, .fields #[(vs "best" 17834), (vs "Finder.best" 17835), (vs "/claim/cut.py" 17836), (.int 483 0), (.int 2 0), (.int 0 0), (.int 0 0), (.int 3 0), (.ref 1546), (.bool true), (.int 181 0), (.ref 1547), .none, (.ref 1548), (.ref 1549), (.ref 1550), (.int 17847 0), (.int 483 0), (vs "/claim/cut.py" 17848)], #[]⟩) :: (nat_lit 1552, ⟨(.type "function"), none, fo (C 61 2) (q "Finder.best") .none .none .none (vs "packkit.lz77" 17783) none (.ref 1551) .none 3 0, #[]⟩) :: (nat_lit 1554, ⟨(.type "dict"), none, .dict #[en P "__module__" 17811 (vs "packkit.lz77" 17783), en P "__firstlineno__" 17815 (.int 469 17814), en P "__init__" 17824 (.ref 1538), en P "add" 17833 (.ref 1545), en P "best" 17849 (.ref 1552), en P "__static_attributes__" 17853 (.ref 1553), en P "__dict__" 17855 (.ref 1556), en P "__weakref__" 17857 (.ref 1557), en P "__doc__" 17858 .none] 4, #[]⟩) :: (nat_lit 1555, ⟨(.type "type"), none, .cls { name := (q "Finder"), bases := [(.type "object")], mro := [(.ref 1555), (.type "object")], ns := 1554, qualname := (q "Finder"), hasDict := true, slotNames := [], subclasses := [], abstract := false, collection := .none, hasDel := false }, #[none, none, some (vs "Finder" 17804), some (vs "Finder" 17812), some (.builtin "object.__new__"), some (.bool true)]⟩) :: (nat_lit 1560, ⟨(.type "tuple"), none, .seq #[(.int 4096 17785)] 0, #[]⟩) :: (nat_lit 1566, ⟨(.type "code"), none, .fields #[(vs "tokens" 17861), (vs "tokens" 17862), (vs "/claim/cut.py" 17863), (.int 502 0), (.int 2 0), (.int 0 0), (.int 0 0), (.int 3 0), (.ref 1561), (.bool true), (.int 181 0), (.ref 1562), .none, (.ref 1563), (.ref 1564), (.ref 1565), (.int 17872 0), (.int 502 0), (vs "/claim/cut.py" 17873)], #[]⟩) :: (nat_lit 1567, ⟨(.type "function"), none, fo (S 62) (q "tokens") (.ref 1560) .none .none (vs "packkit.lz77" 17783) none (.ref 1566) .none 3 0, #[]⟩) :: (nat_lit 1580, ⟨(.type "code"), none, .fields #[(vs "write_tokens" 17886), (vs "write_tokens" 17887), (vs "/claim/cut.py" 17888), (.int 531 0), (.int 1 0), (.int 0 0), (.int 0 0), (.int 3 0), (.ref 1575), (.bool true), (.int 181 0), (.ref 1576), .none, (.ref 1577), (.ref 1578), (.ref 1579), (.int 17897 0), (.int 531 0), (vs "/claim/cut.py" 17898)], #[]⟩) :: (nat_lit 1581, ⟨(.type "function"), none, fo (S 64) (q "write_tokens") .none .none .none (vs "packkit.lz77" 17783) none (.ref 1580) .none 3 0, #[]⟩) :: (nat_lit 1589, ⟨(.type "tuple"), none, .seq #[(.int 4096 17785)] 0, #[]⟩) :: (nat_lit 1595, ⟨(.type "code"), none, .fields #[(vs "pack" 17915), (vs "pack" 17916), (vs "/claim/cut.py" 17917), (.int 583 0), (.int 2 0), (.int 0 0), (.int 0 0), (.int 3 0), (.ref 1590), (.bool true), (.int 181 0), (.ref 1591), .none, (.ref 1592), (.ref 1593), (.ref 1594), (.int 17920 0), (.int 583 0), (vs "/claim/cut.py" 17921)], #[]⟩) :: (nat_lit 1596, ⟨(.type "function"), none, fo (S 66) (q "pack") (.ref 1589) .none .none (vs "packkit.lz77" 17783) none (.ref 1595) .none 3 0, #[]⟩) :: (nat_lit 1609, ⟨(.type "code"), none, .fields #[(vs "count_pairs" 17942), (vs "count_pairs" 17943), (vs "/claim/cut.py" 17944), (.int 593 0), (.int 1 0), (.int 0 0), (.int 0 0), (.int 3 0), (.ref 1604), (.bool true), (.int 181 0), (.ref 1605), .none, (.ref 1606), (.ref 1607), (.ref 1608), (.int 17949 0), (.int 593 0), (vs "/claim/cut.py" 17950)], #[]⟩) :: (nat_lit 1610, ⟨(.type "function"), none, fo (S 73) (q "count_pairs") .none .none .none (vs "packkit.pairs" 17934) none (.ref 1609) .none 3 0, #[]⟩) :: (nat_lit 1616, ⟨(.type "code"), none, .fields #[(vs "best_pair" 17952), (vs "best_pair" 17953), (vs "/claim/cut.py" 17954), (.int 604 0), (.int 1 0), (.int 0 0), (.int 0 0), (.int 3 0), (.ref 1611), (.bool true), (.int 181 0), (.ref 1612), .none, (.ref 1613), (.ref 1614), (.ref 1615), (.int 17960 0), (.int 604 0), (vs "/claim/cut.py" 17961)], #[]⟩) :: (nat_lit 1617, ⟨(.type "function"), none, fo (S 74) (q "best_pair") .none .none .none (vs "packkit.pairs" 17934) none (.ref 1616) .none 3 0, #[]⟩) :: (nat_lit 1623, ⟨(.type "code"), none, .fields #[(vs "replace_pair" 17963), (vs "replace_pair" 17964), (vs "/claim/cut.py" 17965), (.int 613 0), (.int 3 0), (.int 0 0), (.int 0 0), (.int 3 0), (.ref 1618), (.bool true), (.int 181 0), (.ref 1619), .none, (.ref 1620), (.ref 1621), (.ref 1622), (.int 17971 0), (.int 613 0), (vs "/claim/cut.py" 17972)], #[]⟩) :: (nat_lit 1624, ⟨(.type "function"), none, fo (S 75) (q "replace_pair") .none .none .none (vs "packkit.pairs" 17934) none (.ref 1623) .none 3 0, #[]⟩) :: (nat_lit 1630, ⟨(.type "code"), none, .fields #[(vs "unused" 17974), (vs "unused" 17975), (vs "/claim/cut.py" 17976), (.int 624 0), (.int 1 0), (.int 0 0), (.int 0 0), (.int 3 0), (.ref 1625), (.bool true), (.int 181 0), (.ref 1626), .none, (.ref 1627), (.ref 1628), (.ref 1629), (.int 17980 0), (.int 624 0), (vs "/claim/cut.py" 17981)], #[]⟩) :: (nat_lit 1631, ⟨(.type "function"), none, fo (S 76) (q "unused") .none .none .none (vs "packkit.pairs" 17934) none (.ref 1630) .none 3 0, #[]⟩) :: (nat_lit 1632, ⟨(.type "tuple"), none, .seq #[(.int 64 17936)] 0, #[]⟩) :: (nat_lit 1638, ⟨(.type "code"), none, .fields #[(vs "shorten" 17983), (vs "shorten" 17984), (vs "/claim/cut.py" 17985), (.int 632 0), (.int 2 0), (.int 0 0), (.int 0 0), (.int 3 0), (.ref 1633), (.bool true), (.int 181 0), (.ref 1634), .none, (.ref 1635), (.ref 1636), (.ref 1637), (.int 17994 0), (.int 632 0), (vs "/claim/cut.py" 17995)], #[]⟩) :: (nat_lit 1639, ⟨(.type "function"), none, fo (S 77) (q "shorten") (.ref 1632) .none .none (vs "packkit.pairs" 17934) none (.ref 1638) .none 3 0, #[]⟩) :: (nat_lit 1657, ⟨(.type "code"), none, .fields #[(vs "pack" 18016), (vs "pack" 18017), (vs "/claim/cut.py" 18018), (.int 663 0), (.int 1 0), (.int 0 0), (.int 0 0), (.int 3 0), (.ref 1652), (.bool true), (.int 181 0), (.ref 1653), .none, (.ref 1654), (.ref 1655), (.ref 1656), (.int 18026 0), (.int 663 0), (vs "/claim/cut.py" 18027)], #[]⟩) :: (nat_lit 1658, ⟨(.type "function"), none, fo (S 80) (q "pack") .none .none .none (vs "packkit.pairs" 17934) none (.ref 1657) .none 3 0, #[]⟩) :: (nat_lit 1685, ⟨(.type "code"), none, .fields #[(vs "_store" 18062), (vs "_store" 18063), (vs "/claim/cut.py" 18064), (.int 692 0), (.int 1 0), (.int 0 0), (.int 0 0), (.int 3 0), (.ref 1680), (.bool true), (.int 181 0), (.ref 1681), .none, (.ref 1682), (.ref 1683), (.ref 1684), (.int 18066 0), (.int 692 0), (vs "/claim/cut.py" 18067)], #[]⟩) :: (nat_lit 1686, ⟨(.type "function"), none, fo (S 87) (q "_store") .none .none .none (vs "packkit.methods" 18060) none (.ref 1685) .none 3 0, #[]⟩) :: (nat_lit 1692, ⟨(.type "code"), none, .fields #[(vs "_both" 18069), (vs "_both" 18070), (vs "/claim/cut.py" 18071), (.int 694 0), (.int 1 0), (.int 0 0), (.int 0 0), (.int 3 0), (.ref 1687), (.bool true), (.int 181 0), (.ref 1688), .none, (.ref 1689), (.ref 1690), (.ref 1691), (.int 18073 0), (.int 694 0), (vs "/claim/cut.py" 18074)], #[]⟩) :: (nat_lit 1693, ⟨(.type "function"), none, fo (S 88) (q "_both") .none .none .none (vs "packkit.methods" 18060) none (.ref 1692) .none 3 0, #[]⟩) :: (nat_lit 1701, ⟨(.type "list"), none, .seq #[(vs "store" 18083), (vs "runs" 18084), (vs "huffman" 18085), (vs "lz" 18086), (vs "pairs" 18087), (vs "lzhuff" 18088)] 0, #[]⟩) :: (nat_lit 1702, ⟨(.type "dict"), none, .dict #[en P "store" 18090 (.ref 1686), en P "runs" 18091 (.ref 1420), en P "huffman" 18092 (.ref 1510), en P "lz" 18093 (.ref 1596), en P "pairs" 18094 (.ref 1658), en P "lzhuff" 18095 (.ref 1693)] 6, #[]⟩) :: (nat_lit 1703, ⟨(.type "dict"), none, .dict #[en P "store" 18103 (.ref 1686), en P "runs" 18104 (.ref 1427), en P "huffman" 18105 (.ref 1517), en P "lz" 18106 (.ref 1603), en P "pairs" 18107 (.ref 1679), en P "lzhuff" 18108 (.ref 1700)] 6, #[]⟩) :: (nat_lit 1709, ⟨(.type "code"), none, .fields #[(vs "pack" 18116), (vs "pack" 18117), (vs "/claim/cut.py" 18118), (.int 701 0), (.int 2 0), (.int 0 0), (.int 0 0), (.int 3 0), (.ref 1704), (.bool true), (.int 181 0), (.ref 1705), .none, (.ref 1706), (.ref 1707), (.ref 1708), (.int 18121 0), (.int 701 0), (vs "/claim/cut.py" 18122)], #[]⟩) :: (nat_lit 1710, ⟨(.type "function"), none, fo (S 93) (q "pack") .none .none .none (vs "packkit.methods" 18060) none (.ref 1709) .none 3 0, #[]⟩) :: (nat_lit 1723, ⟨(.type "code"), none, .fields #[(vs "number_of" 18134), (vs "number_of" 18135), (vs "/claim/cut.py" 18136), (.int 711 0), (.int 1 0), (.int 0 0), (.int 0 0), (.int 3 0), (.ref 1718), (.bool true), (.int 181 0), (.ref 1719), .none, (.ref 1720), (.ref 1721), (.ref 1722), (.int 18138 0), (.int 711 0), (vs "/claim/cut.py" 18139)], #[]⟩) :: (nat_lit 1724, ⟨(.type "function"), none, fo (S 97) (q "number_of") .none .none .none (vs "packkit.methods" 18060) none (.ref 1723) .none 3 0, #[]⟩) :: (nat_lit 1730, ⟨(.type "code"), none, .fields #[(vs "name_of" 18141), (vs "name_of" 18142), (vs "/claim/cut.py" 18143), (.int 715 0), (.int 1 0), (.int 0 0), (.int 0 0), (.int 3 0), (.ref 1725), (.bool true), (.int 181 0), (.ref 1726), .none, (.ref 1727), (.ref 1728), (.ref 1729), (.int 18145 0), (.int 715 0), (vs "/claim/cut.py" 18146)], #[]⟩) :: (nat_lit 1731, ⟨(.type "function"), none, fo (S 98) (q "name_of") .none .none .none (vs "packkit.methods" 18060) none (.ref 1730) .none 3 0, #[]⟩) :: (nat_lit 1735, ⟨(.type "code"), none, .fields #[(vs "sizes" 18148), (vs "sizes" 18149), (vs "/claim/cut.py" 18150), (.int 719 0), (.int 1 0), (.int 0 0), (.int 0 0), (.int 3 0), (.ref 1732), (.bool true), (.int 181 0), (.ref 1733), .none, .none, .none, (.ref 1734), (.int 18151 0), (.int 719 0), (vs "/claim/cut.py" 18152)], #[]⟩) :: (nat_lit 1736, ⟨(.type "function"), none, fo (S 99) (q "sizes") .none .none .none (vs "packkit.methods" 18060) none (.ref 1735) .none 3 0, #[]⟩) :: (nat_lit 1742, ⟨(.type "code"), none, .fields #[(vs "shortest" 18154), (vs "shortest" 18155), (vs "/claim/cut.py" 18156), (.int 721 0), (.int 1 0), (.int 0 0), (.int 0 0), (.int 3 0), (.ref 1737), (.bool true), (.int 181 0), (.ref 1738), .none, (.ref 1739), (.ref 1740), (.ref 1741), (.int 18162 0), (.int 721 0), (vs "/claim/cut.py" 18163)], #[]⟩) :: (nat_lit 1743, ⟨(.type "function"), none, fo (S 100) (q "shortest") .none .none .none (vs "packkit.methods" 18060) none (.ref 1742) .none 3 0, #[]⟩) :: (nat_lit 1746, ⟨(.type "dict"), none, .dict #[en P "__module__" 18174 (vs "packkit.blocks" 18165), en P "__qualname__" 18176 (vs "Block" 18175), en P "__firstlineno__" 18178 (.int 730 18177), en P "__init__" 18190 (.ref 1757), en P "to_bytes" 18199 (.ref 1764), en P "data" 18207 (.ref 1771), en P "__repr__" 18214 (.ref 1778), en P "__static_attributes__" 18220 (.ref 1779)] 8, #[]⟩) :: (nat_lit 1756, ⟨(.type "code"), none, .fields #[(vs "__init__" 18179), (vs "Block.__init__" 18180), (vs "/claim/cut.py" 18181), (.int 732 0), (.int 6 0), (.int 0 0), (.int 0 0), (.int 3 0), (.ref 1751), (.bool true), (.int 181 0), (.ref 1752), .none, (.ref 1753), (.ref 1754), (.ref 1755), (.int 18188 0), (.int 732 0), (vs "/claim/cut.py" 18189)], #[]⟩) :: (nat_lit 1757, ⟨(.type "function"), none, fo (C 102 0) (q "Block.__init__") .none .none .none (vs "packkit.blocks" 18165) none (.ref 1756) .none 3 0, #[]⟩) :: (nat_lit 1763, ⟨(.type "code"), none, .fields #[(vs "to_bytes" 18191), (vs "Block.to_bytes" 18192), (vs "/claim/cut.py" 18193), (.int 739 0), (.int 1 0), (.int 0 0), (.int 0 0), (.int 3 0), (.ref 1758), (.bool true), (.int 181 0), (.ref 1759), .none, (.ref 1760), (.ref 1761), (.ref 1762), (.int 18197 0), (.int 739 0), (vs "/claim/cut.py" 18198)], #[]⟩) :: (nat_lit 1764, ⟨(.type "function"), none, fo (C 102 1) (q "Block.to_bytes") .none .none .none (vs "packkit.blocks" 18165) none (.ref 1763) .none 3 0, #[]⟩) :: (nat_lit 1780, ⟨(.type "dict"), none, .dict #[en P "__module__" 18174 (vs "packkit.blocks" 18165), en P "__firstlineno__" 18178 (.int 730 18177), en P "__init__" 18190 (.ref 1757), en P "to_bytes" 18199 (.ref 1764), en P "data" 18207 (.ref 1771), en P "__repr__" 18214 (.ref 1778), en P "__static_attributes__" 18220 (.ref 1779), en P "__dict__" 18222 (.ref 1782), en P "__weakref__" 18224 (.ref 1783), en P "__doc__" 18225 .none] 4, #[]⟩) :: (nat_lit 1781, ⟨(.type "type"), none, .cls { name := (q "Block"), bases := [(.type "object")], mro := [(.ref 1781), (.type "object")], ns := 1780, qualname := (q "Block"), hasDict := true, slotNames := [], subclasses := [], abstract := false, collection := .none, hasDel := false }, #[none, none, some (vs "Block" 18167), some (vs "Block" 18175), some (.builtin "object.__new__"), some (.bool true)]⟩) :: (nat_lit 1791, ⟨(.type "code"), none, .fields #[(vs "make_block" 18228), (vs "make_block" 18229), (vs "/claim/cut.py" 18230), (.int 758 0), (.int 3 0), (.int 0 0), (.int 0 0), (.int 3 0), (.ref 1786), (.bool true), (.int 181 0), (.ref 1787), .none, (.ref 1788), (.ref 1789), (.ref 1790), (.int 18235 0), (.int 758 0), (vs "/claim/cut.py" 18236)], #[]⟩) :: (nat_lit 1792, ⟨(.type "function"), none, fo (S 103) (q "make_block") .none .none .none (vs "packkit.blocks" 18165) none (.ref 1791) .none 3 0, #[]⟩) :: (nat_lit 1798, ⟨(.type "code"), none, .fields #[(vs "read_block" 18238), (vs "read_block" 18239), (vs "/claim/cut.py" 18240), (.int 766 0), (.int 2 0), (.int 0 0), (.int 0 0), (.int 3 0), (.ref 1793), (.bool true), (.int 181 0), (.ref 1794), .none, (.ref 1795), (.ref 1796), (.ref 1797), (.int 18249 0), (.int 766 0), (vs "/claim/cut.py" 18250)], #[]⟩) :: (nat_lit 1799, ⟨(.type "function"), none, fo (S 104) (q "read_block") .none .none .none (vs "packkit.blocks" 18165) none (.ref 1798) .none 3 0, #[]⟩) :: (nat_lit 1805, ⟨(.type "code"), none, .fields #[(vs "cut" 18252), (vs "cut" 18253), (vs "/claim/cut.py" 18254), (.int 780 0), (.int 2 0), (.int 0 0), (.int 0 0), (.int 35 0), (.ref 1800), (.bool true), (.int 181 0), (.ref 1801), .none, (.ref 1802), (.ref 1803), (.ref 1804), (.int 18258 0), (.int 780 0), (vs "/claim/cut.py" 18259)], #[]⟩) :: (nat_lit 1806, ⟨(.type "function"), none, fo (S 105) (q "cut") .none .none .none (vs "packkit.blocks" 18165) none (.ref 1805) .none 3 0, #[]⟩) :: (nat_lit 1810, ⟨(.type "code"), none, .fields #[(vs "make_blocks" 18261), (vs "make_blocks" 18262), (vs "/claim/cut.py" 18263), (.int 787 0), (.int 4 0), (.int 0 0), (.int 0 0), (.int 3 0), (.ref 1807), (.bool true), (.int 181 0), (.ref 1808), .none, .none, .none, (.ref 1809), (.int 18264 0), (.int 787 0), (vs "/claim/cut.py" 18265)], #[]⟩) :: (nat_lit 1811, ⟨(.type "function"), none, fo (S 106) (q "make_blocks") .none .none .none (vs "packkit.blocks" 18165) none (.ref 1810) .none 3 0, #[]⟩) :: (nat_lit 1815, ⟨(.type "code"), none, .fields #[(vs "blocks_to_bytes" 18267), (vs "blocks_to_bytes" 18268), (vs "/claim/cut.py" 18269), (.int 789 0), (.int 1 0), (.int 0 0), (.int 0 0), (.int 3 0), (.ref 1812), (.bool true), (.int 181 0), (.ref 1813), .none, .none, .none, (.ref 1814), (.int 18270 0), (.int 789 0), (vs "/claim/cut.py" 18271)], #[]⟩) :: (nat_lit 1816, ⟨(.type "function"), none, fo (S 107) (q "blocks_to_bytes") .none .none .none (vs "packkit.blocks" 18165) none (.ref 1815) .none 3 0, #[]⟩) :: (nat_lit 1822, ⟨(.type "code"), none, .fields #[(vs "read_blocks" 18273), (vs "read_blocks" 18274), (vs "/claim/cut.py" 18275), (.int 791 0), (.int 2 0), (.int 0 0), (.int 0 0), (.int 3 0), (.ref 1817), (.bool true), (.int 181 0), (.ref 1818), .none, (.ref 1819), (.ref 1820), (.ref 1821), (.int 18282 0), (.int 791 0), (vs "/claim/cut.py" 18283)], #[]⟩) :: (nat_lit 1823, ⟨(.type "function"), none, fo (S 108) (q "read_blocks") .none .none .none (vs "packkit.blocks" 18165) none (.ref 1822) .none 3 0, #[]⟩) :: (nat_lit 1899, ⟨(.type "dict"), none, .dict #[en P "difference" 18398 (.ref 1842), en P "mixed" 18399 (.ref 1856), en P "planes" 18400 (.ref 1870), en P "front" 18401 (.ref 1884), en P "turned" 18402 (.ref 1898)] 5, #[]⟩) :: (nat_lit 1900, ⟨(.type "dict"), none, .dict #[en P "difference" 18409 (.ref 1849), en P "mixed" 18410 (.ref 1863), en P "planes" 18411 (.ref 1877), en P "front" 18412 (.ref 1891), en P "turned" 18413 (.ref 1898)] 5, #[]⟩) :: (nat_lit 1903, ⟨(.type "dict"), none, .dict #[en P "__module__" 18427 (vs "packkit.filters" 18291), en P "__qualname__" 18429 (vs "Filter" 18428), en P "__firstlineno__" 18431 (.int 881 18430), en P "__init__" 18441 (.ref 1915), en P "there" 18449 (.ref 1922), en P "back" 18457 (.ref 1929), en P "show" 18464 (.ref 1936), en P "__eq__" 18472 (.ref 1943), en P "__repr__" 18479 (.ref 1950), en P "__static_attributes__" 18482 (.ref 1951)] 10, #[]⟩) :: (nat_lit 1952, ⟨(.type "dict"), none, .dict #[en P "__module__" 18427 (vs "packkit.filters" 18291), en P "__firstlineno__" 18431 (.int 881 18430), en P "__init__" 18441 (.ref 1915), en P "there" 18449 (.ref 1922), en P "back" 18457 (.ref 1929), en P "show" 18464 (.ref 1936), en P "__eq__" 18472 (.ref 1943), en P "__repr__" 18479 (.ref 1950), en P "__static_attributes__" 18482 (.ref 1951), en P "__dict__" 18484 (.ref 1954), en P "__weakref__" 18486 (.ref 1955), en P "__doc__" 18487 .none, en P "__hash__" 18488 .none] 5, #[]⟩) :: (nat_lit 1953, ⟨(.type "type"), none, .cls { name := (q "Filter"), bases := [(.type "object")], mro := [(.ref 1953), (.type "object")], ns := 1952, qualname := (q "Filter"), hasDict := true, slotNames := [], subclasses := [], abstract := false, collection := .none, hasDel := false }, #[none, none, some (vs "Filter" 18420), some (vs "Filter" 18428), some (.builtin "object.__new__"), some (.bool true)]⟩) :: (nat_lit 1967, ⟨(.type "dict"), none, .dict #[en P "__module__" 18508 (vs "packkit.filters" 18291), en P "__qualname__" 18510 (vs "Chain" 18509), en P "__firstlineno__" 18512 (.int 913 18511), en P "__init__" 18520 (.ref 1979), en P "there" 18529 (.ref 1986), en P "back" 18538 (.ref 1993), en P "show" 18544 (.ref 1998), en P "__eq__" 18552 (.ref 2005), en P "__len__" 18559 (.ref 2012), en P "__static_attributes__" 18561 (.ref 2013)] 10, #[]⟩) :: (nat_lit 1972, ⟨(.type "tuple"), none, .seq #[.none] 0, #[]⟩) :: (nat_lit 1978, ⟨(.type "code"), none, .fields #[(vs "__init__" 18513), (vs "Chain.__init__" 18514), (vs "/claim/cut.py" 18515), (.int 915 0), (.int 2 0), (.int 0 0), (.int 0 0), (.int 3 0), (.ref 1973), (.bool true), (.int 181 0), (.ref 1974), .none, (.ref 1975), (.ref 1976), (.ref 1977), (.int 18518 0), (.int 915 0), (vs "/claim/cut.py" 18519)], #[]⟩) :: (nat_lit 1979, ⟨(.type "function"), none, fo (C 125 0) (q "Chain.__init__") (.ref 1972) .none .none (vs "packkit.filters" 18291) none (.ref 1978) .none 3 0, #[]⟩) :: (nat_lit 1985, ⟨(.type "code"), none, .fields #[(vs "there" 18521), (vs "Chain.there" 18522), (vs "/claim/cut.py" 18523), (.int 920 0), (.int 2 0), (.int 0 0), (.int 0 0), (.int 3 0), (.ref 1980), (.bool true), (.int 181 0), (.ref 1981), .none, (.ref 1982), (.ref 1983), (.ref 1984), (.int 18527 0), (.int 920 0), (vs "/claim/cut.py" 18528)], #[]⟩) :: (nat_lit 1986, ⟨(.type "function"), none, fo (C 125 1) (q "Chain.there") .none .none .none (vs "packkit.filters" 18291) none (.ref 1985) .none 3 0, #[]⟩) :: (nat_lit 1997, ⟨(.type "code"), none, .fields #[(vs "show" 18539), (vs "Chain.show" 18540), (vs "/claim/cut.py" 18541), (.int 930 0), (.int 1 0), (.int 0 0), (.int 0 0), (.int 3 0), (.ref 1994), (.bool true), (.int 181 0), (.ref 1995), .none, .none, .none, (.ref 1996), (.int 18542 0), (.int 930 0), (vs "/claim/cut.py" 18543)], #[]⟩) :: (nat_lit 1998, ⟨(.type "function"), none, fo (C 125 3) (q "Chain.show") .none .none .none (vs "packkit.filters" 18291) none (.ref 1997) .none 3 0, #[]⟩) :: (nat_lit 2014, ⟨(.type "dict"), none, .dict #[en P "__module__" 18508 (vs "packkit.filters" 18291), en P "__firstlineno__" 18512 (.int 913 18511), en P "__init__" 18520 (.ref 1979), en P "there" 18529 (.ref 1986), en P "back" 18538 (.ref 1993), en P "show" 18544 (.ref 1998), en P "__eq__" 18552 (.ref 2005), en P "__len__" 18559 (.ref 2012), en P "__static_attributes__" 18561 (.ref 2013), en P "__dict__" 18563 (.ref 2016), en P "__weakref__" 18565 (.ref 2017), en P "__doc__" 18566 .none, en P "__hash__" 18567 .none] 5, #[]⟩) :: (nat_lit 2015, ⟨(.type "type"), none, .cls { name := (q "Chain"), bases := [(.type "object")], mro := [(.ref 2015), (.type "object")], ns := 2014, qualname := (q "Chain"), hasDict := true, slotNames := [], subclasses := [], abstract := false, collection := .none, hasDel := false }, #[none, none, some (vs "Chain" 18501), some (vs "Chain" 18509), some (.builtin "object.__new__"), some (.bool true)]⟩) :: (nat_lit 2023, ⟨(.type "code"), none, .fields #[(vs "read_chain" 18570), (vs "read_chain" 18571), (vs "/claim/cut.py" 18572), (.int 940 0), (.int 1 0), (.int 0 0), (.int 0 0), (.int 3 0), (.ref 2020), (.bool true), (.int 181 0), (.ref 2021), .none, .none, .none, (.ref 2022), (.int 18573 0), (.int 940 0), (vs "/claim/cut.py" 18574)], #[]⟩) :: (nat_lit 2024, ⟨(.type "function"), none, fo (S 126) (q "read_chain") .none .none .none (vs "packkit.filters" 18291) none (.ref 2023) .none 3 0, #[]⟩) :: (nat_lit 2030, ⟨(.type "code"), none, .fields #[(vs "parts" 18580), (vs "parts" 18581), (vs "/claim/cut.py" 18582), (.int 946 0), (.int 1 0), (.int 0 0), (.int 0 0), (.int 3 0), (.ref 2025), (.bool true), (.int 181 0), (.ref 2026), .none, (.ref 2027), (.ref 2028), (.ref 2029), (.int 18584 0), (.int 946 0), (vs "/claim/cut.py" 18585)], #[]⟩) :: (nat_lit 2031, ⟨(.type "function"), none, fo (S 129) (q "parts") .none .none .none (vs "packkit.names" 18576) none (.ref 2030) .none 3 0, #[]⟩) :: (nat_lit 2037, ⟨(.type "code"), none, .fields #[(vs "is_name" 18587), (vs "is_name" 18588), (vs "/claim/cut.py" 18589), (.int 948 0), (.int 1 0), (.int 0 0), (.int 0 0), (.int 3 0), (.ref 2032), (.bool true), (.int 181 0), (.ref 2033), .none, (.ref 2034), (.ref 2035), (.ref 2036), (.int 18594 0), (.int 948 0), (vs "/claim/cut.py" 18595)], #[]⟩) :: (nat_lit 2038, ⟨(.type "function"), none, fo (S 130) (q "is_name") .none .none .none (vs "packkit.names" 18576) none (.ref 2037) .none 3 0, #[]⟩) :: (nat_lit 2044, ⟨(.type "code"), none, .fields #[(vs "need_name" 18597), (vs "need_name" 18598), (vs "/claim/cut.py" 18599), (.int 959 0), (.int 1 0), (.int 0 0), (.int 0 0), (.int 3 0), (.ref 2039), (.bool true), (.int 181 0), (.ref 2040), .none, (.ref 2041), (.ref 2042), (.ref 2043), (.int 18601 0), (.int 959 0), (vs "/claim/cut.py" 18602)], #[]⟩) :: (nat_lit 2045, ⟨(.type "function"), none, fo (S 131) (q "need_name") .none .none .none (vs "packkit.names" 18576) none (.ref 2044) .none 3 0, #[]⟩) :: (nat_lit 2051, ⟨(.type "code"), none, .fields #[(vs "stands_in" 18604), (vs "stands_in" 18605), (vs "/claim/cut.py" 18606), (.int 962 0), (.int 2 0), (.int 0 0), (.int 0 0), (.int 3 0), (.ref 2046), (.bool true), (.int 181 0), (.ref 2047), .none, (.ref 2048), (.ref 2049), (.ref 2050), (.int 18609 0), (.int 962 0), (vs "/claim/cut.py" 18610)], #[]⟩) :: (nat_lit 2052, ⟨(.type "function"), none, fo (S 132) (q "stands_in") .none .none .none (vs "packkit.names" 18576) none (.ref 2051) .none 3 0, #[]⟩) :: (nat_lit 2055, ⟨(.type "dict"), none, .dict #[en P "__module__" 18629 (vs "packkit.entries" 18612), en P "__qualname__" 18631 (vs "Settings" 18630), en P "__firstlineno__" 18633 (.int 969 18632), en P "__init__" 18647 (.ref 2067), en P "show" 18654 (.ref 2074), en P "__static_attributes__" 18659 (.ref 2075)] 6, #[]⟩) :: (nat_lit 2060, ⟨(.type "tuple"), none, .seq #[(vs "best" 18634), (vs "-" 18635), (vs "crc32" 18636), (.int 4096 18614)] 0, #[]⟩) :: (nat_lit 2066, ⟨(.type "code"), none, .fields #[(vs "__init__" 18637), (vs "Settings.__init__" 18638), (vs "/claim/cut.py" 18639), (.int 971 0), (.int 5 0), (.int 0 0), (.int 0 0), (.int 3 0), (.ref 2061), (.bool true), (.int 181 0), (.ref 2062), .none, (.ref 2063), (.ref 2064), (.ref 2065), (.int 18645 0), (.int 971 0), (vs "/claim/cut.py" 18646)], #[]⟩) :: (nat_lit 2067, ⟨(.type "function"), none, fo (C 136 0) (q "Settings.__init__") (.ref 2060) .none .none (vs "packkit.entries" 18612) none (.ref 2066) .none 3 0, #[]⟩) :: (nat_lit 2076, ⟨(.type "dict"), none, .dict #[en P "__module__" 18629 (vs "packkit.entries" 18612), en P "__firstlineno__" 18633 (.int 969 18632), en P "__init__" 18647 (.ref 2067), en P "show" 18654 (.ref 2074), en P "__static_attributes__" 18659 (.ref 2075), en P "__dict__" 18661 (.ref 2078), en P "__weakref__" 18663 (.ref 2079), en P "__doc__" 18664 .none] 4, #[]⟩) :: (nat_lit 2077, ⟨(.type "type"), none, .cls { name := (q "Settings"), bases := [(.type "object")], mro := [(.ref 2077), (.type "object")], ns := 2076, qualname := (q "Settings"), hasDict := true, slotNames := [], subclasses := [], abstract := false, collection := .none, hasDel := false }, #[none, none, some (vs "Settings" 18622), some (vs "Settings" 18630), some (.builtin "object.__new__"), some (.bool true)]⟩) :: (nat_lit 2084, ⟨(.type "dict"), none, .dict #[en P "__module__" 18674 (vs "packkit.entries" 18612), en P "__qualname__" 18676 (vs "Entry" 18675), en P "__firstlineno__" 18678 (.int 984 18677), en P "__init__" 18688 (.ref 2095), en P "size" 18697 (.ref 2102), en P "packed" 18706 (.ref 2109), en P "data" 18713 (.ref 2116), en P "methods" 18720 (.ref 2123), en P "renamed" 18728 (.ref 2130), en P "to_bytes" 18735 (.ref 2137), en P "__repr__" 18742 (.ref 2144), en P "__static_attributes__" 18746 (.ref 2145)] 12, #[]⟩) :: (nat_lit 2094, ⟨(.type "code"), none, .fields #[(vs "__init__" 18679), (vs "Entry.__init__" 18680), (vs "/claim/cut.py" 18681), (.int 986 0), (.int 4 0), (.int 0 0), (.int 0 0), (.int 3 0), (.ref 2089), (.bool true), (.int 181 0), (.ref 2090), .none, (.ref 2091), (.ref 2092), (.ref 2093), (.int 18686 0), (.int 986 0), (vs "/claim/cut.py" 18687)], #[]⟩) :: (nat_lit 2095, ⟨(.type "function"), none, fo (C 137 0) (q "Entry.__init__") .none .none .none (vs "packkit.entries" 18612) none (.ref 2094) .none 3 0, #[]⟩) :: (nat_lit 2101, ⟨(.type "code"), none, .fields #[(vs "size" 18689), (vs "Entry.size" 18690), (vs "/claim/cut.py" 18691), (.int 992 0), (.int 1 0), (.int 0 0), (.int 0 0), (.int 3 0), (.ref 2096), (.bool true), (.int 181 0), (.ref 2097), .none, (.ref 2098), (.ref 2099), (.ref 2100), (.int 18695 0), (.int 992 0), (vs "/claim/cut.py" 18696)], #[]⟩) :: (nat_lit 2102, ⟨(.type "function"), none, fo (C 137 1) (q "Entry.size") .none .none .none (vs "packkit.entries" 18612) none (.ref 2101) .none 3 0, #[]⟩) :: (nat_lit 2136, ⟨(.type "code"), none, .fields #[(vs "to_bytes" 18729), (vs "Entry.to_bytes" 18730), (vs "/claim/cut.py" 18731), (.int 1013 0), (.int 1 0), (.int 0 0), (.int 0 0), (.int 3 0), (.ref 2131), (.bool true), (.int 181 0), (.ref 2132), .none, (.ref 2133), (.ref 2134), (.ref 2135), (.int 18733 0), (.int 1013 0), (vs "/claim/cut.py" 18734)], #[]⟩) :: (nat_lit 2137, ⟨(.type "function"), none, fo (C 137 6) (q "Entry.to_bytes") .none .none .none (vs "packkit.entries" 18612) none (.ref 2136) .none 3 0, #[]⟩) :: (nat_lit 2146, ⟨(.type "dict"), none, .dict #[en P "__module__" 18674 (vs "packkit.entries" 18612), en P "__firstlineno__" 18678 (.int 984 18677), en P "__init__" 18688 (.ref 2095), en P "size" 18697 (.ref 2102), en P "packed" 18706 (.ref 2109), en P "data" 18713 (.ref 2116), en P "methods" 18720 (.ref 2123), en P "renamed" 18728 (.ref 2130), en P "to_bytes" 18735 (.ref 2137), en P "__repr__" 18742 (.ref 2144), en P "__static_attributes__" 18746 (.ref 2145), en P "__dict__" 18748 (.ref 2148), en P "__weakref__" 18750 (.ref 2149), en P "__doc__" 18751 .none] 4, #[]⟩) :: (nat_lit 2147, ⟨(.type "type"), none, .cls { name := (q "Entry"), bases := [(.type "object")], mro := [(.ref 2147), (.type "object")], ns := 2146, qualname := (q "Entry"), hasDict := true, slotNames := [], subclasses := [], abstract := false, collection := .none, hasDel := false }, #[none, none, some (vs "Entry" 18667), some (vs "Entry" 18675), some (.builtin "object.__new__"), some (.bool true)]⟩) :: (nat_lit 2152, ⟨(.type "tuple"), none, .seq #[.none] 0, #[]⟩) :: (nat_lit 2158, ⟨(.type "code"), none, .fields #[(vs "make_entry" 18754), (vs "make_entry" 18755), (vs "/claim/cut.py" 18756), (.int 1018 0), (.int 3 0), (.int 0 0), (.int 0 0), (.int 3 0), (.ref 2153), (.bool true), (.int 181 0), (.ref 2154), .none, (.ref 2155), (.ref 2156), (.ref 2157), (.int 18761 0), (.int 1018 0), (vs "/claim/cut.py" 18762)], #[]⟩) :: (nat_lit 2159, ⟨(.type "function"), none, fo (S 138) (q "make_entry") (.ref 2152) .none .none (vs "packkit.entries" 18612) none (.ref 2158) .none 3 0, #[]⟩) :: (nat_lit 2165, ⟨(.type "code"), none, .fields #[(vs "read_entry" 18764), (vs "read_entry" 18765), (vs "/claim/cut.py" 18766), (.int 1023 0), (.int 2 0), (.int 0 0), (.int 0 0), (.int 3 0), (.ref 2160), (.bool true), (.int 181 0), (.ref 2161), .none, (.ref 2162), (.ref 2163), (.ref 2164), (.int 18773 0), (.int 1023 0), (vs "/claim/cut.py" 18774)], #[]⟩) :: (nat_lit 2166, ⟨(.type "function"), none, fo (S 139) (q "read_entry") .none .none .none (vs "packkit.entries" 18612) none (.ref 2165) .none 3 0, #[]⟩) :: (nat_lit 2169, ⟨(.type "dict"), none, .dict #[en P "__module__" 18789 (vs "packkit.container" 18776), en P "__qualname__" 18791 (vs "Container" 18790), en P "__firstlineno__" 18793 (.int 1039 18792), en P "__init__" 18801 (.ref 2181), en P "names" 18808 (.ref 2188), en P "has" 18816 (.ref 2195), en P "entry" 18824 (.ref 2202), en P "read" 18832 (.ref 2209), en P "_need_room" 18842 (.ref 2216), en P "add" 18852 (.ref 2224), en P "put" 18862 (.ref 2232), en P "drop" 18870 (.ref 2239), en P "rename" 18879 (.ref 2246), en P "move" 18888 (.ref 2253), en P "take" 18896 (.ref 2260), en P "size" 18905 (.ref 2267), en P "packed" 18914 (.ref 2274), en P "walk" 18921 (.ref 2281), en P "find" 18929 (.ref 2288), en P "inside" 18937 (.ref 2295), en P "damaged" 18944 (.ref 2302), en P "copy" 18953 (.ref 2309), en P "sort" 18962 (.ref 2316), en P "repack" 18970 (.ref 2323), en P "to_bytes" 18986 (.ref 2330), en P "__len__" 18993 (.ref 2337), en P "__contains__" 19001 (.ref 2344), en P "__iter__" 19008 (.ref 2351), en P "__repr__" 19015 (.ref 2358), en P "__static_attributes__" 19018 (.ref 2359)] 30, #[]⟩) :: (nat_lit 2174, ⟨(.type "tuple"), none, .seq #[.none] 0, #[]⟩) :: (nat_lit 2180, ⟨(.type "code"), none, .fields #[(vs "__init__" 18794), (vs "Container.__init__" 18795), (vs "/claim/cut.py" 18796), (.int 1041 0), (.int 2 0), (.int 0 0), (.int 0 0), (.int 3 0), (.ref 2175), (.bool true), (.int 181 0), (.ref 2176), .none, (.ref 2177), (.ref 2178), (.ref 2179), (.int 18799 0), (.int 1041 0), (vs "/claim/cut.py" 18800)], #[]⟩) :: (nat_lit 2181, ⟨(.type "function"), none, fo (C 143 0) (q "Container.__init__") (.ref 2174) .none .none (vs "packkit.container" 18776) none (.ref 2180) .none 3 0, #[]⟩) :: (nat_lit 2187, ⟨(.type "code"), none, .fields #[(vs "names" 18802), (vs "Container.names" 18803), (vs "/claim/cut.py" 18804), (.int 1047 0), (.int 1 0), (.int 0 0), (.int 0 0), (.int 3 0), (.ref 2182), (.bool true), (.int 181 0), (.ref 2183), .none, (.ref 2184), (.ref 2185), (.ref 2186), (.int 18806 0), (.int 1047 0), (vs "/claim/cut.py" 18807)], #[]⟩) :: (nat_lit 2188, ⟨(.type "function"), none, fo (C 143 1) (q "Container.names") .none .none .none (vs "packkit.container" 18776) none (.ref 2187) .none 3 0, #[]⟩) :: (nat_lit 2215, ⟨(.type "code"), none, .fields #[(vs "_need_room" 18833), (vs "Container._need_room" 18834), (vs "/claim/cut.py" 18835), (.int 1061 0), (.int 3 0), (.int 0 0), (.int 0 0), (.int 3 0), (.ref 2210), (.bool true), (.int 181 0), (.ref 2211), .none, (.ref 2212), (.ref 2213), (.ref 2214), (.int 18840 0), (.int 1061 0), (vs "/claim/cut.py" 18841)], #[]⟩) :: (nat_lit 2216, ⟨(.type "function"), none, fo (C 143 5) (q "Container._need_room") .none .none .none (vs "packkit.container" 18776) none (.ref 2215) .none 3 0, #[]⟩) :: (nat_lit 2217, ⟨(.type "tuple"), none, .seq #[.none] 0, #[]⟩) :: (nat_lit 2223, ⟨(.type "code"), none, .fields #[(vs "add" 18843), (vs "Container.add" 18844), (vs "/claim/cut.py" 18845), (.int 1068 0), (.int 4 0), (.int 0 0), (.int 0 0), (.int 3 0), (.ref 2218), (.bool true), (.int 181 0), (.ref 2219), .none, (.ref 2220), (.ref 2221), (.ref 2222), (.int 18850 0), (.int 1068 0), (vs "/claim/cut.py" 18851)], #[]⟩) :: (nat_lit 2224, ⟨(.type "function"), none, fo (C 143 6) (q "Container.add") (.ref 2217) .none .none (vs "packkit.container" 18776) none (.ref 2223) .none 3 0, #[]⟩) :: (nat_lit 2259, ⟨(.type "code"), none, .fields #[(vs "take" 18889), (vs "Container.take" 18890), (vs "/claim/cut.py" 18891), (.int 1087 0), (.int 2 0), (.int 0 0), (.int 0 0), (.int 3 0), (.ref 2254), (.bool true), (.int 181 0), (.ref 2255), .none, (.ref 2256), (.ref 2257), (.ref 2258), (.int 18894 0), (.int 1087 0), (vs "/claim/cut.py" 18895)], #[]⟩) :: (nat_lit 2260, ⟨(.type "function"), none, fo (C 143 11) (q "Container.take") .none .none .none (vs "packkit.container" 18776) none (.ref 2259) .none 3 0, #[]⟩) :: (nat_lit 2329, ⟨(.type "code"), none, .fields #[(vs "to_bytes" 18971), (vs "Container.to_bytes" 18972), (vs "/claim/cut.py" 18973), (.int 1130 0), (.int 1 0), (.int 0 0), (.int 0 0), (.int 3 0), (.ref 2324), (.bool true), (.int 181 0), (.ref 2325), .none, (.ref 2326), (.ref 2327), (.ref 2328), (.int 18984 0), (.int 1130 0), (vs "/claim/cut.py" 18985)], #[]⟩) :: (nat_lit 2330, ⟨(.type "function"), none, fo (C 143 21) (q "Container.to_bytes") .none .none .none (vs "packkit.container" 18776) none (.ref 2329) .none 3 0, #[]⟩) :: (nat_lit 2360, ⟨(.type "dict"), none, .dict #[en P "__module__" 18789 (vs "packkit.container" 18776), en P "__firstlineno__" 18793 (.int 1039 18792), en P "__init__" 18801 (.ref 2181), en P "names" 18808 (.ref 2188), en P "has" 18816 (.ref 2195), en P "entry" 18824 (.ref 2202), en P "read" 18832 (.ref 2209), en P "_need_room" 18842 (.ref 2216), en P "add" 18852 (.ref 2224), en P "put" 18862 (.ref 2232), en P "drop" 18870 (.ref 2239), en P "rename" 18879 (.ref 2246), en P "move" 18888 (.ref 2253), en P "take" 18896 (.ref 2260), en P "size" 18905 (.ref 2267), en P "packed" 18914 (.ref 2274), en P "walk" 18921 (.ref 2281), en P "find" 18929 (.ref 2288), en P "inside" 18937 (.ref 2295), en P "damaged" 18944 (.ref 2302), en P "copy" 18953 (.ref 2309), en P "sort" 18962 (.ref 2316), en P "repack" 18970 (.ref 2323), en P "to_bytes" 18986 (.ref 2330), en P "__len__" 18993 (.ref 2337), en P "__contains__" 19001 (.ref 2344), en P "__iter__" 19008 (.ref 2351), en P "__repr__" 19015 (.ref 2358), en P "__static_attributes__" 19018 (.ref 2359), en P "__dict__" 19020 (.ref 2362), en P "__weakref__" 19022 (.ref 2363), en P "__doc__" 19023 .none] 4, #[]⟩) :: (nat_lit 2361, ⟨(.type "type"), none, .cls { name := (q "Container"), bases := [(.type "object")], mro := [(.ref 2361), (.type "object")], ns := 2360, qualname := (q "Container"), hasDict := true, slotNames := [], subclasses := [], abstract := false, collection := .none, hasDel := false }, #[none, none, some (vs "Container" 18782), some (vs "Container" 18790), some (.builtin "object.__new__"), some (.bool true)]⟩) :: (nat_lit 2371, ⟨(.type "code"), none, .fields #[(vs "_whole" 19026), (vs "_whole" 19027), (vs "/claim/cut.py" 19028), (.int 1158 0), (.int 1 0), (.int 0 0), (.int 0 0), (.int 3 0), (.ref 2366), (.bool true), (.int 181 0), (.ref 2367), .none, (.ref 2368), (.ref 2369), (.ref 2370), (.int 19033 0), (.int 1158 0), (vs "/claim/cut.py" 19034)], #[]⟩) :: (nat_lit 2372, ⟨(.type "function"), none, fo (S 144) (q "_whole") .none .none .none (vs "packkit.container" 18776) none (.ref 2371) .none 3 0, #[]⟩) :: (nat_lit 2378, ⟨(.type "code"), none, .fields #[(vs "directory" 19036), (vs "directory" 19037), (vs "/claim/cut.py" 19038), (.int 1168 0), (.int 1 0), (.int 0 0), (.int 0 0), (.int 3 0), (.ref 2373), (.bool true), (.int 181 0), (.ref 2374), .none, (.ref 2375), (.ref 2376), (.ref 2377), (.int 19049 0), (.int 1168 0), (vs "/claim/cut.py" 19050)], #[]⟩) :: (nat_lit 2379, ⟨(.type "function"), none, fo (S 145) (q "directory") .none .none .none (vs "packkit.container" 18776) none (.ref 2378) .none 3 0, #[]⟩) :: (nat_lit 2380, ⟨(.type "tuple"), none, .seq #[.none] 0, #[]⟩) :: (nat_lit 2386, ⟨(.type "code"), none, .fields #[(vs "from_bytes" 19052), (vs "from_bytes" 19053), (vs "/claim/cut.py" 19054), (.int 1183 0), (.int 2 0), (.int 0 0), (.int 0 0), (.int 3 0), (.ref 2381), (.bool true), (.int 181 0), (.ref 2382), .none, (.ref 2383), (.ref 2384), (.ref 2385), (.int 19069 0), (.int 1183 0), (vs "/claim/cut.py" 19070)], #[]⟩) :: (nat_lit 2387, ⟨(.type "function"), none, fo (S 146) (q "from_bytes") (.ref 2380) .none .none (vs "packkit.container" 18776) none (.ref 2386) .none 3 0, #[]⟩) :: (nat_lit 2393, ⟨(.type "code"), none, .fields #[(vs "_law_cell" 19074), (vs "_law_cell" 19075), (vs "/claim/cut.py" 19076), (.int 1206 0), (.int 2 0), (.int 0 0), (.int 0 0), (.int 3 0), (.ref 2388), (.bool true), (.int 181 0), (.ref 2389), .none, (.ref 2390), (.ref 2391), (.ref 2392), (.int 19079 0), (.int 1206 0), (vs "/claim/cut.py" 19080)], #[]⟩) :: (nat_lit 2394, ⟨(.type "function"), none, fo (S 148) (q "_law_cell") .none .none .none (vs "law_ui0507_23" 19072) none (.ref 2393) .none 3 0, #[]⟩) :: (nat_lit 2401, ⟨(.type "function"), none, fo (S 149) (q "law") .none .none .none (vs "law_ui0507_23" 19072) none (.ref 2400) .none 3 0, #[]⟩) :: []
noncomputable def asX : List Nat := nat_lit 0 :: nat_lit 1 :: nat_lit 2 :: nat_lit 3 :: nat_lit 4 :: nat_lit 5 :: nat_lit 6 :: nat_lit 7 :: nat_lit 8 :: nat_lit 9 :: nat_lit 10 :: nat_lit 11 :: nat_lit 12 :: nat_lit 13 :: nat_lit 14 :: nat_lit 15 :: nat_lit 31 :: nat_lit 37 :: nat_lit 38 :: nat_lit 44 :: nat_lit 50 :: nat_lit 51 :: nat_lit 56 :: nat_lit 62 :: nat_lit 63 :: nat_lit 68 :: nat_lit 74 :: nat_lit 75 :: nat_lit 80 :: nat_lit 93 :: nat_lit 94 :: nat_lit 99 :: nat_lit 109 :: nat_lit 110 :: nat_lit 116 :: nat_lit 117 :: nat_lit 123 :: nat_lit 124 :: nat_lit 137 :: nat_lit 138 :: nat_lit 158 :: nat_lit 159 :: nat_lit 161 :: nat_lit 162 :: nat_lit 169 :: nat_lit 238 :: nat_lit 239 :: nat_lit 249 :: nat_lit 250 :: nat_lit 256 :: nat_lit 257 :: nat_lit 263 :: nat_lit 264 :: nat_lit 270 :: nat_lit 271 :: nat_lit 277 :: nat_lit 278 :: nat_lit 284 :: nat_lit 285 :: nat_lit 291 :: nat_lit 292 :: nat_lit 301 :: nat_lit 1330 :: nat_lit 1336 :: nat_lit 1337 :: nat_lit 1370 :: nat_lit 1371 :: nat_lit 1377 :: nat_lit 1378 :: nat_lit 1384 :: nat_lit 1385 :: nat_lit 1391 :: nat_lit 1392 :: nat_lit 1398 :: nat_lit 1399 :: nat_lit 1405 :: nat_lit 1406 :: nat_lit 1412 :: nat_lit 1413 :: nat_lit 1419 :: nat_lit 1420 :: nat_lit 1433 :: nat_lit 1434 :: nat_lit 1440 :: nat_lit 1441 :: nat_lit 1442 :: nat_lit 1446 :: nat_lit 1447 :: nat_lit 1460 :: nat_lit 1461 :: nat_lit 1464 :: nat_lit 1484 :: nat_lit 1485 :: nat_lit 1495 :: nat_lit 1496 :: nat_lit 1509 :: nat_lit 1510 :: nat_lit 1523 :: nat_lit 1524 :: nat_lit 1527 :: nat_lit 1537 :: nat_lit 1538 :: nat_lit 1544 :: nat_lit 1545 :: nat_lit 1551 :: nat_lit 1552 :: nat_lit 1554 :: nat_lit 1555 :: nat_lit 1560 :: nat_lit 1566 :: nat_lit 1567 :: nat_lit 1580 :: nat_lit 1581 :: nat_lit 1589 :: nat_lit 1595 :: nat_lit 1596 :: nat_lit 1609 :: nat_lit 1610 :: nat_lit 1616 :: nat_lit 1617 :: nat_lit 1623 :: nat_lit 1624 :: nat_lit 1630 :: nat_lit 1631 :: nat_lit 1632 :: nat_lit 1638 :: nat_lit 1639 :: nat_lit 1657 :: nat_lit 1658 :: nat_lit 1685 :: nat_lit 1686 :: nat_lit 1692 :: nat_lit 1693 :: nat_lit 1701 :: nat_lit 1702 :: nat_lit 1703 :: nat_lit 1709 :: nat_lit 1710 :: nat_lit 1723 :: nat_lit 1724 :: nat_lit 1730 :: nat_lit 1731 :: nat_lit 1735 :: nat_lit 1736 :: nat_lit 1742 :: nat_lit 1743 :: nat_lit 1746 :: nat_lit 1756 :: nat_lit 1757 :: nat_lit 1763 :: nat_lit 1764 :: nat_lit 1780 :: nat_lit 1781 :: nat_lit 1791 :: nat_lit 1792 :: nat_lit 1798 :: nat_lit 1799 :: nat_lit 1805 :: nat_lit 1806 :: nat_lit 1810 :: nat_lit 1811 :: nat_lit 1815 :: nat_lit 1816 :: nat_lit 1822 :: nat_lit 1823 :: nat_lit 1899 :: nat_lit 1900 :: nat_lit 1903 :: nat_lit 1952 :: nat_lit 1953 :: nat_lit 1967 :: nat_lit 1972 :: nat_lit 1978 :: nat_lit 1979 :: nat_lit 1985 :: nat_lit 1986 :: nat_lit 1997 :: nat_lit 1998 :: nat_lit 2014 :: nat_lit 2015 :: nat_lit 2023 :: nat_lit 2024 :: nat_lit 2030 :: nat_lit 2031 :: nat_lit 2037 :: nat_lit 2038 :: nat_lit 2044 :: nat_lit 2045 :: nat_lit 2051 :: nat_lit 2052 :: nat_lit 2055 :: nat_lit 2060 :: nat_lit 2066 :: nat_lit 2067 :: nat_lit 2076 :: nat_lit 2077 :: nat_lit 2084 :: nat_lit 2094 :: nat_lit 2095 :: nat_lit 2101 :: nat_lit 2102 :: nat_lit 2136 :: nat_lit 2137 :: nat_lit 2146 :: nat_lit 2147 :: nat_lit 2152 :: nat_lit 2158 :: nat_lit 2159 :: nat_lit 2165 :: nat_lit 2166 :: nat_lit 2169 :: nat_lit 2174 :: nat_lit 2180 :: nat_lit 2181 :: nat_lit 2187 :: nat_lit 2188 :: nat_lit 2215 :: nat_lit 2216 :: nat_lit 2217 :: nat_lit 2223 :: nat_lit 2224 :: nat_lit 2259 :: nat_lit 2260 :: nat_lit 2329 :: nat_lit 2330 :: nat_lit 2360 :: nat_lit 2361 :: nat_lit 2371 :: nat_lit 2372 :: nat_lit 2378 :: nat_lit 2379 :: nat_lit 2380 :: nat_lit 2386 :: nat_lit 2387 :: nat_lit 2393 :: nat_lit 2394 :: nat_lit 2401 :: []
end Mine
local macro_rules | `(tactic| o_head $H) => `(tactic| refine holds_open (q := Mine.q6) (loose := Mine.zbo) (Xt := Mine.Xt6) (XP := XL Mine.q6 []) (Yf := Hook.obs $H) (Ya := Hook.val $H) (YP := Hook.says $H) (N := 400000) (Mine.left6 (by intro w os; refine (Mine.obs_map _ _ _).trans ?_; kernel_rfl)) (Hook.of $H) (Hook.keeps $H) (fun s e => xl_of s (Bool.and_eq_true_iff.mp e).1) XL.keeps (by rfl) (by rfl) (by rfl) (fun s e => recFacts_of (Bool.and_eq_true_iff.mp e).2) (by rfl) (by first | assumption | decide +kernel) (by decide +kernel) ⟨rfl, rfl, rfl, rfl, rfl, by decide +kernel⟩ ?hw ?hc)
local macro_rules | `(tactic| o_law) => `(tactic| refine holds_law Mine.said fun said => ?_)
local macro_rules | `(tactic| k_head) => `(tactic| o_head (kHook Mine.KX Mine.asX (fun _ => by kernel_rfl)))
namespace Mine
set_option maxRecDepth 100000 in
set_option maxHeartbeats 0 in
open_top hd for PySem.Challenge.rw_ui0507_23
end Mine
namespace Mine
noncomputable section
noncomputable def FT : List FnE := [⟨110, 1, []⟩, ⟨117, 3, []⟩, ⟨124, 3, []⟩, ⟨138, 2, []⟩, ⟨159, 1, []⟩, ⟨250, 1, []⟩, ⟨257, 2, []⟩, ⟨264, 2, []⟩,
  ⟨271, 3, []⟩, ⟨278, 1, []⟩, ⟨285, 1, []⟩, ⟨292, 2, []⟩, ⟨1337, 2, []⟩, ⟨1337, 1, [(Str.ofString "start", .int 0)]⟩, ⟨1378, 1, []⟩, ⟨1385, 1, []⟩,
  ⟨1392, 3, []⟩, ⟨1399, 2, []⟩, ⟨1406, 1, []⟩, ⟨1413, 2, []⟩, ⟨1420, 1, []⟩, ⟨1434, 1, []⟩, ⟨1441, 1, []⟩, ⟨1447, 1, [(Str.ofString "limit", .int 15)]⟩,
  ⟨1461, 1, []⟩, ⟨1496, 2, []⟩, ⟨1510, 1, []⟩, ⟨1524, 4, []⟩, ⟨1538, 3, []⟩, ⟨1545, 2, []⟩, ⟨1552, 2, []⟩, ⟨1567, 2, []⟩,
  ⟨1581, 1, []⟩, ⟨1596, 1, [(Str.ofString "window", .int 4096)]⟩, ⟨1610, 1, []⟩, ⟨1617, 1, []⟩, ⟨1624, 3, []⟩, ⟨1631, 1, []⟩, ⟨1639, 1, [(Str.ofString "rounds", .int 64)]⟩, ⟨1658, 1, []⟩,
  ⟨1686, 1, []⟩, ⟨1693, 1, []⟩, ⟨1710, 2, []⟩, ⟨1724, 1, []⟩, ⟨1731, 1, []⟩, ⟨1736, 1, []⟩, ⟨1743, 1, []⟩, ⟨1757, 6, []⟩,
  ⟨1764, 1, []⟩, ⟨1792, 3, []⟩, ⟨1799, 2, []⟩, ⟨1816, 1, []⟩, ⟨1823, 2, []⟩, ⟨1979, 1, [(Str.ofString "filters", .none)]⟩, ⟨1986, 2, []⟩, ⟨1998, 1, []⟩,
  ⟨2024, 1, []⟩, ⟨2031, 1, []⟩, ⟨2038, 1, []⟩, ⟨2045, 1, []⟩, ⟨2052, 2, []⟩, ⟨2067, 1, [(Str.ofString "method", .str (Str.ofString "best")), (Str.ofString "chain", .str (Str.ofString "-")), (Str.ofString "kind", .str (Str.ofString "crc32")), (Str.ofString "size", .int 4096)]⟩, ⟨2095, 4, []⟩, ⟨2102, 1, []⟩,
  ⟨2137, 1, []⟩, ⟨2159, 3, []⟩, ⟨2166, 2, []⟩, ⟨2181, 1, [(Str.ofString "settings", .none)]⟩, ⟨2181, 2, []⟩, ⟨2188, 1, []⟩, ⟨2216, 3, []⟩, ⟨2224, 3, [(Str.ofString "settings", .none)]⟩,
  ⟨2260, 2, []⟩, ⟨2330, 1, []⟩, ⟨2372, 1, []⟩, ⟨2379, 1, []⟩, ⟨2387, 1, [(Str.ofString "settings", .none)]⟩]
noncomputable def gd23 : List Addr := [1371, 1702]
set_option maxRecDepth 100000 in
theorem gd23_ok {P : Params} {a : Addr} (h : memA a gd23 = true) : (∃ es n, (KX P).lookup a = some ⟨.type "dict", none, .dict es n, #[]⟩ ∧ KeysLit P es.toList) ∧ (a == sysModules) = false := by
  unfold gd23 at h
  have h2 : a = 1371 ∨ a = 1702 := by
    have h3 : (match Nat.beq 1371 a with | true => true | false => (match Nat.beq 1702 a with | true => true | false => false)) = true := h
    cases e1 : Nat.beq 1371 a with
    | true => exact .inl (Nat.eq_of_beq_eq_true e1).symm
    | false =>
      rw [e1] at h3
      cases e2 : Nat.beq 1702 a with
      | true => exact .inr (Nat.eq_of_beq_eq_true e2).symm
      | false => rw [e2] at h3; cases h3
  rcases h2 with rfl | rfl
  · exact ⟨⟨_, _, rfl, by k_keys⟩, by decide⟩
  · exact ⟨⟨_, _, rfl, by k_keys⟩, by decide⟩
noncomputable def K23 (P : Params) : Frag := KX P
theorem zgt {P : Params} {h : Heap} : (K23 P).In h ↔ (KX P).In h := Iff.rfl
theorem zjv {P : Params} {a : Addr} (h : memA a gd23 = true) : (∃ es n, (K23 P).lookup a = some ⟨.type "dict", none, .dict es n, #[]⟩ ∧ KeysLit P es.toList) ∧ (a == sysModules) = false := gd23_ok h
theorem RBs.one {ρ : List Addr} {x : Str} {v : SV} {V : Value} (h : RV ρ v V) : RBs ρ [(x, v)] [(x, V)] := .cons h .nil
set_option maxRecDepth 100000 in
set_option maxHeartbeats 0 in
theorem fc {α : Type} {p : α → Prop} {a : α} {l : List α} (h : p a) (t : ∀ e ∈ l, p e) : ∀ e ∈ a :: l, p e := List.forall_mem_cons.mpr ⟨h, t⟩
theorem fc0 {α : Type} {p : α → Prop} : ∀ e ∈ ([] : List α), p e := fun _ h => nomatch h
set_option maxRecDepth 100000 in
theorem ft_bind (P : Params) : ∀ e ∈ FT, BindOK (KX P) e := by
  unfold FT
  exact fc (bd1 fun a => by kernel_rfl) <|
    fc (bd3 fun a b c => by kernel_rfl) <|
    fc (bd3 fun a b c => by kernel_rfl) <|
    fc (bd2 fun a b => by kernel_rfl) <|
    fc (bd1 fun a => by kernel_rfl) <|
    fc (bd1 fun a => by kernel_rfl) <|
    fc (bd2 fun a b => by kernel_rfl) <|
    fc (bd2 fun a b => by kernel_rfl) <|
    fc (bd3 fun a b c => by kernel_rfl) <|
    fc (bd1 fun a => by kernel_rfl) <|
    fc (bd1 fun a => by kernel_rfl) <|
    fc (bd2 fun a b => by kernel_rfl) <|
    fc (bdX2 (fd := fnOf _ _ _ _ _ _ _ _ _ _ _ _) rfl (fun ρ => .nil) fun s a b X => binds_K X rfl rfl rfl rfl rfl) <|
    fc (bdX1 (fd := fnOf _ _ _ _ _ _ _ _ _ _ _ _) rfl (fun ρ => .one ⟨_, rfl⟩) fun s a X => binds_K X rfl rfl rfl rfl rfl) <|
    fc (bd1 fun a => by kernel_rfl) <|
    fc (bd1 fun a => by kernel_rfl) <|
    fc (bd3 fun a b c => by kernel_rfl) <|
    fc (bd2 fun a b => by kernel_rfl) <|
    fc (bd1 fun a => by kernel_rfl) <|
    fc (bd2 fun a b => by kernel_rfl) <|
    fc (bd1 fun a => by kernel_rfl) <|
    fc (bd1 fun a => by kernel_rfl) <|
    fc (bd1 fun a => by kernel_rfl) <|
    fc (bdX1 (fd := fnOf _ _ _ _ _ _ _ _ _ _ _ _) rfl (fun ρ => .one ⟨_, rfl⟩) fun s a X => binds_K X rfl rfl rfl rfl rfl) <|
    fc (bd1 fun a => by kernel_rfl) <|
    fc (bd2 fun a b => by kernel_rfl) <|
    fc (bd1 fun a => by kernel_rfl) <|
    fc (bd4 fun a b c d => by kernel_rfl) <|
    fc (bd3 fun a b c => by kernel_rfl) <|
    fc (bd2 fun a b => by kernel_rfl) <|
    fc (bd2 fun a b => by kernel_rfl) <|
    fc (bdX2 (fd := fnOf _ _ _ _ _ _ _ _ _ _ _ _) rfl (fun ρ => .nil) fun s a b X => binds_K X rfl rfl rfl rfl rfl) <|
    fc (bd1 fun a => by kernel_rfl) <|
    fc (bdX1 (fd := fnOf _ _ _ _ _ _ _ _ _ _ _ _) rfl (fun ρ => .one ⟨_, rfl⟩) fun s a X => binds_K X rfl rfl rfl rfl rfl) <|
    fc (bd1 fun a => by kernel_rfl) <|
    fc (bd1 fun a => by kernel_rfl) <|
    fc (bd3 fun a b c => by kernel_rfl) <|
    fc (bd1 fun a => by kernel_rfl) <|
    fc (bdX1 (fd := fnOf _ _ _ _ _ _ _ _ _ _ _ _) rfl (fun ρ => .one ⟨_, rfl⟩) fun s a X => binds_K X rfl rfl rfl rfl rfl) <|
    fc (bd1 fun a => by kernel_rfl) <|
    fc (bd1 fun a => by kernel_rfl) <|
    fc (bd1 fun a => by kernel_rfl) <|
    fc (bd2 fun a b => by kernel_rfl) <|
    fc (bd1 fun a => by kernel_rfl) <|
    fc (bd1 fun a => by kernel_rfl) <|
    fc (bd1 fun a => by kernel_rfl) <|
    fc (bd1 fun a => by kernel_rfl) <|
    fc (bd6 fun a b c d e g => by kernel_rfl) <|
    fc (bd1 fun a => by kernel_rfl) <|
    fc (bd3 fun a b c => by kernel_rfl) <|
    fc (bd2 fun a b => by kernel_rfl) <|
    fc (bd1 fun a => by kernel_rfl) <|
    fc (bd2 fun a b => by kernel_rfl) <|
    fc (bdX1 (fd := fnOf _ _ _ _ _ _ _ _ _ _ _ _) rfl (fun ρ => .one rfl) fun s a X => binds_K X rfl rfl rfl rfl rfl) <|
    fc (bd2 fun a b => by kernel_rfl) <|
    fc (bd1 fun a => by kernel_rfl) <|
    fc (bd1 fun a => by kernel_rfl) <|
    fc (bd1 fun a => by kernel_rfl) <|
    fc (bd1 fun a => by kernel_rfl) <|
    fc (bd1 fun a => by kernel_rfl) <|
    fc (bd2 fun a b => by kernel_rfl) <|
    fc (bdX1 (fd := fnOf _ _ _ _ _ _ _ _ _ _ _ _) rfl (fun ρ => .cons ⟨_, rfl⟩ (.cons ⟨_, rfl⟩ (.cons ⟨_, rfl⟩ (.one ⟨_, rfl⟩)))) fun s a X => binds_K X rfl rfl rfl rfl rfl) <|
    fc (bd4 fun a b c d => by kernel_rfl) <|
    fc (bd1 fun a => by kernel_rfl) <|
    fc (bd1 fun a => by kernel_rfl) <|
    fc (bdX3 (fd := fnOf _ _ _ _ _ _ _ _ _ _ _ _) rfl (fun ρ => .nil) fun s a b c X => binds_K X rfl rfl rfl rfl rfl) <|
    fc (bd2 fun a b => by kernel_rfl) <|
    fc (bdX1 (fd := fnOf _ _ _ _ _ _ _ _ _ _ _ _) rfl (fun ρ => .one rfl) fun s a X => binds_K X rfl rfl rfl rfl rfl) <|
    fc (bdX2 (fd := fnOf _ _ _ _ _ _ _ _ _ _ _ _) rfl (fun ρ => .nil) fun s a b X => binds_K X rfl rfl rfl rfl rfl) <|
    fc (bd1 fun a => by kernel_rfl) <|
    fc (bd3 fun a b c => by kernel_rfl) <|
    fc (bdX3 (fd := fnOf _ _ _ _ _ _ _ _ _ _ _ _) rfl (fun ρ => .one rfl) fun s a b c X => binds_K X rfl rfl rfl rfl rfl) <|
    fc (bd2 fun a b => by kernel_rfl) <|
    fc (bd1 fun a => by kernel_rfl) <|
    fc (bd1 fun a => by kernel_rfl) <|
    fc (bd1 fun a => by kernel_rfl) <|
    fc (bdX1 (fd := fnOf _ _ _ _ _ _ _ _ _ _ _ _) rfl (fun ρ => .one rfl) fun s a X => binds_K X rfl rfl rfl rfl rfl) <| fc0

theorem zde (P : Params) : ∀ e ∈ FT, BindOK (K23 P) e := ft_bind P
noncomputable def zfp (b : List Stmt) (i : Nat) : Stmt := match nthS b i with
  | some s => s
  | none => .Break default
noncomputable def zgz : Stmt → Expr
  | .Expr e _ => e
  | .Assign _ e _ => e
  | _ => .Name default default
noncomputable def argN (e : Expr) (i : Nat) : Expr := match e with
  | .Call _ as _ _ => (nthS as i).getD (.Name default default)
  | _ => .Name default default
noncomputable def binL : Expr → Expr
  | .BinOp l _ _ _ => l
  | e => e
noncomputable def binR : Expr → Expr
  | .BinOp _ _ r _ => r
  | e => e
section
variable {K : Frag} {gd : List Addr} {orc : Orc}
theorem c4 {m : Nat} {s : Stmt} {r : List Stmt} {f f1 : Fi} {g g1 g' : Sg} {out : Out} (h : exS K (run K gd orc m) s f g = some ((.next, f1), g1)) (h2 : run K gd orc m (.ex r) f1 g1 = some (out, g')) : run K gd orc (m + 1) (.ex (s :: r)) f g = some (out, g') := by
  show zaf (exS K (run K gd orc m) s f g) (exN (run K gd orc m) r) = _
  rw [h]
  exact h2
theorem zsr {m : Nat} {s : Stmt} {f f1 : Fi} {g g1 : Sg} (h : run K gd orc (m + 1) (.ex [s]) f g = some (.f (.next, f1), g1)) : exS K (run K gd orc m) s f g = some ((.next, f1), g1) := by
  refine zac (show zaf (exS K (run K gd orc m) s f g) (exN (run K gd orc m) []) = some (.f (.next, f1), g1) from h) fun q g2 h1 h2 => ?_
  obtain ⟨fl, f2⟩ := q
  cases fl with
  | next =>
    cases m with
    | zero => cases h2
    | succ m =>
      have h3 : some (Out.f (.next, f2), g2) = some (.f (.next, f1), g1) := h2
      cases h3
      exact h1
  | brk => cases h2
  | ret v => cases h2
theorem zeb {m : Nat} {e : Expr} {q : Expr} {as : List Expr} {ps : Pos} {f : Fi} {g g1 : Sg} {fn : Addr} {vs : List SV} {v : SV} (hE : zan e = .call true q as ps) (hq : attO q = none) (hc : zaq q = true) (hf : run K gd orc (m + 1) (.ev q) f g = some (.v (.val (.ref fn)), g)) (hk : keepIn K (.ref fn) = true) (hm : makesIn K fn = false)
    (ha : run K gd orc (m + 1) (.evs as) f g = some (.vs vs, g)) (ho : orc fn vs g = some (v, g1)) : run K gd orc (m + 2) (.ev e) f g = some (.v v, g1) := by
  show zaf (evS K gd orc (run K gd orc (m + 1)) e f g) (fun v g1 => some (Out.v v, g1)) = _
  unfold evS
  rw [hE]
  show zaf (zdo K orc (run K gd orc (m + 1)) q as ps f g) (fun v g1 => some (Out.v v, g1)) = _
  unfold zdo
  rw [hq]
  show zaf (zad (zaq q) (zaf (asV (run K gd orc (m + 1) (.ev q) f g)) fun u g1 => (vV u).bind fun c => zad (f5 K c) (zaf (asVs (run K gd orc (m + 1) (.evs as) f g1)) fun l g2 => zbp K orc c l g2))) (fun v g1 => some (Out.v v, g1)) = _
  rw [hc, hf]
  show zaf (zad (keepIn K (.ref fn)) (zaf (asVs (run K gd orc (m + 1) (.evs as) f g)) fun l g2 => zbp K orc (.ref fn) l g2)) (fun v g1 => some (Out.v v, g1)) = _
  rw [hk, ha]
  show zaf (match makesIn K fn with | true => newS K orc fn vs g | false => orc fn vs g) (fun v g1 => some (Out.v v, g1)) = _
  rw [hm]
  show zaf (orc fn vs g) (fun v g1 => some (Out.v v, g1)) = _
  rw [ho]
  rfl
theorem d6 {m : Nat} {e l r : Expr} {op : Operator} {f : Fi} {g g1 g2 g3 : Sg} {a b v : SV} (hE : zan e = .bin l op r) (hl : run K gd orc m (.ev l) f g = some (.v a, g1)) (hr : run K gd orc m (.ev r) f g1 = some (.v b, g2)) (hb : binS op a b g2 = some (v, g3)) : run K gd orc (m + 1) (.ev e) f g = some (.v v, g3) := by
  show zaf (evS K gd orc (run K gd orc m) e f g) (fun v g1 => some (Out.v v, g1)) = _
  unfold evS
  rw [hE]
  show zaf (zaf (asV (run K gd orc m (.ev l) f g)) fun a g1 => zaf (asV (run K gd orc m (.ev r) f g1)) fun b g2 => binS op a b g2) (fun v g1 => some (Out.v v, g1)) = _
  rw [hl]
  show zaf (zaf (asV (run K gd orc m (.ev r) f g1)) fun b g2 => binS op a b g2) (fun v g1 => some (Out.v v, g1)) = _
  rw [hr]
  show zaf (binS op a b g2) (fun v g1 => some (Out.v v, g1)) = _
  rw [hb]
  rfl
theorem j7 {m : Nat} {e : Expr} {q : Expr} {as : List Expr} {ps : Pos} {f : Fi} {g g0 g1 : Sg} {T : String} {vs : List SV} {v : SV} (hE : zan e = .call true q as ps) (hq : attO q = none) (hc : zaq q = true) (hf : run K gd orc (m + 1) (.ev q) f g = some (.v (.val (.type T)), g))
    (ha : run K gd orc (m + 1) (.evs as) f g = some (.vs vs, g0)) (ho : (one vs).bind (fun v => zhw T v g0) = some (v, g1)) : run K gd orc (m + 2) (.ev e) f g = some (.v v, g1) := by
  show zaf (evS K gd orc (run K gd orc (m + 1)) e f g) (fun v g1 => some (Out.v v, g1)) = _
  unfold evS
  rw [hE]
  show zaf (zdo K orc (run K gd orc (m + 1)) q as ps f g) (fun v g1 => some (Out.v v, g1)) = _
  unfold zdo
  rw [hq]
  show zaf (zad (zaq q) (zaf (asV (run K gd orc (m + 1) (.ev q) f g)) fun u g1 => (vV u).bind fun c => zad (f5 K c) (zaf (asVs (run K gd orc (m + 1) (.evs as) f g1)) fun l g2 => zbp K orc c l g2))) (fun v g1 => some (Out.v v, g1)) = _
  rw [hc, hf]
  show zaf (zaf (asVs (run K gd orc (m + 1) (.evs as) f g)) fun l g2 => zbp K orc (.type T) l g2) (fun v g1 => some (Out.v v, g1)) = _
  rw [ha]
  show zaf ((one vs).bind fun v => zhw T v g0) (fun v g1 => some (Out.v v, g1)) = _
  rw [ho]
  rfl
theorem zbd {m : Nat} {e : Expr} {r : List Expr} {f : Fi} {g g1 g2 : Sg} {v : SV} {l : List SV} (hs : zai e = true) (h : run K gd orc m (.ev e) f g = some (.v v, g1)) (h2 : run K gd orc m (.evs r) f g1 = some (.vs l, g2)) : run K gd orc (m + 1) (.evs (e :: r)) f g = some (.vs (v :: l), g2) := by
  show zad (zai e) (zaf (asV (run K gd orc m (.ev e) f g)) fun v g1 => zaf (asVs (run K gd orc m (.evs r) f g1)) fun l g2 => some (Out.vs (v :: l), g2)) = _
  rw [hs, h]
  show zaf (asVs (run K gd orc m (.evs r) f g1)) (fun l g2 => some (Out.vs (v :: l), g2)) = _
  rw [h2]
  rfl
theorem zbz {m : Nat} {f : Fi} {g : Sg} : run K gd orc (m + 1) (.evs []) f g = some (.vs [], g) := rfl
theorem ex_meth {m : Nat} {s : Stmt} {e q b : Expr} {x : Str} {ap ps : Pos} {as : List Expr} {f : Fi} {g g1 g2 : Sg} {v w : SV} {fn : Addr} {vs : List SV} (hX : zcl s = .expr e) (hp : zbe e = true) (hE : zan e = .call true q as ps) (hq : attO q = some (b, x, ap)) (hg : (zds b && (ap.endLine == ps.line) && Nat.blt as.length 30) = true)
    (hb : run K gd orc (m + 1) (.ev b) f g = some (.v v, g)) (hv : vI v = none) (hi : zjp K x v g = some fn) (ha : run K gd orc (m + 1) (.evs as) f g = some (.vs vs, g1)) (ho : zbp K orc (.ref fn) (v :: vs) g1 = some (w, g2)) : exS K (run K gd orc (m + 2)) s f g = some ((.next, f), g2) := by
  unfold exS
  rw [hX]
  show zad (zbe e) (zaf (asV (run K gd orc (m + 2) (.ev e) f g)) fun _ g1 => some ((Fl.next, f), g1)) = _
  have h1 : run K gd orc (m + 2) (.ev e) f g = some (.v w, g2) := by
    show zaf (evS K gd orc (run K gd orc (m + 1)) e f g) (fun v g1 => some (Out.v v, g1)) = _
    unfold evS
    rw [hE]
    show zaf (zdo K orc (run K gd orc (m + 1)) q as ps f g) (fun v g1 => some (Out.v v, g1)) = _
    unfold zdo
    rw [hq]
    show zaf (zad (zds b && (ap.endLine == ps.line) && Nat.blt as.length 30) (zaf (asV (run K gd orc (m + 1) (.ev b) f g)) fun v g1 => zhn K orc (run K gd orc (m + 1)) v x as f g1)) (fun v g1 => some (Out.v v, g1)) = _
    rw [hg, hb]
    show zaf (zhn K orc (run K gd orc (m + 1)) v x as f g) (fun v g1 => some (Out.v v, g1)) = _
    unfold zhn
    rw [hv]
    show zaf (zlk K orc (run K gd orc (m + 1)) v x as f g) (fun v g1 => some (Out.v v, g1)) = _
    unfold zlk
    rw [hi]
    show zaf (zaf (asVs (run K gd orc (m + 1) (.evs as) f g)) fun l g1 => zbp K orc (.ref fn) (v :: l) g1) (fun v g1 => some (Out.v v, g1)) = _
    rw [ha]
    show zaf (zbp K orc (.ref fn) (v :: vs) g1) (fun v g1 => some (Out.v v, g1)) = _
    rw [ho]
    rfl
  rw [hp, h1]
  rfl
theorem zjz {m : Nat} {s : Stmt} {t e : Expr} {x : Str} {f : Fi} {g g1 : Sg} {v : SV} (hX : zcl s = .asg (some t) e) (hl : lcOf e = none) (hA : zeq t = .name x) (hp : zbe e = true) (hx : zat f.sc x = true) (h : run K gd orc m (.ev e) f g = some (.v v, g1)) : exS K (run K gd orc m) s f g = some ((.next, setM f x v), g1) := by
  unfold exS
  rw [hX]
  show (asgC K (run K gd orc m) t e f g).map (fun p => ((Fl.next, p.1), p.2)) = _
  unfold asgC
  rw [hl]
  show (zaf (asV (run K gd orc m (.ev e) f g)) fun v g1 => asgS K (run K gd orc m) t e v f g1).map (fun p => ((Fl.next, p.1), p.2)) = _
  rw [h]
  show (asgS K (run K gd orc m) t e v f g1).map (fun p => ((Fl.next, p.1), p.2)) = _
  unfold asgS
  rw [hA]
  show (zad (zbe e || (isLc e && cellQ t f)) (asgT t v f g1)).map (fun p => ((Fl.next, p.1), p.2)) = _
  rw [hp]
  show (asgT t v f g1).map (fun p => ((Fl.next, p.1), p.2)) = _
  unfold asgT
  rw [hA]
  dsimp only
  rw [hx]
  rfl
theorem ex_item {m : Nat} {s : Stmt} {t e b i : Expr} {f : Fi} {g g1 g2 g3 g4 : Sg} {v a j : SV} (hX : zcl s = .asg (some t) e) (hl : lcOf e = none) (hA : zeq t = .sub b i) (hp : (zbe e && c3 i) = true) (h : run K gd orc m (.ev e) f g = some (.v v, g1)) (hb : run K gd orc m (.ev b) f g1 = some (.v a, g2)) (hi : run K gd orc m (.ev i) f g2 = some (.v j, g3)) (hs : zhh a j v g3 = some g4) :
    exS K (run K gd orc m) s f g = some ((.next, f), g4) := by
  unfold exS
  rw [hX]
  show (asgC K (run K gd orc m) t e f g).map (fun p => ((Fl.next, p.1), p.2)) = _
  unfold asgC
  rw [hl]
  show (zaf (asV (run K gd orc m (.ev e) f g)) fun v g1 => asgS K (run K gd orc m) t e v f g1).map (fun p => ((Fl.next, p.1), p.2)) = _
  rw [h]
  show (asgS K (run K gd orc m) t e v f g1).map (fun p => ((Fl.next, p.1), p.2)) = _
  unfold asgS
  rw [hA]
  show (zad (zbe e && c3 i) (zaf (asV (run K gd orc m (.ev b) f g1)) fun a g1 => zaf (asV (run K gd orc m (.ev i) f g1)) fun j g2 => (zhh a j v g2).map fun g' => (f, g'))).map (fun p => ((Fl.next, p.1), p.2)) = _
  rw [hp, hb]
  show (zaf (asV (run K gd orc m (.ev i) f g2)) fun j g2 => (zhh a j v g2).map fun g' => (f, g')).map (fun p => ((Fl.next, p.1), p.2)) = _
  rw [hi]
  show ((zhh a j v g3).map fun g' => (f, g')).map (fun p => ((Fl.next, p.1), p.2)) = _
  rw [hs]
  rfl
end
noncomputable def K23x (P : Params) (a : Addr) (o : Obj) : Frag := K23 P ++ [(a, o)]
theorem zcg {K X : Frag} {b : Addr} {o : Obj} (h : K.lookup b = some o) : (K ++ X).lookup b = some o := by
  induction K with
  | nil => cases h
  | cons p K ih =>
    obtain ⟨c, u⟩ := p
    rw [List.lookup_cons] at h
    rw [List.cons_append, List.lookup_cons]
    cases e : b == c with
    | true => rw [e] at h; exact h
    | false => rw [e] at h; exact ih h
theorem zlm {K : Frag} {a b : Addr} {o u : Obj} (h : (K ++ [(a, o)]).lookup b = some u) : K.lookup b = some u ∨ (b = a ∧ u = o) := by
  induction K with
  | nil =>
    rw [List.nil_append, List.lookup_cons] at h
    cases e : b == a with
    | true => rw [e] at h; cases h; exact .inr ⟨eq_of_beq e, rfl⟩
    | false => rw [e] at h; cases h
  | cons p K ih =>
    obtain ⟨c, w⟩ := p
    rw [List.cons_append, List.lookup_cons] at h
    rw [List.lookup_cons]
    cases e : b == c with
    | true => rw [e] at h; exact .inl h
    | false => rw [e] at h; exact ih h
theorem zkw {P : Params} {a : Addr} {o : Obj} {h : Heap} (X : (K23 P).In h) (ha : h.get? a = some o) : (K23x P a o).In h := fun b u e => by
  rcases zlm e with e | ⟨rfl, rfl⟩
  · exact X b u e
  · exact ha
theorem zkv {P : Params} {a : Addr} {o : Obj} {h : Heap} (X : (K23x P a o).In h) : (KX P).In h := zgt.mp fun b u e => X b u (zcg e)
theorem K23x_at {P : Params} {a : Addr} {o : Obj} {h : Heap} (X : (K23x P a o).In h) (ha : h.get? a = some o) : (K23x P a o).lookup a = some o := by
  cases e : (K23 P).lookup a with
  | some u =>
    have h2 := zcg (X := [(a, o)]) e
    have h3 := X a u h2
    rw [ha] at h3
    cases h3
    exact h2
  | none =>
    unfold K23x
    clear X
    generalize K23 P = K at e ⊢
    induction K with
    | nil => simp
    | cons p K ih =>
      obtain ⟨c, w⟩ := p
      rw [List.lookup_cons] at e
      rw [List.cons_append, List.lookup_cons]
      cases q : a == c with
      | true => rw [q] at e; cases e
      | false => rw [q] at e; exact ih e
theorem BindOK.back {K X : Frag} {e : FnE} (hf : (K.lookup e.f).isSome = true) (h : BindOK K e) : BindOK (K ++ X) e := by
  intro s Vs hX hl
  obtain ⟨o, ho⟩ := Option.isSome_iff_exists.mp hf
  have e1 : fdAt (K ++ X) e.f = fdAt K e.f := by unfold fdAt; rw [zcg ho, ho]
  rw [e1]
  exact h s Vs (fun b u q => hX b u (zcg q)) hl
theorem ft_has (P : Params) : (FT.all fun e => ((K23 P).lookup e.f).isSome) = true := by kernel_rfl
theorem zly (P : Params) (a : Addr) (o : Obj) : ∀ e ∈ FT, BindOK (K23x P a o) e := fun e he => (zde P e he).back (List.all_eq_true.mp (ft_has P) e he)
theorem gd23x {P : Params} {a0 : Addr} {o : Obj} {a : Addr} (h : memA a gd23 = true) : (∃ es n, (K23x P a0 o).lookup a = some ⟨.type "dict", none, .dict es n, #[]⟩ ∧ KeysLit P es.toList) ∧ (a == sysModules) = false := by
  obtain ⟨⟨es, n, h1, h2⟩, h3⟩ := zjv (P := P) h
  exact ⟨⟨es, n, zcg h1, h2⟩, h3⟩
noncomputable def G23x (w : World) (p : Program) (loose : List Str) (mean : ExcName → Option Value) (mg mb : Str → Option Value) (a : Addr) (o : Obj) : Gm := ⟨PySem.Challenge.rw_ui0507_23.row.prog, w, K23x w.params a o, p, loose, mean, mg, mb, gd23⟩
open Classical in
noncomputable def celO (a : Addr) (ns : List Int) : Orc := fun f vs g => zad (Nat.beq f 2394) (zaf (two vs) fun u k => (vI k).bind fun k => (natS k).bind fun i => if u = .val (.ref a) then some (.int (ns.getD i 0), g) else none)
noncomputable def orr (a b : Orc) : Orc := fun f vs g => match a f vs g with
  | some r => some r
  | none => b f vs g
theorem orr_ok {Γ : Gm} {a b : Orc} {k : Nat} (A : zbf Γ a k) (B : zbf Γ b k) : zbf Γ (orr a b) k := by
  intro f vs g v g' c M z Vs s R h H hv C G
  have h' : (match a f vs g with | some r => some r | none => b f vs g) = some (v, g') := h
  cases e : a f vs g with
  | some r => rw [e] at h'; cases h'; exact A f vs g v g' c M z Vs s R e H hv C G
  | none => rw [e] at h'; exact B f vs g v g' c M z Vs s R h' H hv C G
section
variable {K : Frag} {gd : List Addr} {orc : Orc} {f : Fi} {g : Sg}
theorem l5 {m : Nat} {e l r : Expr} {op : CmpOp} {a b : SV} {c : Bool} (hE : zts e = .cmp l [op] [r]) (hn : zbx r = true) (hl : run K gd orc m (.ev l) f g = some (.v a, g)) (hr : run K gd orc m (.ev r) f g = some (.v b, g)) (hc : cmpS K gd op a b g.σ = some c) : run K gd orc (m + 1) (.test e) f g = some (.b c, g) := by
  refine j4 ?_
  unfold zhf
  rw [hE]
  show zad (zbx r && [].all zbx) (zaf (asV (run K gd orc m (.ev l) f g)) fun a g1 => zaf (asV (run K gd orc m (.ev r) f g1)) fun b g2 => (cmpS K gd op a b g2.σ).bind fun c => zad true (some (c, g2))) = _
  rw [hn, hl]
  show zaf (asV (run K gd orc m (.ev r) f g)) (fun b g2 => (cmpS K gd op a b g2.σ).bind fun c => zad true (some (c, g2))) = _
  rw [hr]
  show (cmpS K gd op a b g.σ).bind (fun c => zad true (some (c, g))) = _
  rw [hc]
  rfl
theorem ex_if {m : Nat} {s : Stmt} {t : Expr} {b o : List Stmt} {c : Bool} {q : Fl × Fi} (hX : zcl s = .ift t b o) (ht : run K gd orc m (.test t) f g = some (.b c, g)) (h : run K gd orc m (.ex (match c with | true => b | false => o)) f g = some (.f q, g)) : exS K (run K gd orc m) s f g = some (q, g) := by
  unfold exS
  rw [hX]
  show zaf (asB (run K gd orc m (.test t) f g)) (fun c g1 => match c with | true => asF (run K gd orc m (.ex b) f g1) | false => asF (run K gd orc m (.ex o) f g1)) = _
  rw [ht]
  cases c with
  | true =>
    show asF (run K gd orc m (.ex b) f g) = _
    rw [show run K gd orc m (.ex b) f g = _ from h]
    rfl
  | false =>
    show asF (run K gd orc m (.ex o) f g) = _
    rw [show run K gd orc m (.ex o) f g = _ from h]
    rfl
theorem zsq {m : Nat} {s : Stmt} {e : Expr} {r : List Stmt} {v : SV} (hX : zcl s = .ret (some e)) (h : run K gd orc m (.ev e) f g = some (.v v, g)) : run K gd orc (m + 1) (.ex (s :: r)) f g = some (.f (.ret v, f), g) := by
  show zaf (exS K (run K gd orc m) s f g) (exN (run K gd orc m) r) = _
  unfold exS
  rw [hX]
  show zaf (zaf (asV (run K gd orc m (.ev e) f g)) fun v g1 => some ((Fl.ret v, f), g1)) (exN (run K gd orc m) r) = _
  rw [h]
  rfl
theorem zeu {m : Nat} {e q : Expr} {as : List Expr} {ps : Pos} {id : String} {vs : List SV} {v : SV} (hE : zan e = .call true q as ps) (hq : attO q = none) (hc : zaq q = true) (hf : run K gd orc (m + 1) (.ev q) f g = some (.v (.val (.builtin id)), g))
    (ha : run K gd orc (m + 1) (.evs as) f g = some (.vs vs, g)) (ho : zbp K orc (.builtin id) vs g = some (v, g)) : run K gd orc (m + 2) (.ev e) f g = some (.v v, g) := by
  show zaf (evS K gd orc (run K gd orc (m + 1)) e f g) (fun v g1 => some (Out.v v, g1)) = _
  unfold evS
  rw [hE]
  show zaf (zdo K orc (run K gd orc (m + 1)) q as ps f g) (fun v g1 => some (Out.v v, g1)) = _
  unfold zdo
  rw [hq]
  show zaf (zad (zaq q) (zaf (asV (run K gd orc (m + 1) (.ev q) f g)) fun u g1 => (vV u).bind fun c => zad (f5 K c) (zaf (asVs (run K gd orc (m + 1) (.evs as) f g1)) fun l g2 => zbp K orc c l g2))) (fun v g1 => some (Out.v v, g1)) = _
  rw [hc, hf]
  show zaf (zaf (asVs (run K gd orc (m + 1) (.evs as) f g)) fun l g2 => zbp K orc (.builtin id) l g2) (fun v g1 => some (Out.v v, g1)) = _
  rw [ha]
  show zaf (zbp K orc (.builtin id) vs g) (fun v g1 => some (Out.v v, g1)) = _
  rw [ho]
  rfl
theorem j5 {m : Nat} {e b i : Expr} {a j v : SV} (hE : zan e = .sub b i) (hi : zby i = none) (hb : run K gd orc m (.ev b) f g = some (.v a, g)) (hj : run K gd orc m (.ev i) f g = some (.v j, g)) (hv : zjo K gd a j g.σ = some v) : run K gd orc (m + 1) (.ev e) f g = some (.v v, g) := by
  show zaf (evS K gd orc (run K gd orc m) e f g) (fun v g1 => some (Out.v v, g1)) = _
  unfold evS
  rw [hE]
  show zaf (zaf (asV (run K gd orc m (.ev b) f g)) fun v g1 => ixS K gd (run K gd orc m) v i f g1) (fun v g1 => some (Out.v v, g1)) = _
  rw [hb]
  show zaf (ixS K gd (run K gd orc m) a i f g) (fun v g1 => some (Out.v v, g1)) = _
  unfold ixS
  rw [hi]
  show zaf (zaf (asV (run K gd orc m (.ev i) f g)) fun u g1 => (zjo K gd a u g1.σ).map fun v => (v, g1)) (fun v g1 => some (Out.v v, g1)) = _
  rw [hj]
  show zaf ((zjo K gd a j g.σ).map fun v => (v, g)) (fun v g1 => some (Out.v v, g1)) = _
  rw [hv]
  rfl
theorem zam {m : Nat} {e : Expr} {x : Str} {v : SV} (hE : zan e = .name x) (h : look f.m x = some v) : run K gd orc (m + 1) (.ev e) f g = some (.v v, g) := by
  show zaf (evS K gd orc (run K gd orc m) e f g) (fun v g1 => some (Out.v v, g1)) = _
  unfold evS
  rw [hE]
  show zaf ((zez K f g x).map fun v => (v, g)) (fun v g1 => some (Out.v v, g1)) = _
  rw [show zez K f g x = some v by unfold zez; rw [h]]
  rfl
end
noncomputable def obC (P : Params) : Obj := ((K23 P).lookup 2394).getD default
noncomputable def fdC (P : Params) : FuncData := (fdOf (obC P)).getD default
noncomputable def bdC (P : Params) : List Stmt := (zdu (fdC P).body).getD []
noncomputable def testOf : Stmt → Expr
  | .If t _ _ _ => t
  | _ => .Name default default
noncomputable def thenOf : Stmt → List Stmt
  | .If _ b _ _ => b
  | _ => []
noncomputable def retOf : Stmt → Expr
  | .Return (some e) _ => e
  | _ => .Name default default
noncomputable def cmpL : Expr → Expr
  | .Compare l _ _ _ => l
  | e => e
noncomputable def cmpR : Expr → Expr
  | .Compare _ _ rs _ => (nthS rs 0).getD (.Name default default)
  | e => e
noncomputable def subB : Expr → Expr
  | .Subscript b _ _ => b
  | e => e
noncomputable def subI : Expr → Expr
  | .Subscript _ i _ => i
  | e => e
noncomputable def zar : Expr → Expr
  | .Call q _ _ _ => q
  | e => e
noncomputable def zfi : Expr → Pos
  | .Call _ _ _ p => p
  | _ => default
noncomputable def sC (P : Params) (i : Nat) : Stmt := zfp (bdC P) i
noncomputable def tC (P : Params) : Expr := testOf (sC P 0)
noncomputable def r1C (P : Params) : Stmt := zfp (thenOf (sC P 0)) 0
noncomputable def e1C (P : Params) : Expr := retOf (r1C P)
noncomputable def e2C (P : Params) : Expr := retOf (sC P 1)
noncomputable def lenC (P : Params) : Expr := cmpR (tC P)
section
set_option maxRecDepth 100000
variable {P : Params} {a : Addr} {ob : Obj}
theorem c_ob : (K23x P a ob).lookup 2394 = some (obC P) := by kernel_rfl
theorem c_fd : fdOf (obC P) = some (fdC P) := by kernel_rfl
theorem c_bd : zdu (fdC P).body = some (bdC P) := by kernel_rfl
theorem c_good {k : Int} : zjx (K23x P a ob) (fdC P) (fnIn ⟨2394, 2, []⟩ (fdC P) [.val (.ref a), .int k]) = true := by kernel_rfl
theorem c_fi {k : Int} {g : Sg} : fiOf (fdC P).scope.names (fnIn ⟨2394, 2, []⟩ (fdC P) [.val (.ref a), .int k]) g = ⟨[(Str.ofString "script", .val (.ref a)), (Str.ofString "k", .int k)], (fdC P).scope.names, []⟩ := by kernel_rfl
theorem c_sg {k : Int} {g : Sg} : sgOf (fdC P).scope.names (fnIn ⟨2394, 2, []⟩ (fdC P) [.val (.ref a), .int k]) g = g := by kernel_rfl
theorem c_two : bdC P = [sC P 0, sC P 1] := by kernel_rfl
theorem c_if : zcl (sC P 0) = .ift (tC P) [r1C P] [] := by kernel_rfl
theorem c_t : zts (tC P) = .cmp (cmpL (tC P)) [.Lt] [lenC P] := by kernel_rfl
theorem c_tn : zbx (lenC P) = true := by kernel_rfl
theorem c_k : zan (cmpL (tC P)) = .name (Str.ofString "k") := by kernel_rfl
theorem c_len : zan (lenC P) = .call true (zar (lenC P)) [argN (lenC P) 0] (zfi (lenC P)) := by kernel_rfl
theorem c_l1 : attO (zar (lenC P)) = none := by kernel_rfl
theorem c_l2 : zaq (zar (lenC P)) = true := by kernel_rfl
theorem c_l3 {gd : List Addr} {m : Nat} {k : Int} {g : Sg} : run (K23x P a ob) gd zce (m + 1) (.ev (zar (lenC P))) ⟨[(Str.ofString "script", .val (.ref a)), (Str.ofString "k", .int k)], (fdC P).scope.names, []⟩ g = some (.v (.val (.builtin "len")), g) := by kernel_rfl
theorem c_l4 : zan (argN (lenC P) 0) = .name (Str.ofString "script") := by kernel_rfl
theorem c_l5 : zai (argN (lenC P) 0) = true := by kernel_rfl
theorem c_r1 : zcl (r1C P) = .ret (some (e1C P)) := by kernel_rfl
theorem c_r2 : zcl (sC P 1) = .ret (some (e2C P)) := by kernel_rfl
theorem c_e1 : zan (e1C P) = .sub (subB (e1C P)) (subI (e1C P)) := by kernel_rfl
theorem c_e1b : zan (subB (e1C P)) = .name (Str.ofString "script") := by kernel_rfl
theorem c_e1i : zan (subI (e1C P)) = .name (Str.ofString "k") := by kernel_rfl
theorem c_e1s : zby (subI (e1C P)) = none := by kernel_rfl
theorem c_e2 {gd : List Addr} {m : Nat} {f : Fi} {g : Sg} : run (K23x P a ob) gd zce (m + 1) (.ev (e2C P)) f g = some (.v (.int 0), g) := by kernel_rfl
theorem zsm {a : Addr} {k : Int} : look [(Str.ofString "script", SV.val (.ref a)), (Str.ofString "k", .int k)] (Str.ofString "script") = some (.val (.ref a)) := by kernel_rfl
theorem zsl {a : Addr} {k : Int} : look [(Str.ofString "script", SV.val (.ref a)), (Str.ofString "k", .int k)] (Str.ofString "k") = some (.int k) := by kernel_rfl
end
theorem zlz {K : Frag} {gd : List Addr} {T : List FnE} {N : Nat} {orc : Orc} {f : Addr} {vs : List SV} {g g' : Sg} {e : FnE} {o : Obj} {fd : FuncData} {body : List Stmt} {v : SV} {f' : Fi} (h1 : zjy T f vs.length = some e) (h2 : K.lookup f = some o) (h3 : fdOf o = some fd) (h4 : zdu fd.body = some body) (h5 : zjx K fd (fnIn e fd vs) = true)
    (h6 : run K gd orc N (.ex body) (fiOf fd.scope.names (fnIn e fd vs) g) (sgOf fd.scope.names (fnIn e fd vs) g) = some (.f (.ret v, f'), g')) : zdf K gd T N orc f vs g = some (v, g') := by
  unfold zdf
  rw [h1, Option.bind_some, h2, Option.bind_some, h3, Option.bind_some, h4, Option.bind_some, h5, h6]
  rfl
theorem zmd {K : Frag} {gd : List Addr} {orc : Orc} {m : Nat} {s : Stmt} {r : List Stmt} {v : SV} {f f' : Fi} {g g' : Sg} (h : exS K (run K gd orc m) s f g = some ((.ret v, f'), g')) : run K gd orc (m + 1) (.ex (s :: r)) f g = some (.f (.ret v, f'), g') := by
  show zaf (exS K (run K gd orc m) s f g) (exN (run K gd orc m) r) = _
  rw [h]
  rfl
theorem ints_at {vs : List Value} {ns : List Int} (h : IntsAre vs ns) : ∀ {i : Nat}, i < ns.length → (nthS vs i).bind zca = some (.int (ns.getD i 0)) := by
  induction h with
  | nil => intro i hi; exact absurd hi (Nat.not_lt_zero _)
  | cons n t _ ih =>
    intro i hi
    cases i with
    | zero => rfl
    | succ i =>
      refine (ih (Nat.lt_of_succ_lt_succ hi)).trans ?_
      simp [List.getD]
section
variable {P : Params} {a : Addr} {ob : Obj} {gd : List Addr} {vs : List Value} {ns : List Int}
set_option maxRecDepth 100000 in
theorem cel_gL (hl : gL (K23x P a ob) (.val (.ref a)) = some vs) (hi : IntsAre vs ns) (hz : ns.length ≤ 63) {i : Nat} {g : Sg} {N : Nat} : zdf (K23x P a ob) gd [⟨2394, 2, []⟩] (N + 20) zce 2394 [.val (.ref a), .int (i : Int)] g = some (.int (ns.getD i 0), g) := by
  have hlen := hi.length
  have hN : N + 20 = (N + 19) + 1 := rfl
  have hcall : run (K23x P a ob) gd zce (N + 18) (.ev (lenC P)) ⟨[(Str.ofString "script", .val (.ref a)), (Str.ofString "k", .int (i : Int))], (fdC P).scope.names, []⟩ g = some (.v (.int ns.length), g) := by
    refine zeu (m := N + 16) (vs := [.val (.ref a)]) c_len c_l1 c_l2 c_l3 (zbd c_l5 (zam c_l4 zsm) zbz) ?_
    show (bid "len").bind (fun i => match i with | .min => minS [SV.val (.ref a)] g | i => (one [SV.val (.ref a)]).bind fun v => callN (K23x P a ob) zce i v g) = _
    show (match oI g.σ (SV.val (.ref a)) with | some _ => lenI (K23x P a ob) zce (.val (.ref a)) g | none => match gL (K23x P a ob) (.val (.ref a)) with | some l => zad (small l.length) (some (SV.int l.length, g)) | none => zfj .len (.val (.ref a)) g) = _
    show (match gL (K23x P a ob) (.val (.ref a)) with | some l => zad (small l.length) (some (SV.int l.length, g)) | none => zfj .len (.val (.ref a)) g) = _
    rw [hl]
    show zad (small vs.length) (some (SV.int vs.length, g)) = _
    rw [show small vs.length = true from Nat.ble_eq_true_of_le (by omega), hlen]
    rfl
  have htest : run (K23x P a ob) gd zce (N + 19) (.test (tC P)) ⟨[(Str.ofString "script", .val (.ref a)), (Str.ofString "k", .int (i : Int))], (fdC P).scope.names, []⟩ g = some (.b (decide ((i : Int) < ns.length)), g) :=
    l5 c_t c_tn (zam c_k zsl) hcall rfl
  have hret0 : run (K23x P a ob) gd zce (N + 19) (.ex [sC P 1]) ⟨[(Str.ofString "script", .val (.ref a)), (Str.ofString "k", .int (i : Int))], (fdC P).scope.names, []⟩ g = some (.f (.ret (.int 0), ⟨[(Str.ofString "script", .val (.ref a)), (Str.ofString "k", .int (i : Int))], (fdC P).scope.names, []⟩), g) := zsq c_r2 c_e2
  have hrun : run (K23x P a ob) gd zce (N + 20) (.ex (bdC P)) ⟨[(Str.ofString "script", .val (.ref a)), (Str.ofString "k", .int (i : Int))], (fdC P).scope.names, []⟩ g = some (.f (.ret (.int (ns.getD i 0)), ⟨[(Str.ofString "script", .val (.ref a)), (Str.ofString "k", .int (i : Int))], (fdC P).scope.names, []⟩), g) := by
    rw [c_two]
    by_cases hlt : i < ns.length
    · rw [decide_eq_true (show (i : Int) < ns.length by omega)] at htest
      have h1 : exS (K23x P a ob) (run (K23x P a ob) gd zce (N + 19)) (sC P 0) ⟨[(Str.ofString "script", .val (.ref a)), (Str.ofString "k", .int (i : Int))], (fdC P).scope.names, []⟩ g = some ((.ret (.int (ns.getD i 0)), ⟨[(Str.ofString "script", .val (.ref a)), (Str.ofString "k", .int (i : Int))], (fdC P).scope.names, []⟩), g) := by
        refine ex_if c_if htest ?_
        refine zsq (m := N + 18) c_r1 ?_
        refine j5 c_e1 c_e1s (zam c_e1b zsm) (zam c_e1i zsl) ?_
        show (gL (K23x P a ob) (.val (.ref a))).bind (fun l => (natS (i : Int)).bind fun j => zad (small j) ((nthS l j).bind zca)) = _
        rw [hl]
        show zad (small i) ((nthS vs i).bind zca) = _
        rw [show small i = true from Nat.ble_eq_true_of_le (by omega), ints_at hi hlt]
        rfl
      exact zmd h1
    · rw [decide_eq_false (show ¬ (i : Int) < ns.length by omega)] at htest
      have h1 : exS (K23x P a ob) (run (K23x P a ob) gd zce (N + 19)) (sC P 0) ⟨[(Str.ofString "script", .val (.ref a)), (Str.ofString "k", .int (i : Int))], (fdC P).scope.names, []⟩ g = some ((.next, ⟨[(Str.ofString "script", .val (.ref a)), (Str.ofString "k", .int (i : Int))], (fdC P).scope.names, []⟩), g) := ex_if c_if htest rfl
      rw [show ns.getD i 0 = 0 by simp [List.getD, List.getElem?_eq_none (show ns.length ≤ i by omega)]]
      exact c4 h1 hret0
  exact zlz (e := ⟨2394, 2, []⟩) (by kernel_rfl) c_ob c_fd c_bd c_good (by rw [c_fi, c_sg]; exact hrun)
end
set_option maxRecDepth 100000 in
theorem zkj (P : Params) : BindOK (KX P) ⟨2394, 2, []⟩ := bd2 fun a b => by kernel_rfl
theorem zki (P : Params) : BindOK (K23 P) ⟨2394, 2, []⟩ := zkj P
theorem cel_has (P : Params) : ((K23 P).lookup 2394).isSome = true := by kernel_rfl
theorem zkh (P : Params) (a : Addr) (o : Obj) : BindOK (K23x P a o) ⟨2394, 2, []⟩ := (zki P).back (cel_has P)
theorem zmm (P : Params) (a : Addr) (o : Obj) : ∀ e ∈ ([⟨2394, 2, []⟩] : List FnE), BindOK (K23x P a o) e := fun e he => by
  rw [List.mem_singleton.mp he]
  exact zkh P a o
set_option maxRecDepth 100000 in
theorem celO_ok {w : World} {p : Program} {loose : List Str} {mean : ExcName → Option Value} {mg mb : Str → Option Value} {a : Addr} {o : Obj} {vs : List Value} {ns : List Int} (hl : gL (K23x w.params a o) (.val (.ref a)) = some vs) (hi : IntsAre vs ns) (hz : ns.length ≤ 63) : zbf (G23x w p loose mean mg mb a o) (celO a ns) 2 := by
  intro f us g v g' c M z Vs s R h H hv C G
  refine zaa h fun h1 h2 => ?_
  have h1' := Nat.eq_of_beq_eq_true h1
  subst h1'
  refine zac h2 fun u k h3 h4 => ?_
  refine zab h4 fun j h5 h6 => ?_
  refine zab h6 fun i h7 h8 => ?_
  clear h h1 h2 h4 h6
  have hu : u = .val (.ref a) ∧ some (SV.int (ns.getD i 0), g) = some (v, g') := by
    by_cases q : u = .val (.ref a)
    · rw [if_pos q] at h8; exact ⟨q, h8⟩
    · rw [if_neg q] at h8; cases h8
  obtain ⟨rfl, h9⟩ := hu
  cases h9
  have hus := zbw h3
  rw [zay h5, zbs h7] at hus
  subst hus
  exact zgx (Γ := G23x w p loose mean mg mb a o) (zmm w.params a o) zee 2394 _ g _ g c M z Vs s R (cel_gL (gd := gd23) (N := 0) hl hi hz) H hv C G
noncomputable def crcs23 : List Int := [0, 1281784366, 2432438683, 724290803, 1761210948, 1035929173, 1465540691, 3193118720, 1289234702, 2878508800, 1288562849, 3992659128, 2301737652, 2162375681, 1004644740, 2793987262, 1612278905, 1709157082, 705011278, 3710391079, 3920750422, 3464969992, 1114862883, 3997399081, 238723386, 2321848637, 344216230, 1942485153, 3989057192, 2491848154, 720684913, 1800326979, 2748851403, 1081325874, 2230409239, 3476098737, 4040149050, 2325376084, 552236463, 170864162]
noncomputable def rows23 : List (List Int) := [
[80, 67, 75, 84, 1, 3, 111, 110, 101, 1, 45, 0, 1, 3, 111, 110, 101, 5, 0, 12, 0, 0, 0, 159, 181, 67, 146],
[80, 67, 75, 84, 1, 3, 111, 110, 101, 1, 45, 1, 5, 1, 1, 46, 122, 102, 76, 7, 1, 3, 111, 110, 101, 5, 1, 20, 0, 0, 0, 12, 232, 8, 231],
[80, 67, 75, 84, 1, 3, 111, 110, 101, 1, 45, 1, 5, 2, 2, 155, 17, 252, 144, 7, 7, 1, 3, 111, 110, 101, 5, 2, 21, 0, 0, 0, 90, 70, 117, 203],
[80, 67, 75, 84, 1, 3, 111, 110, 101, 1, 45, 1, 21, 3, 2, 243, 204, 43, 43, 128, 7, 1, 3, 111, 110, 101, 5, 3, 21, 0, 0, 0, 169, 147, 177, 40],
[80, 67, 75, 84, 1, 3, 111, 110, 101, 1, 45, 1, 21, 4, 2, 68, 242, 249, 104, 129, 7, 1, 3, 111, 110, 101, 5, 4, 21, 0, 0, 0, 41, 197, 15, 42],
[80, 67, 75, 84, 1, 3, 111, 110, 101, 1, 45, 1, 21, 5, 2, 85, 6, 191, 61, 130, 7, 1, 3, 111, 110, 101, 5, 5, 21, 0, 0, 0, 36, 74, 179, 241],
[80, 67, 75, 84, 1, 3, 111, 110, 101, 1, 45, 1, 21, 6, 2, 83, 96, 90, 87, 131, 7, 1, 3, 111, 110, 101, 5, 6, 21, 0, 0, 0, 210, 98, 227, 100],
[80, 67, 75, 84, 1, 3, 111, 110, 101, 1, 45, 1, 21, 7, 2, 0, 32, 83, 190, 132, 7, 1, 3, 111, 110, 101, 5, 7, 21, 0, 0, 0, 113, 20, 107, 19],
[80, 67, 75, 84, 1, 3, 111, 110, 101, 1, 45, 1, 21, 8, 2, 14, 41, 216, 76, 133, 7, 1, 3, 111, 110, 101, 5, 8, 21, 0, 0, 0, 236, 244, 108, 139],
[80, 67, 75, 84, 1, 3, 111, 110, 101, 1, 45, 1, 21, 9, 2, 0, 143, 146, 171, 134, 7, 1, 3, 111, 110, 101, 5, 9, 21, 0, 0, 0, 81, 250, 196, 66],
[80, 67, 75, 84, 1, 3, 111, 110, 101, 1, 45, 1, 21, 10, 2, 161, 232, 205, 76, 135, 7, 1, 3, 111, 110, 101, 5, 10, 21, 0, 0, 0, 170, 117, 231, 28],
[80, 67, 75, 84, 1, 3, 111, 110, 101, 1, 45, 1, 21, 11, 2, 184, 36, 251, 237, 136, 7, 1, 3, 111, 110, 101, 5, 11, 21, 0, 0, 0, 126, 223, 22, 79],
[80, 67, 75, 84, 1, 3, 111, 110, 101, 1, 45, 1, 21, 12, 2, 180, 186, 49, 137, 137, 7, 1, 3, 111, 110, 101, 5, 12, 21, 0, 0, 0, 210, 234, 220, 19],
[80, 67, 75, 84, 1, 3, 111, 110, 101, 1, 45, 1, 21, 13, 2, 1, 60, 227, 128, 138, 7, 1, 3, 111, 110, 101, 5, 13, 21, 0, 0, 0, 95, 125, 230, 250],
[80, 67, 75, 84, 1, 3, 111, 110, 101, 1, 45, 1, 21, 14, 2, 132, 169, 225, 59, 139, 7, 1, 3, 111, 110, 101, 5, 14, 21, 0, 0, 0, 145, 80, 60, 130],
[80, 67, 75, 84, 1, 3, 111, 110, 101, 1, 45, 1, 21, 15, 2, 190, 220, 136, 166, 140, 7, 1, 3, 111, 110, 101, 5, 15, 21, 0, 0, 0, 169, 20, 91, 221],
[80, 67, 75, 84, 1, 3, 111, 110, 101, 1, 45, 1, 21, 16, 2, 121, 108, 25, 96, 141, 7, 1, 3, 111, 110, 101, 5, 16, 21, 0, 0, 0, 66, 253, 11, 81],
[80, 67, 75, 84, 1, 3, 111, 110, 101, 1, 45, 1, 21, 17, 2, 218, 170, 223, 101, 142, 7, 1, 3, 111, 110, 101, 5, 17, 21, 0, 0, 0, 65, 217, 193, 194],
[80, 67, 75, 84, 1, 3, 111, 110, 101, 1, 45, 1, 21, 18, 2, 78, 158, 5, 42, 143, 7, 1, 3, 111, 110, 101, 5, 18, 21, 0, 0, 0, 27, 170, 97, 176],
[80, 67, 75, 84, 1, 3, 111, 110, 101, 1, 45, 1, 21, 19, 2, 39, 19, 40, 221, 144, 7, 1, 3, 111, 110, 101, 5, 19, 21, 0, 0, 0, 151, 182, 106, 246],
[80, 67, 75, 84, 1, 3, 111, 110, 101, 1, 45, 1, 21, 20, 2, 86, 231, 177, 233, 145, 7, 1, 3, 111, 110, 101, 5, 20, 21, 0, 0, 0, 39, 156, 183, 169],
[80, 67, 75, 84, 1, 3, 111, 110, 101, 1, 45, 1, 21, 21, 2, 8, 63, 135, 206, 146, 7, 1, 3, 111, 110, 101, 5, 21, 21, 0, 0, 0, 250, 64, 143, 84],
[80, 67, 75, 84, 1, 3, 111, 110, 101, 1, 45, 1, 21, 22, 2, 35, 117, 115, 66, 147, 7, 1, 3, 111, 110, 101, 5, 22, 21, 0, 0, 0, 139, 62, 42, 71],
[80, 67, 75, 84, 1, 3, 111, 110, 101, 1, 45, 1, 21, 23, 2, 41, 120, 67, 238, 148, 7, 1, 3, 111, 110, 101, 5, 23, 21, 0, 0, 0, 253, 171, 248, 67],
[80, 67, 75, 84, 1, 3, 111, 110, 101, 1, 45, 1, 21, 24, 2, 58, 161, 58, 14, 149, 7, 1, 3, 111, 110, 101, 5, 24, 21, 0, 0, 0, 216, 55, 53, 45],
[80, 67, 75, 84, 1, 3, 111, 110, 101, 1, 45, 1, 21, 25, 2, 61, 153, 100, 138, 150, 7, 1, 3, 111, 110, 101, 5, 25, 21, 0, 0, 0, 167, 200, 209, 33],
[80, 67, 75, 84, 1, 3, 111, 110, 101, 1, 45, 1, 21, 26, 2, 166, 82, 132, 20, 151, 7, 1, 3, 111, 110, 101, 5, 26, 21, 0, 0, 0, 49, 168, 93, 10],
[80, 67, 75, 84, 1, 3, 111, 110, 101, 1, 45, 1, 21, 27, 2, 161, 248, 199, 115, 152, 7, 1, 3, 111, 110, 101, 5, 27, 21, 0, 0, 0, 239, 176, 218, 106],
[80, 67, 75, 84, 1, 3, 111, 110, 101, 1, 45, 1, 21, 28, 2, 168, 46, 196, 237, 153, 7, 1, 3, 111, 110, 101, 5, 28, 21, 0, 0, 0, 239, 26, 246, 214],
[80, 67, 75, 84, 1, 3, 111, 110, 101, 1, 45, 1, 21, 29, 2, 218, 149, 134, 148, 154, 7, 1, 3, 111, 110, 101, 5, 29, 21, 0, 0, 0, 62, 132, 76, 224],
[80, 67, 75, 84, 1, 3, 111, 110, 101, 1, 45, 1, 21, 30, 2, 113, 199, 244, 42, 155, 7, 1, 3, 111, 110, 101, 5, 30, 21, 0, 0, 0, 38, 52, 148, 250],
[80, 67, 75, 84, 1, 3, 111, 110, 101, 1, 45, 1, 21, 31, 2, 67, 207, 78, 107, 156, 7, 1, 3, 111, 110, 101, 5, 31, 21, 0, 0, 0, 98, 5, 33, 202],
[80, 67, 75, 84, 1, 3, 111, 110, 101, 1, 45, 1, 21, 32, 2, 203, 36, 216, 163, 157, 7, 1, 3, 111, 110, 101, 5, 32, 21, 0, 0, 0, 251, 90, 232, 248],
[80, 67, 75, 84, 1, 3, 111, 110, 101, 1, 45, 1, 21, 33, 2, 50, 185, 115, 64, 158, 7, 1, 3, 111, 110, 101, 5, 33, 21, 0, 0, 0, 99, 162, 199, 200],
[80, 67, 75, 84, 1, 3, 111, 110, 101, 1, 45, 1, 21, 34, 2, 23, 88, 241, 132, 159, 7, 1, 3, 111, 110, 101, 5, 34, 21, 0, 0, 0, 41, 126, 25, 221],
[80, 67, 75, 84, 1, 3, 111, 110, 101, 1, 45, 1, 21, 35, 2, 177, 14, 49, 207, 160, 7, 1, 3, 111, 110, 101, 5, 35, 21, 0, 0, 0, 155, 71, 188, 53],
[80, 67, 75, 84, 1, 3, 111, 110, 101, 1, 45, 1, 21, 36, 2, 58, 200, 207, 240, 161, 7, 1, 3, 111, 110, 101, 5, 36, 21, 0, 0, 0, 125, 166, 202, 102],
[80, 67, 75, 84, 1, 3, 111, 110, 101, 1, 45, 1, 21, 37, 2, 84, 108, 154, 138, 162, 7, 1, 3, 111, 110, 101, 5, 37, 21, 0, 0, 0, 170, 37, 246, 25],
[80, 67, 75, 84, 1, 3, 111, 110, 101, 1, 45, 1, 21, 38, 2, 175, 117, 234, 32, 163, 7, 1, 3, 111, 110, 101, 5, 38, 21, 0, 0, 0, 154, 182, 4, 234],
[80, 67, 75, 84, 1, 3, 111, 110, 101, 1, 45, 1, 21, 39, 2, 34, 46, 47, 10, 164, 7, 1, 3, 111, 110, 101, 5, 39, 21, 0, 0, 0, 7, 5, 237, 239]]
noncomputable def crc23 (n : Nat) : Int := (nthS crcs23 n).getD 0
noncomputable def zbr (n : Nat) : List Int := (nthS rows23 n).getD []
noncomputable def sev (n : Nat) : List Int := List.replicate n 7
noncomputable def met23 (n : Nat) : Str := match Nat.ble 3 n with
  | true => Str.ofString "runs"
  | false => Str.ofString "store"
noncomputable def bod23 (n : Nat) : List Int := match Nat.ble 3 n with
  | true => [((n + 125 : Nat) : Int), 7]
  | false => sev n
noncomputable def at23 (n : Nat) : List (Str × SV) := [(Str.ofString "method", .str (met23 n)), (Str.ofString "kind", .str (Str.ofString "crc32")), (Str.ofString "size", .int (n : Int)), (Str.ofString "value", .int (crc23 n)), (Str.ofString "body", .bytes (bod23 n))]
noncomputable def PL : List Addr := [250, 264, 278, 285, 1337, 1378, 1385, 1392, 1399, 1420, 1510, 1596, 1658, 1686, 1693, 1710, 1724, 1731, 1743]
noncomputable def MT23 (n : Nat) : List (List Int × List (Str × SV)) := match n with
  | 0 => []
  | k + 1 => [(sev (k + 1), at23 (k + 1))]
noncomputable def oMB (P : Params) : Orc := orcP (K23 P) gd23 FT PL 2000 zce 14
noncomputable def mb23 (P : Params) (n : Nat) : Option (List (Str × SV)) := ((oMB P) 1792 [.bytes (sev n), .str (Str.ofString "best"), .str (Str.ofString "crc32")] ⟨[], [], 0⟩).bind fun p => instS 1781 p.1 p.2
noncomputable def oLW (P : Params) (a : Addr) (ob : Obj) (ns : List Int) (n : Nat) : Orc := orcP (K23x P a ob) gd23 FT PL 2000 (orr (celO a ns) (msO3 1811 1781 (MT23 n))) 12
noncomputable def obL (P : Params) : Obj := ((K23 P).lookup 2401).getD default
noncomputable def fdL (P : Params) : FuncData := (fdOf (obL P)).getD default
noncomputable def bdL (P : Params) : List Stmt := (zdu (fdL P).body).getD []
noncomputable def scL (P : Params) : List (Str × NameKind) := (fdL P).scope.names
noncomputable def sL (P : Params) (i : Nat) : Stmt := zfp (bdL P) i
noncomputable def u7 (P : Params) : List Stmt := (bdL P).drop 6
noncomputable def attB : Expr → Expr
  | .Attribute b _ _ => b
  | e => e
noncomputable def attP : Expr → Pos
  | .Attribute _ _ p => p
  | _ => default
noncomputable def d4 : Stmt → Expr
  | .Assign ts _ _ => (nthS ts 0).getD (.Name default default)
  | _ => .Name default default
noncomputable def scr : Str := Str.ofString "script"
noncomputable def F0 (P : Params) (a : Addr) : Fi := ⟨[(scr, .val (.ref a))], scL P, []⟩
noncomputable def G0 : Sg := ⟨[], [], 0⟩
noncomputable def nxF (o : Option (Out × Sg)) : Fi := match o with
  | some (.f (.next, f), _) => f
  | _ => ⟨[], [], []⟩
noncomputable def nxG (o : Option (Out × Sg)) : Sg := match o with
  | some (_, g) => g
  | _ => G0
noncomputable def nxK (o : Option (Out × Sg)) (x : Str) : Nat := match look (nxF o).m x with
  | some (.obj k) => k
  | _ => 0
section
variable (P : Params) (a : Addr) (ob : Obj) (ns : List Int) (n : Nat)
noncomputable def e0L : Option (Out × Sg) := run (K23x P a ob) gd23 (oLW P a ob ns 0) 2016 (.ex [sL P 0]) (F0 P a) G0
noncomputable def G1 : Sg := nxG (e0L P a ob ns)
noncomputable def kB : Nat := nxK (e0L P a ob ns) (Str.ofString "box")
noncomputable def F1 : Fi := ⟨[(scr, .val (.ref a)), (Str.ofString "box", .obj (kB P a ob ns))], scL P, []⟩
noncomputable def c1L : Expr := zgz (sL P 1)
noncomputable def cyL : Expr := argN (c1L P) 1
noncomputable def muL : Expr := argN (cyL P) 0
noncomputable def e1L : SV × Sg := mkO (.list [.int 7]) (G1 P a ob ns)
noncomputable def e2L : Option (Out × Sg) := zaf (binS .Mult (e1L P a ob ns).1 (.int (n : Int)) (e1L P a ob ns).2) fun v gB => zaf ((one [v]).bind fun v => zhw "bytes" v gB) fun w gC => (zjp (K23x P a ob) (Str.ofString "add") (.obj (kB P a ob ns)) (G1 P a ob ns)).bind fun fn => zaf (zbp (K23x P a ob) (oLW P a ob ns n) (.ref fn) [.obj (kB P a ob ns), .str (Str.ofString "one"), w] gC) fun _ gD => run (K23x P a ob) gd23 (oLW P a ob ns n) 2014 (.ex [sL P 2]) (F1 P a ob ns) gD
noncomputable def G3 : Sg := nxG (e2L P a ob ns n)
noncomputable def kR : Nat := nxK (e2L P a ob ns n) (Str.ofString "row")
noncomputable def F3 : Fi := ⟨[(scr, .val (.ref a)), (Str.ofString "box", .obj (kB P a ob ns)), (Str.ofString "row", .obj (kR P a ob ns n))], scL P, []⟩
noncomputable def rowV : List SV := (zbr n).map .int
noncomputable def F5 (t p : Int) : Fi := ⟨[(scr, .val (.ref a)), (Str.ofString "box", .obj (kB P a ob ns)), (Str.ofString "row", .obj (kR P a ob ns n)), (Str.ofString "turn", .int t), (Str.ofString "place", .int p)], scL P, []⟩
noncomputable def G5 (l : List SV) : Sg := setO (G3 P a ob ns n) (kR P a ob ns n) (.list l)
noncomputable def e5L (p : Int) : Option (Out × Sg) := run (K23x P a ob) gd23 (oLW P a ob ns n) 2010 (.ex (u7 P)) (F5 P a ob ns n 0 p) (G5 P a ob ns n (rowV n))
noncomputable def retB (p : Out) : Bool := match p with
  | .f q => match q.1 with
    | .ret v => match v with
      | .bool b => b
      | _ => false
    | _ => false
  | _ => false
noncomputable def isT (o : Option (Out × Sg)) : Bool := match o with
  | some p => retB p.1
  | none => false
theorem isT_eq {o : Option (Out × Sg)} (h : isT o = true) : ∃ f g, o = some (.f (.ret (.bool true), f), g) := by
  cases o with
  | none => cases h
  | some p =>
    obtain ⟨o, g⟩ := p
    cases o with
    | f q =>
      obtain ⟨fl, f⟩ := q
      cases fl with
      | ret v =>
        cases v with
        | bool b => exact ⟨f, g, by rw [show b = true from h]⟩
        | _ => cases h
      | _ => cases h
    | _ => cases h
noncomputable def Law23 (p : Int) : Prop := ((e2L P a ob ns n).map (·.1), oL (G3 P a ob ns n).σ (.obj (kR P a ob ns n)), isT (e5L P a ob ns n p)) = (some (.f (.next, F3 P a ob ns n)), some (kR P a ob ns n, rowV n), true)
end
section
variable {K : Frag} {gd : List Addr} {orc : Orc}
theorem j0 {g : Sg} {k : Nat} {l : List SV} {p : Nat} {v : SV} (h : nthS l p = some v) : setO g k (.list (l.set p v)) = setO g k (.list l) := by
  rw [zao] at h
  have : l.set p v = l := by
    obtain ⟨hp, e⟩ := List.getElem?_eq_some_iff.mp h
    rw [← e]
    exact List.set_getElem_self hp
  rw [this]
theorem zjb {σ : List SO} {i k : Nat} {l : List SV} (h : oL σ (.obj i) = some (k, l)) : oO σ (.obj i) = some (k, .list l) := by
  refine zab h fun q h1 h2 => ?_
  obtain ⟨j, o⟩ := q
  refine zag h2 fun l' h3 h4 => ?_
  cases o with
  | list l'' => cases h3; cases h4; exact h1
  | _ => cases h3
end
section
set_option maxRecDepth 100000
variable {P : Params} {a : Addr} {ob : Obj} {ns : List Int} {gd : List Addr} {orc : Orc} {m : Nat} {f : Fi} {g : Sg}
theorem l_bd : bdL P = sL P 0 :: sL P 1 :: sL P 2 :: sL P 3 :: sL P 4 :: sL P 5 :: u7 P := by kernel_rfl
theorem l1_x : zcl (sL P 1) = .expr (c1L P) := by kernel_rfl
theorem l1_p : zbe (c1L P) = true := by kernel_rfl
theorem l1_c : zan (c1L P) = .call true (zar (c1L P)) [argN (c1L P) 0, cyL P] (zfi (c1L P)) := by kernel_rfl
theorem l1_a : attO (zar (c1L P)) = some (attB (zar (c1L P)), Str.ofString "add", attP (zar (c1L P))) := by kernel_rfl
theorem l1_g : (zds (attB (zar (c1L P))) && ((attP (zar (c1L P))).endLine == (zfi (c1L P)).line) && Nat.blt [argN (c1L P) 0, cyL P].length 30) = true := by kernel_rfl
theorem l1_b : zan (attB (zar (c1L P))) = .name (Str.ofString "box") := by kernel_rfl
theorem l1_s0 : zai (argN (c1L P) 0) = true := by kernel_rfl
theorem l1_s1 : zai (cyL P) = true := by kernel_rfl
theorem l1_e0 : run (K23x P a ob) gd orc (m + 1) (.ev (argN (c1L P) 0)) f g = some (.v (.str (Str.ofString "one")), g) := by kernel_rfl
theorem l1_cy : zan (cyL P) = .call true (zar (cyL P)) [muL P] (zfi (cyL P)) := by kernel_rfl
theorem l1_cq : attO (zar (cyL P)) = none := by kernel_rfl
theorem l1_cc : zaq (zar (cyL P)) = true := by kernel_rfl
theorem l1_sm : zai (muL P) = true := by kernel_rfl
theorem l1_mu : zan (muL P) = .bin (binL (muL P)) .Mult (binR (muL P)) := by kernel_rfl
theorem l1_md : zan (binR (muL P)) = .bin (binL (binR (muL P))) .Mod (binR (binR (muL P))) := by kernel_rfl
theorem l1_40 : run (K23x P a ob) gd orc (m + 1) (.ev (binR (binR (muL P)))) f g = some (.v (.int 40), g) := by kernel_rfl
theorem l1_ct : run (K23x P a ob) gd orc (m + 1) (.ev (zar (cyL P))) (F1 P a ob ns) g = some (.v (.val (.type "bytes")), g) := by kernel_rfl
theorem l1_7 : run (K23x P a ob) gd orc (m + 3) (.ev (binL (muL P))) f g = some (.v (mkO (.list [.int 7]) g).1, (mkO (.list [.int 7]) g).2) := by kernel_rfl
theorem l1_k : zan (binL (binR (muL P))) = .call true (zar (binL (binR (muL P)))) [argN (binL (binR (muL P))) 0, argN (binL (binR (muL P))) 1] (zfi (binL (binR (muL P)))) := by kernel_rfl
theorem l1_kq : attO (zar (binL (binR (muL P)))) = none := by kernel_rfl
theorem l1_kc : zaq (zar (binL (binR (muL P)))) = true := by kernel_rfl
theorem l1_kf : run (K23x P a ob) gd orc (m + 1) (.ev (zar (binL (binR (muL P))))) (F1 P a ob ns) g = some (.v (.val (.ref 2394)), g) := by kernel_rfl
theorem l1_k0 : zan (argN (binL (binR (muL P))) 0) = .name scr := by kernel_rfl
theorem l1_ks0 : zai (argN (binL (binR (muL P))) 0) = true := by kernel_rfl
theorem l1_ks1 : zai (argN (binL (binR (muL P))) 1) = true := by kernel_rfl
theorem l1_k1 : run (K23x P a ob) gd orc (m + 1) (.ev (argN (binL (binR (muL P))) 1)) f g = some (.v (.int 0), g) := by kernel_rfl
theorem zjn : keepIn (K23x P a ob) (.ref 2394) = true := by kernel_rfl
theorem zjm : makesIn (K23x P a ob) 2394 = false := by kernel_rfl
noncomputable def tnE (P : Params) : Expr := zgz (sL P 3)
theorem l3_x : zcl (sL P 3) = .asg (some (d4 (sL P 3))) (tnE P) := by kernel_rfl
theorem l3_l : lcOf (tnE P) = none := by kernel_rfl
theorem l3_a : zeq (d4 (sL P 3)) = .name (Str.ofString "turn") := by kernel_rfl
theorem l3_p : zbe (tnE P) = true := by kernel_rfl
theorem l3_s : zat (scL P) (Str.ofString "turn") = true := by kernel_rfl
theorem l3_md : zan (tnE P) = .bin (binL (tnE P)) .Mod (binR (tnE P)) := by kernel_rfl
theorem l3_4 : run (K23x P a ob) gd orc (m + 1) (.ev (binR (tnE P))) f g = some (.v (.int 4), g) := by kernel_rfl
theorem l3_k : zan (binL (tnE P)) = .call true (zar (binL (tnE P))) [argN (binL (tnE P)) 0, argN (binL (tnE P)) 1] (zfi (binL (tnE P))) := by kernel_rfl
theorem l3_kq : attO (zar (binL (tnE P))) = none := by kernel_rfl
theorem l3_kc : zaq (zar (binL (tnE P))) = true := by kernel_rfl
theorem l3_kf {n : Nat} : run (K23x P a ob) gd orc (m + 1) (.ev (zar (binL (tnE P)))) (F3 P a ob ns n) g = some (.v (.val (.ref 2394)), g) := by kernel_rfl
theorem l3_k0 : zan (argN (binL (tnE P)) 0) = .name scr := by kernel_rfl
theorem l3_ks0 : zai (argN (binL (tnE P)) 0) = true := by kernel_rfl
theorem l3_ks1 : zai (argN (binL (tnE P)) 1) = true := by kernel_rfl
theorem l3_k1 : run (K23x P a ob) gd orc (m + 1) (.ev (argN (binL (tnE P)) 1)) f g = some (.v (.int 1), g) := by kernel_rfl
noncomputable def plE (P : Params) : Expr := zgz (sL P 4)
noncomputable def F4 (P : Params) (a : Addr) (ob : Obj) (ns : List Int) (n : Nat) (t : Int) : Fi := ⟨[(scr, .val (.ref a)), (Str.ofString "box", .obj (kB P a ob ns)), (Str.ofString "row", .obj (kR P a ob ns n)), (Str.ofString "turn", .int t)], scL P, []⟩
theorem l4_x : zcl (sL P 4) = .asg (some (d4 (sL P 4))) (plE P) := by kernel_rfl
theorem l4_l : lcOf (plE P) = none := by kernel_rfl
theorem l4_a : zeq (d4 (sL P 4)) = .name (Str.ofString "place") := by kernel_rfl
theorem l4_p : zbe (plE P) = true := by kernel_rfl
theorem l4_s : zat (scL P) (Str.ofString "place") = true := by kernel_rfl
theorem l4_md : zan (plE P) = .bin (binL (plE P)) .Mod (binR (plE P)) := by kernel_rfl
theorem l4_k : zan (binL (plE P)) = .call true (zar (binL (plE P))) [argN (binL (plE P)) 0, argN (binL (plE P)) 1] (zfi (binL (plE P))) := by kernel_rfl
theorem l4_kq : attO (zar (binL (plE P))) = none := by kernel_rfl
theorem l4_kc : zaq (zar (binL (plE P))) = true := by kernel_rfl
theorem l4_kf {n : Nat} {t : Int} : run (K23x P a ob) gd orc (m + 1) (.ev (zar (binL (plE P)))) (F4 P a ob ns n t) g = some (.v (.val (.ref 2394)), g) := by kernel_rfl
theorem l4_k0 : zan (argN (binL (plE P)) 0) = .name scr := by kernel_rfl
theorem l4_ks0 : zai (argN (binL (plE P)) 0) = true := by kernel_rfl
theorem l4_ks1 : zai (argN (binL (plE P)) 1) = true := by kernel_rfl
theorem l4_k1 : run (K23x P a ob) gd orc (m + 1) (.ev (argN (binL (plE P)) 1)) f g = some (.v (.int 2), g) := by kernel_rfl
theorem l4_c : zan (binR (plE P)) = .call true (zar (binR (plE P))) [argN (binR (plE P)) 0] (zfi (binR (plE P))) := by kernel_rfl
theorem l4_cq : attO (zar (binR (plE P))) = none := by kernel_rfl
theorem l4_cc : zaq (zar (binR (plE P))) = true := by kernel_rfl
theorem l4_cf {n : Nat} {t : Int} : run (K23x P a ob) gd orc (m + 1) (.ev (zar (binR (plE P)))) (F4 P a ob ns n t) g = some (.v (.val (.builtin "len")), g) := by kernel_rfl
theorem l4_cs : zai (argN (binR (plE P)) 0) = true := by kernel_rfl
theorem l4_cr : zan (argN (binR (plE P)) 0) = .name (Str.ofString "row") := by kernel_rfl
noncomputable def xoE (P : Params) : Expr := zgz (sL P 5)
theorem l5_x : zcl (sL P 5) = .asg (some (d4 (sL P 5))) (xoE P) := by kernel_rfl
theorem l5_l : lcOf (xoE P) = none := by kernel_rfl
theorem l5_a : zeq (d4 (sL P 5)) = .sub (subB (d4 (sL P 5))) (subI (d4 (sL P 5))) := by kernel_rfl
theorem l5_p : (zbe (xoE P) && c3 (subI (d4 (sL P 5)))) = true := by kernel_rfl
theorem l5_b : zan (subB (d4 (sL P 5))) = .name (Str.ofString "row") := by kernel_rfl
theorem l5_i : zan (subI (d4 (sL P 5))) = .name (Str.ofString "place") := by kernel_rfl
theorem l5_md : zan (xoE P) = .bin (binL (xoE P)) .BitXor (binR (xoE P)) := by kernel_rfl
theorem l5_r : zan (binR (xoE P)) = .name (Str.ofString "turn") := by kernel_rfl
theorem l5_s : zan (binL (xoE P)) = .sub (subB (binL (xoE P))) (subI (binL (xoE P))) := by kernel_rfl
theorem l5_sb : zan (subB (binL (xoE P))) = .name (Str.ofString "row") := by kernel_rfl
theorem l5_si : zan (subI (binL (xoE P))) = .name (Str.ofString "place") := by kernel_rfl
theorem l5_ss : zby (subI (binL (xoE P))) = none := by kernel_rfl
end
section
variable {P : Params} {a : Addr} {ob : Obj} {ns : List Int} {n : Nat}
open Classical in
theorem zed {i : Nat} {g : Sg} : oLW P a ob ns n 2394 [.val (.ref a), .int (i : Int)] g = some (.int (ns.getD i 0), g) := by
  have e : celO a ns 2394 [.val (.ref a), .int (i : Int)] g = some (.int (ns.getD i 0), g) := by
    show (if (SV.val (.ref a)) = .val (.ref a) then some (SV.int (ns.getD i 0), g) else none) = _
    rw [if_pos rfl]
  have e2 : orr (celO a ns) (msO3 1811 1781 (MT23 n)) 2394 [.val (.ref a), .int (i : Int)] g = some (.int (ns.getD i 0), g) := by
    unfold orr
    rw [e]
  show (match orr (celO a ns) (msO3 1811 1781 (MT23 n)) 2394 [.val (.ref a), .int (i : Int)] g with
    | some r => some r
    | none => _) = _
  rw [e2]
set_option maxRecDepth 100000 in
theorem j6 {t p : Nat} {x : Int} {r : List Stmt} {out : Out} {g' : Sg}
    (he0 : run (K23x P a ob) gd23 (oLW P a ob ns n) (2000 + 16) (.ex [sL P 0]) (F0 P a) G0 = some (.f (.next, F1 P a ob ns), G1 P a ob ns))
    (he : (e2L P a ob ns n).map (·.1) = some (.f (.next, F3 P a ob ns n))) (hr : oL (G3 P a ob ns n).σ (.obj (kR P a ob ns n)) = some (kR P a ob ns n, rowV n))
    (hsm : small (zbr n).length = true) (h0 : (ns.getD 0 0).fmod 40 = n) (h1 : (ns.getD 1 0).fmod 4 = t) (h2 : (ns.getD 2 0).fmod ((zbr n).length : Int) = p) (hlen : 0 < (zbr n).length) (hx : (zbr n)[p]? = some x)
    (hrest : run (K23x P a ob) gd23 (oLW P a ob ns n) (2000 + 10) (.ex r) (F5 P a ob ns n t p) (G5 P a ob ns n ((rowV n).set p (.int (Builtin.bitXor x t)))) = some (out, g')) :
    run (K23x P a ob) gd23 (oLW P a ob ns n) (2000 + 16) (.ex (sL P 0 :: sL P 1 :: sL P 2 :: sL P 3 :: sL P 4 :: sL P 5 :: r)) (F0 P a) G0 = some (out, g') := by
  refine c4 (m := 2000 + 15) (zsr (he0)) ?_
  cases hq : e2L P a ob ns n with
  | none => rw [hq] at he; cases he
  | some q =>
  obtain ⟨o2, g2⟩ := q
  rw [hq] at he
  have ho : o2 = .f (.next, F3 P a ob ns n) := Option.some.inj he
  subst ho
  have hG3 : G3 P a ob ns n = g2 := by unfold G3; rw [hq]; rfl
  have hq' := hq
  unfold e2L at hq'
  refine zac hq' fun v gB b1 hq1 => ?_
  refine zac hq1 fun w gC b2 hq2 => ?_
  refine zab hq2 fun fn b3 hq3 => ?_
  refine zac hq3 fun u gD b4 b5 => ?_
  clear hq' hq1 hq2 hq3
  have look1s : look (F1 P a ob ns).m scr = some (.val (.ref a)) := by kernel_rfl
  have zjh : look (F1 P a ob ns).m (Str.ofString "box") = some (.obj (kB P a ob ns)) := by kernel_rfl
  -- box.add(..)
  refine c4 (m := 2000 + 14) (g1 := gD) (ex_meth (m := 2000 + 12) l1_x l1_p l1_c l1_a l1_g (v := .obj (kB P a ob ns)) (w := u) (fn := fn) (zam l1_b zjh) (by rfl) b3 (zbd l1_s0 l1_e0 (zbd l1_s1 ?_ zbz)) b4) ?_
  · refine j7 l1_cy l1_cq l1_cc l1_ct (zbd l1_sm ?_ zbz) b2
    refine d6 l1_mu l1_7 (d6 l1_md (zeb l1_k l1_kq l1_kc l1_kf zjn zjm (zbd l1_ks0 (zam l1_k0 look1s) (zbd l1_ks1 l1_k1 zbz)) (zed (i := 0))) l1_40 ?_) b1
    show (zad (decide ((0 : Int) < 40)) (some ((ns.getD 0 0).fmod 40))).map (fun z => (SV.int z, _)) = _
    rw [h0]
    rfl
  refine c4 (m := 2000 + 13) (zsr b5) ?_
  have look3s : look (F3 P a ob ns n).m scr = some (.val (.ref a)) := by kernel_rfl
  -- turn
  refine c4 (m := 2000 + 12) (f1 := F4 P a ob ns n t) (g1 := g2) (zjz l3_x l3_l l3_a l3_p (l3_s (P := P)) (d6 (m := 2000 + 11) l3_md (zeb (m := 2000 + 9) l3_k l3_kq l3_kc l3_kf zjn zjm (zbd l3_ks0 (zam l3_k0 look3s) (zbd l3_ks1 l3_k1 zbz)) (zed (i := 1))) l3_4 ?_)) ?_
  · show (zad (decide ((0 : Int) < 4)) (some ((ns.getD 1 0).fmod 4))).map (fun z => (SV.int z, g2)) = some (.int t, g2)
    rw [h1]
    rfl
  have look4s : look (F4 P a ob ns n t).m scr = some (.val (.ref a)) := by kernel_rfl
  have look4r : look (F4 P a ob ns n t).m (Str.ofString "row") = some (.obj (kR P a ob ns n)) := by kernel_rfl
  rw [hG3] at hr
  have hoO := zjb hr
  -- place
  refine c4 (m := 2000 + 11) (f1 := F5 P a ob ns n t p) (g1 := g2) (zjz l4_x l4_l l4_a l4_p (l4_s (P := P)) (d6 (m := 2000 + 10) l4_md (zeb (m := 2000 + 8) l4_k l4_kq l4_kc l4_kf zjn zjm (zbd l4_ks0 (zam l4_k0 look4s) (zbd l4_ks1 l4_k1 zbz)) (zed (i := 2))) (zeu (m := 2000 + 8) (v := .int (rowV n).length) l4_c l4_cq l4_cc l4_cf (zbd l4_cs (zam l4_cr look4r) zbz) ?_) ?_)) ?_
  · show (match oI g2.σ (.obj (kR P a ob ns n)) with
      | some _ => lenI (K23x P a ob) (oLW P a ob ns n) (.obj (kR P a ob ns n)) g2
      | none => zfj .len (.obj (kR P a ob ns n)) g2) = _
    have h9 : oI g2.σ (.obj (kR P a ob ns n)) = none := by
      unfold oI
      rw [hoO]
      rfl
    rw [h9]
    show (lenS g2.σ (.obj (kR P a ob ns n))).bind (fun k => zad (small k) (some (SV.int k, g2))) = _
    have h10 : lenS g2.σ (.obj (kR P a ob ns n)) = some (rowV n).length := by
      show zaf (oO g2.σ (.obj (kR P a ob ns n))) (fun _ o => lenO o) = _
      rw [hoO]
      rfl
    rw [h10]
    show zad (small (rowV n).length) (some (SV.int (rowV n).length, g2)) = _
    unfold rowV
    rw [List.length_map, hsm]
    rfl
  · show (zad (decide ((0 : Int) < (rowV n).length)) (some ((ns.getD 2 0).fmod (rowV n).length))).map (fun z => (SV.int z, g2)) = some (.int p, g2)
    unfold rowV
    rw [List.length_map, decide_eq_true (by omega), h2]
    rfl
  -- row[place]
  have look5r : look (F5 P a ob ns n t p).m (Str.ofString "row") = some (.obj (kR P a ob ns n)) := by kernel_rfl
  have look5p : look (F5 P a ob ns n t p).m (Str.ofString "place") = some (.int p) := by kernel_rfl
  have look5t : look (F5 P a ob ns n t p).m (Str.ofString "turn") = some (.int t) := by kernel_rfl
  have hp : p < (zbr n).length := (List.getElem?_eq_some_iff.mp hx).1
  have hs' : small p = true := Nat.ble_eq_true_of_le (Nat.le_trans (Nat.le_of_lt hp) (Nat.le_of_ble_eq_true hsm))
  refine c4 (m := 2000 + 10) (f1 := F5 P a ob ns n t p) (g1 := G5 P a ob ns n ((rowV n).set p (.int (Builtin.bitXor x t)))) (ex_item l5_x l5_l l5_a l5_p (d6 (m := 2000 + 9) l5_md (j5 (m := 2000 + 8) (v := .int x) l5_s l5_ss (zam l5_sb look5r) (zam l5_si look5p) ?_) (zam l5_r look5t) rfl) (zam l5_b look5r) (zam l5_i look5p) ?_) hrest
  · show zaf (oO g2.σ (.obj (kR P a ob ns n))) (fun _ o => itemO p o) = _
    rw [hoO]
    show zad (small p) (nthS (rowV n) p) = _
    rw [hs', zao]
    show (rowV n)[p]? = _
    unfold rowV
    rw [List.getElem?_map, hx]
    rfl
  · show zaf (oO g2.σ (.obj (kR P a ob ns n))) (fun k o => (storO p (.int (Builtin.bitXor x t)) o).map fun so => setO g2 k so) = _
    rw [hoO]
    show (zad (small (rowV n).length && Nat.blt p (rowV n).length) (some (SO.list ((rowV n).set p (.int (Builtin.bitXor x t)))))).map (fun so => setO g2 (kR P a ob ns n) so) = _
    have h11 : (small (rowV n).length && Nat.blt p (rowV n).length) = true := by
      unfold rowV
      rw [List.length_map, hsm]
      exact Nat.ble_eq_true_of_le hp
    rw [h11]
    unfold G5
    rw [hG3]
    rfl
end
theorem zcj {β : Type} {f g : Nat → β} {a k : Nat} {l : List β} (h : (List.range' a k).map f = l) (e : l = (List.range' a k).map g) {n : Nat} (h1 : a ≤ n) (h2 : n < a + k) : f n = g n := List.map_inj_left.mp (h.trans e) n (List.mem_range'_1.mpr ⟨h1, h2⟩)
noncomputable def mbR (n : Nat) : Option (List (Str × SV)) := some (at23 n)
noncomputable def lwL (P : Params) (a : Addr) (ob : Obj) (ns : List Int) (p : Int) (n : Nat) : Option Out × Option (Nat × List SV) × Bool := ((e2L P a ob ns n).map (·.1), oL (G3 P a ob ns n).σ (.obj (kR P a ob ns n)), isT (e5L P a ob ns n p))
noncomputable def lwR (P : Params) (a : Addr) (ob : Obj) (ns : List Int) (n : Nat) : Option Out × Option (Nat × List SV) × Bool := (some (.f (.next, F3 P a ob ns n)), some (kR P a ob ns n, rowV n), true)
set_option maxRecDepth 100000 in
theorem mbE1 (P : Params) : (List.range' 1 7).map (mb23 P) = [mbR 1, mbR 2, mbR 3, mbR 4, mbR 5, mbR 6, mbR 7] := by kernel_rfl
set_option maxRecDepth 100000 in
theorem mbE8 (P : Params) : (List.range' 8 6).map (mb23 P) = [mbR 8, mbR 9, mbR 10, mbR 11, mbR 12, mbR 13] := by kernel_rfl
set_option maxRecDepth 100000 in
theorem mbE14 (P : Params) : (List.range' 14 5).map (mb23 P) = [mbR 14, mbR 15, mbR 16, mbR 17, mbR 18] := by kernel_rfl
set_option maxRecDepth 100000 in
theorem mbE19 (P : Params) : (List.range' 19 4).map (mb23 P) = [mbR 19, mbR 20, mbR 21, mbR 22] := by kernel_rfl
set_option maxRecDepth 100000 in
theorem mbE23 (P : Params) : (List.range' 23 4).map (mb23 P) = [mbR 23, mbR 24, mbR 25, mbR 26] := by kernel_rfl
set_option maxRecDepth 100000 in
theorem mbE27 (P : Params) : (List.range' 27 3).map (mb23 P) = [mbR 27, mbR 28, mbR 29] := by kernel_rfl
set_option maxRecDepth 100000 in
theorem mbE30 (P : Params) : (List.range' 30 3).map (mb23 P) = [mbR 30, mbR 31, mbR 32] := by kernel_rfl
set_option maxRecDepth 100000 in
theorem mbE33 (P : Params) : (List.range' 33 3).map (mb23 P) = [mbR 33, mbR 34, mbR 35] := by kernel_rfl
set_option maxRecDepth 100000 in
theorem mbE36 (P : Params) : (List.range' 36 2).map (mb23 P) = [mbR 36, mbR 37] := by kernel_rfl
set_option maxRecDepth 100000 in
theorem mbE38 (P : Params) : (List.range' 38 2).map (mb23 P) = [mbR 38, mbR 39] := by kernel_rfl
set_option maxRecDepth 100000 in
theorem lwE0 (P : Params) (a : Addr) (ob : Obj) (ns : List Int) (p : Int) : (List.range' 0 10).map (lwL P a ob ns p) = [lwR P a ob ns 0, lwR P a ob ns 1, lwR P a ob ns 2, lwR P a ob ns 3, lwR P a ob ns 4, lwR P a ob ns 5, lwR P a ob ns 6, lwR P a ob ns 7, lwR P a ob ns 8, lwR P a ob ns 9] := by kernel_rfl
set_option maxRecDepth 100000 in
theorem lwE10 (P : Params) (a : Addr) (ob : Obj) (ns : List Int) (p : Int) : (List.range' 10 10).map (lwL P a ob ns p) = [lwR P a ob ns 10, lwR P a ob ns 11, lwR P a ob ns 12, lwR P a ob ns 13, lwR P a ob ns 14, lwR P a ob ns 15, lwR P a ob ns 16, lwR P a ob ns 17, lwR P a ob ns 18, lwR P a ob ns 19] := by kernel_rfl
set_option maxRecDepth 100000 in
theorem lwE20 (P : Params) (a : Addr) (ob : Obj) (ns : List Int) (p : Int) : (List.range' 20 10).map (lwL P a ob ns p) = [lwR P a ob ns 20, lwR P a ob ns 21, lwR P a ob ns 22, lwR P a ob ns 23, lwR P a ob ns 24, lwR P a ob ns 25, lwR P a ob ns 26, lwR P a ob ns 27, lwR P a ob ns 28, lwR P a ob ns 29] := by kernel_rfl
set_option maxRecDepth 100000 in
theorem lwE30 (P : Params) (a : Addr) (ob : Obj) (ns : List Int) (p : Int) : (List.range' 30 10).map (lwL P a ob ns p) = [lwR P a ob ns 30, lwR P a ob ns 31, lwR P a ob ns 32, lwR P a ob ns 33, lwR P a ob ns 34, lwR P a ob ns 35, lwR P a ob ns 36, lwR P a ob ns 37, lwR P a ob ns 38, lwR P a ob ns 39] := by kernel_rfl
theorem mb_all (P : Params) {n : Nat} (h1 : 1 ≤ n) (h2 : n < 40) : mb23 P n = some (at23 n) :=
  (n.lt_or_ge 27).elim (fun h2 => (n.lt_or_ge 14).elim (fun h2 => (n.lt_or_ge 8).elim (fun h2 => zcj (g := mbR) (mbE1 P) rfl h1 h2) (fun h1 => zcj (g := mbR) (mbE8 P) rfl h1 h2)) (fun h1 => (n.lt_or_ge 19).elim (fun h2 => zcj (g := mbR) (mbE14 P) rfl h1 h2) (fun h1 => (n.lt_or_ge 23).elim (fun h2 => zcj (g := mbR) (mbE19 P) rfl h1 h2) (fun h1 => zcj (g := mbR) (mbE23 P) rfl h1 h2)))) (fun h1 => (n.lt_or_ge 33).elim (fun h2 => (n.lt_or_ge 30).elim (fun h2 => zcj (g := mbR) (mbE27 P) rfl h1 h2) (fun h1 => zcj (g := mbR) (mbE30 P) rfl h1 h2)) (fun h1 => (n.lt_or_ge 36).elim (fun h2 => zcj (g := mbR) (mbE33 P) rfl h1 h2) (fun h1 => (n.lt_or_ge 38).elim (fun h2 => zcj (g := mbR) (mbE36 P) rfl h1 h2) (fun h1 => zcj (g := mbR) (mbE38 P) rfl h1 h2))))
theorem law_all (P : Params) (a : Addr) (ob : Obj) (ns : List Int) {n : Nat} (h : n < 40) (p : Int) : Law23 P a ob ns n p :=
  have h1 : 0 ≤ n := n.zero_le
  have h2 := h
  (n.lt_or_ge 20).elim (fun h2 => (n.lt_or_ge 10).elim (fun h2 => zcj (g := lwR P a ob ns) (lwE0 P a ob ns p) rfl h1 h2) (fun h1 => zcj (g := lwR P a ob ns) (lwE10 P a ob ns p) rfl h1 h2)) (fun h1 => (n.lt_or_ge 30).elim (fun h2 => zcj (g := lwR P a ob ns) (lwE20 P a ob ns p) rfl h1 h2) (fun h1 => zcj (g := lwR P a ob ns) (lwE30 P a ob ns p) rfl h1 h2))
end
end Mine
local macro_rules | `(tactic| walk_at $s:str) => `(tactic| k_extra $s)
local macro_rules | `(tactic| k_mem) => `(tactic| kcf_m)
set_option maxRecDepth 100000 in
set_option maxHeartbeats 1600000 in
theorem Mine.ms_ctr3 {w : World} {p : Program} {loose : List Str} {mean : ExcName → Option Value} {mg mb : Str → Option Value} {Dm : Array UInt8 → Prop} {at0 : Array UInt8 → List (Str × Mine.SV)} (cMB : Mine.MbC3 1792 1781 Dm at0 PySem.Challenge.rw_ui0507_23.row.prog w (Mine.KX w.params) p loose mean mg mb) {b : Array UInt8} (hDm : Dm b) (hb1 : 1 ≤ b.size) (hb2 : b.size ≤ 4096) : Mine.MsX 1811 b (Mine.MsO2 w.params 1781 (at0 b)) PySem.Challenge.rw_ui0507_23.row.prog w (Mine.KX w.params) p loose mean mg mb := by
  k_with_none
  k_with "mine nd" => (first | assumption | exact Nat.ne_of_lt (by with_reducible assumption) | exact Nat.ne_of_gt (by with_reducible assumption) | exact Nat.ne_of_lt (And.left (by with_reducible assumption)) | exact Nat.ne_of_gt (And.left (by with_reducible assumption)) | exact Nat.ne_of_lt (And.left (And.right (by with_reducible assumption))) | exact Nat.ne_of_gt (And.left (And.right (by with_reducible assumption))) | exact Nat.ne_of_lt (And.left (And.right (And.right (by with_reducible assumption)))) | exact Nat.ne_of_gt (And.left (And.right (And.right (by with_reducible assumption)))) | exact Nat.ne_of_lt (And.left (And.right (And.right (And.right (by with_reducible assumption))))) | exact Nat.ne_of_gt (And.left (And.right (And.right (And.right (by with_reducible assumption))))) | exact Nat.ne_of_lt (And.left (And.right (And.right (And.right (And.right (by with_reducible assumption)))))) | exact Nat.ne_of_gt (And.left (And.right (And.right (And.right (And.right (by with_reducible assumption)))))) | exact Nat.ne_of_lt (And.left (And.right (And.right (And.right (And.right (And.right (by with_reducible assumption))))))) | exact Nat.ne_of_gt (And.left (And.right (And.right (And.right (And.right (And.right (by with_reducible assumption))))))) | exact Nat.ne_of_lt (And.left (And.right (And.right (And.right (And.right (And.right (And.right (by with_reducible assumption)))))))) | exact Nat.ne_of_gt (And.left (And.right (And.right (And.right (And.right (And.right (And.right (by with_reducible assumption)))))))) | exact Nat.ne_of_lt (And.left (And.right (And.right (And.right (And.right (And.right (And.right (And.right (by with_reducible assumption))))))))) | exact Nat.ne_of_gt (And.left (And.right (And.right (And.right (And.right (And.right (And.right (And.right (by with_reducible assumption))))))))) | exact Nat.ne_of_lt (And.left (And.right (And.right (And.right (And.right (And.right (And.right (And.right (And.right (by with_reducible assumption)))))))))) | exact Nat.ne_of_gt (And.left (And.right (And.right (And.right (And.right (And.right (And.right (And.right (And.right (by with_reducible assumption)))))))))) | k_ne)
  k_with "mine rm" => (first | with_reducible assumption | (refine' Mine.rmN ?rh_zs1 ?re_zs1; (case rh_zs1 => with_reducible assumption); (case re_zs1 => decide)) | (refine Mine.rm0 ?_; with_reducible assumption) | ((simp only [units_in1, units_deeper, units_under_make, Around.mark_units, units_caller, depth_in1, depth_deeper, depth_under_make, depth_caller, Nat.add_assoc]); first | with_reducible assumption | (refine' Mine.rmN ?rg_zs1 ?rf_zs1; (case rg_zs1 => with_reducible assumption); (case rf_zs1 => decide)) | (refine Mine.rm0 ?_; with_reducible assumption)) | ktr_room | ktr_units)
  k_with "mine om" => (first | with_reducible assumption | (refine' Mine.leN ?oh_zs2 ?oe_zs2; (case oh_zs2 => with_reducible assumption); (case oe_zs2 => decide)) | omega)
  k_with "mine ne" => ((try dsimp only); first | (walk_at "mine nd") | (refine Ne.symm ?_; assumption))
  k_with "mine off" => first | exact List.forall_mem_nil _ | assumption | exact Mine.off_lt (by assumption) | exact Mine.off_gt (by assumption) | (refine' List.forall_mem_cons.mpr ⟨?a_z1, ?b_z1⟩; (case a_z1 => walk_at "mine ne"); (case b_z1 => walk_at "mine off")) | (refine' List.forall_mem_append.mpr ⟨?a_z1, ?b_z1⟩; (case a_z1 => walk_at "mine off"); (case b_z1 => walk_at "mine off"))
  k_with "mine upd" => first | (refine' Upd.head ?a_z2; (case a_z2 => walk_at "mine off")) | (refine' Upd.tail ?a_z2 ?b_z2; (case a_z2 => walk_at "mine ne"); (case b_z2 => walk_at "mine upd"))
  k_with "mine size" => ((try law_lens); (simp only [List.size_toArray, Array.size_push, Array.size_append, List.length_append, List.length_cons, List.length_nil, List.length_take, List.length_drop, List.length_replicate, sizeLine_eq]); omega)
  k_with "mine updF" => first | (refine' UpdF.head ?a_z5; (case a_z5 => walk_at "mine off")) | (refine' UpdF.tail ?a_z5 ?b_z5; (case a_z5 => walk_at "mine ne"); (case b_z5 => walk_at "mine updF"))
  k_with "mine upd" => first | (refine' Upd.head ?a_z7; (case a_z7 => walk_at "mine off")) | (refine' Upd.tail ?a_z7 ?b_z7; (case a_z7 => walk_at "mine ne"); (case b_z7 => walk_at "mine upd")) | (refine' Mine.upd_app ?a_z7 ?b_z7; (case a_z7 => first | with_reducible assumption | exact Mine.off_kL (by with_reducible assumption)); (case b_z7 => walk_at "mine upd"))
  k_with "mine off" => first | exact List.forall_mem_nil _ | assumption | exact Mine.off_lt (by assumption) | exact Mine.off_gt (by assumption) | exact Mine.off_allLt (And.right (by assumption)) | (refine' List.forall_mem_cons.mpr ⟨?a_z8, ?b_z8⟩; (case a_z8 => walk_at "mine ne"); (case b_z8 => walk_at "mine off")) | (refine' List.forall_mem_append.mpr ⟨?a_z8, ?b_z8⟩; (case a_z8 => walk_at "mine off"); (case b_z8 => walk_at "mine off"))
  k_with "mine enterC" => (refine' code_defC ?k1_z9 ?k2_z9 ?k3_z9 ?k4_z9 ?k5_z9 ?kA_z9 ?kF_z9 ?kK_z9 ?k6_z9 ?k7_z9 ?k8_z9 ?k9_z9 ?kB_z9 ?kD_z9 ?_ ?c2_z9 ?c3_z9 ?c4_z9; (case kA_z9 => exact rfl); (case kF_z9 => exact rfl); (case kK_z9 => first | assumption | exact rfl); (case k1_z9 => k_asm); (case k2_z9 => k_asm); (case k3_z9 => k_asm); (case k4_z9 => k_asm); (case k5_z9 => k_asm); (case k6_z9 => k_is); (case k7_z9 => k_is); (case k8_z9 => walk_at "mine rm"); (case k9_z9 => first | exact Mine.bz (BindsTo.of_eq rfl) (by with_unfolding_all rfl) | exact BindsTo.of_eq rfl | exact binds_K (by k_in) rfl (by k_is) rfl rfl rfl); (case kB_z9 => exact rfl); (case kD_z9 => decide +kernel); (case c2_z9 => exact rfl); (case c3_z9 => exact rfl); (case c4_z9 => exact rfl); k_whole; intro g' L' h' tk' cells' FG' F' N' Y' B' X' T' l1; (try k_lt l1); k_cells Y'; (try simp only [List.cons_append, List.nil_append] at N'); (try dsimp only); (try k_lift B'); (try k_fold))
  k_with "mine bnd" => first | with_reducible assumption | omega
  k_with "mine room" => first | (walk_at "mine rm") | ((simp only [units_in1, units_deeper, units_under_make, Around.mark_units, units_caller]); first | decide | omega)
  k_with "eval ListComp" => (k_here; k_dflt (refine Mine.zdv (by k_asm) (by with_unfolding_all rfl) (by decide) (by rfl) (by decide) (by rfl) ?_))
  k_with "call ref" => (k_here; (with_reducible show wpAny _ _ (call (Value.ref 1792) _) _ _ _); (k_dflt ((rename Mine.MbC3 1792 _ _ _ _ _ _ _ _ _ _ _ => cMB9); refine' Mine.Fun.use ?kC_z17 ?k1_z17 ?k2_z17 ?k3_z17 ?k4_z17 ?k5_z17 ?kK_z17 ?kd_z17 ?ku_z17 ?_; (case k2_z17 => k_asm); (case k4_z17 => k_asm); (case kC_z17 => (refine' cMB9 _ _ _ _ _ ?l0_z17; (case l0_z17 => with_reducible assumption))); ((case k1_z17 => k_asm); (case k3_z17 => k_asm); (case k5_z17 => k_asm); (case kK_z17 => first | exact rfl | assumption); (case kd_z17 => first | (walk_at "mine rm") | (simp only [depth_in1, depth_deeper, depth_under_make, Around.mark_depth, depth_caller]; omega)); (case ku_z17 => walk_at "mine room")); k_whole); intro r9 news9 h9 tk9 hR F9 N9; (unfold Mine.MbO2 at hR); (obtain ⟨X9, D9, o9, od9, e1, e2, lD9, lX9⟩ := hR); (subst e1); (subst e2); (try k_sweep)))
  k_with "call ref" => (k_here; (with_reducible show wpAny _ _ (call (Value.ref 1806) _) _ _ _); (k_dflt (refine' Mine.zgv ?F_z18 ?X_z18 ?N_z18 ?T_z18 ?ho_z18 ?hcd_z18 ?hr_z18 ?hb_z18 ?hl_z18 ?g1_z18 ?g2_z18 ?g3_z18 ?g4_z18 ?_; (case F_z18 => k_asm); (case X_z18 => k_asm); (case N_z18 => k_asm); (case T_z18 => k_asm); (case ho_z18 => k_is); (case hcd_z18 => k_is); (case hr_z18 => walk_at "mine rm"); (case hb_z18 => exact BindsTo.of_eq rfl); (case hl_z18 => exact locs rfl); (case g1_z18 => exact rfl); (case g2_z18 => exact rfl); (case g3_z18 => exact rfl); (case g4_z18 => decide); k_whole)); intro L7 G7 oG7 h7 tk7 F7 N7 FL7 l7 lL7 lG7 hGG7 hL07; (refine' Mine.zmh (P := w.params) (Cb := 1781) (at0 := at0 b) (b0 := b) F7 N7 FL7 l7 lL7 lG7 hGG7 hL07 ?hh_z18 ?hl2_z18 ?hr2_z18 ?hco_z18 ?hi_z18 ?t1_z18 ?t2_z18 ?tyes_z18 ?ty_z18 ?t3_z18 ?tno_z18 ?helt_z18 ?hdone_z18); (case hh_z18 => exact rfl); (case hl2_z18 => (rename Top _ _ _ _ _ _ => T9; exact T9.nolimit)); (case hr2_z18 => walk_at "mine rm"); (case hco_z18 => exact rfl); (case hi_z18 => exact rfl); (case' t1_z18 => (intro A7 E7 s7 FLg; (have kpg : Mine.KpL L7 s7.heap s7.heap := Mine.KpL.refl); (have FLh := Mine.HidF.of FLg); (have NLg := Mine.zba FLg); clear F7 N7 FL7)); (case' t2_z18 => (intro A7 E7 s6 s7 hB; (obtain ⟨hg9, tkg, mg9, rfl, hM, FLg, kpg⟩ := hB); (unfold Mine.i8 at hM); (subst hM); (have FLh := Mine.HidF.of FLg); (have NLg := Mine.zba FLg); clear F7 N7 FL7)); (case' tyes_z18 => (intro A7 E7 s6 s7 hB; (obtain ⟨hg9, tkg, mg9, rfl, ⟨t9, hM⟩, FLg, kpg⟩ := hB); (subst hM); (have FLh := Mine.HidF.of FLg); (have NLg := Mine.zba FLg); clear F7 N7 FL7)); (case' ty_z18 => (intro A7 E7 s6 s7 hB; (obtain ⟨hg9, tkg, mg9, rfl, ⟨t9, hM⟩, FLg, kpg⟩ := hB); (subst hM); (have FLh := Mine.HidF.of FLg); (have NLg := Mine.zba FLg); clear F7 N7 FL7)); (case' t3_z18 => (intro A7 E7 s7 hB; (obtain ⟨mg9, ⟨t9, hM⟩, FLg⟩ := hB); (subst hM); (have kpg : Mine.KpL L7 s7.heap s7.heap := Mine.KpL.refl); (have FLh := Mine.HidF.of FLg); (have NLg := Mine.zba FLg); clear F7 N7 FL7)); (case' tno_z18 => (intro A7 E7 s6 s7 hB; (obtain ⟨hg9, tkg, mg9, rfl, ⟨t9, t8, hM⟩, FLg, kpg⟩ := hB); (subst hM); (have FLh := Mine.HidF.of FLg); (have NLg := Mine.zba FLg); clear F7 N7 FL7)); (case' helt_z18 => (intro C7 D7 v7 h8 tk8 g8 oC7 oL7 m7 E7 a1 a2 a3 a4 hV hC7 hmx7 F8 N8; (obtain ⟨t7, rfl⟩ := hV); clear F7 N7 FL7)); (case' hdone_z18 => (intro D7 X7 E7 o7 od7 h8 tk8 g8 hGR7 b1 b2 b3 F8 N8; clear F7 N7 FL7; (try k_unfold); (try dsimp only))))
  k_with "CgEnd" => (k_here; refine' Mine.cg_end2 ?F_z19 ?N_z19 ?hs_z19 ?l1_z19 ?l2_z19 ?l0_z19 ?lG_z19 ?lD_z19 ?lC_z19; (case F_z19 => k_asm); (case N_z19 => k_asm); (case hs_z19 => exact fun _ h => h); (case l1_z19 => with_reducible assumption); (case l2_z19 => with_reducible assumption); (case l0_z19 => with_reducible assumption); (case lG_z19 => with_reducible assumption); (case lD_z19 => with_reducible assumption); (case lC_z19 => with_reducible assumption))
  k_with "GnF" => (k_here; refine' Mine.zju FLh kpg ?F_z20 ?N_z20 ?M_z20 ?s_z20; (case F_z20 => k_asm); (case N_z20 => k_asm); (case M_z20 => first | exact rfl | exact ⟨_, rfl⟩ | exact ⟨_, _, rfl⟩); (case s_z20 => exact ⟨_, _, rfl⟩))
  k_with "GnT" => (k_here; refine' Mine.zjt FLh kpg ?F_z21 ?N_z21 ?M_z21 ?s_z21 ?b_z21; (case F_z21 => k_asm); (case N_z21 => k_asm); (case M_z21 => first | exact rfl | exact ⟨_, rfl⟩ | exact ⟨_, _, rfl⟩); (case s_z21 => exact ⟨_, _, rfl⟩); (case b_z21 => first | exact rfl | exact decide_eq_true (by omega) | exact decide_eq_false (by omega)))
  k_with "GnV" => (k_here; refine' Mine.gnV_end FLh kpg ?F_z22 ?N_z22 ?M_z22 ?s_z22 ?v_z22; (case F_z22 => k_asm); (case N_z22 => k_asm); (case M_z22 => first | exact rfl | exact ⟨_, rfl⟩ | exact ⟨_, _, rfl⟩); (case s_z22 => exact ⟨_, _, rfl⟩); (case v_z22 => exact Mine.zmi (by with_reducible assumption)))
  k_fill
  w_top off
  (
  unfold Mine.MsX
  intro tb ts tm tk news dp un gd fenv outer A₀ base h₀ L m s R hfr hfk B F X N T hd hu hret
  obtain ⟨ns, hb⟩ : ∃ ns, KBw.bInts b = ns := ⟨_, rfl⟩
  have hn : ns.length = b.size := by rw [← hb, KBw.ints_length]
  have hn1 : 1 ≤ ns.length := by omega
  have hn2 : ns.length ≤ 4096 := by omega
  k_dflt (refine' code_defC ?k1_z23 ?k2_z23 ?k3_z23 ?k4_z23 ?k5_z23 ?kA_z23 ?kF_z23 ?kK_z23 ?k6_z23 ?k7_z23 ?k8_z23 ?k9_z23 ?kB_z23 ?kD_z23 ?_ ?c2_z23 ?c3_z23 ?c4_z23; (case kA_z23 => exact rfl); (case kF_z23 => assumption); (case kK_z23 => first | assumption | exact rfl); (case k1_z23 => k_asm); (case k2_z23 => k_asm); (case k3_z23 => k_asm); (case k4_z23 => k_asm); (case k5_z23 => k_asm); (case k6_z23 => k_is); (case k7_z23 => k_is); (case k8_z23 => walk_at "mine rm"); (case k9_z23 => first | exact Mine.bz (BindsTo.of_eq rfl) (by with_unfolding_all rfl) | exact BindsTo.of_eq rfl | exact binds_K (by k_in) rfl (by k_is) rfl rfl rfl); (case kB_z23 => exact rfl); (case kD_z23 => decide +kernel); (case c2_z23 => exact rfl); (case c3_z23 => exact rfl); (case c4_z23 => exact rfl); k_whole; intro g' L' h' tk' cells' FG' F' N' Y' B' X' T' l1; (try k_lt l1); k_cells Y'; (try simp only [List.cons_append, List.nil_append] at N'); (try dsimp only); (try k_lift B'); (try k_fold)))
  all_goals (repeat' (first | (k_unfold; (try dsimp only)) | (k_end; wrow_close) | (walk1; (all_goals (try dsimp only))) | (dsimp only; walk1) | (leave1; (try dsimp only)) | fail "no step"))
  all_goals first | exact Mine.ms_ret2 hret (by assumption) (by assumption) (by assumption) (by kcf_all) (by kcf_all) b1 b2 b3
set_option maxRecDepth 100000 in
set_option maxHeartbeats 1600000 in
theorem Mine.ms_ctrN {w : World} {p : Program} {loose : List Str} {mean : ExcName → Option Value} {mg mb : Str → Option Value} : Mine.MsX 1811 #[] Mine.MsN2 PySem.Challenge.rw_ui0507_23.row.prog w (Mine.KX w.params) p loose mean mg mb := by
  k_with_none
  k_with "mine nd" => (first | assumption | exact Nat.ne_of_lt (by with_reducible assumption) | exact Nat.ne_of_gt (by with_reducible assumption) | exact Nat.ne_of_lt (And.left (by with_reducible assumption)) | exact Nat.ne_of_gt (And.left (by with_reducible assumption)) | exact Nat.ne_of_lt (And.left (And.right (by with_reducible assumption))) | exact Nat.ne_of_gt (And.left (And.right (by with_reducible assumption))) | exact Nat.ne_of_lt (And.left (And.right (And.right (by with_reducible assumption)))) | exact Nat.ne_of_gt (And.left (And.right (And.right (by with_reducible assumption)))) | exact Nat.ne_of_lt (And.left (And.right (And.right (And.right (by with_reducible assumption))))) | exact Nat.ne_of_gt (And.left (And.right (And.right (And.right (by with_reducible assumption))))) | exact Nat.ne_of_lt (And.left (And.right (And.right (And.right (And.right (by with_reducible assumption)))))) | exact Nat.ne_of_gt (And.left (And.right (And.right (And.right (And.right (by with_reducible assumption)))))) | exact Nat.ne_of_lt (And.left (And.right (And.right (And.right (And.right (And.right (by with_reducible assumption))))))) | exact Nat.ne_of_gt (And.left (And.right (And.right (And.right (And.right (And.right (by with_reducible assumption))))))) | exact Nat.ne_of_lt (And.left (And.right (And.right (And.right (And.right (And.right (And.right (by with_reducible assumption)))))))) | exact Nat.ne_of_gt (And.left (And.right (And.right (And.right (And.right (And.right (And.right (by with_reducible assumption)))))))) | exact Nat.ne_of_lt (And.left (And.right (And.right (And.right (And.right (And.right (And.right (And.right (by with_reducible assumption))))))))) | exact Nat.ne_of_gt (And.left (And.right (And.right (And.right (And.right (And.right (And.right (And.right (by with_reducible assumption))))))))) | exact Nat.ne_of_lt (And.left (And.right (And.right (And.right (And.right (And.right (And.right (And.right (And.right (by with_reducible assumption)))))))))) | exact Nat.ne_of_gt (And.left (And.right (And.right (And.right (And.right (And.right (And.right (And.right (And.right (by with_reducible assumption)))))))))) | k_ne)
  k_with "mine rm" => (first | with_reducible assumption | (refine' Mine.rmN ?rh_zs1 ?re_zs1; (case rh_zs1 => with_reducible assumption); (case re_zs1 => decide)) | (refine Mine.rm0 ?_; with_reducible assumption) | ((simp only [units_in1, units_deeper, units_under_make, Around.mark_units, units_caller, depth_in1, depth_deeper, depth_under_make, depth_caller, Nat.add_assoc]); first | with_reducible assumption | (refine' Mine.rmN ?rg_zs1 ?rf_zs1; (case rg_zs1 => with_reducible assumption); (case rf_zs1 => decide)) | (refine Mine.rm0 ?_; with_reducible assumption)) | ktr_room | ktr_units)
  k_with "mine om" => (first | with_reducible assumption | (refine' Mine.leN ?oh_zs2 ?oe_zs2; (case oh_zs2 => with_reducible assumption); (case oe_zs2 => decide)) | omega)
  k_with "mine ne" => ((try dsimp only); first | (walk_at "mine nd") | (refine Ne.symm ?_; assumption))
  k_with "mine off" => first | exact List.forall_mem_nil _ | assumption | exact Mine.off_lt (by assumption) | exact Mine.off_gt (by assumption) | (refine' List.forall_mem_cons.mpr ⟨?a_z1, ?b_z1⟩; (case a_z1 => walk_at "mine ne"); (case b_z1 => walk_at "mine off")) | (refine' List.forall_mem_append.mpr ⟨?a_z1, ?b_z1⟩; (case a_z1 => walk_at "mine off"); (case b_z1 => walk_at "mine off"))
  k_with "mine upd" => first | (refine' Upd.head ?a_z2; (case a_z2 => walk_at "mine off")) | (refine' Upd.tail ?a_z2 ?b_z2; (case a_z2 => walk_at "mine ne"); (case b_z2 => walk_at "mine upd"))
  k_with "mine size" => ((try law_lens); (simp only [List.size_toArray, Array.size_push, Array.size_append, List.length_append, List.length_cons, List.length_nil, List.length_take, List.length_drop, List.length_replicate, sizeLine_eq]); omega)
  k_with "mine updF" => first | (refine' UpdF.head ?a_z5; (case a_z5 => walk_at "mine off")) | (refine' UpdF.tail ?a_z5 ?b_z5; (case a_z5 => walk_at "mine ne"); (case b_z5 => walk_at "mine updF"))
  k_with "mine upd" => first | (refine' Upd.head ?a_z7; (case a_z7 => walk_at "mine off")) | (refine' Upd.tail ?a_z7 ?b_z7; (case a_z7 => walk_at "mine ne"); (case b_z7 => walk_at "mine upd")) | (refine' Mine.upd_app ?a_z7 ?b_z7; (case a_z7 => first | with_reducible assumption | exact Mine.off_kL (by with_reducible assumption)); (case b_z7 => walk_at "mine upd"))
  k_with "mine off" => first | exact List.forall_mem_nil _ | assumption | exact Mine.off_lt (by assumption) | exact Mine.off_gt (by assumption) | exact Mine.off_allLt (And.right (by assumption)) | (refine' List.forall_mem_cons.mpr ⟨?a_z8, ?b_z8⟩; (case a_z8 => walk_at "mine ne"); (case b_z8 => walk_at "mine off")) | (refine' List.forall_mem_append.mpr ⟨?a_z8, ?b_z8⟩; (case a_z8 => walk_at "mine off"); (case b_z8 => walk_at "mine off"))
  k_with "mine enterC" => (refine' code_defC ?k1_z9 ?k2_z9 ?k3_z9 ?k4_z9 ?k5_z9 ?kA_z9 ?kF_z9 ?kK_z9 ?k6_z9 ?k7_z9 ?k8_z9 ?k9_z9 ?kB_z9 ?kD_z9 ?_ ?c2_z9 ?c3_z9 ?c4_z9; (case kA_z9 => exact rfl); (case kF_z9 => exact rfl); (case kK_z9 => first | assumption | exact rfl); (case k1_z9 => k_asm); (case k2_z9 => k_asm); (case k3_z9 => k_asm); (case k4_z9 => k_asm); (case k5_z9 => k_asm); (case k6_z9 => k_is); (case k7_z9 => k_is); (case k8_z9 => walk_at "mine rm"); (case k9_z9 => first | exact Mine.bz (BindsTo.of_eq rfl) (by with_unfolding_all rfl) | exact BindsTo.of_eq rfl | exact binds_K (by k_in) rfl (by k_is) rfl rfl rfl); (case kB_z9 => exact rfl); (case kD_z9 => decide +kernel); (case c2_z9 => exact rfl); (case c3_z9 => exact rfl); (case c4_z9 => exact rfl); k_whole; intro g' L' h' tk' cells' FG' F' N' Y' B' X' T' l1; (try k_lt l1); k_cells Y'; (try simp only [List.cons_append, List.nil_append] at N'); (try dsimp only); (try k_lift B'); (try k_fold))
  k_with "mine bnd" => first | with_reducible assumption | omega
  k_with "mine room" => first | (walk_at "mine rm") | ((simp only [units_in1, units_deeper, units_under_make, Around.mark_units, units_caller]); first | decide | omega)
  k_with "eval ListComp" => (k_here; k_dflt (refine Mine.zdv (by k_asm) (by with_unfolding_all rfl) (by decide) (by rfl) (by decide) (by rfl) ?_))
  k_with "call ref" => (k_here; (with_reducible show wpAny _ _ (call (Value.ref 1806) _) _ _ _); (k_dflt (refine' Mine.zgv ?F_z17 ?X_z17 ?N_z17 ?T_z17 ?ho_z17 ?hcd_z17 ?hr_z17 ?hb_z17 ?hl_z17 ?g1_z17 ?g2_z17 ?g3_z17 ?g4_z17 ?_; (case F_z17 => k_asm); (case X_z17 => k_asm); (case N_z17 => k_asm); (case T_z17 => k_asm); (case ho_z17 => k_is); (case hcd_z17 => k_is); (case hr_z17 => walk_at "mine rm"); (case hb_z17 => exact BindsTo.of_eq rfl); (case hl_z17 => exact locs rfl); (case g1_z17 => exact rfl); (case g2_z17 => exact rfl); (case g3_z17 => exact rfl); (case g4_z17 => decide); k_whole)); intro L7 G7 oG7 h7 tk7 F7 N7 FL7 l7 lL7 lG7 hGG7 hL07; (refine' Mine.zmg F7 N7 FL7 l7 lL7 lG7 hGG7 ?hh_z17 ?hl2_z17 ?hr2_z17 ?t1_z17 ?t2_z17 ?tno_z17 ?hdone_z17); (case hh_z17 => exact rfl); (case hl2_z17 => (rename Top _ _ _ _ _ _ => T9; exact T9.nolimit)); (case hr2_z17 => walk_at "mine rm"); (case' t1_z17 => (intro A7 E7 s7 FLg; (have kpg : Mine.KpL L7 s7.heap s7.heap := Mine.KpL.refl); (have FLh := Mine.HidF.of FLg); (have NLg := Mine.zba FLg); clear F7 N7 FL7)); (case' t2_z17 => (intro A7 E7 s6 s7 hB; (obtain ⟨hg9, tkg, mg9, rfl, hM, FLg, kpg⟩ := hB); (unfold Mine.i8 at hM); (subst hM); (have FLh := Mine.HidF.of FLg); (have NLg := Mine.zba FLg); clear F7 N7 FL7)); (case' tno_z17 => (intro A7 E7 s6 s7 hB; (obtain ⟨hg9, tkg, mg9, rfl, ⟨t9, hM⟩, FLg, kpg⟩ := hB); (subst hM); (have FLh := Mine.HidF.of FLg); (have NLg := Mine.zba FLg); clear F7 N7 FL7)); (case' hdone_z17 => (intro D7 h8 tk8 g8 hGR7 b1 F8 N8; clear F7 N7 FL7; (try k_unfold); (try dsimp only))))
  k_with "GnF" => (k_here; refine' Mine.zju FLh kpg ?F_z18 ?N_z18 ?M_z18 ?s_z18; (case F_z18 => k_asm); (case N_z18 => k_asm); (case M_z18 => first | exact rfl | exact ⟨_, rfl⟩ | exact ⟨_, _, rfl⟩); (case s_z18 => exact ⟨_, _, rfl⟩))
  k_with "GnT" => (k_here; refine' Mine.zjt FLh kpg ?F_z19 ?N_z19 ?M_z19 ?s_z19 ?b_z19; (case F_z19 => k_asm); (case N_z19 => k_asm); (case M_z19 => first | exact rfl | exact ⟨_, rfl⟩ | exact ⟨_, _, rfl⟩); (case s_z19 => exact ⟨_, _, rfl⟩); (case b_z19 => first | exact rfl | exact decide_eq_true (by omega) | exact decide_eq_false (by omega)))
  k_fill
  w_top off
  (
  unfold Mine.MsX
  intro tb ts tm tk news dp un gd fenv outer A₀ base h₀ L m s R hfr hfk B F X N T hd hu hret
  have hb : KBw.bInts #[] = [] := rfl
  k_dflt (refine' code_defC ?k1_z21 ?k2_z21 ?k3_z21 ?k4_z21 ?k5_z21 ?kA_z21 ?kF_z21 ?kK_z21 ?k6_z21 ?k7_z21 ?k8_z21 ?k9_z21 ?kB_z21 ?kD_z21 ?_ ?c2_z21 ?c3_z21 ?c4_z21; (case kA_z21 => exact rfl); (case kF_z21 => assumption); (case kK_z21 => first | assumption | exact rfl); (case k1_z21 => k_asm); (case k2_z21 => k_asm); (case k3_z21 => k_asm); (case k4_z21 => k_asm); (case k5_z21 => k_asm); (case k6_z21 => k_is); (case k7_z21 => k_is); (case k8_z21 => walk_at "mine rm"); (case k9_z21 => first | exact Mine.bz (BindsTo.of_eq rfl) (by with_unfolding_all rfl) | exact BindsTo.of_eq rfl | exact binds_K (by k_in) rfl (by k_is) rfl rfl rfl); (case kB_z21 => exact rfl); (case kD_z21 => decide +kernel); (case c2_z21 => exact rfl); (case c3_z21 => exact rfl); (case c4_z21 => exact rfl); k_whole; intro g' L' h' tk' cells' FG' F' N' Y' B' X' T' l1; (try k_lt l1); k_cells Y'; (try simp only [List.cons_append, List.nil_append] at N'); (try dsimp only); (try k_lift B'); (try k_fold)))
  all_goals (repeat' (first | (k_unfold; (try dsimp only)) | (k_end; wrow_close) | (walk1; (all_goals (try dsimp only))) | (dsimp only; walk1) | (leave1; (try dsimp only)) | fail "no step"))
  all_goals first | exact Mine.ms_retN hret (by assumption) (by assumption) (by assumption) (by kcf_all) (by kcf_all) b1
namespace Mine
noncomputable section
noncomputable def Sev23 (b : Array UInt8) : Prop := ∃ n, 1 ≤ n ∧ n < 40 ∧ KBw.bInts b = sev n
theorem zea {b : Array UInt8} {n : Nat} (h : KBw.bInts b = sev n) : b.size = n := by
  have e := congrArg List.length h
  rw [KBw.ints_length] at e
  unfold sev at e
  rw [List.length_replicate] at e
  exact e
noncomputable def G23 (w : World) (p : Program) (loose : List Str) (mean : ExcName → Option Value) (mg mb : Str → Option Value) : Gm := ⟨PySem.Challenge.rw_ui0507_23.row.prog, w, K23 w.params, p, loose, mean, mg, mb, gd23⟩
section
variable {w : World} {p : Program} {loose : List Str} {mean : ExcName → Option Value} {mg mb : Str → Option Value}
theorem zll : MbC3 1792 1781 Sev23 (fun b => at23 b.size) PySem.Challenge.rw_ui0507_23.row.prog w (KX w.params) p loose mean mg mb := by
  intro b tb tm tk news ⟨n, h1, h2, hb⟩
  have O := zec (Γ := G23 w p loose mean mg mb) (N := 2000) (PL := PL) (zde w.params) zee 14
  refine fun dp un gd cn cs a ccd cl outer A₀ base h₀ L m s Q E B F X => mb_of3 (Γ := G23 w p loose mean mg mb) O (by decide) (fun a h => zjv h) hb ?_ dp un gd cn cs a ccd cl outer A₀ base h₀ L m s Q E B F (zgt.mpr X)
  show _ = some (at23 b.size)
  rw [zea hb]
  exact mb_all w.params h1 h2
theorem ms_x {b : Array UInt8} (h : Sev23 b) {a : Addr} {o : Obj} : MsX 1811 b (MsO2 w.params 1781 (at23 b.size)) PySem.Challenge.rw_ui0507_23.row.prog w (K23x w.params a o) p loose mean mg mb := by
  have hs : 1 ≤ b.size ∧ b.size ≤ 4096 := by
    obtain ⟨n, h1, h2, hb⟩ := h
    rw [zea hb]
    omega
  exact fun tb ts tm tk news dp un gd fenv outer A₀ base h₀ L m s R f1 f2 B F X => ms_ctr3 zll h hs.1 hs.2 tb ts tm tk news dp un gd fenv outer A₀ base h₀ L m s R f1 f2 B F (zkv X)
theorem ms_n {a : Addr} {o : Obj} : MsX 1811 #[] MsN2 PySem.Challenge.rw_ui0507_23.row.prog w (K23x w.params a o) p loose mean mg mb :=
  fun tb ts tm tk news dp un gd fenv outer A₀ base h₀ L m s R f1 f2 B F X => ms_ctrN tb ts tm tk news dp un gd fenv outer A₀ base h₀ L m s R f1 f2 B F (zkv X)
theorem oLW_ok {a : Addr} {o : Obj} {vs : List Value} {ns : List Int} {n : Nat} (hn : n < 40) (hl : gL (K23x w.params a o) (.val (.ref a)) = some vs) (hi : IntsAre vs ns) (hz : ns.length ≤ 63) : zbf (G23x w p loose mean mg mb a o) (oLW w.params a o ns n) 168 := by
  refine zec (Γ := G23x w p loose mean mg mb a o) (N := 2000) (PL := PL) (zly w.params a o) (orr_ok (fun f vs g v g' c M z Vs s R h H hv C G => celO_ok hl hi hz f vs g v g' c M z Vs s R h H hv (C.less (by decide)) G) (msO3_ok (Γ := G23x w p loose mean mg mb a o) (fun l at0 h b hb => ?_) ms_n)) 12
  cases n with
  | zero => cases h
  | succ k =>
    have h' : (match leqI (sev (k + 1)) l with | true => some (at23 (k + 1)) | false => none) = some at0 := h
    cases e : leqI (sev (k + 1)) l with
    | false => rw [e] at h'; cases h'
    | true =>
      rw [e] at h'
      cases h'
      have hl9 := zcm.mp e
      have hb' : KBw.bInts b = sev (k + 1) := by rw [hb, hl9]
      have e2 := zea hb'
      have := ms_x (w := w) (p := p) (loose := loose) (mean := mean) (mg := mg) (mb := mb) (a := a) (o := o) (b := b) ⟨k + 1, by omega, hn, hb'⟩
      rw [e2] at this
      exact this
end
theorem zcq {M : Model} {Γ : PySem.Ctx} {env : Env} {Q : Flow → Pos → Shared → Prop} {E : Value → Pos → Shared → Prop} (l2 : List Stmt) : ∀ (l1 : List Stmt) (p : Pos) (s : Shared), Sem.wp M Γ (execs (l1 ++ l2) env) Q E p s = Sem.wp M Γ (execs l1 env) (fun f p' s' => match f with | .next => Sem.wp M Γ (execs l2 env) Q E p' s' | f => Q f p' s') E p s
  | [], _, _ => rfl
  | st :: r, p, s => by
    rw [List.cons_append, execs_cons, execs_cons, Sem.wp_bind', Sem.wp_bind']
    congr 1
    funext f p' s'
    cases f with
    | next => exact zcq l2 r p' s'
    | _ => rfl
theorem c5 {M : Model} {A : Around} {E : Value → Shared → Prop} {env : Env} {s : Shared} {l1 l2 : List Stmt} {Q : Flow → Shared → Prop} (h : wpAny M A (execs l1 env) (fun f s' => match f with | .next => wpAny M A (execs l2 env) Q E s' | f => Q f s') E s) : wpAny M A (execs (l1 ++ l2) env) Q E s := fun Γ p hΓ => by
  rw [zcq]
  refine Sem.wp_mono M Γ _ (fun f p' s' h' => ?_) (fun _ _ _ h' => h') _ _ (h Γ p hΓ)
  cases f <;> first | exact h' Γ p' hΓ | exact h'
theorem zgj {ρ : List Addr} : ∀ {is : List Int} {vs : List Value}, RVs ρ (is.map .int) vs → IntsAre vs is
  | [], _, r => by cases r; exact .nil
  | i :: is, _, r => by
    rcases r with _ | ⟨⟨t, rfl⟩, r⟩
    exact .cons i t (zgj r)
theorem oL_set {g : Sg} {k : Nat} {l0 l : List SV} (h : oL g.σ (.obj k) = some (k, l0)) : oL (setO g k (.list l)).σ (.obj k) = some (k, l) := by
  have h1 := zjb h
  refine zag h1 fun so h2 h3 => ?_
  have hk : k < g.σ.length := by
    rw [zao] at h2
    exact (List.getElem?_eq_some_iff.mp h2).1
  obtain ⟨σ, τ, γ⟩ := g
  show ((nthS (σ.set k (.list l)) k).map fun so => (k, so)).bind (fun p => (soL p.2).map fun l => (p.1, l)) = _
  rw [zao, List.getElem?_set_self hk]
  rfl
theorem xor0 (x : Int) (h : 0 ≤ x) : Builtin.bitXor x ((0 : Nat) : Int) = x := by
  obtain ⟨k, rfl⟩ := Int.eq_ofNat_of_zero_le h
  rw [zdq, Nat.xor_zero]
theorem fmN (x : Int) {k : Nat} (hk : 0 < k) : ∃ n : Nat, n < k ∧ x.fmod k = n := by
  have h := Int.fmod_nonneg_of_pos x (b := (k : Int)) (by omega)
  have h2 := Int.fmod_lt_of_pos x (b := (k : Int)) (by omega)
  obtain ⟨n, e⟩ := Int.eq_ofNat_of_zero_le h
  exact ⟨n, by omega, e⟩
noncomputable def rowOK (l : List Int) : Bool := small l.length && Nat.blt 0 l.length && l.all fun x => decide (0 ≤ x) && decide (x < 256)
set_option maxRecDepth 100000 in
theorem u3 : ((List.range 40).all fun n => rowOK (zbr n)) = true := by kernel_rfl
theorem row_ok {n : Nat} (h : n < 40) : small (zbr n).length = true ∧ 0 < (zbr n).length ∧ ∀ x ∈ zbr n, 0 ≤ x ∧ x < 256 := by
  have h1 := List.all_eq_true.mp u3 n (List.mem_range.mpr h)
  unfold rowOK at h1
  refine zae h1 fun h2 h3 => ?_
  refine zae h2 fun h4 h5 => ?_
  refine ⟨h4, Nat.le_of_ble_eq_true h5, fun x hx => ?_⟩
  have h6 := List.all_eq_true.mp h3 x hx
  refine zae h6 fun h7 h8 => ?_
  exact ⟨of_decide_eq_true h7, of_decide_eq_true h8⟩
set_option maxRecDepth 100000 in
theorem e0_ok (P : Params) (a : Addr) (ob : Obj) (ns : List Int) (n : Nat) : run (K23x P a ob) gd23 (oLW P a ob ns n) 2016 (.ex [sL P 0]) (F0 P a) G0 = some (.f (.next, F1 P a ob ns), G1 P a ob ns) := by kernel_rfl
section
variable {P : Params} {a : Addr} {ob : Obj} {ns : List Int}
theorem law_run (ns : List Int) : ∃ (n t p : Nat) (x : Int), n < 40 ∧ t < 4 ∧ (zbr n)[p]? = some x ∧ 0 ≤ x ∧ x < 256 ∧
    ((t = 0 ∧ ∃ f g, run (K23x P a ob) gd23 (oLW P a ob ns n) 2016 (.ex (bdL P)) (F0 P a) G0 = some (.f (.ret (.bool true), f), g)) ∨
     (1 ≤ t ∧ run (K23x P a ob) gd23 (oLW P a ob ns n) 2016 (.ex [sL P 0, sL P 1, sL P 2, sL P 3, sL P 4, sL P 5]) (F0 P a) G0 = some (.f (.next, F5 P a ob ns n t p), G5 P a ob ns n (((zbr n).set p (Builtin.bitXor x t)).map .int)) ∧ oL (G3 P a ob ns n).σ (.obj (kR P a ob ns n)) = some (kR P a ob ns n, rowV n))) := by
  obtain ⟨n, hn, h0⟩ := fmN (ns.getD 0 0) (k := 40) (by decide)
  obtain ⟨t, ht, h1⟩ := fmN (ns.getD 1 0) (k := 4) (by decide)
  obtain ⟨r1, r2, r3⟩ := row_ok hn
  obtain ⟨p, hp, h2⟩ := fmN (ns.getD 2 0) (k := (zbr n).length) r2
  obtain ⟨x, hx⟩ : ∃ x, (zbr n)[p]? = some x := ⟨_, List.getElem?_eq_getElem hp⟩
  have hxm := r3 x (List.mem_of_getElem? hx)
  refine ⟨n, t, p, x, hn, ht, hx, hxm.1, hxm.2, ?_⟩
  have hL := law_all P a ob ns hn p
  unfold Law23 at hL
  have hL1 := congrArg (·.1) hL
  have hL2 := congrArg (·.2.1) hL
  have hL3 := congrArg (·.2.2) hL
  dsimp only at hL1 hL2 hL3
  have e9 : (rowV n).set p (.int (Builtin.bitXor x t)) = ((zbr n).set p (Builtin.bitXor x t)).map .int := by
    unfold rowV
    rw [List.map_set]
  cases t with
  | zero =>
    refine .inl ⟨rfl, ?_⟩
    obtain ⟨f, g, e⟩ := isT_eq hL3
    refine ⟨f, g, ?_⟩
    rw [l_bd]
    refine j6 (t := 0) (p := p) (x := x) (e0_ok P a ob ns n) hL1 hL2 r1 h0 h1 h2 r2 hx ?_
    rw [xor0 x hxm.1]
    have e10 : G5 P a ob ns n ((rowV n).set p (.int x)) = G5 P a ob ns n (rowV n) := by
      unfold G5
      refine j0 ?_
      rw [zao]
      unfold rowV
      rw [List.getElem?_map, hx]
      rfl
    rw [e10]
    unfold e5L at e
    exact e
  | succ t =>
    refine .inr ⟨Nat.succ_le_succ (Nat.zero_le _), ?_, hL2⟩
    refine j6 (t := t + 1) (p := p) (x := x) (e0_ok P a ob ns n) hL1 hL2 r1 h0 h1 h2 r2 hx ?_
    rw [e9]
    rfl
end
theorem zmj {ks : List Int} {q : Nat} {x y : Int} (hx : ks[q]? = some x) (hx0 : 0 ≤ x) (hx1 : x < 256) (hy0 : 0 ≤ y) (hy1 : y < 256) (hne : y ≠ x) : crcZ (ks.set q y) 0 ≠ crcZ ks 0 := by
  intro e
  obtain ⟨hq, hg⟩ := List.getElem?_eq_some_iff.mp hx
  have e1 : ks.set q y = ks.take q ++ y :: ks.drop (q + 1) := List.set_eq_take_append_cons_drop.trans (if_pos hq)
  have e2 : ks = ks.take q ++ x :: ks.drop (q + 1) := by rw [← hg, ← List.drop_eq_getElem_cons hq, List.take_append_drop]
  unfold crcZ at e
  rw [Nat.xor_comm, Nat.xor_comm (b7 _ (ks.map Int.toNat))] at e
  have e3 := d1 e
  rw [e1, show ks.map Int.toNat = (ks.take q ++ x :: ks.drop (q + 1)).map Int.toNat by rw [← e2], List.map_append, List.map_cons, List.map_append, List.map_cons] at e3
  have e4 := zht (by decide) (by omega) (by omega) e3
  omega
theorem zkx {x : Int} {t : Nat} (h0 : 0 ≤ x) (h1 : x < 256) (ht : 1 ≤ t) (ht4 : t < 4) : 0 ≤ Builtin.bitXor x t ∧ Builtin.bitXor x t < 256 ∧ Builtin.bitXor x t ≠ x := by
  obtain ⟨k, rfl⟩ := Int.eq_ofNat_of_zero_le h0
  rw [show Builtin.bitXor ((k : Nat) : Int) (t : Int) = ((k ^^^ t : Nat) : Int) from zdq k t]
  have h2 : k ^^^ t < 2 ^ 8 := Nat.xor_lt_two_pow (by omega) (by omega)
  refine ⟨by omega, by omega, fun e => ?_⟩
  have e1 : k ^^^ t = k ^^^ 0 := by rw [Nat.xor_zero]; omega
  have := d1 e1
  omega
noncomputable def zcv : List Int := [80, 67, 75, 84]
noncomputable def RowOK (ks : List Int) : Prop := 13 ≤ ks.length ∧ ks.length ≤ 1000 ∧ KBa.In ks ∧ ks.take 4 = zcv ∧ ks.getD 4 0 = 1 ∧ ks.drop (ks.length - 4) = fixL (crcZ (ks.take (ks.length - 4)) 0) 4
noncomputable def zsy (ks : List Int) : Prop := 13 ≤ ks.length ∧ ks.length ≤ 1000 ∧ KBa.In ks ∧ (ks.take 4 ≠ zcv ∨ (ks.take 4 = zcv ∧ ks.getD 4 0 ≠ 1) ∨ (ks.take 4 = zcv ∧ ks.getD 4 0 = 1 ∧ ∃ N, N < 256 ^ 4 ∧ ks.drop (ks.length - 4) = fixL N 4 ∧ N ≠ crcZ (ks.take (ks.length - 4)) 0))
noncomputable def rowB (ks : List Int) : Bool := Nat.ble 13 ks.length && Nat.ble ks.length 1000 && ks.all (fun x => decide (0 ≤ x) && decide (x < 256)) && decide (ks.take 4 = zcv) && decide (ks.getD 4 0 = 1) && decide (ks.drop (ks.length - 4) = fixL (crcZ (ks.take (ks.length - 4)) 0) 4)
set_option maxRecDepth 100000 in
theorem zlc : ((List.range 40).all fun n => rowB (zbr n)) = true := by decide +kernel
theorem u4 {n : Nat} (h : n < 40) : RowOK (zbr n) := by
  have h1 := List.all_eq_true.mp zlc n (List.mem_range.mpr h)
  unfold rowB at h1
  refine zae h1 fun h2 a6 => ?_
  refine zae h2 fun h3 a5 => ?_
  refine zae h3 fun h4 a4 => ?_
  refine zae h4 fun h5 a3 => ?_
  refine zae h5 fun a1 a2 => ?_
  refine ⟨Nat.le_of_ble_eq_true a1, Nat.le_of_ble_eq_true a2, fun x hx => ?_, of_decide_eq_true a4, of_decide_eq_true a5, of_decide_eq_true a6⟩
  have := List.all_eq_true.mp a3 x hx
  refine zae this fun b1 b2 => ?_
  exact ⟨of_decide_eq_true b1, of_decide_eq_true b2⟩
theorem fix4 {a b c d : Int} (ha : 0 ≤ a ∧ a < 256) (hb : 0 ≤ b ∧ b < 256) (hc : 0 ≤ c ∧ c < 256) (hd : 0 ≤ d ∧ d < 256) : ∃ N, N < 256 ^ 4 ∧ [a, b, c, d] = fixL N 4 := by
  refine ⟨(a + 256 * b + 65536 * c + 16777216 * d).toNat, by omega, ?_⟩
  show _ = [_, _, _, _]
  simp only [List.cons.injEq, and_true, Nat.pow_zero, Nat.div_one]
  refine ⟨?_, ?_, ?_, ?_⟩ <;> omega
theorem drop4 {ks : List Int} (h : 4 ≤ ks.length) : ∃ a b c d, ks.drop (ks.length - 4) = [a, b, c, d] := by
  have hl : (ks.drop (ks.length - 4)).length = 4 := by rw [List.length_drop]; omega
  obtain ⟨a, b, c, d, e⟩ := len4 hl
  exact ⟨a, b, c, d, e⟩
theorem bad_row {ks : List Int} (R : RowOK ks) {q : Nat} {x : Int} {t : Nat} (hx : ks[q]? = some x) (ht : 1 ≤ t) (ht4 : t < 4) : zsy (ks.set q (Builtin.bitXor x t)) := by
  obtain ⟨r1, r2, r3, r4, r5, r6⟩ := R
  obtain ⟨hq, hg⟩ := List.getElem?_eq_some_iff.mp hx
  have hxin := r3 x (List.mem_of_getElem? hx)
  obtain ⟨y0, y1, yne⟩ := zkx hxin.1 hxin.2 ht ht4
  revert y0 y1 yne
  generalize Builtin.bitXor x t = y
  intro y0 y1 yne
  have hl : (ks.set q y).length = ks.length := List.length_set
  have hin : KBa.In (ks.set q y) := fun z hz => by
    rcases List.mem_or_eq_of_mem_set hz with hz | rfl
    · exact r3 z hz
    · exact ⟨y0, y1⟩
  refine ⟨by omega, by omega, hin, ?_⟩
  by_cases q4 : q < 4
  · refine .inl fun e => ?_
    have h1 : (ks.set q y)[q]? = zcv[q]? := by rw [← e, List.getElem?_take_of_lt q4]
    have h2 : ks[q]? = zcv[q]? := by rw [← r4, List.getElem?_take_of_lt q4]
    rw [List.getElem?_set_self hq, ← h2, hx] at h1
    exact yne (Option.some.inj h1)
  · have e4 : (ks.set q y).take 4 = zcv := by rw [List.take_set_of_le (by omega), r4]
    by_cases q5 : q = 4
    · refine .inr (.inl ⟨e4, fun e => ?_⟩)
      subst q5
      have h1 : (ks.set 4 y).getD 4 0 = y := by rw [List.getD_eq_getElem?_getD, List.getElem?_set_self hq]; rfl
      have h2 : ks.getD 4 0 = x := by rw [List.getD_eq_getElem?_getD, hx]; rfl
      rw [h1] at e
      rw [h2] at r5
      exact yne (e.trans r5.symm)
    · have e5 : (ks.set q y).getD 4 0 = 1 := by rw [List.getD_eq_getElem?_getD, List.getElem?_set_ne q5, ← List.getD_eq_getElem?_getD, r5]
      refine .inr (.inr ⟨e4, e5, ?_⟩)
      rw [hl]
      by_cases q9 : q < ks.length - 4
      · refine ⟨crcZ (ks.take (ks.length - 4)) 0, crcZ_lt _ (by decide), ?_, fun e => ?_⟩
        · rw [List.drop_set_of_lt q9, r6]
        · rw [List.take_set] at e
          have h1 : (ks.take (ks.length - 4))[q]? = some x := by rw [List.getElem?_take_of_lt q9, hx]
          exact zmj h1 hxin.1 hxin.2 y0 y1 yne e.symm
      · obtain ⟨a, b, c, d, e⟩ := drop4 (ks := ks.set q y) (by omega)
        have hm : ∀ z ∈ (ks.set q y).drop ((ks.set q y).length - 4), 0 ≤ z ∧ z < 256 := fun z hz => hin z (List.mem_of_mem_drop hz)
        rw [e] at hm
        obtain ⟨N, hN, eN⟩ := fix4 (hm a (by simp)) (hm b (by simp)) (hm c (by simp)) (hm d (by simp))
        rw [hl] at e
        refine ⟨N, hN, by rw [e, eN], fun h => ?_⟩
        have h1 : (ks.set q y).take (ks.length - 4) = ks.take (ks.length - 4) := List.take_set_of_le (by omega)
        rw [h1] at h
        rw [← h, ← eN, ← e] at r6
        have h2 : (ks.drop (ks.length - 4))[q - (ks.length - 4)]? = ((ks.set q y).drop (ks.length - 4))[q - (ks.length - 4)]? := by rw [r6]
        rw [List.getElem?_drop, List.getElem?_drop, show ks.length - 4 + (q - (ks.length - 4)) = q by omega, hx, List.getElem?_set_self hq] at h2
        exact yne (Option.some.inj h2).symm
theorem zlr {P : Params} {a : Addr} {h : Heap} {its : List Value} (X : (KX P).In h) (hL : h.IsList a its.toArray) : ∃ o, (K23x P a o).In h ∧ gL (K23x P a o) (.val (.ref a)) = some its := by
  obtain ⟨o, ho, hc, n, hd⟩ := hL
  have X' := zgt.mpr X
  refine ⟨o, zkw X' ho, ?_⟩
  have h1 := K23x_at (zkw X' ho) ho
  show ((K23x P a o).lookup a).bind zlx = _
  rw [h1]
  show zlx o = _
  obtain ⟨c, d, dt, sl⟩ := o
  cases hc
  cases hd
  rfl
theorem zjj {h₀ h : Heap} {L R : Addr} {o : Obj} {nw : List (Addr × Obj)} (N : News h₀ L h nw) (h1 : (R, o) ∈ nw) : News h₀ L h [(R, o)] := fun q hq => by
  rw [List.mem_singleton.mp hq]
  exact N _ h1
section
variable {w : World} {p : Program} {loose : List Str} {mean : ExcName → Option Value} {mg mb : Str → Option Value}
set_option maxRecDepth 100000 in
theorem zhp {nm : Str} {sc : Scope} {f : Addr} {cd : Value} {h₀ : Heap} {L : Addr} {h : Heap} {tk : Nat} {m : Str → Option Value} {s : Shared} {Q : Flow → Shared → Prop} {E : Value → Shared → Prop} {s0 s1 s2 s3 s4 s5 : Stmt} {r : List Stmt} {a : Addr} {its : List Value} {ns : List Int}
    (F : Fr h₀ L h m) (N : News h₀ L h []) (B : Below callerA h₀ [] h₀) (X : (KX w.params).In h₀) (T : Top p loose mean mg mb h₀) (hk : sc.kind = .function) (hE : PassesOwn (model PySem.Challenge.rw_ui0507_23.row.prog w) (callerA.deeper (envOf nm sc L f cd)) (envOf nm sc L f cd) E)
    (hb : s0 :: s1 :: s2 :: s3 :: s4 :: s5 :: r = bdL w.params) (hs : sc.names = scL w.params) (hls : zat (scL w.params) scr = true) (ms : m scr = some (.ref a)) (hL : h₀.IsList a its.toArray) (hI : IntsAre its ns) (hz : ns.length ≤ 63)
    (ok0 : ∀ m' h' tk' g', Fr h₀ L h' m' → GRow s.gens g' → Q (.ret (.bool true)) { s with heap := h', gens := g', toks := tk' })
    (ok1 : ∀ (t : Nat) (ks : List Int) (m' : Str → Option Value) (h' : Heap) (tk' : Nat) (g' : Array GenState) (R : Addr) (vs : List Value) (k : Nat) (u : Tok), 1 ≤ t → t < 4 → zsy ks → Fr h₀ L h' (fun y => if y = Str.ofString "row" then some (.ref R) else if y = Str.ofString "turn" then some (.int (t : Int) u) else m' y) → News h₀ L h' [(R, listOf (List.toArray vs) k)] → IntsAre vs ks → GRow s.gens g' →
      wpAny (model PySem.Challenge.rw_ui0507_23.row.prog w) (callerA.deeper (envOf nm sc L f cd)) (execs r (envOf nm sc L f cd)) Q E { s with heap := h', gens := g', toks := tk' }) :
    wpAny (model PySem.Challenge.rw_ui0507_23.row.prog w) (callerA.deeper (envOf nm sc L f cd)) (execs (s0 :: s1 :: s2 :: s3 :: s4 :: s5 :: r) (envOf nm sc L f cd)) Q E { s with heap := h, toks := tk } := by
  have hr0 : r = u7 w.params := congrArg (List.drop 6) hb
  subst hr0
  rw [hb]
  obtain ⟨o, X', hl⟩ := zlr X hL
  obtain ⟨n, t, q, x, hn, ht, hx, hx0, hx1, hrun⟩ := law_run (P := w.params) (a := a) (ob := o) ns
  have O := oLW_ok (w := w) (p := p) (loose := loose) (mean := mean) (mg := mg) (mb := mb) hn hl hI hz
  have C : RCx (G23x w p loose mean mg mb a o) 169 ⟨callerA.deeper (envOf nm sc L f cd), envOf nm sc L f cd, envOf nm sc L f cd, h₀, L, [], E, none⟩ :=
    ⟨⟨rfl, ⟨[], callerA, h₀, rfl, B⟩, rfl, hk, (by show (callerA.deeper _).depth + _ < _; rw [depth_deeper]; decide), (by show (callerA.deeper _).units + _ + _ < _; rw [units_deeper]; decide), X', T, fun a h => gd23x h⟩, hk, rfl, rfl, fun _ => rfl, fun _ e => nomatch e⟩
  have fr : Frm ⟨callerA.deeper (envOf nm sc L f cd), envOf nm sc L f cd, envOf nm sc L f cd, h₀, L, [], E, none⟩ (F0 w.params a) m [] := by
    refine ⟨fun y v hy => ?_, hs, fun x k hx => by cases hx⟩
    have hy' : look [(scr, SV.val (.ref a))] y = some v := hy
    rw [zaj] at hy'
    by_cases e : scr = y
    · rw [if_pos e] at hy'
      cases hy'
      subst e
      exact ⟨hls, _, ms, rfl⟩
    · rw [if_neg e] at hy'; cases hy'
  rcases hrun with ⟨_, f', g', e⟩ | ⟨ht1, e, hr⟩
  · refine zgk (Γ := G23x w p loose mean mg mb a o) O 2016 2016 (Nat.le_refl _) _ _ _ _ _ e ⟨callerA.deeper (envOf nm sc L f cd), envOf nm sc L f cd, envOf nm sc L f cd, h₀, L, [], E, none⟩ m ⟨[], [], h, tk, s.gens⟩ s Q C rfl hE fr ⟨F, N, Led.bare⟩ fun FL M' z' ex r _ H => ?_
    obtain ⟨V, rfl, hV⟩ := r
    have hV' : V = .bool true := hV
    subst hV'
    exact ok0 M' z'.h z'.tk z'.g H.F ex.gr
  · rw [l_bd]
    refine c5 (l1 := [sL w.params 0, sL w.params 1, sL w.params 2, sL w.params 3, sL w.params 4, sL w.params 5]) ?_
    refine zgk (Γ := G23x w p loose mean mg mb a o) O 2016 2016 (Nat.le_refl _) _ _ _ _ _ e ⟨callerA.deeper (envOf nm sc L f cd), envOf nm sc L f cd, envOf nm sc L f cd, h₀, L, [], E, none⟩ m ⟨[], [], h, tk, s.gens⟩ s _ C rfl hE fr ⟨F, N, Led.bare⟩ fun FL M' z' ex r fr' H => ?_
    have r' : FL = .next := r
    subst r'
    obtain ⟨_, V1, e1, k1⟩ := fr'.rm (Str.ofString "row") (.obj (kR w.params a o ns n)) (by kernel_rfl)
    obtain ⟨_, V2, e2, k2⟩ := fr'.rm (Str.ofString "turn") (.int (t : Int)) (by kernel_rfl)
    obtain ⟨D, vs, k, rfl, _, hm, hvs, _⟩ := H.list k1 (oL_set hr)
    obtain ⟨u, rfl⟩ := k2
    have hF : (fun y => if y = Str.ofString "row" then some (.ref D) else if y = Str.ofString "turn" then some (.int (t : Int) u) else M' y) = M' := by
      funext y
      by_cases h1 : y = Str.ofString "row"
      · rw [if_pos h1, h1]; exact e1.symm
      · rw [if_neg h1]
        by_cases h2 : y = Str.ofString "turn"
        · rw [if_pos h2, h2]; exact e2.symm
        · rw [if_neg h2]
    exact ok1 t _ M' z'.h z'.tk z'.g D vs k u ht1 ht (bad_row (u4 hn) hx ht1 ht) (by rw [hF]; exact H.F) (zjj H.N hm) (zgj hvs) ex.gr
end
section
variable {Γ : Gm} {orc : Orc} {kf : Nat}
theorem ztr (O : zbf Γ orc kf) (hk : kf ≤ 38) (hgd : ∀ a, memA a Γ.gd = true → (∃ es n, Γ.K.lookup a = some ⟨.type "dict", none, .dict es n, #[]⟩ ∧ KeysLit Γ.w.params es.toList) ∧ (a == sysModules) = false) {f : Addr} {vs : List SV} {Vs : List Value} (hv : RVs [] vs Vs) {news : List (Addr × Obj)}
    (h : ((zbp Γ.K orc (.ref f) vs ⟨[], [], 0⟩).map fun p => Nat.beq p.2.γ 0) = some true) : Fun Γ.prog Γ.w Γ.K Γ.p Γ.loose Γ.mean Γ.mg Γ.mb 80 f Vs news (fun _ news' => news' = news) := by
  intro dp un gd cn cs a ccd cl outer A₀ base h₀ L m s Q E B F X N T hkd hd hu hret
  refine zag h fun p h1 h2 => ?_
  obtain ⟨v, g'⟩ := p
  refine zdl (c := ⟨ktrTop dp un gd cn cs L a ccd cl outer, envX cn cs L a ccd cl, envX cn cs L a ccd cl, h₀, L, news, E, none⟩) (M := m) (z := ⟨[], [], s.heap, s.toks, s.gens⟩) (s := s) O h1
    ⟨rfl, ⟨outer, A₀, base, rfl, B⟩, rfl, hkd, by show dp + _ < _; omega, by show un + _ + 70 < _; omega, X, T, hgd⟩ ⟨F, N, Led.bare⟩ hv fun r z' e1 r1 H1 => ?_
  have hgen : z'.g = s.gens := e1.gq.2 (Nat.eq_of_beq_eq_true h2)
  have e0 : z'.sh s = { s with heap := z'.h, toks := z'.tk } := by unfold Zs.sh; rw [hgen]
  rw [e0]
  exact hret _ _ _ _ rfl H1.F fun p hp => H1.N p (List.mem_append.mpr (.inr hp))
end
noncomputable def CtC (f : Addr) (prog : Program) (w : World) (K : Frag) (p : Program) (loose : List Str) (mean : ExcName → Option Value) (mg mb : Str → Option Value) : Prop :=
  ∀ news, Fun prog w K p loose mean mg mb 80 f [.none] news (fun _ n' => n' = news)
set_option maxRecDepth 100000 in
theorem co_ev (P : Params) : ((zbp (K23 P) (orcP (K23 P) gd23 FT PL 2000 zce 5) (.ref 2361) [.none] ⟨[], [], 0⟩).map fun p => Nat.beq p.2.γ 0) = some true := by kernel_rfl
section
variable {w : World} {p : Program} {loose : List Str} {mean : ExcName → Option Value} {mg mb : Str → Option Value}
theorem co_ctr : CtC 2361 PySem.Challenge.rw_ui0507_23.row.prog w (KX w.params) p loose mean mg mb := by
  intro news
  have O := zec (Γ := G23 w p loose mean mg mb) (N := 2000) (PL := PL) (zde w.params) zee 5
  exact fun dp un gd cn cs a ccd cl outer A₀ base h₀ L m s Q E B F X => ztr (Γ := G23 w p loose mean mg mb) O (by decide) (fun a h => zjv h) (show RVs [] [SV.none] [Value.none] from .cons rfl .nil) (co_ev w.params) dp un gd cn cs a ccd cl outer A₀ base h₀ L m s Q E B F (zgt.mpr X)
end
theorem mk_row {prog : Program} {w : World} {A : Around} {E : Value → Shared → Prop} {s : Shared} {h₀ : Heap} {L D : Addr} {m : PySem.Str → Option Value} {news : List (Addr × Obj)} {vs : List Value} {ns : List Int} {Q : Value → Shared → Prop} (F : Fr h₀ L s.heap m) (N : News h₀ L s.heap news) (hh : A.handled = none) (hl : s.heap.IsList D vs.toArray) (hi : IntsAre vs ns) (hr : KBa.In ns) (hn : ns.length ≤ 1000)
    (h : ∀ (b : Array UInt8) h' t' k, Fr h₀ L h' m → News h₀ L h' news → KBw.bInts b = ns → Q (.bytes b t') { s with heap := h', toks := k }) : wpAny (model prog w) A (call (.type "bytes") [.ref D]) Q E s :=
  KBa.make_K F N hh hl hi hr (by omega) fun h' t' k F' N' _ => h _ h' t' k F' N' (KBa.ints_make hr)
section
variable {prog : Program} {w : World} {A : Around} {E : Value → Shared → Prop} {s : Shared} {x y : Int} {t u : Tok} {Q : Value → Shared → Prop}
theorem ne_yes (e : x ≠ y) (h : Q (.bool true) s) : wpAny (model prog w) A (compareOp .NotEq (.int x t) (.int y u)) Q E s := by
  refine ne_int ?_
  rw [show (x != y) = true from bne_iff_ne.mpr e]
  exact h
theorem eq_nope (e : x ≠ y) (h : Q (.bool false) s) : wpAny (model prog w) A (compareOp .Eq (.int x t) (.int y u)) Q E s := by
  refine eq_int ?_
  rw [show (x == y) = false from beq_eq_false_iff_ne.mpr e]
  exact h
end
theorem clip4 {n : Nat} (h : 13 ≤ n) : clipAt n ((n : Int) - 4) = n - 4 := by
  rw [show (n : Int) - 4 = ((n - 4 : Nat) : Int) by omega, clipAt_nat]
  omega
theorem zko {b : Array UInt8} {ks : List Int} (h13 : 13 ≤ ks.length) (hB : ks.take 4 ≠ zcv ∨ (ks.take 4 = zcv ∧ ks.getD 4 0 ≠ 1) ∨ (ks.take 4 = zcv ∧ ks.getD 4 0 = 1 ∧ ∃ N, N < 256 ^ 4 ∧ ks.drop (ks.length - 4) = fixL N 4 ∧ N ≠ crcZ (ks.take (ks.length - 4)) 0))
    (h1 : KBw.bInts (KBy.picked b none (some 4)) = List.take (clipAt ks.length 4) ks) (h2 : ((KBy.picked b none (some 4)).toList != [80, 67, 75, 84]) = false) (h3 : ks.getD (Int.toNat 4) 0 = 1) : ∃ N, N < 256 ^ 4 ∧ ks.drop (ks.length - 4) = fixL N 4 ∧ N ≠ crcZ (ks.take (ks.length - 4)) 0 := by
  have e1 : (KBy.picked b none (some 4)).toList = [80, 67, 75, 84] := by simpa using h2
  have e2 : ks.take 4 = zcv := by
    have e3 : clipAt ks.length 4 = 4 := by
      show clipAt ks.length ((4 : Nat) : Int) = 4
      rw [clipAt_nat]
      omega
    rw [e3] at h1
    rw [← h1]
    show (KBy.picked b none (some 4)).toList.map (fun c => ((c.toNat : Nat) : Int)) = _
    rw [e1]
    rfl
  rcases hB with hB | hB | hB
  · exact absurd e2 hB
  · exact absurd h3 hB.2
  · exact hB.2.2
theorem crc_ne {N : Nat} {ks : List Int} (h13 : 13 ≤ ks.length) (hc : N ≠ crcZ (ks.take (ks.length - 4)) 0) : (N : Int) ≠ ((crcZ (ks.take (clipAt ks.length ((ks.length : Int) - 4))) 0 : Nat) : Int) := by
  rw [clip4 h13]
  omega
theorem at_min {ks : List Int} (h13 : 13 ≤ ks.length) : ((min (clipAt ks.length ((ks.length : Int) - 4)) ks.length : Nat) : Int) = ((ks.length - 4 : Nat) : Int) := by
  rw [clip4 h13]
  omega
theorem ztu {ks : List Int} {k : Nat} (h : ks.length ≤ 1000) : (List.take k ks).length ≤ 1000 := by
  rw [List.length_take]
  omega
theorem at_len {ks : List Int} (h : 13 ≤ ks.length) : ks.length - 4 + 4 = ks.length := by omega
theorem t_ne {t : Nat} (h : 1 ≤ t) : (t : Int) ≠ 0 := by omega
end
end Mine
set_option maxRecDepth 100000 in
set_option maxHeartbeats 8000000 in
theorem Mine.crk_ctr {w : World} {p : Program} {loose : List Str} {mean : ExcName → Option Value} {mg mb : Str → Option Value} : Mine.CrC 1337 PySem.Challenge.rw_ui0507_23.row.prog w (Mine.KX w.params) p loose mean mg mb := by
  k_with_none
  k_with "mine nd" => (first | assumption | exact Nat.ne_of_lt (by with_reducible assumption) | exact Nat.ne_of_gt (by with_reducible assumption) | exact Nat.ne_of_lt (And.left (by with_reducible assumption)) | exact Nat.ne_of_gt (And.left (by with_reducible assumption)) | exact Nat.ne_of_lt (And.left (And.right (by with_reducible assumption))) | exact Nat.ne_of_gt (And.left (And.right (by with_reducible assumption))) | exact Nat.ne_of_lt (And.left (And.right (And.right (by with_reducible assumption)))) | exact Nat.ne_of_gt (And.left (And.right (And.right (by with_reducible assumption)))) | exact Nat.ne_of_lt (And.left (And.right (And.right (And.right (by with_reducible assumption))))) | exact Nat.ne_of_gt (And.left (And.right (And.right (And.right (by with_reducible assumption))))) | exact Nat.ne_of_lt (And.left (And.right (And.right (And.right (And.right (by with_reducible assumption)))))) | exact Nat.ne_of_gt (And.left (And.right (And.right (And.right (And.right (by with_reducible assumption)))))) | exact Nat.ne_of_lt (And.left (And.right (And.right (And.right (And.right (And.right (by with_reducible assumption))))))) | exact Nat.ne_of_gt (And.left (And.right (And.right (And.right (And.right (And.right (by with_reducible assumption))))))) | exact Nat.ne_of_lt (And.left (And.right (And.right (And.right (And.right (And.right (And.right (by with_reducible assumption)))))))) | exact Nat.ne_of_gt (And.left (And.right (And.right (And.right (And.right (And.right (And.right (by with_reducible assumption)))))))) | exact Nat.ne_of_lt (And.left (And.right (And.right (And.right (And.right (And.right (And.right (And.right (by with_reducible assumption))))))))) | exact Nat.ne_of_gt (And.left (And.right (And.right (And.right (And.right (And.right (And.right (And.right (by with_reducible assumption))))))))) | exact Nat.ne_of_lt (And.left (And.right (And.right (And.right (And.right (And.right (And.right (And.right (And.right (by with_reducible assumption)))))))))) | exact Nat.ne_of_gt (And.left (And.right (And.right (And.right (And.right (And.right (And.right (And.right (And.right (by with_reducible assumption)))))))))) | k_ne)
  k_with "mine rm" => (first | with_reducible assumption | (refine' Mine.rmN ?rh_zs1 ?re_zs1; (case rh_zs1 => with_reducible assumption); (case re_zs1 => decide)) | (refine Mine.rm0 ?_; with_reducible assumption) | ((simp only [units_in1, units_deeper, units_under_make, Around.mark_units, units_caller, depth_in1, depth_deeper, depth_under_make, depth_caller, Nat.add_assoc]); first | with_reducible assumption | (refine' Mine.rmN ?rg_zs1 ?rf_zs1; (case rg_zs1 => with_reducible assumption); (case rf_zs1 => decide)) | (refine Mine.rm0 ?_; with_reducible assumption)) | ktr_room | ktr_units)
  k_with "mine om" => (first | with_reducible assumption | (refine' Mine.leN ?oh_zs2 ?oe_zs2; (case oh_zs2 => with_reducible assumption); (case oe_zs2 => decide)) | omega)
  k_with "mine ne" => ((try dsimp only); first | (walk_at "mine nd") | (refine Ne.symm ?_; assumption))
  k_with "mine off" => first | exact List.forall_mem_nil _ | assumption | exact Mine.off_lt (by assumption) | exact Mine.off_gt (by assumption) | (refine' List.forall_mem_cons.mpr ⟨?a_z1, ?b_z1⟩; (case a_z1 => walk_at "mine ne"); (case b_z1 => walk_at "mine off")) | (refine' List.forall_mem_append.mpr ⟨?a_z1, ?b_z1⟩; (case a_z1 => walk_at "mine off"); (case b_z1 => walk_at "mine off"))
  k_with "mine upd" => first | (refine' Upd.head ?a_z2; (case a_z2 => walk_at "mine off")) | (refine' Upd.tail ?a_z2 ?b_z2; (case a_z2 => walk_at "mine ne"); (case b_z2 => walk_at "mine upd"))
  k_with "mine size" => ((try law_lens); (simp only [List.size_toArray, Array.size_push, Array.size_append, List.length_append, List.length_cons, List.length_nil, List.length_take, List.length_drop, List.length_replicate, sizeLine_eq]); omega)
  k_with "mine updF" => first | (refine' UpdF.head ?a_z5; (case a_z5 => walk_at "mine off")) | (refine' UpdF.tail ?a_z5 ?b_z5; (case a_z5 => walk_at "mine ne"); (case b_z5 => walk_at "mine updF"))
  k_with "mine upd" => first | (refine' Upd.head ?a_z7; (case a_z7 => walk_at "mine off")) | (refine' Upd.tail ?a_z7 ?b_z7; (case a_z7 => walk_at "mine ne"); (case b_z7 => walk_at "mine upd")) | (refine' Mine.upd_app ?a_z7 ?b_z7; (case a_z7 => first | with_reducible assumption | exact Mine.off_kL (by with_reducible assumption)); (case b_z7 => walk_at "mine upd"))
  k_with "mine off" => first | exact List.forall_mem_nil _ | assumption | exact Mine.off_lt (by assumption) | exact Mine.off_gt (by assumption) | exact Mine.off_allLt (And.right (by assumption)) | (refine' List.forall_mem_cons.mpr ⟨?a_z8, ?b_z8⟩; (case a_z8 => walk_at "mine ne"); (case b_z8 => walk_at "mine off")) | (refine' List.forall_mem_append.mpr ⟨?a_z8, ?b_z8⟩; (case a_z8 => walk_at "mine off"); (case b_z8 => walk_at "mine off"))
  k_with "mine enter" => (refine' code_def ?k1_z9 ?k2_z9 ?k3_z9 ?k4_z9 ?k5_z9 ?kA_z9 ?kF_z9 ?kK_z9 ?k6_z9 ?k7_z9 ?k8_z9 ?k9_z9 ?kB_z9 ?_ ?c2_z9 ?c3_z9 ?c4_z9 ?c5_z9; (case kA_z9 => exact rfl); (case kF_z9 => exact rfl); (case kK_z9 => first | assumption | exact rfl); (case k1_z9 => k_asm); (case k2_z9 => k_asm); (case k3_z9 => k_asm); (case k4_z9 => k_asm); (case k5_z9 => k_asm); (case k6_z9 => k_is); (case k7_z9 => k_is); (case k8_z9 => walk_at "mine rm"); (case k9_z9 => first | exact Mine.bz (BindsTo.of_eq rfl) (by with_unfolding_all rfl) | exact BindsTo.of_eq rfl | exact binds_K (by k_in) rfl (by k_is) rfl rfl rfl); (case c5_z9 => decide); (case kB_z9 => exact locs rfl); (case c2_z9 => exact rfl); (case c3_z9 => exact rfl); (case c4_z9 => exact rfl); k_whole; intro g' L' h' FG' F' N' B' X' T'; (try dsimp only); (try k_lift B'); (try k_fold))
  k_with "pyIter bytes" => (k_here; (with_reducible show wpAny _ _ (pyIter (Value.bytes _ _)) (fun it s₂ => LoopAtV _ _ _ _ _ _ _ _ _ it s₂) _ _); (rename Fr _ _ _ _ => lF'); (rename News _ _ _ _ => lN'); (with_unfolding_all refine' Mine.cr_for ?k1_z10 ?k2_z10 lF' lN' ?k3_z10 ?k4_z10 ?k5_z10 ?_ ?_; (case k1_z10 => assumption); (case k2_z10 => exact rfl); (case k3_z10 => exact rfl); (case k4_z10 => with_reducible first | exact Mine.xor_0 | exact Mine.xor_M _); (case k5_z10 => first | decide | exact Nat.xor_lt_two_pow (by assumption) (by decide))); (all_goals (try clear lF' lN')); (focus (intro c9 t9 tn9 pre9 n9 u9 h9 tk9 own9 kN9 kC9 kE9 kF kN; (try k_fold))); rotate_left; (focus (intro c9 t9 u9 h9 tk9 kC9 kE9 kF kN; (try k_unfold); (try dsimp only))); rotate_right)
  k_with "subscriptTail Name BinOp ref int" => (k_here; (with_reducible show wpAny _ _ (subscriptTail _ _ (Value.ref _) (Value.int (Builtin.bitAnd (Builtin.bitXor _ _) _) _)) _ _ _); k_dflt (refine' Mine.l8 ?F_z11 ?X_z11 ?l_z11 ?k_z11 ?i_z11 ?_; (case F_z11 => k_asm); (case X_z11 => k_asm); (case l_z11 => kernel_rfl); (case k_z11 => with_reducible exact Mine.idx_x); (case i_z11 => with_reducible exact Nat.mod_lt _ (by decide)); k_whole); intro t9)
  k_with "InvEndN" => (k_here; (rename Fr _ _ _ _ => lF'); (rename News _ _ _ _ => lN'); with_unfolding_all (refine' Mine.cr_end lF' lN' ?k1_z12 ?k2_z12 ?k3_z12 ?k4_z12 ?k5_z12 ?k6_z12; (case k1_z12 => exact rfl); (case k2_z12 => exact Mine.step_x); (case k3_z12 => (intro z h1 h2; simp only [h1, h2, if_false]; rfl)); (case k4_z12 => assumption); (case k5_z12 => assumption); (case k6_z12 => assumption)))
  k_fill
  w_top off
  (
  unfold Mine.CrC
  intro b ks tb news hb hl
  unfold Mine.Fun
  intro dp un gd cn cs a ccd cl outer A₀ base h₀ L m s Q E B F X N T hk hd hu hret
  refine wpAny_call ?_
  k_dflt (walk_at "mine enter"))
  all_goals (repeat' (first | (k_unfold; (try dsimp only)) | (k_end; wrow_close) | (walk1; (all_goals (try dsimp only))) | (dsimp only; walk1) | (leave1; (try dsimp only)) | fail "no step"))
  all_goals first | exact hret _ _ _ _ ⟨_, _, rfl, rfl, Mine.cr_val (by assumption)⟩ (by assumption) (by assumption)
set_option maxRecDepth 100000 in
set_option maxHeartbeats 8000000 in
theorem Mine.rf_ctr {w : World} {p : Program} {loose : List Str} {mean : ExcName → Option Value} {mg mb : Str → Option Value} : Mine.RfC 271 PySem.Challenge.rw_ui0507_23.row.prog w (Mine.KX w.params) p loose mean mg mb := by
  k_with_none
  k_with "mine nd" => (first | assumption | exact Nat.ne_of_lt (by with_reducible assumption) | exact Nat.ne_of_gt (by with_reducible assumption) | exact Nat.ne_of_lt (And.left (by with_reducible assumption)) | exact Nat.ne_of_gt (And.left (by with_reducible assumption)) | exact Nat.ne_of_lt (And.left (And.right (by with_reducible assumption))) | exact Nat.ne_of_gt (And.left (And.right (by with_reducible assumption))) | exact Nat.ne_of_lt (And.left (And.right (And.right (by with_reducible assumption)))) | exact Nat.ne_of_gt (And.left (And.right (And.right (by with_reducible assumption)))) | exact Nat.ne_of_lt (And.left (And.right (And.right (And.right (by with_reducible assumption))))) | exact Nat.ne_of_gt (And.left (And.right (And.right (And.right (by with_reducible assumption))))) | exact Nat.ne_of_lt (And.left (And.right (And.right (And.right (And.right (by with_reducible assumption)))))) | exact Nat.ne_of_gt (And.left (And.right (And.right (And.right (And.right (by with_reducible assumption)))))) | exact Nat.ne_of_lt (And.left (And.right (And.right (And.right (And.right (And.right (by with_reducible assumption))))))) | exact Nat.ne_of_gt (And.left (And.right (And.right (And.right (And.right (And.right (by with_reducible assumption))))))) | exact Nat.ne_of_lt (And.left (And.right (And.right (And.right (And.right (And.right (And.right (by with_reducible assumption)))))))) | exact Nat.ne_of_gt (And.left (And.right (And.right (And.right (And.right (And.right (And.right (by with_reducible assumption)))))))) | exact Nat.ne_of_lt (And.left (And.right (And.right (And.right (And.right (And.right (And.right (And.right (by with_reducible assumption))))))))) | exact Nat.ne_of_gt (And.left (And.right (And.right (And.right (And.right (And.right (And.right (And.right (by with_reducible assumption))))))))) | exact Nat.ne_of_lt (And.left (And.right (And.right (And.right (And.right (And.right (And.right (And.right (And.right (by with_reducible assumption)))))))))) | exact Nat.ne_of_gt (And.left (And.right (And.right (And.right (And.right (And.right (And.right (And.right (And.right (by with_reducible assumption)))))))))) | k_ne)
  k_with "mine rm" => (first | with_reducible assumption | (refine' Mine.rmN ?rh_zs1 ?re_zs1; (case rh_zs1 => with_reducible assumption); (case re_zs1 => decide)) | (refine Mine.rm0 ?_; with_reducible assumption) | ((simp only [units_in1, units_deeper, units_under_make, Around.mark_units, units_caller, depth_in1, depth_deeper, depth_under_make, depth_caller, Nat.add_assoc]); first | with_reducible assumption | (refine' Mine.rmN ?rg_zs1 ?rf_zs1; (case rg_zs1 => with_reducible assumption); (case rf_zs1 => decide)) | (refine Mine.rm0 ?_; with_reducible assumption)) | ktr_room | ktr_units)
  k_with "mine om" => (first | with_reducible assumption | (refine' Mine.leN ?oh_zs2 ?oe_zs2; (case oh_zs2 => with_reducible assumption); (case oe_zs2 => decide)) | omega)
  k_with "mine ne" => ((try dsimp only); first | (walk_at "mine nd") | (refine Ne.symm ?_; assumption))
  k_with "mine off" => first | exact List.forall_mem_nil _ | assumption | exact Mine.off_lt (by assumption) | exact Mine.off_gt (by assumption) | (refine' List.forall_mem_cons.mpr ⟨?a_z1, ?b_z1⟩; (case a_z1 => walk_at "mine ne"); (case b_z1 => walk_at "mine off")) | (refine' List.forall_mem_append.mpr ⟨?a_z1, ?b_z1⟩; (case a_z1 => walk_at "mine off"); (case b_z1 => walk_at "mine off"))
  k_with "mine upd" => first | (refine' Upd.head ?a_z2; (case a_z2 => walk_at "mine off")) | (refine' Upd.tail ?a_z2 ?b_z2; (case a_z2 => walk_at "mine ne"); (case b_z2 => walk_at "mine upd"))
  k_with "mine size" => ((try law_lens); (simp only [List.size_toArray, Array.size_push, Array.size_append, List.length_append, List.length_cons, List.length_nil, List.length_take, List.length_drop, List.length_replicate, sizeLine_eq]); omega)
  k_with "call builtin:list.append" => (k_here; (with_reducible show wpAny _ _ (call (Value.builtin "list.append") [Value.ref _, _]) _ _ _); k_dflt (refine' append_K ?k1_z4 ?k2_z4 ?k3_z4 ?_ ?z_z4; (case k1_z4 => k_asm); (case k2_z4 => k_asm); (case k3_z4 => walk_at "mine upd"); (case z_z4 => walk_at "mine size"); k_whole); intro h' F' N'; (try k_sweep))
  k_with "mine updF" => first | (refine' UpdF.head ?a_z5; (case a_z5 => walk_at "mine off")) | (refine' UpdF.tail ?a_z5 ?b_z5; (case a_z5 => walk_at "mine ne"); (case b_z5 => walk_at "mine updF"))
  k_with "call builtin:list.extend" => (k_here; (with_reducible show wpAny _ _ (call (Value.builtin "list.extend") [Value.ref _, Value.ref _]) _ _ _); k_dflt (refine' Mine.zgy ?k1_z6 ?k2_z6 ?kb_z6 ?k3_z6 ?z_z6 ?_; (case k1_z6 => k_asm); (case k2_z6 => k_asm); (case kb_z6 => k_mem); (case k3_z6 => walk_at "mine updF"); (case z_z6 => walk_at "mine size"); k_whole); intro h' n' F' N'; (try dsimp only at N'); (try k_sweep))
  k_with "binaryOp RShift int int" => (k_here; (with_reducible refine Mine.rsh_zero (by assumption) ?kn_z7 ?kM_z7 ?_); (case kn_z7 => walk_at "mine om"); (case kM_z7 => exact Mine.pow_sh _))
  k_with "exec For Name Call cons nil" => (k_here; (rename Fr _ _ _ _ => lF'); (with_unfolding_all refine' For_invVF lF' ?k1_z8 ?k2_z8 ?_; (case k1_z8 => exact rfl); (case k2_z8 => exact rfl); k_whole))
  k_with "call type:range" => ((with_reducible show wpAny _ _ (call (Value.type "range") [Value.int _ _]) _ _ _); (rename Fr _ _ _ _ => F'); (rename News _ _ _ _ => N'); (with_unfolding_all refine range1_rows F' N' ?_; intro _ _ _ _ _ _ _ _ _))
  k_with "binaryOp LShift int int" => (k_here; (with_reducible refine lshift_int_small ?kb1_z10 ?kb2_z10 ?kb3_z10 ?_); (case kb1_z10 => walk_at "mine om"); (case kb2_z10 => walk_at "mine om"); (case kb3_z10 => walk_at "mine om"))
  k_with "pyIter ref" => (k_here; (with_reducible show wpAny _ _ (pyIter (Value.ref _)) (fun it s₂ => LoopAtV _ _ _ _ _ _ _ _ _ it s₂) _ _); ((rename Fr _ _ _ _ => lF'); (rename News _ _ _ _ => lN'); (rename IsRange _ _ _ _ _ _ _ _ => rgX); (rename List.drop _ _ = Mine.fixL _ _ => kD9); (with_unfolding_all refine' Mine.fxr_for ?hN_z11 ?hh_z11 rgX ?hb_z11 ?hz_z11 lF' lN' ?hv_z11 ?hx_z11 ?tn_z11 ?dn_z11); (case hb_z11 => exact rfl); (case hz_z11 => with_reducible assumption); (case hN_z11 => with_reducible assumption); (case hh_z11 => with_unfolding_all exact rfl); (case hv_z11 => with_unfolding_all exact rfl); (case hx_z11 => with_unfolding_all exact rfl)); (all_goals (try clear lF' lN')); (case' tn_z11 => (intro v9 i9 tv9 t9 u9 h9 tk9 own9 kI kP kO2 kF kN; (try k_fold))); (case' dn_z11 => (intro v9 tv9 u9 h9 tk9 kP kF kN; (try k_unfold); (try dsimp only))))
  k_with "InvEndG" => (k_here; (rename Fr _ _ _ _ => lF'); (rename News _ _ _ _ => lN'); with_unfolding_all (refine' Mine.fxr_end lF' lN' ?k1_z12 ?k2_z12 ?k3_z12 ?k4_z12 ?k5_z12 ?k6_z12 ?k7_z12 ?k8_z12; (case k1_z12 => exact rfl); (case k2_z12 => with_reducible assumption); (case k3_z12 => with_reducible assumption); (case k4_z12 => with_reducible assumption); (case k5_z12 => first | exact rfl | omega); (case k6_z12 => walk_at "mine om"); (case k7_z12 => with_reducible assumption); (case k8_z12 => (intro q h1 h2; (simp [h1, h2]; done)))))
  k_with "pyIter ref" => (k_here; (with_reducible show wpAny _ _ (pyIter (Value.ref _)) (fun it s₂ => LoopAtV _ _ _ _ _ _ _ _ _ it s₂) _ _); ((rename Fr _ _ _ _ => lF'); (rename News _ _ _ _ => lN'); (rename IsRange _ _ _ _ _ _ _ _ => rgX); (with_unfolding_all refine' Mine.fxb_for ?hN_z13 ?hh_z13 rgX ?hb_z13 ?hz_z13 lF' lN' ?tn_z13 ?dn_z13); (case hb_z13 => exact rfl); (case hz_z13 => with_reducible assumption); (case hN_z13 => with_reducible assumption); (case hh_z13 => with_unfolding_all exact rfl); (all_goals (try clear lF' lN')); (case' tn_z13 => (intro vs9 cn9 i9 t9 u9 h9 tk9 own9 kI kP kL kO kO2 kF kN; (try k_fold))); (case' dn_z13 => (intro vs9 cn9 u9 h9 tk9 kP kF kN; (try k_unfold); (try dsimp only)))))
  k_with "InvEndG" => (k_here; (rename Fr _ _ _ _ => lF'); (rename News _ _ _ _ => lN'); with_unfolding_all (refine' Mine.fxb_end lF' lN' ?k2_z14 ?k3_z14 ?k4_z14 ?k5_z14 ?k6_z14; (case k2_z14 => assumption); (case k3_z14 => assumption); (case k4_z14 => assumption); (case k5_z14 => exact Mine.fx_item rfl (by omega)); (case k6_z14 => (intro q h1; (simp [h1]; done)))))
  k_with "call type:bytes" => (k_here; (with_reducible show wpAny _ _ (call (Value.type "bytes") [Value.ref _]) _ _ _); k_dflt (refine' KBa.make_K ?kbaF_z15 ?kbaN_z15 ?kbah_z15 ?kbal_z15 ?kbai_z15 ?kbar_z15 ?kban_z15 ?_; (case kbaF_z15 => k_asm); (case kbaN_z15 => k_asm); (case kbah_z15 => rfl); (case kbal_z15 => exact News.isList (by k_asm) (by k_mem)); (case kbai_z15 => assumption); (case kbar_z15 => exact Mine.fixL_in _ _); (case kban_z15 => (rw [Mine.fixL_len]; omega)); k_whole); intro h' t' k' F' N' kbaIn)
  k_with "mine fixed" => (
    unfold Mine.FbC
    intro N size x y t u news hx hy hz hN
    subst hx
    subst hy
    unfold Mine.Fun
    intro dp un gd cn cs a ccd cl outer A₀ base h₀ L m s Q E B F X Nw T hk hd hu hret
    refine wpAny_call ?_
    k_dflt cell_enter)
  k_fill
  w_top off
  (
  unfold Mine.RfC
  intro b ks N size a x y tb t u news hb hx hy hz hN hD hL hl
  subst hx
  subst hy
  unfold Mine.Fun
  intro dp un gd cn cs a0 ccd cl outer A₀ base h₀ L m s Q E B F X Nw T hk hd hu hret
  refine wpAny_call ?_
  k_dflt cell_enter)
  (repeat' (first | (k_unfold; (try dsimp only)) | (k_end; wrow_close) | (walk1; (all_goals (try dsimp only))) | (dsimp only; walk1) | (leave1; (try dsimp only)) | fail "no step"))
  all_goals exact Mine.rf_ret hret (by assumption) (by assumption) (by assumption) (by assumption) (by omega)
set_option maxRecDepth 100000 in
set_option maxHeartbeats 8000000 in
theorem PySem.Challenge.cw_ui0507_23_holds : PySem.Challenge.rw_ui0507_23.Holds :=
  Mine.hd (by
  k_with_none
  k_with "mine nd" => (first | assumption | exact Nat.ne_of_lt (by with_reducible assumption) | exact Nat.ne_of_gt (by with_reducible assumption) | exact Nat.ne_of_lt (And.left (by with_reducible assumption)) | exact Nat.ne_of_gt (And.left (by with_reducible assumption)) | exact Nat.ne_of_lt (And.left (And.right (by with_reducible assumption))) | exact Nat.ne_of_gt (And.left (And.right (by with_reducible assumption))) | exact Nat.ne_of_lt (And.left (And.right (And.right (by with_reducible assumption)))) | exact Nat.ne_of_gt (And.left (And.right (And.right (by with_reducible assumption)))) | exact Nat.ne_of_lt (And.left (And.right (And.right (And.right (by with_reducible assumption))))) | exact Nat.ne_of_gt (And.left (And.right (And.right (And.right (by with_reducible assumption))))) | exact Nat.ne_of_lt (And.left (And.right (And.right (And.right (And.right (by with_reducible assumption)))))) | exact Nat.ne_of_gt (And.left (And.right (And.right (And.right (And.right (by with_reducible assumption)))))) | exact Nat.ne_of_lt (And.left (And.right (And.right (And.right (And.right (And.right (by with_reducible assumption))))))) | exact Nat.ne_of_gt (And.left (And.right (And.right (And.right (And.right (And.right (by with_reducible assumption))))))) | exact Nat.ne_of_lt (And.left (And.right (And.right (And.right (And.right (And.right (And.right (by with_reducible assumption)))))))) | exact Nat.ne_of_gt (And.left (And.right (And.right (And.right (And.right (And.right (And.right (by with_reducible assumption)))))))) | exact Nat.ne_of_lt (And.left (And.right (And.right (And.right (And.right (And.right (And.right (And.right (by with_reducible assumption))))))))) | exact Nat.ne_of_gt (And.left (And.right (And.right (And.right (And.right (And.right (And.right (And.right (by with_reducible assumption))))))))) | exact Nat.ne_of_lt (And.left (And.right (And.right (And.right (And.right (And.right (And.right (And.right (And.right (by with_reducible assumption)))))))))) | exact Nat.ne_of_gt (And.left (And.right (And.right (And.right (And.right (And.right (And.right (And.right (And.right (by with_reducible assumption)))))))))) | k_ne)
  k_with "mine rm" => (first | with_reducible assumption | (refine' Mine.rmN ?rh_zs1 ?re_zs1; (case rh_zs1 => with_reducible assumption); (case re_zs1 => decide)) | (refine Mine.rm0 ?_; with_reducible assumption) | ((simp only [units_in1, units_deeper, units_under_make, Around.mark_units, units_caller, depth_in1, depth_deeper, depth_under_make, depth_caller, Nat.add_assoc]); first | with_reducible assumption | (refine' Mine.rmN ?rg_zs1 ?rf_zs1; (case rg_zs1 => with_reducible assumption); (case rf_zs1 => decide)) | (refine Mine.rm0 ?_; with_reducible assumption)) | ktr_room | ktr_units)
  k_with "mine om" => (first | with_reducible assumption | (refine' Mine.leN ?oh_zs2 ?oe_zs2; (case oh_zs2 => with_reducible assumption); (case oe_zs2 => decide)) | omega)
  k_with "call ref" => (k_here; (with_reducible show wpAny _ _ (call (Value.ref _) _) _ _ _); refine wpAny_call ?_; k_dflt (walk_at "mine enter"))
  k_with "mine ne" => ((try dsimp only); first | (walk_at "mine nd") | (refine Ne.symm ?_; assumption))
  k_with "mine off" => first | exact List.forall_mem_nil _ | assumption | exact Mine.off_lt (by assumption) | exact Mine.off_gt (by assumption) | (refine' List.forall_mem_cons.mpr ⟨?a_z2, ?b_z2⟩; (case a_z2 => walk_at "mine ne"); (case b_z2 => walk_at "mine off")) | (refine' List.forall_mem_append.mpr ⟨?a_z2, ?b_z2⟩; (case a_z2 => walk_at "mine off"); (case b_z2 => walk_at "mine off"))
  k_with "mine upd" => first | (refine' Upd.head ?a_z3; (case a_z3 => walk_at "mine off")) | (refine' Upd.tail ?a_z3 ?b_z3; (case a_z3 => walk_at "mine ne"); (case b_z3 => walk_at "mine upd"))
  k_with "mine size" => ((try law_lens); (simp only [List.size_toArray, Array.size_push, Array.size_append, List.length_append, List.length_cons, List.length_nil, List.length_take, List.length_drop, List.length_replicate, sizeLine_eq]); omega)
  k_with "mine updF" => first | (refine' UpdF.head ?a_z6; (case a_z6 => walk_at "mine off")) | (refine' UpdF.tail ?a_z6 ?b_z6; (case a_z6 => walk_at "mine ne"); (case b_z6 => walk_at "mine updF"))
  k_with "mine upd" => first | (refine' Upd.head ?a_z8; (case a_z8 => walk_at "mine off")) | (refine' Upd.tail ?a_z8 ?b_z8; (case a_z8 => walk_at "mine ne"); (case b_z8 => walk_at "mine upd")) | (refine' Mine.upd_app ?a_z8 ?b_z8; (case a_z8 => first | with_reducible assumption | exact Mine.off_kL (by with_reducible assumption)); (case b_z8 => walk_at "mine upd"))
  k_with "mine off" => first | exact List.forall_mem_nil _ | assumption | exact Mine.off_lt (by assumption) | exact Mine.off_gt (by assumption) | exact Mine.off_allLt (And.right (by assumption)) | (refine' List.forall_mem_cons.mpr ⟨?a_z9, ?b_z9⟩; (case a_z9 => walk_at "mine ne"); (case b_z9 => walk_at "mine off")) | (refine' List.forall_mem_append.mpr ⟨?a_z9, ?b_z9⟩; (case a_z9 => walk_at "mine off"); (case b_z9 => walk_at "mine off"))
  k_with "mine enter" => (refine' code_def ?k1_z10 ?k2_z10 ?k3_z10 ?k4_z10 ?k5_z10 ?kA_z10 ?kF_z10 ?kK_z10 ?k6_z10 ?k7_z10 ?k8_z10 ?k9_z10 ?kB_z10 ?_ ?c2_z10 ?c3_z10 ?c4_z10 ?c5_z10; (case kA_z10 => exact rfl); (case kF_z10 => exact rfl); (case kK_z10 => first | assumption | exact rfl); (case k1_z10 => k_asm); (case k2_z10 => k_asm); (case k3_z10 => k_asm); (case k4_z10 => k_asm); (case k5_z10 => k_asm); (case k6_z10 => k_is); (case k7_z10 => k_is); (case k8_z10 => walk_at "mine rm"); (case k9_z10 => first | exact Mine.bz (BindsTo.of_eq rfl) (by with_unfolding_all rfl) | exact BindsTo.of_eq rfl | exact binds_K (by k_in) rfl (by k_is) rfl rfl rfl); (case c5_z10 => decide); (case kB_z10 => exact locs rfl); (case c2_z10 => exact rfl); (case c3_z10 => exact rfl); (case c4_z10 => exact rfl); k_whole; intro g' L' h' FG' F' N' B' X' T'; (try dsimp only); (try k_lift B'); (try k_fold))
  k_with "mine bnd" => first | with_reducible assumption | omega
  k_with "mine room" => first | (walk_at "mine rm") | ((simp only [units_in1, units_deeper, units_under_make, Around.mark_units, units_caller]); first | decide | omega)
  k_with "execs cons Assign cons" => (k_here; (with_reducible show wpAny _ _ (execs (Stmt.Assign _ (Expr.Call _ _ _ _) _ :: Stmt.Expr _ _ :: Stmt.Assign _ _ _ :: _) _) _ _ _); ((with_unfolding_all refine' Mine.zhp ?F_z17 ?N_z17 ?B_z17 ?X_z17 ?T_z17 ?hk_z17 ?hE_z17 ?hb_z17 ?hs_z17 ?hls_z17 ?ms_z17 ?hL_z17 ?hI_z17 ?hz_z17 ?ok_z17 ?ok1_z17); (case F_z17 => assumption); (case T_z17 => exact T); (case N_z17 => assumption); (case B_z17 => exact K0); (case X_z17 => exact KX); (case hk_z17 => exact rfl); (case hE_z17 => passes_own); (case hb_z17 => kernel_rfl); (case hs_z17 => kernel_rfl); (case hls_z17 => kernel_rfl); (case ms_z17 => exact rfl); (case hL_z17 => assumption); (case hI_z17 => assumption); (case hz_z17 => walk_at "mine om"); (case' ok_z17 => (intro m9 h9 t9 g9 F9 hG9; (try k_unfold); (try dsimp only))); (case' ok1_z17 => (intro t9 ks9 m9 h9 tk9 g9 R9 vs9 k9 u9 ht0 ht1 hB9 F9 N9 hI9 hG9; (obtain ⟨hl0, hl1, hin9, hB9⟩ := hB9); (try k_unfold); (try dsimp only)))))
  k_with "call type:bytes" => (k_here; (with_reducible show wpAny _ _ (call (Value.type "bytes") [Value.ref _]) _ _ _); k_dflt (refine' Mine.mk_row ?kbaF_z18 ?kbaN_z18 ?kbah_z18 ?kbal_z18 ?kbai_z18 ?kbar_z18 ?kban_z18 ?_; (case kbaF_z18 => k_asm); (case kbaN_z18 => k_asm); (case kbah_z18 => rfl); (case kbal_z18 => kba_isList); (case kbai_z18 => assumption); (case kbar_z18 => assumption); (case kban_z18 => walk_at "mine om"); k_whole); intro b9 h' t' k' F' N' kB9)
  k_with "call ref" => (k_here; (with_reducible show wpAny _ _ (call (Value.ref 2361) [Value.none]) _ _ _); k_dflt ((rename Mine.CtC _ _ _ _ _ _ _ _ _ => cCO); refine' Mine.Fun.use ?kC_z19 ?k1_z19 ?k2_z19 ?k3_z19 ?k4_z19 ?k5_z19 ?kK_z19 ?kd_z19 ?ku_z19 ?_; (case k2_z19 => k_asm); (case k4_z19 => k_asm); (case kC_z19 => exact cCO _); ((case k1_z19 => k_asm); (case k3_z19 => k_asm); (case k5_z19 => k_asm); (case kK_z19 => first | exact rfl | assumption); (case kd_z19 => first | (walk_at "mine rm") | (simp only [depth_in1, depth_deeper, depth_under_make, Around.mark_depth, depth_caller]; omega)); (case ku_z19 => walk_at "mine room")); k_whole); (intro r9 nw9 h' tk9 kR F' N'); (subst kR))
  k_with "call ref" => (k_here; (with_reducible show wpAny _ _ (call (Value.ref 271) [Value.bytes _ _, Value.int _ _, Value.int _ _]) _ _ _); (obtain ⟨N8, hN8, hd8, hc8⟩ := Mine.zko hl0 hB9 (by with_reducible assumption) (by with_reducible assumption) (by with_reducible assumption)); (clear hB9); k_dflt ((rename Mine.RfC _ _ _ _ _ _ _ _ _ => cRF); refine' Mine.Fun.use ?kC_z20 ?k1_z20 ?k2_z20 ?k3_z20 ?k4_z20 ?k5_z20 ?kK_z20 ?kd_z20 ?ku_z20 ?_; (case k2_z20 => k_asm); (case k4_z20 => k_asm); (case kC_z20 => exact cRF _ _ N8 4 _ _ _ _ _ _ _ kB9 (Mine.at_min hl0) rfl (by decide) hN8 hd8 (Mine.at_len hl0) (Nat.le_trans hl1 (by decide))); (case k1_z20 => k_asm); (case k3_z20 => k_asm); (case k5_z20 => k_asm); (case kK_z20 => exact rfl); (case kd_z20 => walk_at "mine rm"); (case ku_z20 => first | ((simp only [units_in1, units_deeper, Around.mark_units, units_caller]); decide) | walk_at "mine room"); k_whole); (intro r9 nw9 h' tk9 kR F' N'); (unfold Mine.RfOut at kR); (obtain ⟨T8, x8, y8, t8, u8, e1, e2, kT8, kX, kY⟩ := kR); (subst kX); (subst kY); (subst e1); (subst e2))
  k_with "call ref" => (k_here; (with_reducible show wpAny _ _ (call (Value.ref 1337) [Value.bytes _ _]) _ _ _); k_dflt ((rename Mine.CrC _ _ _ _ _ _ _ _ _ => cL); refine' Mine.Fun.use ?kC_z21 ?k1_z21 ?k2_z21 ?k3_z21 ?k4_z21 ?k5_z21 ?kK_z21 ?kd_z21 ?ku_z21 ?_; (case k2_z21 => k_asm); (case k4_z21 => k_asm); (case kC_z21 => (refine' cL _ _ _ _ ?l1_z21 ?l2_z21; (case l1_z21 => with_reducible assumption); (case l2_z21 => exact Mine.ztu hl1))); (case k1_z21 => k_asm); (case k3_z21 => k_asm); (case k5_z21 => k_asm); (case kK_z21 => exact rfl); (case kd_z21 => walk_at "mine rm"); (case ku_z21 => first | ((simp only [units_in1, units_deeper, Around.mark_units, units_caller]); decide) | walk_at "mine room"); k_whole); (intro r9 nw9 h' tk9 kR F' N'); (unfold Mine.CrOut at kR); (obtain ⟨x7, t7, e1, e2, kX⟩ := kR); (subst kX); (subst e1); (subst e2))
  k_with "compareOp NotEq int int" => (k_here; (with_reducible show wpAny _ _ (compareOp CmpOp.NotEq (Value.int (Nat.cast _) _) (Value.int _ _)) _ _ _); (with_reducible refine' Mine.ne_yes ?ke_z22 ?_); (case ke_z22 => first | exact Mine.crc_ne hl0 hc8 | exact Mine.t_ne ht0); k_whole)
  k_with "compareOp Eq int int" => (k_here; (with_reducible show wpAny _ _ (compareOp CmpOp.Eq (Value.int (Nat.cast _) _) (Value.int 0 _)) _ _ _); (with_reducible refine' Mine.eq_nope ?ke_z23 ?_); (case ke_z23 => exact Mine.t_ne ht0); k_whole)
  w_strict (k_fill; (intro w s₀ s₁ mg mb G Y fa o pm cd doc dV kV ho hd hcd hD hmg hg args vals as hpre hlay hrd hwl hlo); (have KX := kIn_of Y); (have X := (Ground.X G).1); (have V := (Ground.X G).2); (try w_nolog (have GL := glob_more (Ground.glob G (by decide +kernel) (by decide +kernel)) V)); (refine Ground.open G ?_); (intro T B D TE TW); (try (refine guard_noD D (by decide +kernel) ?_; clear D)); (obtain ⟨_, _, M⟩ := bmod_of_top T); (have TA := at_of_top T); (try (obtain ⟨_, _, he, B0⟩ := based_of_top T rfl hmg ho hd; have he' : cd = _ := he; subst he'; clear he)); clear hmg; (wrow_args hpre hlay hrd hwl hlo); (all_goals ((first | refine callC_kw (enter_call ?_) | refine enter_call ?_ | refine callC_kw (enter_callW ?_) | refine enter_callW ?_ | w_how); w_top on; (have K0 := below_caller (Top.heap T)); w_call any ho hd hcd hD T F; clear hd TA; k_drop; skip)); (all_goals try k_fold); (refine Mine.bring (fun prog w K p loose mean mg mb => Mine.CtC 2361 prog w K p loose mean mg mb ∧ Mine.CrC 1337 prog w K p loose mean mg mb ∧ Mine.RfC 271 prog w K p loose mean mg mb) (by assumption) (by assumption) ?ctr ?_); (case ctr => exact ⟨Mine.co_ctr, Mine.crk_ctr, Mine.rf_ctr⟩); intro cW0; (obtain ⟨cCO, cCR, cRF⟩ := cW0); (repeat' (first | (k_unfold; (try dsimp only)) | (k_end; wrow_close) | (walk1; (all_goals (try dsimp only))) | (dsimp only; walk1) | (leave1; (try dsimp only)) | fail "no step")); (all_goals (first | exact absurd rfl (by with_reducible assumption) | exact Mine.l_close (by with_reducible assumption) rfl hg hG9 (Mine.GRow.refl _) rfl (fun _ => rfl) (by first | rfl | wrow_post)))))
