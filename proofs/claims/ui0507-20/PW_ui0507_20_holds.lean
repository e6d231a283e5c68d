import PyProof.Rows.All
import Wide.All
import OpenK.AllK
import Wide.FinOn
import PySem.Challenge.RW_ui0507_20
open PySem PySem.W
set_option Elab.async false
set_option linter.all false
set_option compiler.extract_closed false
set_option genSizeOf false
set_option genInjectivity false
namespace Mine
section
set_option maxRecDepth 100000
noncomputable def vs (x : String) (t : Tok) : Value := .str (Str.ofString x) t
noncomputable def q (x : String) : Str := Str.ofString x
noncomputable def en (P : Params) (x : String) (t : Tok) (v : Value) : DictEntry := ⟨PyData.keyHash P (Str.ofString x), .str (Str.ofString x) t, v⟩
noncomputable def dA (o : Obj) (r : List DictEntry) (n : Nat) : Data := match o.data with | .dict es _ => .dict (es.toList ++ r).toArray n | d => d
noncomputable def dB (o : Obj) (c : List (Nat × DictEntry)) (r : List DictEntry) (n : Nat) : Data := match o.data with | .dict es _ => .dict ((c.foldl (fun l p => l.set p.1 p.2) es.toList) ++ r).toArray n | d => d
noncomputable def fA (o : Obj) (r : List Value) : Data := match o.data with | .fields vs => .fields (vs.toList ++ r).toArray | d => d
noncomputable def fo (st : Stmt) (qn : Str) (d kd doc pm : Value) (an : Option Addr) (cd ct : Value) (g b : Addr) : Data := match st with
  | .FunctionDef n a body _ _ _ sc _ _ _ => .func { name := n, qualname := qn, params := a, body := .stmts body, scope := sc, globals := g, closure := [], defaults := d, kwdefaults := kd, doc := doc, pyModule := pm, annotations := an, code := cd, closureTuple := ct, builtins := b }
  | _ => .plain
noncomputable def nul : Obj := ⟨.none, none, .fields #[], #[]⟩
noncomputable def tup0 : Obj := ⟨.type "tuple", none, .seq #[] 0, #[]⟩
noncomputable def vsL : List String → Nat → List Value
  | [], _ => []
  | x :: r, t => vs x t :: vsL r (t + 1)
noncomputable def fnB (a t n : Nat) (st : Stmt) (nm qn : String) (xs : List String) (l c : Int) (d md : Value) : List Obj := [tup0, nul, ⟨.type "tuple", none, .seq (vsL xs (t + 3)).toArray 0, #[]⟩, tup0, ⟨.none, none, fo st (q qn) .none .none .none .none none .none .none 0 0, #[]⟩,
  ⟨.type "code", none, .fields #[vs nm t, vs qn (t + 1), vs "/claim/cut.py" (t + 2), .int l 0, .int c 0, .int 0 0, .int 0 0, .int 3 0, .ref a, .bool true, .int 181 0, .ref (a + 1), .none, .ref (a + 2), .ref (a + 3), .ref (a + 4), .int (n : Nat) 0, .int l 0, vs "/claim/cut.py" (n + 1)], #[]⟩,
  ⟨.type "function", none, fo st (q qn) d .none .none md none (.ref (a + 5)) .none 3 0, #[]⟩]
noncomputable def S (k : Nat) : Stmt := PySem.Challenge.pw_ui0507_20.main.body[k]!
noncomputable def C (k j : Nat) : Stmt := match S k with | .ClassDef _ _ _ b _ _ _ _ _ _ _ => b[j]! | s => s
def env : Env := { scope := PySem.Challenge.rw_ui0507_20.row.prog.main.scope, locals := mainNs, globals := mainNs, cells := [], code := .ref 13, frame := some 14 }
noncomputable def insL : BT → Nat → List Obj → BT
  | T, _, [] => T
  | T, n, o :: r => insL (T.ins n o) (n + 1) r
noncomputable def setL : BT → List (Nat × Obj) → BT
  | T, [] => T
  | T, (i, o) :: r => setL (T.set i fun _ => o) r
noncomputable def shr (T : BT) (n tok : Nat) (os : OsState) : SharedT := { tree := T, n := n, life := { }, gens := { toList := [] }, drawn := { }, toks := tok, os := os }
noncomputable def x11_0 (P : Params) : Obj := ⟨(.type "tuple"), none, .seq #[] 0, #[]⟩
noncomputable def x12_0 (P : Params) : Obj := ⟨.none, none, .fields #[], #[]⟩
noncomputable def x13_0 (P : Params) : Obj := ⟨(.type "code"), none, .fields #[(vs "<module>" 182), (vs "<module>" 183), (vs "/claim/cut.py" 184), (.int 1 0), (.int 0 0), (.int 0 0), (.int 0 0), (.int 0 0), (.ref 11), (.bool false), (.int 181 0), (.ref 12), .none, .none, .none, .none, (.int 185 0), (.int 1 0), (vs "/claim/cut.py" 186)], #[]⟩
noncomputable def x14_0 (P : Params) : Obj := ⟨(.type "frame"), none, .plain, #[some (.ref 13), some (.ref 3), some (.ref 3), none, some (vs "__main__" 164), none, some (.ref 0)]⟩
noncomputable def T0 (P : Params) : BT := (.node (boot_o_0 P) (.node (boot_o_1 P) (.node (boot_o_3 P) (.node (boot_o_7 P) .nil .nil) (.node (x11_0 P) .nil .nil)) (.node (boot_o_5 P) (.node (boot_o_9 P) .nil .nil) (.node (x13_0 P) .nil .nil))) (.node (boot_o_2 P) (.node (boot_o_4 P) (.node (boot_o_8 P) .nil .nil) (.node (x12_0 P) .nil .nil)) (.node (boot_o_6 P) (.node (boot_o_10 P) .nil .nil) (.node (x14_0 P) .nil .nil))))
noncomputable def s0 (P : Params) (os : OsState) : SharedT := shr (T0 P) 15 187 os
noncomputable def goW (p : Program) (w : World) (n : Nat) (s : SharedT) (t : Thread) : Option (SharedT × Thread) := PySem.W.Fast.tw10295753902157049106 PySem.W.Fast.tw14364793385576792824 p w 11 (some (Value.ref 6)) 1 n s t
theorem goW_eq {p : Program} {w : World} {n : Nat} {s : SharedT} {t : Thread} : segGoT treeTable p w 11 (some (Value.ref 6)) 1 n s t = goW p w n s t := by
  unfold goW
  rw [← PySem.W.Fast.te10295753902157049106, ← PySem.W.Fast.te14364793385576792824]
noncomputable def runW (p : Program) (w : World) (n : Nat) (s : SharedT) (t : Thread) : Option (Flow × SharedT × Code × Pos) := PySem.W.Fast.tw10110043849684766642 PySem.W.Fast.tw14364793385576792824 p w 11 (some (Value.ref 6)) 1 n s t
theorem runW_eq {p : Program} {w : World} {n : Nat} {s : SharedT} {t : Thread} : segRunT treeTable p w 11 (some (Value.ref 6)) 1 n s t = runW p w n s t := by
  unfold runW
  rw [← PySem.W.Fast.te10110043849684766642, ← PySem.W.Fast.te14364793385576792824]
noncomputable def wF (w : World) : World := w.withFollow "special-get-raises" false
noncomputable def wT (w : World) : World := w.withFollow "special-get-raises" true
noncomputable def sts1 : List Stmt := (PySem.Challenge.pw_ui0507_20.main.body.drop 0).take 4
noncomputable def thr1 (b : List Stmt) : Thread := piecesOf sts1 env (Code.body b env) { line := 0, col := 0, endLine := 0, endCol := 0 } [topFrame { line := 0, col := 0, endLine := 0, endCol := 0 }]
noncomputable def sts2 : List Stmt := (PySem.Challenge.pw_ui0507_20.main.body.drop 4).take 3
noncomputable def thr2 (b : List Stmt) : Thread := piecesOf sts2 env (Code.body b env) { line := 12, col := 0, endLine := 13, endCol := 8 } [topFrame { line := 0, col := 0, endLine := 0, endCol := 0 }]
noncomputable def sts3 : List Stmt := (PySem.Challenge.pw_ui0507_20.main.body.drop 7).take 3
noncomputable def thr3 (b : List Stmt) : Thread := piecesOf sts3 env (Code.body b env) { line := 18, col := 0, endLine := 19, endCol := 8 } [topFrame { line := 0, col := 0, endLine := 0, endCol := 0 }]
noncomputable def sts4 : List Stmt := (PySem.Challenge.pw_ui0507_20.main.body.drop 10).take 1
noncomputable def thr4 (b : List Stmt) : Thread := piecesOf sts4 env (Code.body b env) { line := 27, col := 0, endLine := 72, endCol := 25 } [topFrame { line := 0, col := 0, endLine := 0, endCol := 0 }]
noncomputable def sts5 : List Stmt := (PySem.Challenge.pw_ui0507_20.main.body.drop 11).take 5
noncomputable def thr5 (b : List Stmt) : Thread := piecesOf sts5 env (Code.body b env) { line := 73, col := 0, endLine := 122, endCol := 28 } [topFrame { line := 0, col := 0, endLine := 0, endCol := 0 }]
noncomputable def sts6 : List Stmt := (PySem.Challenge.pw_ui0507_20.main.body.drop 16).take 1
noncomputable def thr6 (b : List Stmt) : Thread := piecesOf sts6 env (Code.body b env) { line := 150, col := 0, endLine := 160, endCol := 16 } [topFrame { line := 0, col := 0, endLine := 0, endCol := 0 }]
noncomputable def sts7 : List Stmt := (PySem.Challenge.pw_ui0507_20.main.body.drop 17).take 9
noncomputable def thr7 (b : List Stmt) : Thread := piecesOf sts7 env (Code.body b env) { line := 161, col := 0, endLine := 161, endCol := 6 } [topFrame { line := 0, col := 0, endLine := 0, endCol := 0 }]
noncomputable def sts8 : List Stmt := (PySem.Challenge.pw_ui0507_20.main.body.drop 26).take 16
noncomputable def thr8 (b : List Stmt) : Thread := piecesOf sts8 env (Code.body b env) { line := 201, col := 0, endLine := 213, endCol := 12 } [topFrame { line := 0, col := 0, endLine := 0, endCol := 0 }]
noncomputable def sts9 : List Stmt := (PySem.Challenge.pw_ui0507_20.main.body.drop 42).take 13
noncomputable def thr9 (b : List Stmt) : Thread := piecesOf sts9 env (Code.body b env) { line := 332, col := 0, endLine := 346, endCol := 16 } [topFrame { line := 0, col := 0, endLine := 0, endCol := 0 }]
noncomputable def sts10 : List Stmt := (PySem.Challenge.pw_ui0507_20.main.body.drop 55).take 3
noncomputable def thr10 (b : List Stmt) : Thread := piecesOf sts10 env (Code.body b env) { line := 424, col := 0, endLine := 428, endCol := 16 } [topFrame { line := 0, col := 0, endLine := 0, endCol := 0 }]
noncomputable def sts11 : List Stmt := (PySem.Challenge.pw_ui0507_20.main.body.drop 58).take 16
noncomputable def thr11 (b : List Stmt) : Thread := piecesOf sts11 env (Code.body b env) { line := 479, col := 0, endLine := 490, endCol := 21 } [topFrame { line := 0, col := 0, endLine := 0, endCol := 0 }]
noncomputable def sts12 : List Stmt := (PySem.Challenge.pw_ui0507_20.main.body.drop 74).take 12
noncomputable def thr12 (b : List Stmt) : Thread := piecesOf sts12 env (Code.body b env) { line := 618, col := 0, endLine := 622, endCol := 47 } [topFrame { line := 0, col := 0, endLine := 0, endCol := 0 }]
noncomputable def sts13 : List Stmt := (PySem.Challenge.pw_ui0507_20.main.body.drop 86).take 9
noncomputable def thr13 (b : List Stmt) : Thread := piecesOf sts13 env (Code.body b env) { line := 659, col := 0, endLine := 659, endCol := 13 } [topFrame { line := 0, col := 0, endLine := 0, endCol := 0 }]
noncomputable def sts14 : List Stmt := (PySem.Challenge.pw_ui0507_20.main.body.drop 95).take 5
noncomputable def thr14 (b : List Stmt) : Thread := piecesOf sts14 env (Code.body b env) { line := 685, col := 0, endLine := 685, endCol := 8 } [topFrame { line := 0, col := 0, endLine := 0, endCol := 0 }]
noncomputable def sts15 : List Stmt := (PySem.Challenge.pw_ui0507_20.main.body.drop 100).take 13
noncomputable def thr15 (b : List Stmt) : Thread := piecesOf sts15 env (Code.body b env) { line := 727, col := 0, endLine := 728, endCol := 55 } [topFrame { line := 0, col := 0, endLine := 0, endCol := 0 }]
noncomputable def sts16 : List Stmt := (PySem.Challenge.pw_ui0507_20.main.body.drop 113).take 1
noncomputable def thr16 (b : List Stmt) : Thread := piecesOf sts16 env (Code.body b env) { line := 809, col := 0, endLine := 809, endCol := 12 } [topFrame { line := 0, col := 0, endLine := 0, endCol := 0 }]
noncomputable def sts17 : List Stmt := (PySem.Challenge.pw_ui0507_20.main.body.drop 114).take 2
noncomputable def thr17 (b : List Stmt) : Thread := piecesOf sts17 env (Code.body b env) { line := 810, col := 0, endLine := 834, endCol := 44 } [topFrame { line := 0, col := 0, endLine := 0, endCol := 0 }]
noncomputable def sts18 : List Stmt := (PySem.Challenge.pw_ui0507_20.main.body.drop 116).take 11
noncomputable def thr18 (b : List Stmt) : Thread := piecesOf sts18 env (Code.body b env) { line := 842, col := 0, endLine := 868, endCol := 32 } [topFrame { line := 0, col := 0, endLine := 0, endCol := 0 }]
noncomputable def sts19 : List Stmt := (PySem.Challenge.pw_ui0507_20.main.body.drop 127).take 2
noncomputable def thr19 (b : List Stmt) : Thread := piecesOf sts19 env (Code.body b env) { line := 903, col := 0, endLine := 903, endCol := 9 } [topFrame { line := 0, col := 0, endLine := 0, endCol := 0 }]
noncomputable def sts20 : List Stmt := (PySem.Challenge.pw_ui0507_20.main.body.drop 129).take 2
noncomputable def thr20 (b : List Stmt) : Thread := piecesOf sts20 env (Code.body b env) { line := 919, col := 0, endLine := 952, endCol := 67 } [topFrame { line := 0, col := 0, endLine := 0, endCol := 0 }]
noncomputable def sts21 : List Stmt := (PySem.Challenge.pw_ui0507_20.main.body.drop 131).take 1
noncomputable def thr21 (b : List Stmt) : Thread := piecesOf sts21 env (Code.body b env) { line := 958, col := 0, endLine := 958, endCol := 8 } [topFrame { line := 0, col := 0, endLine := 0, endCol := 0 }]
noncomputable def sts22 : List Stmt := (PySem.Challenge.pw_ui0507_20.main.body.drop 132).take 3
noncomputable def thr22 (b : List Stmt) : Thread := piecesOf sts22 env (Code.body b env) { line := 959, col := 0, endLine := 1076, endCol := 60 } [topFrame { line := 0, col := 0, endLine := 0, endCol := 0 }]
noncomputable def x3_1 (P : Params) : Obj := ⟨(.type "dict"), none, dB (boot_o_3 P) [(0, en P "__name__" 165 (vs "packkit.errors" 194))] [en P "_wall" 193 (.ref 21), en P "is_digits" 203 (.ref 28), en P "PackError" 221 (.ref 38)] 12, #[]⟩
noncomputable def x12_1 (P : Params) : Obj := ⟨.none, none, .fields #[(.int 1 0), (.int 0 0), (.ref 20), (.int 5 0), (.int 0 0), (.ref 27), (.int 12 0), (.int 0 0), (.ref 34)], #[]⟩
noncomputable def x15_1 (P : Params) : Obj := ⟨(.type "tuple"), none, .seq #[] 0, #[]⟩
noncomputable def x16_1 (P : Params) : Obj := ⟨.none, none, .fields #[], #[]⟩
noncomputable def x17_1 (P : Params) : Obj := ⟨(.type "tuple"), none, .seq #[(vs "k" 190)] 0, #[]⟩
noncomputable def x18_1 (P : Params) : Obj := ⟨(.type "tuple"), none, .seq #[] 0, #[]⟩
noncomputable def x19_1 (P : Params) : Obj := ⟨.none, none, fo (S 0) (q "_wall") .none .none .none .none none .none .none 0 0, #[]⟩
noncomputable def x20_1 (P : Params) : Obj := ⟨(.type "code"), none, .fields #[(vs "_wall" 187), (vs "_wall" 188), (vs "/claim/cut.py" 189), (.int 1 0), (.int 1 0), (.int 0 0), (.int 0 0), (.int 3 0), (.ref 15), (.bool true), (.int 181 0), (.ref 16), .none, (.ref 17), (.ref 18), (.ref 19), (.int 191 0), (.int 1 0), (vs "/claim/cut.py" 192)], #[]⟩
noncomputable def x21_1 (P : Params) : Obj := ⟨(.type "function"), none, fo (S 0) (q "_wall") .none .none .none (vs "__main__" 164) none (.ref 20) .none 3 0, #[]⟩
noncomputable def x22_1 (P : Params) : Obj := ⟨(.type "tuple"), none, .seq #[] 0, #[]⟩
noncomputable def x23_1 (P : Params) : Obj := ⟨.none, none, .fields #[], #[]⟩
noncomputable def x24_1 (P : Params) : Obj := ⟨(.type "tuple"), none, .seq #[(vs "text" 199), (vs "sign" 200)] 0, #[]⟩
noncomputable def x25_1 (P : Params) : Obj := ⟨(.type "tuple"), none, .seq #[] 0, #[]⟩
noncomputable def x26_1 (P : Params) : Obj := ⟨.none, none, fo (S 2) (q "is_digits") .none .none .none .none none .none .none 0 0, #[]⟩
noncomputable def x27_1 (P : Params) : Obj := ⟨(.type "code"), none, .fields #[(vs "is_digits" 196), (vs "is_digits" 197), (vs "/claim/cut.py" 198), (.int 5 0), (.int 1 0), (.int 0 0), (.int 0 0), (.int 3 0), (.ref 22), (.bool true), (.int 181 0), (.ref 23), .none, (.ref 24), (.ref 25), (.ref 26), (.int 201 0), (.int 5 0), (vs "/claim/cut.py" 202)], #[]⟩
noncomputable def x28_1 (P : Params) : Obj := ⟨(.type "function"), none, fo (S 2) (q "is_digits") .none .none .none (vs "packkit.errors" 194) none (.ref 27) .none 3 0, #[]⟩
noncomputable def x29_1 (P : Params) : Obj := ⟨(.type "tuple"), none, .seq #[(.type "ValueError")] 0, #[]⟩
noncomputable def x30_1 (P : Params) : Obj := ⟨(.type "builtin_function_or_method"), none, .fields #[(.builtin "type.__prepare__"), (.type "type")], #[]⟩
noncomputable def x31_1 (P : Params) : Obj := ⟨(.type "dict"), none, .dict #[en P "__module__" 211 (vs "packkit.errors" 194), en P "__qualname__" 213 (vs "PackError" 212), en P "__firstlineno__" 215 (.int 12 214), en P "__static_attributes__" 216 (.ref 36)] 4, #[]⟩
noncomputable def x32_1 (P : Params) : Obj := ⟨(.type "tuple"), none, .seq #[] 0, #[]⟩
noncomputable def x33_1 (P : Params) : Obj := ⟨.none, none, .fields #[], #[]⟩
noncomputable def x34_1 (P : Params) : Obj := ⟨(.type "code"), none, .fields #[(vs "PackError" 206), (vs "PackError" 207), (vs "/claim/cut.py" 208), (.int 12 0), (.int 0 0), (.int 0 0), (.int 0 0), (.int 0 0), (.ref 32), (.bool false), (.int 181 0), (.ref 33), .none, .none, .none, .none, (.int 209 0), (.int 12 0), (vs "/claim/cut.py" 210)], #[]⟩
noncomputable def x35_1 (P : Params) : Obj := ⟨(.type "frame"), none, .plain, #[some (.ref 34), some (.ref 3), some (.ref 31), none, some (vs "packkit.errors" 194), none, some (.ref 0)]⟩
noncomputable def x36_1 (P : Params) : Obj := ⟨(.type "tuple"), none, .seq #[] 0, #[]⟩
noncomputable def x37_1 (P : Params) : Obj := ⟨(.type "dict"), none, .dict #[en P "__module__" 211 (vs "packkit.errors" 194), en P "__firstlineno__" 215 (.int 12 214), en P "__static_attributes__" 216 (.ref 36), en P "__weakref__" 218 (.ref 39), en P "__doc__" 219 .none] 3, #[]⟩
noncomputable def x38_1 (P : Params) : Obj := ⟨(.type "type"), none, .cls { name := (q "PackError"), bases := [(.type "ValueError")], mro := [(.ref 38), (.type "ValueError"), (.type "Exception"), (.type "BaseException"), (.type "object")], ns := 37, qualname := (q "PackError"), hasDict := true, slotNames := [], subclasses := [], abstract := false, collection := .none, hasDel := false }, #[some (.ref 29), none, some (vs "PackError" 204), some (vs "PackError" 212), some (.builtin "ValueError.__new__"), some (.bool true)]⟩
noncomputable def x39_1 (P : Params) : Obj := ⟨(.type "getset_descriptor"), none, .fields #[(vs "__weakref__" 217), (.ref 38), (.builtin "ExceptionGroup.__weakref__"), .none], #[]⟩
noncomputable def x40_1 (P : Params) : Obj := ⟨(.type "super"), none, .fields #[(.ref 38), (.ref 38), (.ref 38)], #[]⟩
noncomputable def x41_1 (P : Params) : Obj := ⟨(.type "builtin_function_or_method"), none, .fields #[(.builtin "object.__init_subclass__"), (.ref 38)], #[]⟩
noncomputable def T1 (P : Params) : BT := insL (setL (T0 P) [(3, (x3_1 P)), (12, (x12_1 P))]) 15 [(x15_1 P), (x16_1 P), (x17_1 P), (x18_1 P), (x19_1 P), (x20_1 P), (x21_1 P), (x22_1 P), (x23_1 P), (x24_1 P), (x25_1 P), (x26_1 P), (x27_1 P), (x28_1 P), (x29_1 P), (x30_1 P), (x31_1 P), (x32_1 P), (x33_1 P), (x34_1 P), (x35_1 P), (x36_1 P), (x37_1 P), (x38_1 P), (x39_1 P), (x40_1 P), (x41_1 P)]
noncomputable def s1 (P : Params) (os : OsState) : SharedT := shr (T1 P) 42 222 os
noncomputable def x3_2 (P : Params) : Obj := ⟨(.type "dict"), none, dA (x3_1 P) [en P "FormatError" 237 (.ref 51), en P "CheckError" 253 (.ref 63), en P "LimitError" 269 (.ref 75)] 15, #[]⟩
noncomputable def x12_2 (P : Params) : Obj := ⟨.none, none, fA (x12_1 P) [(.int 14 0), (.int 0 0), (.ref 47), (.int 16 0), (.int 0 0), (.ref 59), (.int 18 0), (.int 0 0), (.ref 71)], #[]⟩
noncomputable def x38_2 (P : Params) : Obj := ⟨(.type "type"), none, .cls { name := (q "PackError"), bases := [(.type "ValueError")], mro := [(.ref 38), (.type "ValueError"), (.type "Exception"), (.type "BaseException"), (.type "object")], ns := 37, qualname := (q "PackError"), hasDict := true, slotNames := [], subclasses := [(.ref 51), (.ref 63), (.ref 75)], abstract := false, collection := .none, hasDel := false }, #[some (.ref 29), none, some (vs "PackError" 204), some (vs "PackError" 212), some (.builtin "ValueError.__new__"), some (.bool true)]⟩
noncomputable def x42_2 (P : Params) : Obj := ⟨(.type "tuple"), none, .seq #[(.ref 38)] 0, #[]⟩
noncomputable def x43_2 (P : Params) : Obj := ⟨(.type "builtin_function_or_method"), none, .fields #[(.builtin "type.__prepare__"), (.type "type")], #[]⟩
noncomputable def x44_2 (P : Params) : Obj := ⟨(.type "dict"), none, .dict #[en P "__module__" 229 (vs "packkit.errors" 194), en P "__qualname__" 231 (vs "FormatError" 230), en P "__firstlineno__" 233 (.int 14 232), en P "__static_attributes__" 234 (.ref 49)] 4, #[]⟩
noncomputable def x45_2 (P : Params) : Obj := ⟨(.type "tuple"), none, .seq #[] 0, #[]⟩
noncomputable def x46_2 (P : Params) : Obj := ⟨.none, none, .fields #[], #[]⟩
noncomputable def x47_2 (P : Params) : Obj := ⟨(.type "code"), none, .fields #[(vs "FormatError" 224), (vs "FormatError" 225), (vs "/claim/cut.py" 226), (.int 14 0), (.int 0 0), (.int 0 0), (.int 0 0), (.int 0 0), (.ref 45), (.bool false), (.int 181 0), (.ref 46), .none, .none, .none, .none, (.int 227 0), (.int 14 0), (vs "/claim/cut.py" 228)], #[]⟩
noncomputable def x48_2 (P : Params) : Obj := ⟨(.type "frame"), none, .plain, #[some (.ref 47), some (.ref 3), some (.ref 44), none, some (vs "packkit.errors" 194), none, some (.ref 0)]⟩
noncomputable def x49_2 (P : Params) : Obj := ⟨(.type "tuple"), none, .seq #[] 0, #[]⟩
noncomputable def x50_2 (P : Params) : Obj := ⟨(.type "dict"), none, .dict #[en P "__module__" 229 (vs "packkit.errors" 194), en P "__firstlineno__" 233 (.int 14 232), en P "__static_attributes__" 234 (.ref 49), en P "__doc__" 235 .none] 2, #[]⟩
noncomputable def x51_2 (P : Params) : Obj := ⟨(.type "type"), none, .cls { name := (q "FormatError"), bases := [(.ref 38)], mro := [(.ref 51), (.ref 38), (.type "ValueError"), (.type "Exception"), (.type "BaseException"), (.type "object")], ns := 50, qualname := (q "FormatError"), hasDict := true, slotNames := [], subclasses := [], abstract := false, collection := .none, hasDel := false }, #[some (.ref 42), none, some (vs "FormatError" 222), some (vs "FormatError" 230), some (.builtin "ValueError.__new__"), some (.bool true)]⟩
noncomputable def x52_2 (P : Params) : Obj := ⟨(.type "super"), none, .fields #[(.ref 51), (.ref 51), (.ref 51)], #[]⟩
noncomputable def x53_2 (P : Params) : Obj := ⟨(.type "builtin_function_or_method"), none, .fields #[(.builtin "object.__init_subclass__"), (.ref 51)], #[]⟩
noncomputable def x54_2 (P : Params) : Obj := ⟨(.type "tuple"), none, .seq #[(.ref 38)] 0, #[]⟩
noncomputable def x55_2 (P : Params) : Obj := ⟨(.type "builtin_function_or_method"), none, .fields #[(.builtin "type.__prepare__"), (.type "type")], #[]⟩
noncomputable def x56_2 (P : Params) : Obj := ⟨(.type "dict"), none, .dict #[en P "__module__" 245 (vs "packkit.errors" 194), en P "__qualname__" 247 (vs "CheckError" 246), en P "__firstlineno__" 249 (.int 16 248), en P "__static_attributes__" 250 (.ref 61)] 4, #[]⟩
noncomputable def x57_2 (P : Params) : Obj := ⟨(.type "tuple"), none, .seq #[] 0, #[]⟩
noncomputable def x58_2 (P : Params) : Obj := ⟨.none, none, .fields #[], #[]⟩
noncomputable def x59_2 (P : Params) : Obj := ⟨(.type "code"), none, .fields #[(vs "CheckError" 240), (vs "CheckError" 241), (vs "/claim/cut.py" 242), (.int 16 0), (.int 0 0), (.int 0 0), (.int 0 0), (.int 0 0), (.ref 57), (.bool false), (.int 181 0), (.ref 58), .none, .none, .none, .none, (.int 243 0), (.int 16 0), (vs "/claim/cut.py" 244)], #[]⟩
noncomputable def x60_2 (P : Params) : Obj := ⟨(.type "frame"), none, .plain, #[some (.ref 59), some (.ref 3), some (.ref 56), none, some (vs "packkit.errors" 194), none, some (.ref 0)]⟩
noncomputable def x61_2 (P : Params) : Obj := ⟨(.type "tuple"), none, .seq #[] 0, #[]⟩
noncomputable def x62_2 (P : Params) : Obj := ⟨(.type "dict"), none, .dict #[en P "__module__" 245 (vs "packkit.errors" 194), en P "__firstlineno__" 249 (.int 16 248), en P "__static_attributes__" 250 (.ref 61), en P "__doc__" 251 .none] 2, #[]⟩
noncomputable def x63_2 (P : Params) : Obj := ⟨(.type "type"), none, .cls { name := (q "CheckError"), bases := [(.ref 38)], mro := [(.ref 63), (.ref 38), (.type "ValueError"), (.type "Exception"), (.type "BaseException"), (.type "object")], ns := 62, qualname := (q "CheckError"), hasDict := true, slotNames := [], subclasses := [], abstract := false, collection := .none, hasDel := false }, #[some (.ref 54), none, some (vs "CheckError" 238), some (vs "CheckError" 246), some (.builtin "ValueError.__new__"), some (.bool true)]⟩
noncomputable def x64_2 (P : Params) : Obj := ⟨(.type "super"), none, .fields #[(.ref 63), (.ref 63), (.ref 63)], #[]⟩
noncomputable def x65_2 (P : Params) : Obj := ⟨(.type "builtin_function_or_method"), none, .fields #[(.builtin "object.__init_subclass__"), (.ref 63)], #[]⟩
noncomputable def x66_2 (P : Params) : Obj := ⟨(.type "tuple"), none, .seq #[(.ref 38)] 0, #[]⟩
noncomputable def x67_2 (P : Params) : Obj := ⟨(.type "builtin_function_or_method"), none, .fields #[(.builtin "type.__prepare__"), (.type "type")], #[]⟩
noncomputable def x68_2 (P : Params) : Obj := ⟨(.type "dict"), none, .dict #[en P "__module__" 261 (vs "packkit.errors" 194), en P "__qualname__" 263 (vs "LimitError" 262), en P "__firstlineno__" 265 (.int 18 264), en P "__static_attributes__" 266 (.ref 73)] 4, #[]⟩
noncomputable def x69_2 (P : Params) : Obj := ⟨(.type "tuple"), none, .seq #[] 0, #[]⟩
noncomputable def x70_2 (P : Params) : Obj := ⟨.none, none, .fields #[], #[]⟩
noncomputable def x71_2 (P : Params) : Obj := ⟨(.type "code"), none, .fields #[(vs "LimitError" 256), (vs "LimitError" 257), (vs "/claim/cut.py" 258), (.int 18 0), (.int 0 0), (.int 0 0), (.int 0 0), (.int 0 0), (.ref 69), (.bool false), (.int 181 0), (.ref 70), .none, .none, .none, .none, (.int 259 0), (.int 18 0), (vs "/claim/cut.py" 260)], #[]⟩
noncomputable def x72_2 (P : Params) : Obj := ⟨(.type "frame"), none, .plain, #[some (.ref 71), some (.ref 3), some (.ref 68), none, some (vs "packkit.errors" 194), none, some (.ref 0)]⟩
noncomputable def x73_2 (P : Params) : Obj := ⟨(.type "tuple"), none, .seq #[] 0, #[]⟩
noncomputable def x74_2 (P : Params) : Obj := ⟨(.type "dict"), none, .dict #[en P "__module__" 261 (vs "packkit.errors" 194), en P "__firstlineno__" 265 (.int 18 264), en P "__static_attributes__" 266 (.ref 73), en P "__doc__" 267 .none] 2, #[]⟩
noncomputable def x75_2 (P : Params) : Obj := ⟨(.type "type"), none, .cls { name := (q "LimitError"), bases := [(.ref 38)], mro := [(.ref 75), (.ref 38), (.type "ValueError"), (.type "Exception"), (.type "BaseException"), (.type "object")], ns := 74, qualname := (q "LimitError"), hasDict := true, slotNames := [], subclasses := [], abstract := false, collection := .none, hasDel := false }, #[some (.ref 66), none, some (vs "LimitError" 254), some (vs "LimitError" 262), some (.builtin "ValueError.__new__"), some (.bool true)]⟩
noncomputable def x76_2 (P : Params) : Obj := ⟨(.type "super"), none, .fields #[(.ref 75), (.ref 75), (.ref 75)], #[]⟩
noncomputable def x77_2 (P : Params) : Obj := ⟨(.type "builtin_function_or_method"), none, .fields #[(.builtin "object.__init_subclass__"), (.ref 75)], #[]⟩
noncomputable def T2 (P : Params) : BT := insL (setL (T1 P) [(3, (x3_2 P)), (12, (x12_2 P)), (38, (x38_2 P))]) 42 [(x42_2 P), (x43_2 P), (x44_2 P), (x45_2 P), (x46_2 P), (x47_2 P), (x48_2 P), (x49_2 P), (x50_2 P), (x51_2 P), (x52_2 P), (x53_2 P), (x54_2 P), (x55_2 P), (x56_2 P), (x57_2 P), (x58_2 P), (x59_2 P), (x60_2 P), (x61_2 P), (x62_2 P), (x63_2 P), (x64_2 P), (x65_2 P), (x66_2 P), (x67_2 P), (x68_2 P), (x69_2 P), (x70_2 P), (x71_2 P), (x72_2 P), (x73_2 P), (x74_2 P), (x75_2 P), (x76_2 P), (x77_2 P)]
noncomputable def s2 (P : Params) (os : OsState) : SharedT := shr (T2 P) 78 270 os
noncomputable def x3_3 (P : Params) : Obj := ⟨(.type "dict"), none, dB (x3_2 P) [(0, en P "__name__" 165 (vs "packkit.bits" 297))] [en P "NameRefused" 296 (.ref 94), en P "BitWriter" 386 (.ref 162)] 17, #[]⟩
noncomputable def x12_3 (P : Params) : Obj := ⟨.none, none, fA (x12_2 P) [(.int 20 0), (.int 0 0), (.ref 83), (.int 27 0), (.int 0 0), (.ref 102)], #[]⟩
noncomputable def x38_3 (P : Params) : Obj := ⟨(.type "type"), none, .cls { name := (q "PackError"), bases := [(.type "ValueError")], mro := [(.ref 38), (.type "ValueError"), (.type "Exception"), (.type "BaseException"), (.type "object")], ns := 37, qualname := (q "PackError"), hasDict := true, slotNames := [], subclasses := [(.ref 51), (.ref 63), (.ref 75), (.ref 94)], abstract := false, collection := .none, hasDel := false }, #[some (.ref 29), none, some (vs "PackError" 204), some (vs "PackError" 212), some (.builtin "ValueError.__new__"), some (.bool true)]⟩
noncomputable def x78_3 (P : Params) : Obj := ⟨(.type "tuple"), none, .seq #[(.ref 38)] 0, #[]⟩
noncomputable def x79_3 (P : Params) : Obj := ⟨(.type "builtin_function_or_method"), none, .fields #[(.builtin "type.__prepare__"), (.type "type")], #[]⟩
noncomputable def x80_3 (P : Params) : Obj := ⟨(.type "dict"), none, .dict #[en P "__module__" 277 (vs "packkit.errors" 194), en P "__qualname__" 279 (vs "NameRefused" 278), en P "__firstlineno__" 281 (.int 20 280), en P "__init__" 290 (.ref 91), en P "__static_attributes__" 293 (.ref 92)] 5, #[]⟩
noncomputable def x81_3 (P : Params) : Obj := ⟨(.type "tuple"), none, .seq #[] 0, #[]⟩
noncomputable def x82_3 (P : Params) : Obj := ⟨.none, none, .fields #[(.int 22 0), (.int 4 0), (.ref 90)], #[]⟩
noncomputable def x83_3 (P : Params) : Obj := ⟨(.type "code"), none, .fields #[(vs "NameRefused" 272), (vs "NameRefused" 273), (vs "/claim/cut.py" 274), (.int 20 0), (.int 0 0), (.int 0 0), (.int 0 0), (.int 0 0), (.ref 81), (.bool false), (.int 181 0), (.ref 82), .none, .none, .none, .none, (.int 275 0), (.int 20 0), (vs "/claim/cut.py" 276)], #[]⟩
noncomputable def x84_3 (P : Params) : Obj := ⟨(.type "frame"), none, .plain, #[some (.ref 83), some (.ref 3), some (.ref 80), none, some (vs "packkit.errors" 194), none, some (.ref 0)]⟩
noncomputable def x85_3 (P : Params) : Obj := ⟨(.type "tuple"), none, .seq #[] 0, #[]⟩
noncomputable def x86_3 (P : Params) : Obj := ⟨.none, none, .fields #[], #[]⟩
noncomputable def x87_3 (P : Params) : Obj := ⟨(.type "tuple"), none, .seq #[(vs "self" 285), (vs "name" 286), (vs "why" 287)] 0, #[]⟩
noncomputable def x88_3 (P : Params) : Obj := ⟨(.type "tuple"), none, .seq #[] 0, #[]⟩
noncomputable def x89_3 (P : Params) : Obj := ⟨.none, none, fo (C 7 0) (q "NameRefused.__init__") .none .none .none .none none .none .none 0 0, #[]⟩
noncomputable def x90_3 (P : Params) : Obj := ⟨(.type "code"), none, .fields #[(vs "__init__" 282), (vs "NameRefused.__init__" 283), (vs "/claim/cut.py" 284), (.int 22 0), (.int 3 0), (.int 0 0), (.int 0 0), (.int 3 0), (.ref 85), (.bool true), (.int 181 0), (.ref 86), .none, (.ref 87), (.ref 88), (.ref 89), (.int 288 0), (.int 22 0), (vs "/claim/cut.py" 289)], #[]⟩
noncomputable def x91_3 (P : Params) : Obj := ⟨(.type "function"), none, fo (C 7 0) (q "NameRefused.__init__") .none .none .none (vs "packkit.errors" 194) none (.ref 90) .none 3 0, #[]⟩
noncomputable def x92_3 (P : Params) : Obj := ⟨(.type "tuple"), none, .seq #[(vs "name" 291), (vs "why" 292)] 0, #[]⟩
noncomputable def x93_3 (P : Params) : Obj := ⟨(.type "dict"), none, .dict #[en P "__module__" 277 (vs "packkit.errors" 194), en P "__firstlineno__" 281 (.int 20 280), en P "__init__" 290 (.ref 91), en P "__static_attributes__" 293 (.ref 92), en P "__doc__" 294 .none] 2, #[]⟩
noncomputable def x94_3 (P : Params) : Obj := ⟨(.type "type"), none, .cls { name := (q "NameRefused"), bases := [(.ref 38)], mro := [(.ref 94), (.ref 38), (.type "ValueError"), (.type "Exception"), (.type "BaseException"), (.type "object")], ns := 93, qualname := (q "NameRefused"), hasDict := true, slotNames := [], subclasses := [], abstract := false, collection := .none, hasDel := false }, #[some (.ref 78), none, some (vs "NameRefused" 270), some (vs "NameRefused" 278), some (.builtin "ValueError.__new__"), some (.bool true)]⟩
noncomputable def x95_3 (P : Params) : Obj := ⟨(.type "super"), none, .fields #[(.ref 94), (.ref 94), (.ref 94)], #[]⟩
noncomputable def x96_3 (P : Params) : Obj := ⟨(.type "builtin_function_or_method"), none, .fields #[(.builtin "object.__init_subclass__"), (.ref 94)], #[]⟩
noncomputable def x97_3 (P : Params) : Obj := ⟨(.type "tuple"), none, .seq #[] 0, #[]⟩
noncomputable def x98_3 (P : Params) : Obj := ⟨(.type "builtin_function_or_method"), none, .fields #[(.builtin "type.__prepare__"), (.type "type")], #[]⟩
noncomputable def x99_3 (P : Params) : Obj := ⟨(.type "dict"), none, .dict #[en P "__module__" 306 (vs "packkit.bits" 297), en P "__qualname__" 308 (vs "BitWriter" 307), en P "__firstlineno__" 310 (.int 27 309), en P "__init__" 317 (.ref 110), en P "bits" 326 (.ref 117), en P "code" 336 (.ref 124), en P "unary" 344 (.ref 131), en P "gamma" 353 (.ref 138), en P "align" 360 (.ref 145), en P "length" 367 (.ref 152), en P "finish" 375 (.ref 159), en P "__static_attributes__" 379 (.ref 160)] 12, #[]⟩
noncomputable def x100_3 (P : Params) : Obj := ⟨(.type "tuple"), none, .seq #[] 0, #[]⟩
noncomputable def x101_3 (P : Params) : Obj := ⟨.none, none, .fields #[(.int 29 0), (.int 4 0), (.ref 109), (.int 34 0), (.int 4 0), (.ref 116), (.int 46 0), (.int 4 0), (.ref 123), (.int 52 0), (.int 4 0), (.ref 130), (.int 55 0), (.int 4 0), (.ref 137), (.int 62 0), (.int 4 0), (.ref 144), (.int 65 0), (.int 4 0), (.ref 151), (.int 68 0), (.int 4 0), (.ref 158)], #[]⟩
noncomputable def x102_3 (P : Params) : Obj := ⟨(.type "code"), none, .fields #[(vs "BitWriter" 301), (vs "BitWriter" 302), (vs "/claim/cut.py" 303), (.int 27 0), (.int 0 0), (.int 0 0), (.int 0 0), (.int 0 0), (.ref 100), (.bool false), (.int 181 0), (.ref 101), .none, .none, .none, .none, (.int 304 0), (.int 27 0), (vs "/claim/cut.py" 305)], #[]⟩
noncomputable def x103_3 (P : Params) : Obj := ⟨(.type "frame"), none, .plain, #[some (.ref 102), some (.ref 3), some (.ref 99), none, some (vs "packkit.bits" 297), none, some (.ref 0)]⟩
noncomputable def x104_3 (P : Params) : Obj := ⟨(.type "tuple"), none, .seq #[] 0, #[]⟩
noncomputable def x105_3 (P : Params) : Obj := ⟨.none, none, .fields #[], #[]⟩
noncomputable def x106_3 (P : Params) : Obj := ⟨(.type "tuple"), none, .seq #[(vs "self" 314)] 0, #[]⟩
noncomputable def x107_3 (P : Params) : Obj := ⟨(.type "tuple"), none, .seq #[] 0, #[]⟩
noncomputable def x108_3 (P : Params) : Obj := ⟨.none, none, fo (C 9 0) (q "BitWriter.__init__") .none .none .none .none none .none .none 0 0, #[]⟩
noncomputable def x109_3 (P : Params) : Obj := ⟨(.type "code"), none, .fields #[(vs "__init__" 311), (vs "BitWriter.__init__" 312), (vs "/claim/cut.py" 313), (.int 29 0), (.int 1 0), (.int 0 0), (.int 0 0), (.int 3 0), (.ref 104), (.bool true), (.int 181 0), (.ref 105), .none, (.ref 106), (.ref 107), (.ref 108), (.int 315 0), (.int 29 0), (vs "/claim/cut.py" 316)], #[]⟩
noncomputable def x110_3 (P : Params) : Obj := ⟨(.type "function"), none, fo (C 9 0) (q "BitWriter.__init__") .none .none .none (vs "packkit.bits" 297) none (.ref 109) .none 3 0, #[]⟩
noncomputable def x111_3 (P : Params) : Obj := ⟨(.type "tuple"), none, .seq #[] 0, #[]⟩
noncomputable def x112_3 (P : Params) : Obj := ⟨.none, none, .fields #[], #[]⟩
noncomputable def x113_3 (P : Params) : Obj := ⟨(.type "tuple"), none, .seq #[(vs "self" 321), (vs "value" 322), (vs "count" 323)] 0, #[]⟩
noncomputable def x114_3 (P : Params) : Obj := ⟨(.type "tuple"), none, .seq #[] 0, #[]⟩
noncomputable def x115_3 (P : Params) : Obj := ⟨.none, none, fo (C 9 1) (q "BitWriter.bits") .none .none .none .none none .none .none 0 0, #[]⟩
noncomputable def x116_3 (P : Params) : Obj := ⟨(.type "code"), none, .fields #[(vs "bits" 318), (vs "BitWriter.bits" 319), (vs "/claim/cut.py" 320), (.int 34 0), (.int 3 0), (.int 0 0), (.int 0 0), (.int 3 0), (.ref 111), (.bool true), (.int 181 0), (.ref 112), .none, (.ref 113), (.ref 114), (.ref 115), (.int 324 0), (.int 34 0), (vs "/claim/cut.py" 325)], #[]⟩
noncomputable def x117_3 (P : Params) : Obj := ⟨(.type "function"), none, fo (C 9 1) (q "BitWriter.bits") .none .none .none (vs "packkit.bits" 297) none (.ref 116) .none 3 0, #[]⟩
noncomputable def x118_3 (P : Params) : Obj := ⟨(.type "tuple"), none, .seq #[] 0, #[]⟩
noncomputable def x119_3 (P : Params) : Obj := ⟨.none, none, .fields #[], #[]⟩
noncomputable def x120_3 (P : Params) : Obj := ⟨(.type "tuple"), none, .seq #[(vs "self" 330), (vs "value" 331), (vs "count" 332), (vs "place" 333)] 0, #[]⟩
noncomputable def x121_3 (P : Params) : Obj := ⟨(.type "tuple"), none, .seq #[] 0, #[]⟩
noncomputable def x122_3 (P : Params) : Obj := ⟨.none, none, fo (C 9 2) (q "BitWriter.code") .none .none .none .none none .none .none 0 0, #[]⟩
noncomputable def x123_3 (P : Params) : Obj := ⟨(.type "code"), none, .fields #[(vs "code" 327), (vs "BitWriter.code" 328), (vs "/claim/cut.py" 329), (.int 46 0), (.int 3 0), (.int 0 0), (.int 0 0), (.int 3 0), (.ref 118), (.bool true), (.int 181 0), (.ref 119), .none, (.ref 120), (.ref 121), (.ref 122), (.int 334 0), (.int 46 0), (vs "/claim/cut.py" 335)], #[]⟩
noncomputable def x124_3 (P : Params) : Obj := ⟨(.type "function"), none, fo (C 9 2) (q "BitWriter.code") .none .none .none (vs "packkit.bits" 297) none (.ref 123) .none 3 0, #[]⟩
noncomputable def x125_3 (P : Params) : Obj := ⟨(.type "tuple"), none, .seq #[] 0, #[]⟩
noncomputable def x126_3 (P : Params) : Obj := ⟨.none, none, .fields #[], #[]⟩
noncomputable def x127_3 (P : Params) : Obj := ⟨(.type "tuple"), none, .seq #[(vs "self" 340), (vs "count" 341)] 0, #[]⟩
noncomputable def x128_3 (P : Params) : Obj := ⟨(.type "tuple"), none, .seq #[] 0, #[]⟩
noncomputable def x129_3 (P : Params) : Obj := ⟨.none, none, fo (C 9 3) (q "BitWriter.unary") .none .none .none .none none .none .none 0 0, #[]⟩
noncomputable def x130_3 (P : Params) : Obj := ⟨(.type "code"), none, .fields #[(vs "unary" 337), (vs "BitWriter.unary" 338), (vs "/claim/cut.py" 339), (.int 52 0), (.int 2 0), (.int 0 0), (.int 0 0), (.int 3 0), (.ref 125), (.bool true), (.int 181 0), (.ref 126), .none, (.ref 127), (.ref 128), (.ref 129), (.int 342 0), (.int 52 0), (vs "/claim/cut.py" 343)], #[]⟩
noncomputable def x131_3 (P : Params) : Obj := ⟨(.type "function"), none, fo (C 9 3) (q "BitWriter.unary") .none .none .none (vs "packkit.bits" 297) none (.ref 130) .none 3 0, #[]⟩
noncomputable def x132_3 (P : Params) : Obj := ⟨(.type "tuple"), none, .seq #[] 0, #[]⟩
noncomputable def x133_3 (P : Params) : Obj := ⟨.none, none, .fields #[], #[]⟩
noncomputable def x134_3 (P : Params) : Obj := ⟨(.type "tuple"), none, .seq #[(vs "self" 348), (vs "number" 349), (vs "size" 350)] 0, #[]⟩
noncomputable def x135_3 (P : Params) : Obj := ⟨(.type "tuple"), none, .seq #[] 0, #[]⟩
noncomputable def x136_3 (P : Params) : Obj := ⟨.none, none, fo (C 9 4) (q "BitWriter.gamma") .none .none .none .none none .none .none 0 0, #[]⟩
noncomputable def x137_3 (P : Params) : Obj := ⟨(.type "code"), none, .fields #[(vs "gamma" 345), (vs "BitWriter.gamma" 346), (vs "/claim/cut.py" 347), (.int 55 0), (.int 2 0), (.int 0 0), (.int 0 0), (.int 3 0), (.ref 132), (.bool true), (.int 181 0), (.ref 133), .none, (.ref 134), (.ref 135), (.ref 136), (.int 351 0), (.int 55 0), (vs "/claim/cut.py" 352)], #[]⟩
noncomputable def x138_3 (P : Params) : Obj := ⟨(.type "function"), none, fo (C 9 4) (q "BitWriter.gamma") .none .none .none (vs "packkit.bits" 297) none (.ref 137) .none 3 0, #[]⟩
noncomputable def x139_3 (P : Params) : Obj := ⟨(.type "tuple"), none, .seq #[] 0, #[]⟩
noncomputable def x140_3 (P : Params) : Obj := ⟨.none, none, .fields #[], #[]⟩
noncomputable def x141_3 (P : Params) : Obj := ⟨(.type "tuple"), none, .seq #[(vs "self" 357)] 0, #[]⟩
noncomputable def x142_3 (P : Params) : Obj := ⟨(.type "tuple"), none, .seq #[] 0, #[]⟩
noncomputable def x143_3 (P : Params) : Obj := ⟨.none, none, fo (C 9 5) (q "BitWriter.align") .none .none .none .none none .none .none 0 0, #[]⟩
noncomputable def x144_3 (P : Params) : Obj := ⟨(.type "code"), none, .fields #[(vs "align" 354), (vs "BitWriter.align" 355), (vs "/claim/cut.py" 356), (.int 62 0), (.int 1 0), (.int 0 0), (.int 0 0), (.int 3 0), (.ref 139), (.bool true), (.int 181 0), (.ref 140), .none, (.ref 141), (.ref 142), (.ref 143), (.int 358 0), (.int 62 0), (vs "/claim/cut.py" 359)], #[]⟩
noncomputable def x145_3 (P : Params) : Obj := ⟨(.type "function"), none, fo (C 9 5) (q "BitWriter.align") .none .none .none (vs "packkit.bits" 297) none (.ref 144) .none 3 0, #[]⟩
noncomputable def x146_3 (P : Params) : Obj := ⟨(.type "tuple"), none, .seq #[] 0, #[]⟩
noncomputable def x147_3 (P : Params) : Obj := ⟨.none, none, .fields #[], #[]⟩
noncomputable def x148_3 (P : Params) : Obj := ⟨(.type "tuple"), none, .seq #[(vs "self" 364)] 0, #[]⟩
noncomputable def x149_3 (P : Params) : Obj := ⟨(.type "tuple"), none, .seq #[] 0, #[]⟩
noncomputable def x150_3 (P : Params) : Obj := ⟨.none, none, fo (C 9 6) (q "BitWriter.length") .none .none .none .none none .none .none 0 0, #[]⟩
noncomputable def x151_3 (P : Params) : Obj := ⟨(.type "code"), none, .fields #[(vs "length" 361), (vs "BitWriter.length" 362), (vs "/claim/cut.py" 363), (.int 65 0), (.int 1 0), (.int 0 0), (.int 0 0), (.int 3 0), (.ref 146), (.bool true), (.int 181 0), (.ref 147), .none, (.ref 148), (.ref 149), (.ref 150), (.int 365 0), (.int 65 0), (vs "/claim/cut.py" 366)], #[]⟩
noncomputable def x152_3 (P : Params) : Obj := ⟨(.type "function"), none, fo (C 9 6) (q "BitWriter.length") .none .none .none (vs "packkit.bits" 297) none (.ref 151) .none 3 0, #[]⟩
noncomputable def x153_3 (P : Params) : Obj := ⟨(.type "tuple"), none, .seq #[] 0, #[]⟩
noncomputable def x154_3 (P : Params) : Obj := ⟨.none, none, .fields #[], #[]⟩
noncomputable def x155_3 (P : Params) : Obj := ⟨(.type "tuple"), none, .seq #[(vs "self" 371), (vs "out" 372)] 0, #[]⟩
noncomputable def x156_3 (P : Params) : Obj := ⟨(.type "tuple"), none, .seq #[] 0, #[]⟩
noncomputable def x157_3 (P : Params) : Obj := ⟨.none, none, fo (C 9 7) (q "BitWriter.finish") .none .none .none .none none .none .none 0 0, #[]⟩
noncomputable def x158_3 (P : Params) : Obj := ⟨(.type "code"), none, .fields #[(vs "finish" 368), (vs "BitWriter.finish" 369), (vs "/claim/cut.py" 370), (.int 68 0), (.int 1 0), (.int 0 0), (.int 0 0), (.int 3 0), (.ref 153), (.bool true), (.int 181 0), (.ref 154), .none, (.ref 155), (.ref 156), (.ref 157), (.int 373 0), (.int 68 0), (vs "/claim/cut.py" 374)], #[]⟩
noncomputable def x159_3 (P : Params) : Obj := ⟨(.type "function"), none, fo (C 9 7) (q "BitWriter.finish") .none .none .none (vs "packkit.bits" 297) none (.ref 158) .none 3 0, #[]⟩
noncomputable def x160_3 (P : Params) : Obj := ⟨(.type "tuple"), none, .seq #[(vs "_count" 376), (vs "_held" 377), (vs "_out" 378)] 0, #[]⟩
noncomputable def x161_3 (P : Params) : Obj := ⟨(.type "dict"), none, .dict #[en P "__module__" 306 (vs "packkit.bits" 297), en P "__firstlineno__" 310 (.int 27 309), en P "__init__" 317 (.ref 110), en P "bits" 326 (.ref 117), en P "code" 336 (.ref 124), en P "unary" 344 (.ref 131), en P "gamma" 353 (.ref 138), en P "align" 360 (.ref 145), en P "length" 367 (.ref 152), en P "finish" 375 (.ref 159), en P "__static_attributes__" 379 (.ref 160), en P "__dict__" 381 (.ref 163), en P "__weakref__" 383 (.ref 164), en P "__doc__" 384 .none] 4, #[]⟩
noncomputable def x162_3 (P : Params) : Obj := ⟨(.type "type"), none, .cls { name := (q "BitWriter"), bases := [(.type "object")], mro := [(.ref 162), (.type "object")], ns := 161, qualname := (q "BitWriter"), hasDict := true, slotNames := [], subclasses := [], abstract := false, collection := .none, hasDel := false }, #[none, none, some (vs "BitWriter" 299), some (vs "BitWriter" 307), some (.builtin "object.__new__"), some (.bool true)]⟩
noncomputable def x163_3 (P : Params) : Obj := ⟨(.type "getset_descriptor"), none, .fields #[(vs "__dict__" 380), (.ref 162), (.builtin "function.__dict__"), (.builtin "function.__dict__#set")], #[]⟩
noncomputable def x164_3 (P : Params) : Obj := ⟨(.type "getset_descriptor"), none, .fields #[(vs "__weakref__" 382), (.ref 162), (.builtin "ExceptionGroup.__weakref__"), .none], #[]⟩
noncomputable def x165_3 (P : Params) : Obj := ⟨(.type "super"), none, .fields #[(.ref 162), (.ref 162), (.ref 162)], #[]⟩
noncomputable def x166_3 (P : Params) : Obj := ⟨(.type "builtin_function_or_method"), none, .fields #[(.builtin "object.__init_subclass__"), (.ref 162)], #[]⟩
noncomputable def T3 (P : Params) : BT := insL (setL (T2 P) [(3, (x3_3 P)), (12, (x12_3 P)), (38, (x38_3 P))]) 78 [(x78_3 P), (x79_3 P), (x80_3 P), (x81_3 P), (x82_3 P), (x83_3 P), (x84_3 P), (x85_3 P), (x86_3 P), (x87_3 P), (x88_3 P), (x89_3 P), (x90_3 P), (x91_3 P), (x92_3 P), (x93_3 P), (x94_3 P), (x95_3 P), (x96_3 P), (x97_3 P), (x98_3 P), (x99_3 P), (x100_3 P), (x101_3 P), (x102_3 P), (x103_3 P), (x104_3 P), (x105_3 P), (x106_3 P), (x107_3 P), (x108_3 P), (x109_3 P), (x110_3 P), (x111_3 P), (x112_3 P), (x113_3 P), (x114_3 P), (x115_3 P), (x116_3 P), (x117_3 P), (x118_3 P), (x119_3 P), (x120_3 P), (x121_3 P), (x122_3 P), (x123_3 P), (x124_3 P), (x125_3 P), (x126_3 P), (x127_3 P), (x128_3 P), (x129_3 P), (x130_3 P), (x131_3 P), (x132_3 P), (x133_3 P), (x134_3 P), (x135_3 P), (x136_3 P), (x137_3 P), (x138_3 P), (x139_3 P), (x140_3 P), (x141_3 P), (x142_3 P), (x143_3 P), (x144_3 P), (x145_3 P), (x146_3 P), (x147_3 P), (x148_3 P), (x149_3 P), (x150_3 P), (x151_3 P), (x152_3 P), (x153_3 P), (x154_3 P), (x155_3 P), (x156_3 P), (x157_3 P), (x158_3 P), (x159_3 P), (x160_3 P), (x161_3 P), (x162_3 P), (x163_3 P), (x164_3 P), (x165_3 P), (x166_3 P)]
noncomputable def s3 (P : Params) (os : OsState) : SharedT := shr (T3 P) 167 387 os
noncomputable def x3_4 (P : Params) : Obj := ⟨(.type "dict"), none, dA (x3_3 P) [en P "BitReader" 483 (.ref 239)] 18, #[]⟩
noncomputable def x12_4 (P : Params) : Obj := ⟨.none, none, fA (x12_3 P) [(.int 73 0), (.int 0 0), (.ref 172)], #[]⟩
noncomputable def x167_4 (P : Params) : Obj := ⟨(.type "tuple"), none, .seq #[] 0, #[]⟩
noncomputable def x168_4 (P : Params) : Obj := ⟨(.type "builtin_function_or_method"), none, .fields #[(.builtin "type.__prepare__"), (.type "type")], #[]⟩
noncomputable def x169_4 (P : Params) : Obj := ⟨(.type "dict"), none, .dict #[en P "__module__" 394 (vs "packkit.bits" 297), en P "__qualname__" 396 (vs "BitReader" 395), en P "__firstlineno__" 398 (.int 73 397), en P "__init__" 406 (.ref 180), en P "left" 413 (.ref 187), en P "bit" 422 (.ref 194), en P "bits" 432 (.ref 201), en P "code" 442 (.ref 208), en P "unary" 449 (.ref 215), en P "gamma" 459 (.ref 222), en P "align" 466 (.ref 229), en P "place" 473 (.ref 236), en P "__static_attributes__" 476 (.ref 237)] 13, #[]⟩
noncomputable def x170_4 (P : Params) : Obj := ⟨(.type "tuple"), none, .seq #[] 0, #[]⟩
noncomputable def x171_4 (P : Params) : Obj := ⟨.none, none, .fields #[(.int 75 0), (.int 4 0), (.ref 179), (.int 79 0), (.int 4 0), (.ref 186), (.int 82 0), (.int 4 0), (.ref 193), (.int 90 0), (.int 4 0), (.ref 200), (.int 98 0), (.int 4 0), (.ref 207), (.int 104 0), (.int 4 0), (.ref 214), (.int 107 0), (.int 4 0), (.ref 221), (.int 116 0), (.int 4 0), (.ref 228), (.int 119 0), (.int 4 0), (.ref 235)], #[]⟩
noncomputable def x172_4 (P : Params) : Obj := ⟨(.type "code"), none, .fields #[(vs "BitReader" 389), (vs "BitReader" 390), (vs "/claim/cut.py" 391), (.int 73 0), (.int 0 0), (.int 0 0), (.int 0 0), (.int 0 0), (.ref 170), (.bool false), (.int 181 0), (.ref 171), .none, .none, .none, .none, (.int 392 0), (.int 73 0), (vs "/claim/cut.py" 393)], #[]⟩
noncomputable def x173_4 (P : Params) : Obj := ⟨(.type "frame"), none, .plain, #[some (.ref 172), some (.ref 3), some (.ref 169), none, some (vs "packkit.bits" 297), none, some (.ref 0)]⟩
noncomputable def x174_4 (P : Params) : Obj := ⟨(.type "tuple"), none, .seq #[] 0, #[]⟩
noncomputable def x175_4 (P : Params) : Obj := ⟨.none, none, .fields #[], #[]⟩
noncomputable def x176_4 (P : Params) : Obj := ⟨(.type "tuple"), none, .seq #[(vs "self" 402), (vs "data" 403)] 0, #[]⟩
noncomputable def x177_4 (P : Params) : Obj := ⟨(.type "tuple"), none, .seq #[] 0, #[]⟩
noncomputable def x178_4 (P : Params) : Obj := ⟨.none, none, fo (C 10 0) (q "BitReader.__init__") .none .none .none .none none .none .none 0 0, #[]⟩
noncomputable def x179_4 (P : Params) : Obj := ⟨(.type "code"), none, .fields #[(vs "__init__" 399), (vs "BitReader.__init__" 400), (vs "/claim/cut.py" 401), (.int 75 0), (.int 2 0), (.int 0 0), (.int 0 0), (.int 3 0), (.ref 174), (.bool true), (.int 181 0), (.ref 175), .none, (.ref 176), (.ref 177), (.ref 178), (.int 404 0), (.int 75 0), (vs "/claim/cut.py" 405)], #[]⟩
noncomputable def x180_4 (P : Params) : Obj := ⟨(.type "function"), none, fo (C 10 0) (q "BitReader.__init__") .none .none .none (vs "packkit.bits" 297) none (.ref 179) .none 3 0, #[]⟩
noncomputable def x181_4 (P : Params) : Obj := ⟨(.type "tuple"), none, .seq #[] 0, #[]⟩
noncomputable def x182_4 (P : Params) : Obj := ⟨.none, none, .fields #[], #[]⟩
noncomputable def x183_4 (P : Params) : Obj := ⟨(.type "tuple"), none, .seq #[(vs "self" 410)] 0, #[]⟩
noncomputable def x184_4 (P : Params) : Obj := ⟨(.type "tuple"), none, .seq #[] 0, #[]⟩
noncomputable def x185_4 (P : Params) : Obj := ⟨.none, none, fo (C 10 1) (q "BitReader.left") .none .none .none .none none .none .none 0 0, #[]⟩
noncomputable def x186_4 (P : Params) : Obj := ⟨(.type "code"), none, .fields #[(vs "left" 407), (vs "BitReader.left" 408), (vs "/claim/cut.py" 409), (.int 79 0), (.int 1 0), (.int 0 0), (.int 0 0), (.int 3 0), (.ref 181), (.bool true), (.int 181 0), (.ref 182), .none, (.ref 183), (.ref 184), (.ref 185), (.int 411 0), (.int 79 0), (vs "/claim/cut.py" 412)], #[]⟩
noncomputable def x187_4 (P : Params) : Obj := ⟨(.type "function"), none, fo (C 10 1) (q "BitReader.left") .none .none .none (vs "packkit.bits" 297) none (.ref 186) .none 3 0, #[]⟩
noncomputable def x188_4 (P : Params) : Obj := ⟨(.type "tuple"), none, .seq #[] 0, #[]⟩
noncomputable def x189_4 (P : Params) : Obj := ⟨.none, none, .fields #[], #[]⟩
noncomputable def x190_4 (P : Params) : Obj := ⟨(.type "tuple"), none, .seq #[(vs "self" 417), (vs "byte" 418), (vs "value" 419)] 0, #[]⟩
noncomputable def x191_4 (P : Params) : Obj := ⟨(.type "tuple"), none, .seq #[] 0, #[]⟩
noncomputable def x192_4 (P : Params) : Obj := ⟨.none, none, fo (C 10 2) (q "BitReader.bit") .none .none .none .none none .none .none 0 0, #[]⟩
noncomputable def x193_4 (P : Params) : Obj := ⟨(.type "code"), none, .fields #[(vs "bit" 414), (vs "BitReader.bit" 415), (vs "/claim/cut.py" 416), (.int 82 0), (.int 1 0), (.int 0 0), (.int 0 0), (.int 3 0), (.ref 188), (.bool true), (.int 181 0), (.ref 189), .none, (.ref 190), (.ref 191), (.ref 192), (.int 420 0), (.int 82 0), (vs "/claim/cut.py" 421)], #[]⟩
noncomputable def x194_4 (P : Params) : Obj := ⟨(.type "function"), none, fo (C 10 2) (q "BitReader.bit") .none .none .none (vs "packkit.bits" 297) none (.ref 193) .none 3 0, #[]⟩
noncomputable def x195_4 (P : Params) : Obj := ⟨(.type "tuple"), none, .seq #[] 0, #[]⟩
noncomputable def x196_4 (P : Params) : Obj := ⟨.none, none, .fields #[], #[]⟩
noncomputable def x197_4 (P : Params) : Obj := ⟨(.type "tuple"), none, .seq #[(vs "self" 426), (vs "count" 427), (vs "value" 428), (vs "place" 429)] 0, #[]⟩
noncomputable def x198_4 (P : Params) : Obj := ⟨(.type "tuple"), none, .seq #[] 0, #[]⟩
noncomputable def x199_4 (P : Params) : Obj := ⟨.none, none, fo (C 10 3) (q "BitReader.bits") .none .none .none .none none .none .none 0 0, #[]⟩
noncomputable def x200_4 (P : Params) : Obj := ⟨(.type "code"), none, .fields #[(vs "bits" 423), (vs "BitReader.bits" 424), (vs "/claim/cut.py" 425), (.int 90 0), (.int 2 0), (.int 0 0), (.int 0 0), (.int 3 0), (.ref 195), (.bool true), (.int 181 0), (.ref 196), .none, (.ref 197), (.ref 198), (.ref 199), (.int 430 0), (.int 90 0), (vs "/claim/cut.py" 431)], #[]⟩
noncomputable def x201_4 (P : Params) : Obj := ⟨(.type "function"), none, fo (C 10 3) (q "BitReader.bits") .none .none .none (vs "packkit.bits" 297) none (.ref 200) .none 3 0, #[]⟩
noncomputable def x202_4 (P : Params) : Obj := ⟨(.type "tuple"), none, .seq #[] 0, #[]⟩
noncomputable def x203_4 (P : Params) : Obj := ⟨.none, none, .fields #[], #[]⟩
noncomputable def x204_4 (P : Params) : Obj := ⟨(.type "tuple"), none, .seq #[(vs "self" 436), (vs "count" 437), (vs "value" 438), (vs "k" 439)] 0, #[]⟩
noncomputable def x205_4 (P : Params) : Obj := ⟨(.type "tuple"), none, .seq #[] 0, #[]⟩
noncomputable def x206_4 (P : Params) : Obj := ⟨.none, none, fo (C 10 4) (q "BitReader.code") .none .none .none .none none .none .none 0 0, #[]⟩
noncomputable def x207_4 (P : Params) : Obj := ⟨(.type "code"), none, .fields #[(vs "code" 433), (vs "BitReader.code" 434), (vs "/claim/cut.py" 435), (.int 98 0), (.int 2 0), (.int 0 0), (.int 0 0), (.int 3 0), (.ref 202), (.bool true), (.int 181 0), (.ref 203), .none, (.ref 204), (.ref 205), (.ref 206), (.int 440 0), (.int 98 0), (vs "/claim/cut.py" 441)], #[]⟩
noncomputable def x208_4 (P : Params) : Obj := ⟨(.type "function"), none, fo (C 10 4) (q "BitReader.code") .none .none .none (vs "packkit.bits" 297) none (.ref 207) .none 3 0, #[]⟩
noncomputable def x209_4 (P : Params) : Obj := ⟨(.type "tuple"), none, .seq #[] 0, #[]⟩
noncomputable def x210_4 (P : Params) : Obj := ⟨.none, none, .fields #[], #[]⟩
noncomputable def x211_4 (P : Params) : Obj := ⟨(.type "tuple"), none, .seq #[(vs "self" 446)] 0, #[]⟩
noncomputable def x212_4 (P : Params) : Obj := ⟨(.type "tuple"), none, .seq #[] 0, #[]⟩
noncomputable def x213_4 (P : Params) : Obj := ⟨.none, none, fo (C 10 5) (q "BitReader.unary") .none .none .none .none none .none .none 0 0, #[]⟩
noncomputable def x214_4 (P : Params) : Obj := ⟨(.type "code"), none, .fields #[(vs "unary" 443), (vs "BitReader.unary" 444), (vs "/claim/cut.py" 445), (.int 104 0), (.int 1 0), (.int 0 0), (.int 0 0), (.int 3 0), (.ref 209), (.bool true), (.int 181 0), (.ref 210), .none, (.ref 211), (.ref 212), (.ref 213), (.int 447 0), (.int 104 0), (vs "/claim/cut.py" 448)], #[]⟩
noncomputable def x215_4 (P : Params) : Obj := ⟨(.type "function"), none, fo (C 10 5) (q "BitReader.unary") .none .none .none (vs "packkit.bits" 297) none (.ref 214) .none 3 0, #[]⟩
noncomputable def x216_4 (P : Params) : Obj := ⟨(.type "tuple"), none, .seq #[] 0, #[]⟩
noncomputable def x217_4 (P : Params) : Obj := ⟨.none, none, .fields #[], #[]⟩
noncomputable def x218_4 (P : Params) : Obj := ⟨(.type "tuple"), none, .seq #[(vs "self" 453), (vs "size" 454), (vs "value" 455), (vs "k" 456)] 0, #[]⟩
noncomputable def x219_4 (P : Params) : Obj := ⟨(.type "tuple"), none, .seq #[] 0, #[]⟩
noncomputable def x220_4 (P : Params) : Obj := ⟨.none, none, fo (C 10 6) (q "BitReader.gamma") .none .none .none .none none .none .none 0 0, #[]⟩
noncomputable def x221_4 (P : Params) : Obj := ⟨(.type "code"), none, .fields #[(vs "gamma" 450), (vs "BitReader.gamma" 451), (vs "/claim/cut.py" 452), (.int 107 0), (.int 1 0), (.int 0 0), (.int 0 0), (.int 3 0), (.ref 216), (.bool true), (.int 181 0), (.ref 217), .none, (.ref 218), (.ref 219), (.ref 220), (.int 457 0), (.int 107 0), (vs "/claim/cut.py" 458)], #[]⟩
noncomputable def x222_4 (P : Params) : Obj := ⟨(.type "function"), none, fo (C 10 6) (q "BitReader.gamma") .none .none .none (vs "packkit.bits" 297) none (.ref 221) .none 3 0, #[]⟩
noncomputable def x223_4 (P : Params) : Obj := ⟨(.type "tuple"), none, .seq #[] 0, #[]⟩
noncomputable def x224_4 (P : Params) : Obj := ⟨.none, none, .fields #[], #[]⟩
noncomputable def x225_4 (P : Params) : Obj := ⟨(.type "tuple"), none, .seq #[(vs "self" 463)] 0, #[]⟩
noncomputable def x226_4 (P : Params) : Obj := ⟨(.type "tuple"), none, .seq #[] 0, #[]⟩
noncomputable def x227_4 (P : Params) : Obj := ⟨.none, none, fo (C 10 7) (q "BitReader.align") .none .none .none .none none .none .none 0 0, #[]⟩
noncomputable def x228_4 (P : Params) : Obj := ⟨(.type "code"), none, .fields #[(vs "align" 460), (vs "BitReader.align" 461), (vs "/claim/cut.py" 462), (.int 116 0), (.int 1 0), (.int 0 0), (.int 0 0), (.int 3 0), (.ref 223), (.bool true), (.int 181 0), (.ref 224), .none, (.ref 225), (.ref 226), (.ref 227), (.int 464 0), (.int 116 0), (vs "/claim/cut.py" 465)], #[]⟩
noncomputable def x229_4 (P : Params) : Obj := ⟨(.type "function"), none, fo (C 10 7) (q "BitReader.align") .none .none .none (vs "packkit.bits" 297) none (.ref 228) .none 3 0, #[]⟩
noncomputable def x230_4 (P : Params) : Obj := ⟨(.type "tuple"), none, .seq #[] 0, #[]⟩
noncomputable def x231_4 (P : Params) : Obj := ⟨.none, none, .fields #[], #[]⟩
noncomputable def x232_4 (P : Params) : Obj := ⟨(.type "tuple"), none, .seq #[(vs "self" 470)] 0, #[]⟩
noncomputable def x233_4 (P : Params) : Obj := ⟨(.type "tuple"), none, .seq #[] 0, #[]⟩
noncomputable def x234_4 (P : Params) : Obj := ⟨.none, none, fo (C 10 8) (q "BitReader.place") .none .none .none .none none .none .none 0 0, #[]⟩
noncomputable def x235_4 (P : Params) : Obj := ⟨(.type "code"), none, .fields #[(vs "place" 467), (vs "BitReader.place" 468), (vs "/claim/cut.py" 469), (.int 119 0), (.int 1 0), (.int 0 0), (.int 0 0), (.int 3 0), (.ref 230), (.bool true), (.int 181 0), (.ref 231), .none, (.ref 232), (.ref 233), (.ref 234), (.int 471 0), (.int 119 0), (vs "/claim/cut.py" 472)], #[]⟩
noncomputable def x236_4 (P : Params) : Obj := ⟨(.type "function"), none, fo (C 10 8) (q "BitReader.place") .none .none .none (vs "packkit.bits" 297) none (.ref 235) .none 3 0, #[]⟩
noncomputable def x237_4 (P : Params) : Obj := ⟨(.type "tuple"), none, .seq #[(vs "_at" 474), (vs "_data" 475)] 0, #[]⟩
noncomputable def x238_4 (P : Params) : Obj := ⟨(.type "dict"), none, .dict #[en P "__module__" 394 (vs "packkit.bits" 297), en P "__firstlineno__" 398 (.int 73 397), en P "__init__" 406 (.ref 180), en P "left" 413 (.ref 187), en P "bit" 422 (.ref 194), en P "bits" 432 (.ref 201), en P "code" 442 (.ref 208), en P "unary" 449 (.ref 215), en P "gamma" 459 (.ref 222), en P "align" 466 (.ref 229), en P "place" 473 (.ref 236), en P "__static_attributes__" 476 (.ref 237), en P "__dict__" 478 (.ref 240), en P "__weakref__" 480 (.ref 241), en P "__doc__" 481 .none] 4, #[]⟩
noncomputable def x239_4 (P : Params) : Obj := ⟨(.type "type"), none, .cls { name := (q "BitReader"), bases := [(.type "object")], mro := [(.ref 239), (.type "object")], ns := 238, qualname := (q "BitReader"), hasDict := true, slotNames := [], subclasses := [], abstract := false, collection := .none, hasDel := false }, #[none, none, some (vs "BitReader" 387), some (vs "BitReader" 395), some (.builtin "object.__new__"), some (.bool true)]⟩
noncomputable def x240_4 (P : Params) : Obj := ⟨(.type "getset_descriptor"), none, .fields #[(vs "__dict__" 477), (.ref 239), (.builtin "function.__dict__"), (.builtin "function.__dict__#set")], #[]⟩
noncomputable def x241_4 (P : Params) : Obj := ⟨(.type "getset_descriptor"), none, .fields #[(vs "__weakref__" 479), (.ref 239), (.builtin "ExceptionGroup.__weakref__"), .none], #[]⟩
noncomputable def x242_4 (P : Params) : Obj := ⟨(.type "super"), none, .fields #[(.ref 239), (.ref 239), (.ref 239)], #[]⟩
noncomputable def x243_4 (P : Params) : Obj := ⟨(.type "builtin_function_or_method"), none, .fields #[(.builtin "object.__init_subclass__"), (.ref 239)], #[]⟩
noncomputable def T4 (P : Params) : BT := insL (setL (T3 P) [(3, (x3_4 P)), (12, (x12_4 P))]) 167 [(x167_4 P), (x168_4 P), (x169_4 P), (x170_4 P), (x171_4 P), (x172_4 P), (x173_4 P), (x174_4 P), (x175_4 P), (x176_4 P), (x177_4 P), (x178_4 P), (x179_4 P), (x180_4 P), (x181_4 P), (x182_4 P), (x183_4 P), (x184_4 P), (x185_4 P), (x186_4 P), (x187_4 P), (x188_4 P), (x189_4 P), (x190_4 P), (x191_4 P), (x192_4 P), (x193_4 P), (x194_4 P), (x195_4 P), (x196_4 P), (x197_4 P), (x198_4 P), (x199_4 P), (x200_4 P), (x201_4 P), (x202_4 P), (x203_4 P), (x204_4 P), (x205_4 P), (x206_4 P), (x207_4 P), (x208_4 P), (x209_4 P), (x210_4 P), (x211_4 P), (x212_4 P), (x213_4 P), (x214_4 P), (x215_4 P), (x216_4 P), (x217_4 P), (x218_4 P), (x219_4 P), (x220_4 P), (x221_4 P), (x222_4 P), (x223_4 P), (x224_4 P), (x225_4 P), (x226_4 P), (x227_4 P), (x228_4 P), (x229_4 P), (x230_4 P), (x231_4 P), (x232_4 P), (x233_4 P), (x234_4 P), (x235_4 P), (x236_4 P), (x237_4 P), (x238_4 P), (x239_4 P), (x240_4 P), (x241_4 P), (x242_4 P), (x243_4 P)]
noncomputable def s4 (P : Params) (os : OsState) : SharedT := shr (T4 P) 244 484 os
noncomputable def x3_5 (P : Params) : Obj := ⟨(.type "dict"), none, dB (x3_4 P) [(0, en P "__name__" 165 (vs "packkit.checks" 503))] [en P "number_bytes" 491 (.ref 250), en P "read_number" 502 (.ref 257), en P "_POLY" 506 (.int 3988292384 505), en P "make_table" 516 (.ref 264)] 22, #[]⟩
noncomputable def x12_5 (P : Params) : Obj := ⟨.none, none, fA (x12_4 P) [(.int 123 0), (.int 0 0), (.ref 249), (.int 132 0), (.int 0 0), (.ref 256), (.int 150 0), (.int 0 0), (.ref 263)], #[]⟩
noncomputable def x244_5 (P : Params) : Obj := ⟨(.type "tuple"), none, .seq #[] 0, #[]⟩
noncomputable def x245_5 (P : Params) : Obj := ⟨.none, none, .fields #[], #[]⟩
noncomputable def x246_5 (P : Params) : Obj := ⟨(.type "tuple"), none, .seq #[(vs "number" 487), (vs "out" 488)] 0, #[]⟩
noncomputable def x247_5 (P : Params) : Obj := ⟨(.type "tuple"), none, .seq #[] 0, #[]⟩
noncomputable def x248_5 (P : Params) : Obj := ⟨.none, none, fo (S 11) (q "number_bytes") .none .none .none .none none .none .none 0 0, #[]⟩
noncomputable def x249_5 (P : Params) : Obj := ⟨(.type "code"), none, .fields #[(vs "number_bytes" 484), (vs "number_bytes" 485), (vs "/claim/cut.py" 486), (.int 123 0), (.int 1 0), (.int 0 0), (.int 0 0), (.int 3 0), (.ref 244), (.bool true), (.int 181 0), (.ref 245), .none, (.ref 246), (.ref 247), (.ref 248), (.int 489 0), (.int 123 0), (vs "/claim/cut.py" 490)], #[]⟩
noncomputable def x250_5 (P : Params) : Obj := ⟨(.type "function"), none, fo (S 11) (q "number_bytes") .none .none .none (vs "packkit.bits" 297) none (.ref 249) .none 3 0, #[]⟩
noncomputable def x251_5 (P : Params) : Obj := ⟨(.type "tuple"), none, .seq #[] 0, #[]⟩
noncomputable def x252_5 (P : Params) : Obj := ⟨.none, none, .fields #[], #[]⟩
noncomputable def x253_5 (P : Params) : Obj := ⟨(.type "tuple"), none, .seq #[(vs "data" 495), (vs "at" 496), (vs "value" 497), (vs "shift" 498), (vs "byte" 499)] 0, #[]⟩
noncomputable def x254_5 (P : Params) : Obj := ⟨(.type "tuple"), none, .seq #[] 0, #[]⟩
noncomputable def x255_5 (P : Params) : Obj := ⟨.none, none, fo (S 12) (q "read_number") .none .none .none .none none .none .none 0 0, #[]⟩
noncomputable def x256_5 (P : Params) : Obj := ⟨(.type "code"), none, .fields #[(vs "read_number" 492), (vs "read_number" 493), (vs "/claim/cut.py" 494), (.int 132 0), (.int 2 0), (.int 0 0), (.int 0 0), (.int 3 0), (.ref 251), (.bool true), (.int 181 0), (.ref 252), .none, (.ref 253), (.ref 254), (.ref 255), (.int 500 0), (.int 132 0), (vs "/claim/cut.py" 501)], #[]⟩
noncomputable def x257_5 (P : Params) : Obj := ⟨(.type "function"), none, fo (S 12) (q "read_number") .none .none .none (vs "packkit.bits" 297) none (.ref 256) .none 3 0, #[]⟩
noncomputable def x258_5 (P : Params) : Obj := ⟨(.type "tuple"), none, .seq #[] 0, #[]⟩
noncomputable def x259_5 (P : Params) : Obj := ⟨.none, none, .fields #[], #[]⟩
noncomputable def x260_5 (P : Params) : Obj := ⟨(.type "tuple"), none, .seq #[(vs "table" 510), (vs "byte" 511), (vs "value" 512), (vs "k" 513)] 0, #[]⟩
noncomputable def x261_5 (P : Params) : Obj := ⟨(.type "tuple"), none, .seq #[] 0, #[]⟩
noncomputable def x262_5 (P : Params) : Obj := ⟨.none, none, fo (S 15) (q "make_table") .none .none .none .none none .none .none 0 0, #[]⟩
noncomputable def x263_5 (P : Params) : Obj := ⟨(.type "code"), none, .fields #[(vs "make_table" 507), (vs "make_table" 508), (vs "/claim/cut.py" 509), (.int 150 0), (.int 0 0), (.int 0 0), (.int 0 0), (.int 3 0), (.ref 258), (.bool true), (.int 181 0), (.ref 259), .none, (.ref 260), (.ref 261), (.ref 262), (.int 514 0), (.int 150 0), (vs "/claim/cut.py" 515)], #[]⟩
noncomputable def x264_5 (P : Params) : Obj := ⟨(.type "function"), none, fo (S 15) (q "make_table") .none .none .none (vs "packkit.checks" 503) none (.ref 263) .none 3 0, #[]⟩
noncomputable def T5 (P : Params) : BT := (.node (boot_o_0 P) (.node (boot_o_1 P) (.node (x3_5 P) (.node (boot_o_7 P) (.node (x15_1 P) (.node (x31_1 P) (.node (x63_2 P) (.node (x127_3 P) (.node (x255_5 P) .nil .nil) .nil) (.node (x191_4 P) .nil .nil)) (.node (x95_3 P) (.node (x159_3 P) .nil .nil) (.node (x223_4 P) .nil .nil))) (.node (x47_2 P) (.node (x79_3 P) (.node (x143_3 P) .nil .nil) (.node (x207_4 P) .nil .nil)) (.node (x111_3 P) (.node (x175_4 P) .nil .nil) (.node (x239_4 P) .nil .nil)))) (.node (x23_1 P) (.node (x39_1 P) (.node (x71_2 P) (.node (x135_3 P) (.node (x263_5 P) .nil .nil) .nil) (.node (x199_4 P) .nil .nil)) (.node (x103_3 P) (.node (x167_4 P) .nil .nil) (.node (x231_4 P) .nil .nil))) (.node (x55_2 P) (.node (x87_3 P) (.node (x151_3 P) .nil .nil) (.node (x215_4 P) .nil .nil)) (.node (x119_3 P) (.node (x183_4 P) .nil .nil) (.node (x247_5 P) .nil .nil))))) (.node (x11_0 P) (.node (x19_1 P) (.node (x35_1 P) (.node (x67_2 P) (.node (x131_3 P) (.node (x259_5 P) .nil .nil) .nil) (.node (x195_4 P) .nil .nil)) (.node (x99_3 P) (.node (x163_3 P) .nil .nil) (.node (x227_4 P) .nil .nil))) (.node (x51_2 P) (.node (x83_3 P) (.node (x147_3 P) .nil .nil) (.node (x211_4 P) .nil .nil)) (.node (x115_3 P) (.node (x179_4 P) .nil .nil) (.node (x243_4 P) .nil .nil)))) (.node (x27_1 P) (.node (x43_2 P) (.node (x75_2 P) (.node (x139_3 P) .nil .nil) (.node (x203_4 P) .nil .nil)) (.node (x107_3 P) (.node (x171_4 P) .nil .nil) (.node (x235_4 P) .nil .nil))) (.node (x59_2 P) (.node (x91_3 P) (.node (x155_3 P) .nil .nil) (.node (x219_4 P) .nil .nil)) (.node (x123_3 P) (.node (x187_4 P) .nil .nil) (.node (x251_5 P) .nil .nil)))))) (.node (boot_o_5 P) (.node (boot_o_9 P) (.node (x17_1 P) (.node (x33_1 P) (.node (x65_2 P) (.node (x129_3 P) (.node (x257_5 P) .nil .nil) .nil) (.node (x193_4 P) .nil .nil)) (.node (x97_3 P) (.node (x161_3 P) .nil .nil) (.node (x225_4 P) .nil .nil))) (.node (x49_2 P) (.node (x81_3 P) (.node (x145_3 P) .nil .nil) (.node (x209_4 P) .nil .nil)) (.node (x113_3 P) (.node (x177_4 P) .nil .nil) (.node (x241_4 P) .nil .nil)))) (.node (x25_1 P) (.node (x41_1 P) (.node (x73_2 P) (.node (x137_3 P) .nil .nil) (.node (x201_4 P) .nil .nil)) (.node (x105_3 P) (.node (x169_4 P) .nil .nil) (.node (x233_4 P) .nil .nil))) (.node (x57_2 P) (.node (x89_3 P) (.node (x153_3 P) .nil .nil) (.node (x217_4 P) .nil .nil)) (.node (x121_3 P) (.node (x185_4 P) .nil .nil) (.node (x249_5 P) .nil .nil))))) (.node (x13_0 P) (.node (x21_1 P) (.node (x37_1 P) (.node (x69_2 P) (.node (x133_3 P) (.node (x261_5 P) .nil .nil) .nil) (.node (x197_4 P) .nil .nil)) (.node (x101_3 P) (.node (x165_3 P) .nil .nil) (.node (x229_4 P) .nil .nil))) (.node (x53_2 P) (.node (x85_3 P) (.node (x149_3 P) .nil .nil) (.node (x213_4 P) .nil .nil)) (.node (x117_3 P) (.node (x181_4 P) .nil .nil) (.node (x245_5 P) .nil .nil)))) (.node (x29_1 P) (.node (x45_2 P) (.node (x77_2 P) (.node (x141_3 P) .nil .nil) (.node (x205_4 P) .nil .nil)) (.node (x109_3 P) (.node (x173_4 P) .nil .nil) (.node (x237_4 P) .nil .nil))) (.node (x61_2 P) (.node (x93_3 P) (.node (x157_3 P) .nil .nil) (.node (x221_4 P) .nil .nil)) (.node (x125_3 P) (.node (x189_4 P) .nil .nil) (.node (x253_5 P) .nil .nil))))))) (.node (boot_o_2 P) (.node (boot_o_4 P) (.node (boot_o_8 P) (.node (x16_1 P) (.node (x32_1 P) (.node (x64_2 P) (.node (x128_3 P) (.node (x256_5 P) .nil .nil) .nil) (.node (x192_4 P) .nil .nil)) (.node (x96_3 P) (.node (x160_3 P) .nil .nil) (.node (x224_4 P) .nil .nil))) (.node (x48_2 P) (.node (x80_3 P) (.node (x144_3 P) .nil .nil) (.node (x208_4 P) .nil .nil)) (.node (x112_3 P) (.node (x176_4 P) .nil .nil) (.node (x240_4 P) .nil .nil)))) (.node (x24_1 P) (.node (x40_1 P) (.node (x72_2 P) (.node (x136_3 P) (.node (x264_5 P) .nil .nil) .nil) (.node (x200_4 P) .nil .nil)) (.node (x104_3 P) (.node (x168_4 P) .nil .nil) (.node (x232_4 P) .nil .nil))) (.node (x56_2 P) (.node (x88_3 P) (.node (x152_3 P) .nil .nil) (.node (x216_4 P) .nil .nil)) (.node (x120_3 P) (.node (x184_4 P) .nil .nil) (.node (x248_5 P) .nil .nil))))) (.node (x12_5 P) (.node (x20_1 P) (.node (x36_1 P) (.node (x68_2 P) (.node (x132_3 P) (.node (x260_5 P) .nil .nil) .nil) (.node (x196_4 P) .nil .nil)) (.node (x100_3 P) (.node (x164_3 P) .nil .nil) (.node (x228_4 P) .nil .nil))) (.node (x52_2 P) (.node (x84_3 P) (.node (x148_3 P) .nil .nil) (.node (x212_4 P) .nil .nil)) (.node (x116_3 P) (.node (x180_4 P) .nil .nil) (.node (x244_5 P) .nil .nil)))) (.node (x28_1 P) (.node (x44_2 P) (.node (x76_2 P) (.node (x140_3 P) .nil .nil) (.node (x204_4 P) .nil .nil)) (.node (x108_3 P) (.node (x172_4 P) .nil .nil) (.node (x236_4 P) .nil .nil))) (.node (x60_2 P) (.node (x92_3 P) (.node (x156_3 P) .nil .nil) (.node (x220_4 P) .nil .nil)) (.node (x124_3 P) (.node (x188_4 P) .nil .nil) (.node (x252_5 P) .nil .nil)))))) (.node (boot_o_6 P) (.node (boot_o_10 P) (.node (x18_1 P) (.node (x34_1 P) (.node (x66_2 P) (.node (x130_3 P) (.node (x258_5 P) .nil .nil) .nil) (.node (x194_4 P) .nil .nil)) (.node (x98_3 P) (.node (x162_3 P) .nil .nil) (.node (x226_4 P) .nil .nil))) (.node (x50_2 P) (.node (x82_3 P) (.node (x146_3 P) .nil .nil) (.node (x210_4 P) .nil .nil)) (.node (x114_3 P) (.node (x178_4 P) .nil .nil) (.node (x242_4 P) .nil .nil)))) (.node (x26_1 P) (.node (x42_2 P) (.node (x74_2 P) (.node (x138_3 P) .nil .nil) (.node (x202_4 P) .nil .nil)) (.node (x106_3 P) (.node (x170_4 P) .nil .nil) (.node (x234_4 P) .nil .nil))) (.node (x58_2 P) (.node (x90_3 P) (.node (x154_3 P) .nil .nil) (.node (x218_4 P) .nil .nil)) (.node (x122_3 P) (.node (x186_4 P) .nil .nil) (.node (x250_5 P) .nil .nil))))) (.node (x14_0 P) (.node (x22_1 P) (.node (x38_3 P) (.node (x70_2 P) (.node (x134_3 P) (.node (x262_5 P) .nil .nil) .nil) (.node (x198_4 P) .nil .nil)) (.node (x102_3 P) (.node (x166_3 P) .nil .nil) (.node (x230_4 P) .nil .nil))) (.node (x54_2 P) (.node (x86_3 P) (.node (x150_3 P) .nil .nil) (.node (x214_4 P) .nil .nil)) (.node (x118_3 P) (.node (x182_4 P) .nil .nil) (.node (x246_5 P) .nil .nil)))) (.node (x30_1 P) (.node (x46_2 P) (.node (x78_3 P) (.node (x142_3 P) .nil .nil) (.node (x206_4 P) .nil .nil)) (.node (x110_3 P) (.node (x174_4 P) .nil .nil) (.node (x238_4 P) .nil .nil))) (.node (x62_2 P) (.node (x94_3 P) (.node (x158_3 P) .nil .nil) (.node (x222_4 P) .nil .nil)) (.node (x126_3 P) (.node (x190_4 P) .nil .nil) (.node (x254_5 P) .nil .nil))))))))
noncomputable def s5 (P : Params) (os : OsState) : SharedT := shr (T5 P) 265 517 os
noncomputable def shV (v : Int) : Int := if (1 : Int) ≥ (Builtin.Int.intBits v : Int) then (if v < 0 then -1 else 0) else v.fdiv (2 ^ (1 : Int).toNat)
noncomputable def puV (v : Int) : Int := if Builtin.bitAnd v 1 = 1 then Builtin.bitXor (shV v) 3988292384 else shV v
noncomputable def puK (v : Int) (k : Nat) : Nat := if Builtin.bitAnd v 1 = 1 then k + 8 else k + 7
noncomputable def it : Nat → Int → Nat → Value → Int → Nat → Int × Nat × Value × Nat
  | 0, v, t, kv, _, k => (v, t, kv, k)
  | n + 1, v, _, _, j, k => it n (puV v) (puK v k - 2) (.int j k) (j + 1) (puK v k)
noncomputable def tkV (v : Value) : Nat := match v with | .int _ t => t | _ => 0
noncomputable def czsq : Nat → Nat × Nat
  | 0 => (524, 0)
  | b + 1 => ((it 8 b 0 .none 0 ((czsq b).1 + 3)).2.2.2 + 3, tkV (it 8 b 0 .none 0 ((czsq b).1 + 3)).2.2.1)
noncomputable def tk (b : Nat) : Nat := (czsq b).1
noncomputable def rw8 (b : Nat) : Int × Nat × Value × Nat := it 8 b 0 .none 0 (tk b + 3)
noncomputable def rwV (b : Nat) : Value := .int (rw8 b).1 (rw8 b).2.1
noncomputable def rwL : Nat → List Value
  | 0 => []
  | b + 1 => rwL b ++ [rwV b]
noncomputable def lc0 (P : Params) : Obj := ⟨.type "frame", none, .dict #[en P "table" 517 (.ref 266), en P "byte" 522 (.int 0 521), en P "value" 523 (.int 0 521)] 3, #[]⟩
noncomputable def ls (b : Nat) : Obj := ⟨.type "list", none, .seq (rwL b).toArray b, #[]⟩
noncomputable def rng (a e s : Nat) (x : Int) : Obj := ⟨.type "range", none, .fields #[.int 0 a, .int x e, .int 1 s], #[]⟩
noncomputable def rg (r : Nat) : Obj := rng r (r - 1) (r + 1) 8
noncomputable def r256 : Obj := rng 519 518 520 256
noncomputable def rit (x y : Int) : Obj := ⟨.type "range_iterator", none, .fields #[.int x 0, .int y 0, .int 1 0], #[]⟩
noncomputable def oi (b : Nat) : Obj := rit ((b : Int) + 1) (255 - (b : Int))
noncomputable def se (a : Nat) : Obj := ⟨.type "StopIteration", none, .fields #[.ref a, .none, .none, .none, .bool false, .none], #[]⟩
noncomputable def czgO (x r : Nat) : Obj := bif Nat.beq r 0 then rg (tk x + 1) else bif Nat.beq r 1 then rit 8 0 else bif Nat.beq r 2 then tup0 else se (271 + 4 * x)
noncomputable def fF (k : Nat) : Obj := czgO (k / 4) (k % 4)
noncomputable def cF (i : Nat) : Obj := if i < 269 then default else fF (i - 269)
noncomputable def thrA (p : Program) (w : World) (b : List Stmt) (os : OsState) : Thread := match goW p (wF w) 92 (s5 w.params os) (thr6 b) with | some r => r.2 | none => thr6 b
noncomputable def lcE (P : Params) : Obj := ⟨.type "frame", none, .dict #[en P "table" 517 (.ref 266), en P "byte" 522 (.int 255 17349), en P "value" 523 (.int 755167117 17415), en P "k" 528 (.int 7 17410)] 4, #[]⟩
noncomputable def tF (f : Nat → Obj) : Nat → BT
  | 0 => .nil
  | d + 1 => .node (f 0) (tF (fun i => f (2 * i + 1)) d) (tF (fun i => f (2 * i + 2)) d)
noncomputable def bnd : BT → Nat → Bool
  | .nil, _ => true
  | .node _ l r, n => Nat.blt 0 n && (bnd l (n / 2) && bnd r ((n - 1) / 2))
noncomputable def gE (P : Params) : Obj := ⟨(.type "dict"), none, dA (x3_5 P) [en P "_TABLE" 17417 (.ref 266)] (match (x3_5 P).data with | .dict _ n => n + 1 | _ => 0), #[]⟩
noncomputable def tz (P : Params) : BT := insL (T5 P) 265 [tup0, tup0, r256, tup0]
noncomputable def tb3 (P : Params) (x y z : Obj) : BT := (((tz P).set 265 fun _ => x).set 266 fun _ => y).set 268 fun _ => z
noncomputable def hotc (A : Nat) (h : List Obj) (c : Nat → Obj) : Nat → Obj := fun i => if A ≤ i then h.getD (i - A) default else c i
noncomputable def T6 (P : Params) : BT := tF (fun i => (((tb3 P (lcE P) (ls 256) (rit 256 0)).set 3 fun _ => gE P).get i).getD (hotc (4 * 255 + 269) [rg (tk 255 + 1), rit 8 0, tup0, se (4 * 255 + 271), tup0, se 1293] cF i)) 11
noncomputable def s6 (P : Params) (os : OsState) : SharedT := shr (T6 P) 1295 17418 os
noncomputable def x3_7 (P : Params) : Obj := ⟨(.type "dict"), none, dA (gE P) [en P "crc32" 17428 (.ref 1302), en P "adler32" 17440 (.ref 1310), en P "fletcher16" 17452 (.ref 1318), en P "xor8" 17463 (.ref 1326), en P "sum8" 17474 (.ref 1334), en P "_WIDTHS" 17493 (.ref 1335), en P "width" 17500 (.ref 1342), en P "first" 17507 (.ref 1349), en P "go_on" 17516 (.ref 1356)] 32, #[]⟩
noncomputable def x12_7 (P : Params) : Obj := ⟨.none, none, fA (x12_5 P) [(.int 162 0), (.int 0 0), (.ref 1301), (.int 167 0), (.int 0 0), (.ref 1309), (.int 174 0), (.int 0 0), (.ref 1317), (.int 181 0), (.int 0 0), (.ref 1325), (.int 186 0), (.int 0 0), (.ref 1333), (.int 192 0), (.int 0 0), (.ref 1341), (.int 196 0), (.int 0 0), (.ref 1348), (.int 201 0), (.int 0 0), (.ref 1355)], #[]⟩
noncomputable def m0 : Value := (vs "packkit.checks" 503)
noncomputable def T7 (P : Params) : BT := insL (setL (T6 P) [(3, (x3_7 P)), (12, (x12_7 P))]) 1295 ([⟨(.type "tuple"), none, .seq #[(.int 0 17418)] 0, #[]⟩] ++ ((fnB 1296 17419 17426 (S 17) "crc32" "crc32" ["data", "start", "value", "byte"] 162 2 (.ref 1295) m0) ++ ([⟨(.type "tuple"), none, .seq #[(.int 1 17429)] 0, #[]⟩] ++ ((fnB 1304 17430 17438 (S 18) "adler32" "adler32" ["data", "start", "low", "high", "byte"] 167 2 (.ref 1303) m0) ++ ([⟨(.type "tuple"), none, .seq #[(.int 0 17441)] 0, #[]⟩] ++ ((fnB 1312 17442 17450 (S 19) "fletcher16" "fletcher16" ["data", "start", "low", "high", "byte"] 174 2 (.ref 1311) m0) ++ ([⟨(.type "tuple"), none, .seq #[(.int 0 17453)] 0, #[]⟩] ++ ((fnB 1320 17454 17461 (S 20) "xor8" "xor8" ["data", "start", "value", "byte"] 181 2 (.ref 1319) m0) ++ ([⟨(.type "tuple"), none, .seq #[(.int 0 17464)] 0, #[]⟩] ++ ((fnB 1328 17465 17472 (S 21) "sum8" "sum8" ["data", "start", "value", "byte"] 186 2 (.ref 1327) m0) ++ ([⟨(.type "dict"), none, .dict #[en P "none" 17475 (.int 0 17476), en P "xor8" 17477 (.int 1 17478), en P "sum8" 17479 (.int 1 17480), en P "fletcher16" 17481 (.int 2 17482), en P "adler32" 17483 (.int 4 17484), en P "crc32" 17485 (.int 4 17486)] 6, #[]⟩] ++ ((fnB 1336 17494 17498 (S 23) "width" "width" ["kind"] 192 1 .none m0) ++ ((fnB 1343 17501 17505 (S 24) "first" "first" ["kind"] 196 1 .none m0) ++ (fnB 1350 17508 17514 (S 25) "go_on" "go_on" ["kind", "value", "data"] 201 3 .none m0))))))))))))))
noncomputable def s7 (P : Params) (os : OsState) : SharedT := shr (T7 P) 1357 17517 os
noncomputable def x3_8 (P : Params) : Obj := ⟨(.type "dict"), none, dB (x3_7 P) [(0, en P "__name__" 165 (vs "packkit.huffman" 17575))] [en P "check" 17524 (.ref 1363), en P "_MOST" 17528 (.int 130 17527), en P "split_runs" 17539 (.ref 1370), en P "_literals" 17549 (.ref 1377), en P "pack" 17561 (.ref 1384), en P "pack_runs" 17562 (.ref 1384), en P "unpack" 17573 (.ref 1391), en P "unpack_runs" 17574 (.ref 1391), en P "LIMIT" 17578 (.int 15 17577), en P "count_bytes" 17587 (.ref 1398), en P "_depths" 17604 (.ref 1405), en P "code_lengths" 17610 (.ref 1411), en P "kraft" 17619 (.ref 1418), en P "canonical" 17632 (.ref 1425)] 46, #[]⟩
noncomputable def x12_8 (P : Params) : Obj := ⟨.none, none, fA (x12_7 P) [(.int 214 0), (.int 0 0), (.ref 1362), (.int 218 0), (.int 0 0), (.ref 1369), (.int 229 0), (.int 0 0), (.ref 1376), (.int 236 0), (.int 0 0), (.ref 1383), (.int 253 0), (.int 0 0), (.ref 1390), (.int 274 0), (.int 0 0), (.ref 1397), (.int 279 0), (.int 0 0), (.ref 1404), (.int 302 0), (.int 0 0), (.ref 1410), (.int 326 0), (.int 0 0), (.ref 1417), (.int 332 0), (.int 0 0), (.ref 1424)], #[]⟩
noncomputable def m1 : Value := (vs "packkit.runs" 17525)
noncomputable def m2 : Value := (vs "packkit.huffman" 17575)
noncomputable def T8 (P : Params) : BT := insL (setL (T7 P) [(3, (x3_8 P)), (12, (x12_8 P))]) 1357 ((fnB 1357 17517 17522 (S 26) "check" "check" ["kind", "data"] 214 2 .none m0) ++ ((fnB 1364 17529 17537 (S 29) "split_runs" "split_runs" ["data", "runs", "i", "total", "j"] 218 1 .none m1) ++ ((fnB 1371 17540 17547 (S 30) "_literals" "_literals" ["out", "held", "at", "piece"] 229 2 .none m1) ++ ((fnB 1378 17550 17559 (S 31) "pack" "pack" ["data", "out", "held", "byte", "count", "part"] 236 1 .none m1) ++ ((fnB 1385 17563 17571 (S 33) "unpack" "unpack" ["data", "out", "at", "total", "head"] 253 1 .none m1) ++ ((fnB 1392 17579 17585 (S 37) "count_bytes" "count_bytes" ["data", "counts", "byte"] 274 1 .none m2) ++ ((fnB 1399 17588 17602 (S 38) "_depths" "_depths" ["weights", "heap", "order", "weight", "leaf", "depths", "one", "two", "joined", "item", "place"] 279 1 .none m2) ++ ([⟨(.type "tuple"), none, .seq #[(.int 15 17577)] 0, #[]⟩, tup0, nul, ⟨.none, none, fo (S 39) (q "code_lengths") .none .none .none .none none .none .none 0 0, #[]⟩, ⟨(.type "code"), none, .fields #[(vs "code_lengths" 17605), (vs "code_lengths" 17606), (vs "/claim/cut.py" 17607), (.int 302 0), (.int 2 0), (.int 0 0), (.int 0 0), (.int 3 0), (.ref 1407), (.bool true), (.int 181 0), (.ref 1408), .none, .none, .none, (.ref 1409), (.int 17608 0), (.int 302 0), (vs "/claim/cut.py" 17609)], #[]⟩, ⟨(.type "function"), none, fo (S 39) (q "code_lengths") (.ref 1406) .none .none (vs "packkit.huffman" 17575) none (.ref 1410) .none 3 0, #[]⟩] ++ ((fnB 1412 17611 17617 (S 40) "kraft" "kraft" ["lengths", "total", "length"] 326 1 .none m2) ++ (fnB 1419 17620 17630 (S 41) "canonical" "canonical" ["lengths", "codes", "order", "symbol", "code", "before", "length"] 332 1 .none m2))))))))))
noncomputable def s8 (P : Params) (os : OsState) : SharedT := shr (T8 P) 1426 17633 os
noncomputable def x3_9 (P : Params) : Obj := ⟨(.type "dict"), none, dB (x3_8 P) [(0, en P "__name__" 165 (vs "packkit.lz77" 17727)), (36, en P "pack" 17561 (.ref 1474)), (38, en P "unpack" 17573 (.ref 1481))] [en P "Decoder" 17675 (.ref 1449), en P "write_lengths" 17686 (.ref 1460), en P "read_lengths" 17697 (.ref 1467), en P "pack_huffman" 17712 (.ref 1474), en P "unpack_huffman" 17726 (.ref 1481), en P "WINDOW" 17730 (.int 4096 17729), en P "LEAST" 17732 (.int 3 17731), en P "MOST_lz77" 17734 (.int 258 17733), en P "CHAIN" 17736 (.int 32 17735), en P "_common" 17747 (.ref 1488)] 56, #[]⟩
noncomputable def x12_9 (P : Params) : Obj := ⟨.none, none, fA (x12_8 P) [(.int 347 0), (.int 0 0), (.ref 1431), (.int 365 0), (.int 0 0), (.ref 1459), (.int 379 0), (.int 0 0), (.ref 1466), (.int 391 0), (.int 0 0), (.ref 1473), (.int 404 0), (.int 0 0), (.ref 1480), (.int 424 0), (.int 0 0), (.ref 1487)], #[]⟩
noncomputable def m3 : Value := (vs "packkit.lz77" 17727)
noncomputable def T9 (P : Params) : BT := insL (setL (T8 P) [(3, (x3_9 P)), (12, (x12_9 P))]) 1426 ([tup0, ⟨(.type "builtin_function_or_method"), none, .fields #[(.builtin "type.__prepare__"), (.type "type")], #[]⟩, ⟨(.type "dict"), none, .dict #[en P "__module__" 17640 (vs "packkit.huffman" 17575), en P "__qualname__" 17642 (vs "Decoder" 17641), en P "__firstlineno__" 17644 (.int 347 17643), en P "__init__" 17656 (.ref 1439), en P "symbol" 17666 (.ref 1446), en P "__static_attributes__" 17668 (.ref 1447)] 6, #[]⟩, tup0, ⟨.none, none, .fields #[(.int 349 0), (.int 4 0), (.ref 1438), (.int 358 0), (.int 4 0), (.ref 1445)], #[]⟩, ⟨(.type "code"), none, .fields #[(vs "Decoder" 17635), (vs "Decoder" 17636), (vs "/claim/cut.py" 17637), (.int 347 0), (.int 0 0), (.int 0 0), (.int 0 0), (.int 0 0), (.ref 1429), (.bool false), (.int 181 0), (.ref 1430), .none, .none, .none, .none, (.int 17638 0), (.int 347 0), (vs "/claim/cut.py" 17639)], #[]⟩, ⟨(.type "frame"), none, .plain, #[some (.ref 1431), some (.ref 3), some (.ref 1428), none, some (vs "packkit.huffman" 17575), none, some (.ref 0)]⟩] ++ ((fnB 1433 17645 17654 (C 42 0) "__init__" "Decoder.__init__" ["self", "lengths", "codes", "symbol", "code", "length"] 349 2 .none m2) ++ ((fnB 1440 17657 17664 (C 42 1) "symbol" "Decoder.symbol" ["self", "reader", "code", "length"] 358 2 .none m2) ++ ([⟨(.type "tuple"), none, .seq #[(vs "_table" 17667)] 0, #[]⟩, ⟨(.type "dict"), none, .dict #[en P "__module__" 17640 (vs "packkit.huffman" 17575), en P "__firstlineno__" 17644 (.int 347 17643), en P "__init__" 17656 (.ref 1439), en P "symbol" 17666 (.ref 1446), en P "__static_attributes__" 17668 (.ref 1447), en P "__dict__" 17670 (.ref 1450), en P "__weakref__" 17672 (.ref 1451), en P "__doc__" 17673 .none] 4, #[]⟩, ⟨(.type "type"), none, .cls { name := (q "Decoder"), bases := [(.type "object")], mro := [(.ref 1449), (.type "object")], ns := 1448, qualname := (q "Decoder"), hasDict := true, slotNames := [], subclasses := [], abstract := false, collection := .none, hasDel := false }, #[none, none, some (vs "Decoder" 17633), some (vs "Decoder" 17641), some (.builtin "object.__new__"), some (.bool true)]⟩, ⟨(.type "getset_descriptor"), none, .fields #[(vs "__dict__" 17669), (.ref 1449), (.builtin "function.__dict__"), (.builtin "function.__dict__#set")], #[]⟩, ⟨(.type "getset_descriptor"), none, .fields #[(vs "__weakref__" 17671), (.ref 1449), (.builtin "ExceptionGroup.__weakref__"), .none], #[]⟩, ⟨(.type "super"), none, .fields #[(.ref 1449), (.ref 1449), (.ref 1449)], #[]⟩, ⟨(.type "builtin_function_or_method"), none, .fields #[(.builtin "object.__init_subclass__"), (.ref 1449)], #[]⟩] ++ ((fnB 1454 17676 17684 (S 43) "write_lengths" "write_lengths" ["writer", "lengths", "i", "total", "j"] 365 2 .none m2) ++ ((fnB 1461 17687 17695 (S 44) "read_lengths" "read_lengths" ["reader", "total", "lengths", "length", "count"] 379 2 .none m2) ++ ((fnB 1468 17698 17709 (S 45) "pack" "pack" ["data", "head", "lengths", "codes", "writer", "byte", "code", "length"] 391 1 .none m2) ++ ((fnB 1475 17713 17723 (S 47) "unpack" "unpack" ["data", "size", "at", "reader", "decoder", "out", "k"] 404 1 .none m2) ++ (fnB 1482 17737 17745 (S 54) "_common" "_common" ["data", "i", "j", "most", "count"] 424 4 .none m3)))))))))
noncomputable def s9 (P : Params) (os : OsState) : SharedT := shr (T9 P) 1489 17748 os
noncomputable def x3_10 (P : Params) : Obj := ⟨(.type "dict"), none, dA (x3_9 P) [en P "Finder" 17804 (.ref 1519), en P "tokens" 17818 (.ref 1531), en P "expand" 17829 (.ref 1538)] 59, #[]⟩
noncomputable def x12_10 (P : Params) : Obj := ⟨.none, none, fA (x12_9 P) [(.int 429 0), (.int 0 0), (.ref 1494), (.int 462 0), (.int 0 0), (.ref 1530), (.int 479 0), (.int 0 0), (.ref 1537)], #[]⟩
noncomputable def T10 (P : Params) : BT := insL (setL (T9 P) [(3, (x3_10 P)), (12, (x12_10 P))]) 1489 ([tup0, ⟨(.type "builtin_function_or_method"), none, .fields #[(.builtin "type.__prepare__"), (.type "type")], #[]⟩, ⟨(.type "dict"), none, .dict #[en P "__module__" 17755 (vs "packkit.lz77" 17727), en P "__qualname__" 17757 (vs "Finder" 17756), en P "__firstlineno__" 17759 (.int 429 17758), en P "__init__" 17768 (.ref 1502), en P "add" 17777 (.ref 1509), en P "best" 17793 (.ref 1516), en P "__static_attributes__" 17797 (.ref 1517)] 7, #[]⟩, tup0, ⟨.none, none, .fields #[(.int 431 0), (.int 4 0), (.ref 1501), (.int 436 0), (.int 4 0), (.ref 1508), (.int 443 0), (.int 4 0), (.ref 1515)], #[]⟩, ⟨(.type "code"), none, .fields #[(vs "Finder" 17750), (vs "Finder" 17751), (vs "/claim/cut.py" 17752), (.int 429 0), (.int 0 0), (.int 0 0), (.int 0 0), (.int 0 0), (.ref 1492), (.bool false), (.int 181 0), (.ref 1493), .none, .none, .none, .none, (.int 17753 0), (.int 429 0), (vs "/claim/cut.py" 17754)], #[]⟩, ⟨(.type "frame"), none, .plain, #[some (.ref 1494), some (.ref 3), some (.ref 1491), none, some (vs "packkit.lz77" 17727), none, some (.ref 0)]⟩] ++ ((fnB 1496 17760 17766 (C 55 0) "__init__" "Finder.__init__" ["self", "data", "window"] 431 3 .none m3) ++ ((fnB 1503 17769 17775 (C 55 1) "add" "Finder.add" ["self", "at", "key"] 436 2 .none m3) ++ ((fnB 1510 17778 17791 (C 55 2) "best" "Finder.best" ["self", "at", "key", "most", "found", "tried", "places", "k", "distance", "length"] 443 2 .none m3) ++ ([⟨(.type "tuple"), none, .seq #[(vs "_data" 17794), (vs "_places" 17795), (vs "_window" 17796)] 0, #[]⟩, ⟨(.type "dict"), none, .dict #[en P "__module__" 17755 (vs "packkit.lz77" 17727), en P "__firstlineno__" 17759 (.int 429 17758), en P "__init__" 17768 (.ref 1502), en P "add" 17777 (.ref 1509), en P "best" 17793 (.ref 1516), en P "__static_attributes__" 17797 (.ref 1517), en P "__dict__" 17799 (.ref 1520), en P "__weakref__" 17801 (.ref 1521), en P "__doc__" 17802 .none] 4, #[]⟩, ⟨(.type "type"), none, .cls { name := (q "Finder"), bases := [(.type "object")], mro := [(.ref 1519), (.type "object")], ns := 1518, qualname := (q "Finder"), hasDict := true, slotNames := [], subclasses := [], abstract := false, collection := .none, hasDel := false }, #[none, none, some (vs "Finder" 17748), some (vs "Finder" 17756), some (.builtin "object.__new__"), some (.bool true)]⟩, ⟨(.type "getset_descriptor"), none, .fields #[(vs "__dict__" 17798), (.ref 1519), (.builtin "function.__dict__"), (.builtin "function.__dict__#set")], #[]⟩, ⟨(.type "getset_descriptor"), none, .fields #[(vs "__weakref__" 17800), (.ref 1519), (.builtin "ExceptionGroup.__weakref__"), .none], #[]⟩, ⟨(.type "super"), none, .fields #[(.ref 1519), (.ref 1519), (.ref 1519)], #[]⟩, ⟨(.type "builtin_function_or_method"), none, .fields #[(.builtin "object.__init_subclass__"), (.ref 1519)], #[]⟩, ⟨(.type "tuple"), none, .seq #[(.int 4096 17729)] 0, #[]⟩] ++ ((fnB 1525 17805 17816 (S 56) "tokens" "tokens" ["data", "window", "finder", "out", "at", "distance", "length", "k"] 462 2 (.ref 1524) m3) ++ (fnB 1532 17819 17827 (S 57) "expand" "expand" ["toks", "out", "tok", "distance", "k"] 479 1 .none m3)))))))
noncomputable def s10 (P : Params) (os : OsState) : SharedT := shr (T10 P) 1539 17830 os
noncomputable def x3_11 (P : Params) : Obj := ⟨(.type "dict"), none, dB (x3_10 P) [(0, en P "__name__" 165 (vs "packkit.pairs" 17878)), (36, en P "pack" 17561 (.ref 1560)), (38, en P "unpack" 17573 (.ref 1567))] [en P "write_tokens" 17843 (.ref 1545), en P "read_tokens" 17858 (.ref 1552), en P "pack_lz77" 17867 (.ref 1560), en P "unpack_lz77" 17877 (.ref 1567), en P "ROUNDS" 17881 (.int 64 17880), en P "MOST_pairs" 17885 (.int 67108864 17884), en P "count_pairs" 17895 (.ref 1574), en P "best_pair" 17906 (.ref 1581), en P "replace_pair" 17917 (.ref 1588), en P "unused" 17926 (.ref 1595), en P "shorten" 17940 (.ref 1603), en P "lengthen" 17953 (.ref 1610), en P "grown" 17959 (.ref 1615)] 72, #[]⟩
noncomputable def x12_11 (P : Params) : Obj := ⟨.none, none, fA (x12_10 P) [(.int 491 0), (.int 0 0), (.ref 1544), (.int 512 0), (.int 0 0), (.ref 1551), (.int 543 0), (.int 0 0), (.ref 1559), (.int 546 0), (.int 0 0), (.ref 1566), (.int 553 0), (.int 0 0), (.ref 1573), (.int 564 0), (.int 0 0), (.ref 1580), (.int 573 0), (.int 0 0), (.ref 1587), (.int 584 0), (.int 0 0), (.ref 1594), (.int 592 0), (.int 0 0), (.ref 1602), (.int 607 0), (.int 0 0), (.ref 1609), (.int 618 0), (.int 0 0), (.ref 1614)], #[]⟩
noncomputable def m4 : Value := (vs "packkit.pairs" 17878)
noncomputable def T11 (P : Params) : BT := insL (setL (T10 P) [(3, (x3_11 P)), (12, (x12_11 P))]) 1539 ((fnB 1539 17830 17841 (S 58) "write_tokens" "write_tokens" ["toks", "parts", "at", "group", "marks", "body", "k", "tok"] 491 1 .none m3) ++ ((fnB 1546 17844 17856 (S 59) "read_tokens" "read_tokens" ["data", "total", "out", "at", "done", "marks", "k", "distance", "length"] 512 2 .none m3) ++ ([⟨(.type "tuple"), none, .seq #[(.int 4096 17729)] 0, #[]⟩] ++ ((fnB 1554 17859 17864 (S 60) "pack" "pack" ["data", "window"] 543 2 (.ref 1553) m3) ++ ((fnB 1561 17868 17874 (S 62) "unpack" "unpack" ["data", "total", "at"] 546 1 .none m3) ++ ((fnB 1568 17886 17893 (S 67) "count_pairs" "count_pairs" ["row", "counts", "i", "pair"] 553 1 .none m4) ++ ((fnB 1575 17896 17904 (S 68) "best_pair" "best_pair" ["row", "best", "most", "counts", "pair"] 564 1 .none m4) ++ ((fnB 1582 17907 17915 (S 69) "replace_pair" "replace_pair" ["row", "pair", "byte", "out", "i"] 573 3 .none m4) ++ ((fnB 1589 17918 17924 (S 70) "unused" "unused" ["row", "seen", "byte"] 584 1 .none m4) ++ ([⟨(.type "tuple"), none, .seq #[(.int 64 17880)] 0, #[]⟩] ++ ((fnB 1597 17927 17938 (S 71) "shorten" "shorten" ["data", "rounds", "row", "rules", "used", "pair", "count", "byte"] 592 2 (.ref 1596) m4) ++ ((fnB 1604 17941 17951 (S 72) "lengthen" "lengthen" ["rules", "row", "byte", "one", "two", "out", "value"] 607 2 .none m4) ++ [tup0, nul, ⟨.none, none, fo (S 73) (q "grown") .none .none .none .none none .none .none 0 0, #[]⟩, ⟨(.type "code"), none, .fields #[(vs "grown" 17954), (vs "grown" 17955), (vs "/claim/cut.py" 17956), (.int 618 0), (.int 2 0), (.int 0 0), (.int 0 0), (.int 3 0), (.ref 1611), (.bool true), (.int 181 0), (.ref 1612), .none, .none, .none, (.ref 1613), (.int 17957 0), (.int 618 0), (vs "/claim/cut.py" 17958)], #[]⟩, ⟨(.type "function"), none, fo (S 73) (q "grown") .none .none .none (vs "packkit.pairs" 17878) none (.ref 1614) .none 3 0, #[]⟩]))))))))))))
noncomputable def s11 (P : Params) (os : OsState) : SharedT := shr (T11 P) 1616 17960 os
noncomputable def x3_12 (P : Params) : Obj := ⟨(.type "dict"), none, dB (x3_11 P) [(0, en P "__name__" 165 (vs "packkit.methods" 18004)), (36, en P "pack" 17561 (.ref 1622)), (38, en P "unpack" 17573 (.ref 1643))] [en P "pack_pairs" 17973 (.ref 1622), en P "read_rules" 17984 (.ref 1629), en P "size" 17993 (.ref 1636), en P "unpack_pairs" 18003 (.ref 1643), en P "_store" 18012 (.ref 1650), en P "_both" 18019 (.ref 1657), en P "_unboth" 18026 (.ref 1664), en P "NAMES" 18033 (.ref 1665), en P "THERE_methods" 18046 (.ref 1666)] 81, #[]⟩
noncomputable def x12_12 (P : Params) : Obj := ⟨.none, none, fA (x12_11 P) [(.int 623 0), (.int 0 0), (.ref 1621), (.int 633 0), (.int 0 0), (.ref 1628), (.int 642 0), (.int 0 0), (.ref 1635), (.int 645 0), (.int 0 0), (.ref 1642), (.int 652 0), (.int 0 0), (.ref 1649), (.int 654 0), (.int 0 0), (.ref 1656), (.int 656 0), (.int 0 0), (.ref 1663)], #[]⟩
noncomputable def m5 : Value := (vs "packkit.methods" 18004)
noncomputable def T12 (P : Params) : BT := insL (setL (T11 P) [(3, (x3_12 P)), (12, (x12_12 P))]) 1616 ((fnB 1616 17960 17970 (S 74) "pack" "pack" ["data", "rules", "row", "parts", "byte", "one", "two"] 623 1 .none m4) ++ ((fnB 1623 17974 17982 (S 76) "read_rules" "read_rules" ["data", "count", "at", "rules", "k"] 633 1 .none m4) ++ ((fnB 1630 17985 17991 (S 77) "size" "size" ["data", "rules", "row"] 642 1 .none m4) ++ ((fnB 1637 17994 18000 (S 78) "unpack" "unpack" ["data", "rules", "row"] 645 1 .none m4) ++ ((fnB 1644 18006 18010 (S 81) "_store" "_store" ["data"] 652 1 .none m5) ++ ((fnB 1651 18013 18017 (S 82) "_both" "_both" ["data"] 654 1 .none m5) ++ ((fnB 1658 18020 18024 (S 83) "_unboth" "_unboth" ["data"] 656 1 .none m5) ++ [⟨(.type "list"), none, .seq #[(vs "store" 18027), (vs "runs" 18028), (vs "huffman" 18029), (vs "lz" 18030), (vs "pairs" 18031), (vs "lzhuff" 18032)] 0, #[]⟩, ⟨(.type "dict"), none, .dict #[en P "store" 18034 (.ref 1650), en P "runs" 18035 (.ref 1384), en P "huffman" 18036 (.ref 1474), en P "lz" 18037 (.ref 1560), en P "pairs" 18038 (.ref 1622), en P "lzhuff" 18039 (.ref 1657)] 6, #[]⟩])))))))
noncomputable def s12 (P : Params) (os : OsState) : SharedT := shr (T12 P) 1667 18047 os
noncomputable def x3_13 (P : Params) : Obj := ⟨(.type "dict"), none, dB (x3_12 P) [(0, en P "__name__" 165 (vs "packkit.blocks" 18102)), (36, en P "pack" 17561 (.ref 1674)), (38, en P "unpack" 17573 (.ref 1681))] [en P "BACK_methods" 18059 (.ref 1667), en P "pack_methods" 18068 (.ref 1674), en P "unpack_methods" 18077 (.ref 1681), en P "number_of" 18084 (.ref 1688), en P "sizes" 18090 (.ref 1693), en P "shortest" 18101 (.ref 1700)] 87, #[]⟩
noncomputable def x12_13 (P : Params) : Obj := ⟨.none, none, fA (x12_12 P) [(.int 661 0), (.int 0 0), (.ref 1673), (.int 666 0), (.int 0 0), (.ref 1680), (.int 671 0), (.int 0 0), (.ref 1687), (.int 675 0), (.int 0 0), (.ref 1692), (.int 677 0), (.int 0 0), (.ref 1699)], #[]⟩
noncomputable def T13 (P : Params) : BT := insL (setL (T12 P) [(3, (x3_13 P)), (12, (x12_13 P))]) 1667 ([⟨(.type "dict"), none, .dict #[en P "store" 18047 (.ref 1650), en P "runs" 18048 (.ref 1391), en P "huffman" 18049 (.ref 1481), en P "lz" 18050 (.ref 1567), en P "pairs" 18051 (.ref 1643), en P "lzhuff" 18052 (.ref 1664)] 6, #[]⟩] ++ ((fnB 1668 18060 18065 (S 87) "pack" "pack" ["name", "data"] 661 2 .none m5) ++ ((fnB 1675 18069 18074 (S 89) "unpack" "unpack" ["name", "data"] 666 2 .none m5) ++ ((fnB 1682 18078 18082 (S 91) "number_of" "number_of" ["name"] 671 1 .none m5) ++ ([tup0, nul, ⟨.none, none, fo (S 92) (q "sizes") .none .none .none .none none .none .none 0 0, #[]⟩, ⟨(.type "code"), none, .fields #[(vs "sizes" 18085), (vs "sizes" 18086), (vs "/claim/cut.py" 18087), (.int 675 0), (.int 1 0), (.int 0 0), (.int 0 0), (.int 3 0), (.ref 1689), (.bool true), (.int 181 0), (.ref 1690), .none, .none, .none, (.ref 1691), (.int 18088 0), (.int 675 0), (vs "/claim/cut.py" 18089)], #[]⟩, ⟨(.type "function"), none, fo (S 92) (q "sizes") .none .none .none (vs "packkit.methods" 18004) none (.ref 1692) .none 3 0, #[]⟩] ++ (fnB 1694 18091 18099 (S 93) "shortest" "shortest" ["data", "best", "least", "name", "size"] 677 1 .none m5))))))
noncomputable def s13 (P : Params) (os : OsState) : SharedT := shr (T13 P) 1701 18104 os
noncomputable def x3_14 (P : Params) : Obj := ⟨(.type "dict"), none, dA (x3_13 P) [en P "Block" 18162 (.ref 1738), en P "make_block" 18172 (.ref 1749), en P "cut" 18181 (.ref 1756), en P "make_blocks" 18187 (.ref 1761), en P "join" 18193 (.ref 1766)] 92, #[]⟩
noncomputable def x12_14 (P : Params) : Obj := ⟨.none, none, fA (x12_13 P) [(.int 686 0), (.int 0 0), (.ref 1706), (.int 710 0), (.int 0 0), (.ref 1748), (.int 718 0), (.int 0 0), (.ref 1755), (.int 725 0), (.int 0 0), (.ref 1760), (.int 727 0), (.int 0 0), (.ref 1765)], #[]⟩
noncomputable def m6 : Value := (vs "packkit.blocks" 18102)
noncomputable def T14 (P : Params) : BT := insL (setL (T13 P) [(3, (x3_14 P)), (12, (x12_14 P))]) 1701 ([tup0, ⟨(.type "builtin_function_or_method"), none, .fields #[(.builtin "type.__prepare__"), (.type "type")], #[]⟩, ⟨(.type "dict"), none, .dict #[en P "__module__" 18111 (vs "packkit.blocks" 18102), en P "__qualname__" 18113 (vs "Block" 18112), en P "__firstlineno__" 18115 (.int 686 18114), en P "__init__" 18127 (.ref 1714), en P "to_bytes" 18134 (.ref 1721), en P "data" 18142 (.ref 1728), en P "__repr__" 18149 (.ref 1735), en P "__static_attributes__" 18155 (.ref 1736)] 8, #[]⟩, tup0, ⟨.none, none, .fields #[(.int 688 0), (.int 4 0), (.ref 1713), (.int 695 0), (.int 4 0), (.ref 1720), (.int 698 0), (.int 4 0), (.ref 1727), (.int 708 0), (.int 4 0), (.ref 1734)], #[]⟩, ⟨(.type "code"), none, .fields #[(vs "Block" 18106), (vs "Block" 18107), (vs "/claim/cut.py" 18108), (.int 686 0), (.int 0 0), (.int 0 0), (.int 0 0), (.int 0 0), (.ref 1704), (.bool false), (.int 181 0), (.ref 1705), .none, .none, .none, .none, (.int 18109 0), (.int 686 0), (vs "/claim/cut.py" 18110)], #[]⟩, ⟨(.type "frame"), none, .plain, #[some (.ref 1706), some (.ref 3), some (.ref 1703), none, some (vs "packkit.blocks" 18102), none, some (.ref 0)]⟩] ++ ((fnB 1708 18116 18125 (C 95 0) "__init__" "Block.__init__" ["self", "method", "kind", "size", "value", "body"] 688 6 .none m6) ++ ((fnB 1715 18128 18132 (C 95 1) "to_bytes" "Block.to_bytes" ["self"] 695 1 .none m6) ++ ((fnB 1722 18135 18140 (C 95 2) "data" "Block.data" ["self", "data"] 698 1 .none m6) ++ ((fnB 1729 18143 18147 (C 95 3) "__repr__" "Block.__repr__" ["self"] 708 1 .none m6) ++ ([⟨(.type "tuple"), none, .seq #[(vs "body" 18150), (vs "kind" 18151), (vs "method" 18152), (vs "size" 18153), (vs "value" 18154)] 0, #[]⟩, ⟨(.type "dict"), none, .dict #[en P "__module__" 18111 (vs "packkit.blocks" 18102), en P "__firstlineno__" 18115 (.int 686 18114), en P "__init__" 18127 (.ref 1714), en P "to_bytes" 18134 (.ref 1721), en P "data" 18142 (.ref 1728), en P "__repr__" 18149 (.ref 1735), en P "__static_attributes__" 18155 (.ref 1736), en P "__dict__" 18157 (.ref 1739), en P "__weakref__" 18159 (.ref 1740), en P "__doc__" 18160 .none] 4, #[]⟩, ⟨(.type "type"), none, .cls { name := (q "Block"), bases := [(.type "object")], mro := [(.ref 1738), (.type "object")], ns := 1737, qualname := (q "Block"), hasDict := true, slotNames := [], subclasses := [], abstract := false, collection := .none, hasDel := false }, #[none, none, some (vs "Block" 18104), some (vs "Block" 18112), some (.builtin "object.__new__"), some (.bool true)]⟩, ⟨(.type "getset_descriptor"), none, .fields #[(vs "__dict__" 18156), (.ref 1738), (.builtin "function.__dict__"), (.builtin "function.__dict__#set")], #[]⟩, ⟨(.type "getset_descriptor"), none, .fields #[(vs "__weakref__" 18158), (.ref 1738), (.builtin "ExceptionGroup.__weakref__"), .none], #[]⟩, ⟨(.type "super"), none, .fields #[(.ref 1738), (.ref 1738), (.ref 1738)], #[]⟩, ⟨(.type "builtin_function_or_method"), none, .fields #[(.builtin "object.__init_subclass__"), (.ref 1738)], #[]⟩] ++ ((fnB 1743 18163 18170 (S 96) "make_block" "make_block" ["data", "method", "kind", "body"] 710 3 .none m6) ++ [tup0, nul, ⟨(.type "tuple"), none, .seq #[(vs "data" 18176), (vs "size" 18177), (vs "at" 18178)] 0, #[]⟩, tup0, ⟨.none, none, fo (S 97) (q "cut") .none .none .none .none none .none .none 0 0, #[]⟩, ⟨(.type "code"), none, .fields #[(vs "cut" 18173), (vs "cut" 18174), (vs "/claim/cut.py" 18175), (.int 718 0), (.int 2 0), (.int 0 0), (.int 0 0), (.int 35 0), (.ref 1750), (.bool true), (.int 181 0), (.ref 1751), .none, (.ref 1752), (.ref 1753), (.ref 1754), (.int 18179 0), (.int 718 0), (vs "/claim/cut.py" 18180)], #[]⟩, ⟨(.type "function"), none, fo (S 97) (q "cut") .none .none .none (vs "packkit.blocks" 18102) none (.ref 1755) .none 3 0, #[]⟩, tup0, nul, ⟨.none, none, fo (S 98) (q "make_blocks") .none .none .none .none none .none .none 0 0, #[]⟩, ⟨(.type "code"), none, .fields #[(vs "make_blocks" 18182), (vs "make_blocks" 18183), (vs "/claim/cut.py" 18184), (.int 725 0), (.int 4 0), (.int 0 0), (.int 0 0), (.int 3 0), (.ref 1757), (.bool true), (.int 181 0), (.ref 1758), .none, .none, .none, (.ref 1759), (.int 18185 0), (.int 725 0), (vs "/claim/cut.py" 18186)], #[]⟩, ⟨(.type "function"), none, fo (S 98) (q "make_blocks") .none .none .none (vs "packkit.blocks" 18102) none (.ref 1760) .none 3 0, #[]⟩, tup0, nul, ⟨.none, none, fo (S 99) (q "join") .none .none .none .none none .none .none 0 0, #[]⟩, ⟨(.type "code"), none, .fields #[(vs "join" 18188), (vs "join" 18189), (vs "/claim/cut.py" 18190), (.int 727 0), (.int 1 0), (.int 0 0), (.int 0 0), (.int 3 0), (.ref 1762), (.bool true), (.int 181 0), (.ref 1763), .none, .none, .none, (.ref 1764), (.int 18191 0), (.int 727 0), (vs "/claim/cut.py" 18192)], #[]⟩, ⟨(.type "function"), none, fo (S 99) (q "join") .none .none .none (vs "packkit.blocks" 18102) none (.ref 1765) .none 3 0, #[]⟩])))))))
noncomputable def s14 (P : Params) (os : OsState) : SharedT := shr (T14 P) 1767 18194 os
noncomputable def x3_15 (P : Params) : Obj := ⟨(.type "dict"), none, dB (x3_14 P) [(0, en P "__name__" 165 (vs "packkit.filters" 18194))] [en P "_step" 18202 (.ref 1773), en P "difference" 18213 (.ref 1780), en P "undifference" 18224 (.ref 1787), en P "mixed" 18235 (.ref 1794), en P "unmixed" 18246 (.ref 1801), en P "planes" 18256 (.ref 1808), en P "unplanes" 18268 (.ref 1815), en P "to_front" 18280 (.ref 1822), en P "unto_front" 18292 (.ref 1829), en P "turned" 18300 (.ref 1836), en P "THERE_filters" 18311 (.ref 1837), en P "BACK_filters" 18322 (.ref 1838)] 104, #[]⟩
noncomputable def x12_15 (P : Params) : Obj := ⟨.none, none, fA (x12_14 P) [(.int 730 0), (.int 0 0), (.ref 1772), (.int 733 0), (.int 0 0), (.ref 1779), (.int 742 0), (.int 0 0), (.ref 1786), (.int 751 0), (.int 0 0), (.ref 1793), (.int 760 0), (.int 0 0), (.ref 1800), (.int 769 0), (.int 0 0), (.ref 1807), (.int 775 0), (.int 0 0), (.ref 1814), (.int 786 0), (.int 0 0), (.ref 1821), (.int 796 0), (.int 0 0), (.ref 1828), (.int 805 0), (.int 0 0), (.ref 1835)], #[]⟩
noncomputable def m7 : Value := (vs "packkit.filters" 18194)
noncomputable def T15 (P : Params) : BT := insL (setL (T14 P) [(3, (x3_15 P)), (12, (x12_15 P))]) 1767 ((fnB 1767 18196 18200 (S 101) "_step" "_step" ["step"] 730 1 .none m7) ++ ((fnB 1774 18203 18211 (S 102) "difference" "difference" ["data", "step", "out", "i", "before"] 733 2 .none m7) ++ ((fnB 1781 18214 18222 (S 103) "undifference" "undifference" ["data", "step", "out", "i", "before"] 742 2 .none m7) ++ ((fnB 1788 18225 18233 (S 104) "mixed" "mixed" ["data", "step", "out", "i", "before"] 751 2 .none m7) ++ ((fnB 1795 18236 18244 (S 105) "unmixed" "unmixed" ["data", "step", "out", "i", "before"] 760 2 .none m7) ++ ((fnB 1802 18247 18254 (S 106) "planes" "planes" ["data", "step", "parts", "lead"] 769 2 .none m7) ++ ((fnB 1809 18257 18266 (S 107) "unplanes" "unplanes" ["data", "step", "out", "at", "lead", "place"] 775 2 .none m7) ++ ((fnB 1816 18269 18278 (S 108) "to_front" "to_front" ["data", "step", "row", "out", "byte", "place"] 786 2 .none m7) ++ ((fnB 1823 18281 18290 (S 109) "unto_front" "unto_front" ["data", "step", "row", "out", "place", "byte"] 796 2 .none m7) ++ ((fnB 1830 18293 18298 (S 110) "turned" "turned" ["data", "step"] 805 2 .none m7) ++ [⟨(.type "dict"), none, .dict #[en P "difference" 18301 (.ref 1780), en P "mixed" 18302 (.ref 1794), en P "planes" 18303 (.ref 1808), en P "front" 18304 (.ref 1822), en P "turned" 18305 (.ref 1836)] 5, #[]⟩, ⟨(.type "dict"), none, .dict #[en P "difference" 18312 (.ref 1787), en P "mixed" 18313 (.ref 1801), en P "planes" 18314 (.ref 1815), en P "front" 18315 (.ref 1829), en P "turned" 18316 (.ref 1836)] 5, #[]⟩]))))))))))
noncomputable def s15 (P : Params) (os : OsState) : SharedT := shr (T15 P) 1839 18323 os
noncomputable def x3_16 (P : Params) : Obj := ⟨(.type "dict"), none, dA (x3_15 P) [en P "Filter" 18393 (.ref 1891)] 105, #[]⟩
noncomputable def x12_16 (P : Params) : Obj := ⟨.none, none, fA (x12_15 P) [(.int 810 0), (.int 0 0), (.ref 1844)], #[]⟩
noncomputable def T16 (P : Params) : BT := insL (setL (T15 P) [(3, (x3_16 P)), (12, (x12_16 P))]) 1839 ([tup0, ⟨(.type "builtin_function_or_method"), none, .fields #[(.builtin "type.__prepare__"), (.type "type")], #[]⟩, ⟨(.type "dict"), none, .dict #[en P "__module__" 18330 (vs "packkit.filters" 18194), en P "__qualname__" 18332 (vs "Filter" 18331), en P "__firstlineno__" 18334 (.int 810 18333), en P "__init__" 18344 (.ref 1853), en P "there" 18352 (.ref 1860), en P "back" 18360 (.ref 1867), en P "show" 18367 (.ref 1874), en P "__eq__" 18375 (.ref 1881), en P "__repr__" 18382 (.ref 1888), en P "__static_attributes__" 18385 (.ref 1889)] 10, #[]⟩, tup0, ⟨.none, none, .fields #[(.int 812 0), (.int 4 0), (.ref 1852), (.int 819 0), (.int 4 0), (.ref 1859), (.int 822 0), (.int 4 0), (.ref 1866), (.int 825 0), (.int 4 0), (.ref 1873), (.int 830 0), (.int 4 0), (.ref 1880), (.int 833 0), (.int 4 0), (.ref 1887)], #[]⟩, ⟨(.type "code"), none, .fields #[(vs "Filter" 18325), (vs "Filter" 18326), (vs "/claim/cut.py" 18327), (.int 810 0), (.int 0 0), (.int 0 0), (.int 0 0), (.int 0 0), (.ref 1842), (.bool false), (.int 181 0), (.ref 1843), .none, .none, .none, .none, (.int 18328 0), (.int 810 0), (vs "/claim/cut.py" 18329)], #[]⟩, ⟨(.type "frame"), none, .plain, #[some (.ref 1844), some (.ref 3), some (.ref 1841), none, some (vs "packkit.filters" 18194), none, some (.ref 0)]⟩, ⟨(.type "tuple"), none, .seq #[(.int 1 18335)] 0, #[]⟩] ++ ((fnB 1847 18336 18342 (C 113 0) "__init__" "Filter.__init__" ["self", "name", "step"] 812 3 (.ref 1846) m7) ++ ((fnB 1854 18345 18350 (C 113 1) "there" "Filter.there" ["self", "data"] 819 2 .none m7) ++ ((fnB 1861 18353 18358 (C 113 2) "back" "Filter.back" ["self", "data"] 822 2 .none m7) ++ ((fnB 1868 18361 18365 (C 113 3) "show" "Filter.show" ["self"] 825 1 .none m7) ++ ((fnB 1875 18368 18373 (C 113 4) "__eq__" "Filter.__eq__" ["self", "other"] 830 2 .none m7) ++ ((fnB 1882 18376 18380 (C 113 5) "__repr__" "Filter.__repr__" ["self"] 833 1 .none m7) ++ [⟨(.type "tuple"), none, .seq #[(vs "name" 18383), (vs "step" 18384)] 0, #[]⟩, ⟨(.type "dict"), none, .dict #[en P "__module__" 18330 (vs "packkit.filters" 18194), en P "__firstlineno__" 18334 (.int 810 18333), en P "__init__" 18344 (.ref 1853), en P "there" 18352 (.ref 1860), en P "back" 18360 (.ref 1867), en P "show" 18367 (.ref 1874), en P "__eq__" 18375 (.ref 1881), en P "__repr__" 18382 (.ref 1888), en P "__static_attributes__" 18385 (.ref 1889), en P "__dict__" 18387 (.ref 1892), en P "__weakref__" 18389 (.ref 1893), en P "__doc__" 18390 .none, en P "__hash__" 18391 .none] 5, #[]⟩, ⟨(.type "type"), none, .cls { name := (q "Filter"), bases := [(.type "object")], mro := [(.ref 1891), (.type "object")], ns := 1890, qualname := (q "Filter"), hasDict := true, slotNames := [], subclasses := [], abstract := false, collection := .none, hasDel := false }, #[none, none, some (vs "Filter" 18323), some (vs "Filter" 18331), some (.builtin "object.__new__"), some (.bool true)]⟩, ⟨(.type "getset_descriptor"), none, .fields #[(vs "__dict__" 18386), (.ref 1891), (.builtin "function.__dict__"), (.builtin "function.__dict__#set")], #[]⟩, ⟨(.type "getset_descriptor"), none, .fields #[(vs "__weakref__" 18388), (.ref 1891), (.builtin "ExceptionGroup.__weakref__"), .none], #[]⟩, ⟨(.type "super"), none, .fields #[(.ref 1891), (.ref 1891), (.ref 1891)], #[]⟩, ⟨(.type "builtin_function_or_method"), none, .fields #[(.builtin "object.__init_subclass__"), (.ref 1891)], #[]⟩])))))))
noncomputable def s16 (P : Params) (os : OsState) : SharedT := shr (T16 P) 1896 18394 os
noncomputable def x3_17 (P : Params) : Obj := ⟨(.type "dict"), none, dA (x3_16 P) [en P "read_filter" 18403 (.ref 1902), en P "Chain" 18472 (.ref 1953)] 107, #[]⟩
noncomputable def x12_17 (P : Params) : Obj := ⟨.none, none, fA (x12_16 P) [(.int 835 0), (.int 0 0), (.ref 1901), (.int 842 0), (.int 0 0), (.ref 1908)], #[]⟩
noncomputable def T17 (P : Params) : BT := insL (setL (T16 P) [(3, (x3_17 P)), (12, (x12_17 P))]) 1896 ((fnB 1896 18394 18401 (S 114) "read_filter" "read_filter" ["text", "name", "mark", "step"] 835 1 .none m7) ++ ([tup0, ⟨(.type "builtin_function_or_method"), none, .fields #[(.builtin "type.__prepare__"), (.type "type")], #[]⟩, ⟨(.type "dict"), none, .dict #[en P "__module__" 18411 (vs "packkit.filters" 18194), en P "__qualname__" 18413 (vs "Chain" 18412), en P "__firstlineno__" 18415 (.int 842 18414), en P "__init__" 18423 (.ref 1917), en P "there" 18432 (.ref 1924), en P "back" 18441 (.ref 1931), en P "show" 18447 (.ref 1936), en P "__eq__" 18455 (.ref 1943), en P "__len__" 18462 (.ref 1950), en P "__static_attributes__" 18464 (.ref 1951)] 10, #[]⟩, tup0, ⟨.none, none, .fields #[(.int 844 0), (.int 4 0), (.ref 1916), (.int 849 0), (.int 4 0), (.ref 1923), (.int 854 0), (.int 4 0), (.ref 1930), (.int 859 0), (.int 4 0), (.ref 1935), (.int 864 0), (.int 4 0), (.ref 1942), (.int 867 0), (.int 4 0), (.ref 1949)], #[]⟩, ⟨(.type "code"), none, .fields #[(vs "Chain" 18406), (vs "Chain" 18407), (vs "/claim/cut.py" 18408), (.int 842 0), (.int 0 0), (.int 0 0), (.int 0 0), (.int 0 0), (.ref 1906), (.bool false), (.int 181 0), (.ref 1907), .none, .none, .none, .none, (.int 18409 0), (.int 842 0), (vs "/claim/cut.py" 18410)], #[]⟩, ⟨(.type "frame"), none, .plain, #[some (.ref 1908), some (.ref 3), some (.ref 1905), none, some (vs "packkit.filters" 18194), none, some (.ref 0)]⟩, ⟨(.type "tuple"), none, .seq #[.none] 0, #[]⟩] ++ ((fnB 1911 18416 18421 (C 115 0) "__init__" "Chain.__init__" ["self", "filters"] 844 2 (.ref 1910) m7) ++ ((fnB 1918 18424 18430 (C 115 1) "there" "Chain.there" ["self", "data", "one"] 849 2 .none m7) ++ ((fnB 1925 18433 18439 (C 115 2) "back" "Chain.back" ["self", "data", "one"] 854 2 .none m7) ++ ([tup0, nul, ⟨.none, none, fo (C 115 3) (q "Chain.show") .none .none .none .none none .none .none 0 0, #[]⟩, ⟨(.type "code"), none, .fields #[(vs "show" 18442), (vs "Chain.show" 18443), (vs "/claim/cut.py" 18444), (.int 859 0), (.int 1 0), (.int 0 0), (.int 0 0), (.int 3 0), (.ref 1932), (.bool true), (.int 181 0), (.ref 1933), .none, .none, .none, (.ref 1934), (.int 18445 0), (.int 859 0), (vs "/claim/cut.py" 18446)], #[]⟩, ⟨(.type "function"), none, fo (C 115 3) (q "Chain.show") .none .none .none (vs "packkit.filters" 18194) none (.ref 1935) .none 3 0, #[]⟩] ++ ((fnB 1937 18448 18453 (C 115 4) "__eq__" "Chain.__eq__" ["self", "other"] 864 2 .none m7) ++ ((fnB 1944 18456 18460 (C 115 5) "__len__" "Chain.__len__" ["self"] 867 1 .none m7) ++ [⟨(.type "tuple"), none, .seq #[(vs "filters" 18463)] 0, #[]⟩, ⟨(.type "dict"), none, .dict #[en P "__module__" 18411 (vs "packkit.filters" 18194), en P "__firstlineno__" 18415 (.int 842 18414), en P "__init__" 18423 (.ref 1917), en P "there" 18432 (.ref 1924), en P "back" 18441 (.ref 1931), en P "show" 18447 (.ref 1936), en P "__eq__" 18455 (.ref 1943), en P "__len__" 18462 (.ref 1950), en P "__static_attributes__" 18464 (.ref 1951), en P "__dict__" 18466 (.ref 1954), en P "__weakref__" 18468 (.ref 1955), en P "__doc__" 18469 .none, en P "__hash__" 18470 .none] 5, #[]⟩, ⟨(.type "type"), none, .cls { name := (q "Chain"), bases := [(.type "object")], mro := [(.ref 1953), (.type "object")], ns := 1952, qualname := (q "Chain"), hasDict := true, slotNames := [], subclasses := [], abstract := false, collection := .none, hasDel := false }, #[none, none, some (vs "Chain" 18404), some (vs "Chain" 18412), some (.builtin "object.__new__"), some (.bool true)]⟩, ⟨(.type "getset_descriptor"), none, .fields #[(vs "__dict__" 18465), (.ref 1953), (.builtin "function.__dict__"), (.builtin "function.__dict__#set")], #[]⟩, ⟨(.type "getset_descriptor"), none, .fields #[(vs "__weakref__" 18467), (.ref 1953), (.builtin "ExceptionGroup.__weakref__"), .none], #[]⟩, ⟨(.type "super"), none, .fields #[(.ref 1953), (.ref 1953), (.ref 1953)], #[]⟩, ⟨(.type "builtin_function_or_method"), none, .fields #[(.builtin "object.__init_subclass__"), (.ref 1953)], #[]⟩]))))))))
noncomputable def s17 (P : Params) (os : OsState) : SharedT := shr (T17 P) 1958 18473 os
noncomputable def x3_18 (P : Params) : Obj := ⟨(.type "dict"), none, dB (x3_17 P) [(0, en P "__name__" 165 (vs "packkit.entries" 18524))] [en P "read_chain" 18478 (.ref 1962), en P "MOST_names" 18482 (.int 255 18481), en P "parts" 18489 (.ref 1969), en P "is_name" 18499 (.ref 1976), en P "need_name" 18506 (.ref 1983), en P "stands_in" 18514 (.ref 1990), en P "moved" 18523 (.ref 1997), en P "BLOCK" 18527 (.int 4096 18526), en P "MOST_SIZE" 18533 (.int 999999999 18532)] 116, #[]⟩
noncomputable def x12_18 (P : Params) : Obj := ⟨.none, none, fA (x12_17 P) [(.int 869 0), (.int 0 0), (.ref 1961), (.int 875 0), (.int 0 0), (.ref 1968), (.int 877 0), (.int 0 0), (.ref 1975), (.int 888 0), (.int 0 0), (.ref 1982), (.int 891 0), (.int 0 0), (.ref 1989), (.int 895 0), (.int 0 0), (.ref 1996)], #[]⟩
noncomputable def m8 : Value := (vs "packkit.names" 18479)
noncomputable def T18 (P : Params) : BT := insL (setL (T17 P) [(3, (x3_18 P)), (12, (x12_18 P))]) 1958 ([tup0, nul, ⟨.none, none, fo (S 116) (q "read_chain") .none .none .none .none none .none .none 0 0, #[]⟩, ⟨(.type "code"), none, .fields #[(vs "read_chain" 18473), (vs "read_chain" 18474), (vs "/claim/cut.py" 18475), (.int 869 0), (.int 1 0), (.int 0 0), (.int 0 0), (.int 3 0), (.ref 1958), (.bool true), (.int 181 0), (.ref 1959), .none, .none, .none, (.ref 1960), (.int 18476 0), (.int 869 0), (vs "/claim/cut.py" 18477)], #[]⟩, ⟨(.type "function"), none, fo (S 116) (q "read_chain") .none .none .none (vs "packkit.filters" 18194) none (.ref 1961) .none 3 0, #[]⟩] ++ ((fnB 1963 18483 18487 (S 119) "parts" "parts" ["name"] 875 1 .none m8) ++ ((fnB 1970 18490 18497 (S 120) "is_name" "is_name" ["text", "part", "sign", "code"] 877 1 .none m8) ++ ((fnB 1977 18500 18504 (S 121) "need_name" "need_name" ["text"] 888 1 .none m8) ++ ((fnB 1984 18507 18512 (S 122) "stands_in" "stands_in" ["name", "folder"] 891 2 .none m8) ++ (fnB 1991 18515 18521 (S 123) "moved" "moved" ["name", "old", "new"] 895 3 .none m8))))))
noncomputable def s18 (P : Params) (os : OsState) : SharedT := shr (T18 P) 1998 18534 os
noncomputable def x3_19 (P : Params) : Obj := ⟨(.type "dict"), none, dA (x3_18 P) [en P "Settings" 18578 (.ref 2022), en P "Entry" 18665 (.ref 2092)] 118, #[]⟩
noncomputable def x12_19 (P : Params) : Obj := ⟨.none, none, fA (x12_18 P) [(.int 904 0), (.int 0 0), (.ref 2003), (.int 919 0), (.int 0 0), (.ref 2032)], #[]⟩
noncomputable def m9 : Value := (vs "packkit.entries" 18524)
noncomputable def T19 (P : Params) : BT := insL (setL (T18 P) [(3, (x3_19 P)), (12, (x12_19 P))]) 1998 ([tup0, ⟨(.type "builtin_function_or_method"), none, .fields #[(.builtin "type.__prepare__"), (.type "type")], #[]⟩, ⟨(.type "dict"), none, .dict #[en P "__module__" 18541 (vs "packkit.entries" 18524), en P "__qualname__" 18543 (vs "Settings" 18542), en P "__firstlineno__" 18545 (.int 904 18544), en P "__init__" 18559 (.ref 2012), en P "show" 18566 (.ref 2019), en P "__static_attributes__" 18571 (.ref 2020)] 6, #[]⟩, tup0, ⟨.none, none, .fields #[(.int 906 0), (.int 4 0), (.ref 2011), (.int 917 0), (.int 4 0), (.ref 2018)], #[]⟩, ⟨(.type "code"), none, .fields #[(vs "Settings" 18536), (vs "Settings" 18537), (vs "/claim/cut.py" 18538), (.int 904 0), (.int 0 0), (.int 0 0), (.int 0 0), (.int 0 0), (.ref 2001), (.bool false), (.int 181 0), (.ref 2002), .none, .none, .none, .none, (.int 18539 0), (.int 904 0), (vs "/claim/cut.py" 18540)], #[]⟩, ⟨(.type "frame"), none, .plain, #[some (.ref 2003), some (.ref 3), some (.ref 2000), none, some (vs "packkit.entries" 18524), none, some (.ref 0)]⟩, ⟨(.type "tuple"), none, .seq #[(vs "best" 18546), (vs "-" 18547), (vs "crc32" 18548), (.int 4096 18526)] 0, #[]⟩] ++ ((fnB 2006 18549 18557 (C 127 0) "__init__" "Settings.__init__" ["self", "method", "chain", "kind", "size"] 906 5 (.ref 2005) m9) ++ ((fnB 2013 18560 18564 (C 127 1) "show" "Settings.show" ["self"] 917 1 .none m9) ++ ([⟨(.type "tuple"), none, .seq #[(vs "chain" 18567), (vs "kind" 18568), (vs "method" 18569), (vs "size" 18570)] 0, #[]⟩, ⟨(.type "dict"), none, .dict #[en P "__module__" 18541 (vs "packkit.entries" 18524), en P "__firstlineno__" 18545 (.int 904 18544), en P "__init__" 18559 (.ref 2012), en P "show" 18566 (.ref 2019), en P "__static_attributes__" 18571 (.ref 2020), en P "__dict__" 18573 (.ref 2023), en P "__weakref__" 18575 (.ref 2024), en P "__doc__" 18576 .none] 4, #[]⟩, ⟨(.type "type"), none, .cls { name := (q "Settings"), bases := [(.type "object")], mro := [(.ref 2022), (.type "object")], ns := 2021, qualname := (q "Settings"), hasDict := true, slotNames := [], subclasses := [], abstract := false, collection := .none, hasDel := false }, #[none, none, some (vs "Settings" 18534), some (vs "Settings" 18542), some (.builtin "object.__new__"), some (.bool true)]⟩, ⟨(.type "getset_descriptor"), none, .fields #[(vs "__dict__" 18572), (.ref 2022), (.builtin "function.__dict__"), (.builtin "function.__dict__#set")], #[]⟩, ⟨(.type "getset_descriptor"), none, .fields #[(vs "__weakref__" 18574), (.ref 2022), (.builtin "ExceptionGroup.__weakref__"), .none], #[]⟩, ⟨(.type "super"), none, .fields #[(.ref 2022), (.ref 2022), (.ref 2022)], #[]⟩, ⟨(.type "builtin_function_or_method"), none, .fields #[(.builtin "object.__init_subclass__"), (.ref 2022)], #[]⟩, tup0, ⟨(.type "builtin_function_or_method"), none, .fields #[(.builtin "type.__prepare__"), (.type "type")], #[]⟩, ⟨(.type "dict"), none, .dict #[en P "__module__" 18586 (vs "packkit.entries" 18524), en P "__qualname__" 18588 (vs "Entry" 18587), en P "__firstlineno__" 18590 (.int 919 18589), en P "__init__" 18600 (.ref 2040), en P "size" 18609 (.ref 2047), en P "packed" 18618 (.ref 2054), en P "data" 18625 (.ref 2061), en P "methods" 18632 (.ref 2068), en P "renamed" 18640 (.ref 2075), en P "to_bytes" 18647 (.ref 2082), en P "__repr__" 18654 (.ref 2089), en P "__static_attributes__" 18658 (.ref 2090)] 12, #[]⟩, tup0, ⟨.none, none, .fields #[(.int 921 0), (.int 4 0), (.ref 2039), (.int 927 0), (.int 4 0), (.ref 2046), (.int 933 0), (.int 4 0), (.ref 2053), (.int 939 0), (.int 4 0), (.ref 2060), (.int 942 0), (.int 4 0), (.ref 2067), (.int 945 0), (.int 4 0), (.ref 2074), (.int 948 0), (.int 4 0), (.ref 2081), (.int 951 0), (.int 4 0), (.ref 2088)], #[]⟩, ⟨(.type "code"), none, .fields #[(vs "Entry" 18581), (vs "Entry" 18582), (vs "/claim/cut.py" 18583), (.int 919 0), (.int 0 0), (.int 0 0), (.int 0 0), (.int 0 0), (.ref 2030), (.bool false), (.int 181 0), (.ref 2031), .none, .none, .none, .none, (.int 18584 0), (.int 919 0), (vs "/claim/cut.py" 18585)], #[]⟩, ⟨(.type "frame"), none, .plain, #[some (.ref 2032), some (.ref 3), some (.ref 2029), none, some (vs "packkit.entries" 18524), none, some (.ref 0)]⟩] ++ ((fnB 2034 18591 18598 (C 128 0) "__init__" "Entry.__init__" ["self", "name", "chain", "blocks"] 921 4 .none m9) ++ ((fnB 2041 18601 18607 (C 128 1) "size" "Entry.size" ["self", "total", "block"] 927 1 .none m9) ++ ((fnB 2048 18610 18616 (C 128 2) "packed" "Entry.packed" ["self", "total", "block"] 933 1 .none m9) ++ ((fnB 2055 18619 18623 (C 128 3) "data" "Entry.data" ["self"] 939 1 .none m9) ++ ((fnB 2062 18626 18630 (C 128 4) "methods" "Entry.methods" ["self"] 942 1 .none m9) ++ ((fnB 2069 18633 18638 (C 128 5) "renamed" "Entry.renamed" ["self", "name"] 945 2 .none m9) ++ ((fnB 2076 18641 18645 (C 128 6) "to_bytes" "Entry.to_bytes" ["self"] 948 1 .none m9) ++ ((fnB 2083 18648 18652 (C 128 7) "__repr__" "Entry.__repr__" ["self"] 951 1 .none m9) ++ [⟨(.type "tuple"), none, .seq #[(vs "blocks" 18655), (vs "chain" 18656), (vs "name" 18657)] 0, #[]⟩, ⟨(.type "dict"), none, .dict #[en P "__module__" 18586 (vs "packkit.entries" 18524), en P "__firstlineno__" 18590 (.int 919 18589), en P "__init__" 18600 (.ref 2040), en P "size" 18609 (.ref 2047), en P "packed" 18618 (.ref 2054), en P "data" 18625 (.ref 2061), en P "methods" 18632 (.ref 2068), en P "renamed" 18640 (.ref 2075), en P "to_bytes" 18647 (.ref 2082), en P "__repr__" 18654 (.ref 2089), en P "__static_attributes__" 18658 (.ref 2090), en P "__dict__" 18660 (.ref 2093), en P "__weakref__" 18662 (.ref 2094), en P "__doc__" 18663 .none] 4, #[]⟩, ⟨(.type "type"), none, .cls { name := (q "Entry"), bases := [(.type "object")], mro := [(.ref 2092), (.type "object")], ns := 2091, qualname := (q "Entry"), hasDict := true, slotNames := [], subclasses := [], abstract := false, collection := .none, hasDel := false }, #[none, none, some (vs "Entry" 18579), some (vs "Entry" 18587), some (.builtin "object.__new__"), some (.bool true)]⟩, ⟨(.type "getset_descriptor"), none, .fields #[(vs "__dict__" 18659), (.ref 2092), (.builtin "function.__dict__"), (.builtin "function.__dict__#set")], #[]⟩, ⟨(.type "getset_descriptor"), none, .fields #[(vs "__weakref__" 18661), (.ref 2092), (.builtin "ExceptionGroup.__weakref__"), .none], #[]⟩, ⟨(.type "super"), none, .fields #[(.ref 2092), (.ref 2092), (.ref 2092)], #[]⟩, ⟨(.type "builtin_function_or_method"), none, .fields #[(.builtin "object.__init_subclass__"), (.ref 2092)], #[]⟩]))))))))))))
noncomputable def s19 (P : Params) (os : OsState) : SharedT := shr (T19 P) 2097 18666 os
noncomputable def x3_20 (P : Params) : Obj := ⟨(.type "dict"), none, dB (x3_19 P) [(0, en P "__name__" 165 (vs "packkit.container" 18676))] [en P "make_entry" 18675 (.ref 2104)] 119, #[]⟩
noncomputable def x12_20 (P : Params) : Obj := ⟨.none, none, fA (x12_19 P) [(.int 953 0), (.int 0 0), (.ref 2103)], #[]⟩
noncomputable def T20 (P : Params) : BT := insL (setL (T19 P) [(3, (x3_20 P)), (12, (x12_20 P))]) 2097 ([⟨(.type "tuple"), none, .seq #[.none] 0, #[]⟩] ++ (fnB 2098 18666 18673 (S 129) "make_entry" "make_entry" ["name", "data", "settings", "turned"] 953 3 (.ref 2097) m9))
noncomputable def s20 (P : Params) (os : OsState) : SharedT := shr (T20 P) 2105 18678 os
noncomputable def x3_21 (P : Params) : Obj := ⟨(.type "dict"), none, dA (x3_20 P) [en P "Container" 18907 (.ref 2295)] 120, #[]⟩
noncomputable def x12_21 (P : Params) : Obj := ⟨.none, none, fA (x12_20 P) [(.int 959 0), (.int 0 0), (.ref 2110)], #[]⟩
noncomputable def m10 : Value := (vs "packkit.container" 18676)
noncomputable def T21 (P : Params) : BT := insL (setL (T20 P) [(3, (x3_21 P)), (12, (x12_21 P))]) 2105 ([tup0, ⟨(.type "builtin_function_or_method"), none, .fields #[(.builtin "type.__prepare__"), (.type "type")], #[]⟩, ⟨(.type "dict"), none, .dict #[en P "__module__" 18685 (vs "packkit.container" 18676), en P "__qualname__" 18687 (vs "Container" 18686), en P "__firstlineno__" 18689 (.int 959 18688), en P "__init__" 18697 (.ref 2119), en P "names" 18704 (.ref 2126), en P "has" 18712 (.ref 2133), en P "entry" 18720 (.ref 2140), en P "read" 18728 (.ref 2147), en P "_need_room" 18738 (.ref 2154), en P "add" 18748 (.ref 2162), en P "put" 18758 (.ref 2170), en P "drop" 18766 (.ref 2177), en P "rename" 18775 (.ref 2184), en P "move" 18781 (.ref 2189), en P "take" 18789 (.ref 2196), en P "size" 18798 (.ref 2203), en P "packed" 18807 (.ref 2210), en P "walk" 18814 (.ref 2217), en P "find" 18822 (.ref 2224), en P "inside" 18828 (.ref 2229), en P "damaged" 18835 (.ref 2236), en P "copy" 18844 (.ref 2243), en P "sort" 18853 (.ref 2250), en P "repack" 18861 (.ref 2257), en P "to_bytes" 18868 (.ref 2264), en P "__len__" 18875 (.ref 2271), en P "__contains__" 18883 (.ref 2278), en P "__iter__" 18890 (.ref 2285), en P "__repr__" 18897 (.ref 2292), en P "__static_attributes__" 18900 (.ref 2293)] 30, #[]⟩, tup0, ⟨.none, none, .fields #[(.int 961 0), (.int 4 0), (.ref 2118), (.int 967 0), (.int 4 0), (.ref 2125), (.int 970 0), (.int 4 0), (.ref 2132), (.int 973 0), (.int 4 0), (.ref 2139), (.int 978 0), (.int 4 0), (.ref 2146), (.int 981 0), (.int 4 0), (.ref 2153), (.int 988 0), (.int 4 0), (.ref 2161), (.int 995 0), (.int 4 0), (.ref 2169), (.int 998 0), (.int 4 0), (.ref 2176), (.int 1001 0), (.int 4 0), (.ref 2183), (.int 1004 0), (.int 4 0), (.ref 2188), (.int 1020 0), (.int 4 0), (.ref 2195), (.int 1024 0), (.int 4 0), (.ref 2202), (.int 1030 0), (.int 4 0), (.ref 2209), (.int 1036 0), (.int 4 0), (.ref 2216), (.int 1039 0), (.int 4 0), (.ref 2223), (.int 1042 0), (.int 4 0), (.ref 2228), (.int 1045 0), (.int 4 0), (.ref 2235), (.int 1048 0), (.int 4 0), (.ref 2242), (.int 1054 0), (.int 4 0), (.ref 2249), (.int 1060 0), (.int 4 0), (.ref 2256), (.int 1063 0), (.int 4 0), (.ref 2263), (.int 1066 0), (.int 4 0), (.ref 2270), (.int 1069 0), (.int 4 0), (.ref 2277), (.int 1072 0), (.int 4 0), (.ref 2284), (.int 1075 0), (.int 4 0), (.ref 2291)], #[]⟩, ⟨(.type "code"), none, .fields #[(vs "Container" 18680), (vs "Container" 18681), (vs "/claim/cut.py" 18682), (.int 959 0), (.int 0 0), (.int 0 0), (.int 0 0), (.int 0 0), (.ref 2108), (.bool false), (.int 181 0), (.ref 2109), .none, .none, .none, .none, (.int 18683 0), (.int 959 0), (vs "/claim/cut.py" 18684)], #[]⟩, ⟨(.type "frame"), none, .plain, #[some (.ref 2110), some (.ref 3), some (.ref 2107), none, some (vs "packkit.container" 18676), none, some (.ref 0)]⟩, ⟨(.type "tuple"), none, .seq #[.none] 0, #[]⟩] ++ ((fnB 2113 18690 18695 (C 131 0) "__init__" "Container.__init__" ["self", "settings"] 961 2 (.ref 2112) m10) ++ ((fnB 2120 18698 18702 (C 131 1) "names" "Container.names" ["self"] 967 1 .none m10) ++ ((fnB 2127 18705 18710 (C 131 2) "has" "Container.has" ["self", "name"] 970 2 .none m10) ++ ((fnB 2134 18713 18718 (C 131 3) "entry" "Container.entry" ["self", "name"] 973 2 .none m10) ++ ((fnB 2141 18721 18726 (C 131 4) "read" "Container.read" ["self", "name"] 978 2 .none m10) ++ ((fnB 2148 18729 18736 (C 131 5) "_need_room" "Container._need_room" ["self", "name", "others", "other"] 981 3 .none m10) ++ ([⟨(.type "tuple"), none, .seq #[.none] 0, #[]⟩] ++ ((fnB 2156 18739 18746 (C 131 6) "add" "Container.add" ["self", "name", "data", "settings"] 988 4 (.ref 2155) m10) ++ ([⟨(.type "tuple"), none, .seq #[.none] 0, #[]⟩] ++ ((fnB 2164 18749 18756 (C 131 7) "put" "Container.put" ["self", "name", "data", "settings"] 995 4 (.ref 2163) m10) ++ ((fnB 2171 18759 18764 (C 131 8) "drop" "Container.drop" ["self", "name"] 998 2 .none m10) ++ ((fnB 2178 18767 18773 (C 131 9) "rename" "Container.rename" ["self", "old", "new"] 1001 3 .none m10) ++ ([tup0, nul, ⟨.none, none, fo (C 131 10) (q "Container.move") .none .none .none .none none .none .none 0 0, #[]⟩, ⟨(.type "code"), none, .fields #[(vs "move" 18776), (vs "Container.move" 18777), (vs "/claim/cut.py" 18778), (.int 1004 0), (.int 3 0), (.int 0 0), (.int 0 0), (.int 3 0), (.ref 2185), (.bool true), (.int 181 0), (.ref 2186), .none, .none, .none, (.ref 2187), (.int 18779 0), (.int 1004 0), (vs "/claim/cut.py" 18780)], #[]⟩, ⟨(.type "function"), none, fo (C 131 10) (q "Container.move") .none .none .none (vs "packkit.container" 18676) none (.ref 2188) .none 3 0, #[]⟩] ++ ((fnB 2190 18782 18787 (C 131 11) "take" "Container.take" ["self", "entry"] 1020 2 .none m10) ++ ((fnB 2197 18790 18796 (C 131 12) "size" "Container.size" ["self", "total", "name"] 1024 1 .none m10) ++ ((fnB 2204 18799 18805 (C 131 13) "packed" "Container.packed" ["self", "total", "name"] 1030 1 .none m10) ++ ((fnB 2211 18808 18812 (C 131 14) "walk" "Container.walk" ["self"] 1036 1 .none m10) ++ ((fnB 2218 18815 18820 (C 131 15) "find" "Container.find" ["self", "pattern"] 1039 2 .none m10) ++ ([tup0, nul, ⟨.none, none, fo (C 131 16) (q "Container.inside") .none .none .none .none none .none .none 0 0, #[]⟩, ⟨(.type "code"), none, .fields #[(vs "inside" 18823), (vs "Container.inside" 18824), (vs "/claim/cut.py" 18825), (.int 1042 0), (.int 2 0), (.int 0 0), (.int 0 0), (.int 3 0), (.ref 2225), (.bool true), (.int 181 0), (.ref 2226), .none, .none, .none, (.ref 2227), (.int 18826 0), (.int 1042 0), (vs "/claim/cut.py" 18827)], #[]⟩, ⟨(.type "function"), none, fo (C 131 16) (q "Container.inside") .none .none .none (vs "packkit.container" 18676) none (.ref 2228) .none 3 0, #[]⟩] ++ ((fnB 2230 18829 18833 (C 131 17) "damaged" "Container.damaged" ["self"] 1045 1 .none m10) ++ ((fnB 2237 18836 18842 (C 131 18) "copy" "Container.copy" ["self", "other", "name"] 1048 1 .none m10) ++ ((fnB 2244 18845 18851 (C 131 19) "sort" "Container.sort" ["self", "kept", "name"] 1054 1 .none m10) ++ ((fnB 2251 18854 18859 (C 131 20) "repack" "Container.repack" ["self", "settings"] 1060 2 .none m10) ++ ((fnB 2258 18862 18866 (C 131 21) "to_bytes" "Container.to_bytes" ["self"] 1063 1 .none m10) ++ ((fnB 2265 18869 18873 (C 131 22) "__len__" "Container.__len__" ["self"] 1066 1 .none m10) ++ ((fnB 2272 18876 18881 (C 131 23) "__contains__" "Container.__contains__" ["self", "name"] 1069 2 .none m10) ++ ((fnB 2279 18884 18888 (C 131 24) "__iter__" "Container.__iter__" ["self"] 1072 1 .none m10) ++ ((fnB 2286 18891 18895 (C 131 25) "__repr__" "Container.__repr__" ["self"] 1075 1 .none m10) ++ [⟨(.type "tuple"), none, .seq #[(vs "_entries" 18898), (vs "settings" 18899)] 0, #[]⟩, ⟨(.type "dict"), none, .dict #[en P "__module__" 18685 (vs "packkit.container" 18676), en P "__firstlineno__" 18689 (.int 959 18688), en P "__init__" 18697 (.ref 2119), en P "names" 18704 (.ref 2126), en P "has" 18712 (.ref 2133), en P "entry" 18720 (.ref 2140), en P "read" 18728 (.ref 2147), en P "_need_room" 18738 (.ref 2154), en P "add" 18748 (.ref 2162), en P "put" 18758 (.ref 2170), en P "drop" 18766 (.ref 2177), en P "rename" 18775 (.ref 2184), en P "move" 18781 (.ref 2189), en P "take" 18789 (.ref 2196), en P "size" 18798 (.ref 2203), en P "packed" 18807 (.ref 2210), en P "walk" 18814 (.ref 2217), en P "find" 18822 (.ref 2224), en P "inside" 18828 (.ref 2229), en P "damaged" 18835 (.ref 2236), en P "copy" 18844 (.ref 2243), en P "sort" 18853 (.ref 2250), en P "repack" 18861 (.ref 2257), en P "to_bytes" 18868 (.ref 2264), en P "__len__" 18875 (.ref 2271), en P "__contains__" 18883 (.ref 2278), en P "__iter__" 18890 (.ref 2285), en P "__repr__" 18897 (.ref 2292), en P "__static_attributes__" 18900 (.ref 2293), en P "__dict__" 18902 (.ref 2296), en P "__weakref__" 18904 (.ref 2297), en P "__doc__" 18905 .none] 4, #[]⟩, ⟨(.type "type"), none, .cls { name := (q "Container"), bases := [(.type "object")], mro := [(.ref 2295), (.type "object")], ns := 2294, qualname := (q "Container"), hasDict := true, slotNames := [], subclasses := [], abstract := false, collection := .none, hasDel := false }, #[none, none, some (vs "Container" 18678), some (vs "Container" 18686), some (.builtin "object.__new__"), some (.bool true)]⟩, ⟨(.type "getset_descriptor"), none, .fields #[(vs "__dict__" 18901), (.ref 2295), (.builtin "function.__dict__"), (.builtin "function.__dict__#set")], #[]⟩, ⟨(.type "getset_descriptor"), none, .fields #[(vs "__weakref__" 18903), (.ref 2295), (.builtin "ExceptionGroup.__weakref__"), .none], #[]⟩, ⟨(.type "super"), none, .fields #[(.ref 2295), (.ref 2295), (.ref 2295)], #[]⟩, ⟨(.type "builtin_function_or_method"), none, .fields #[(.builtin "object.__init_subclass__"), (.ref 2295)], #[]⟩])))))))))))))))))))))))))))))
noncomputable def s21 (P : Params) (os : OsState) : SharedT := shr (T21 P) 2300 18908 os
noncomputable def x3_22 (P : Params) : Obj := ⟨(.type "dict"), none, dB (x3_21 P) [(0, en P "__name__" 165 (vs "law_ui0507_20" 18908))] [en P "_law_cell" 18917 (.ref 2306), en P "law" 18929 (.ref 2313)] 122, #[]⟩
noncomputable def x12_22 (P : Params) : Obj := ⟨.none, none, fA (x12_21 P) [(.int 1078 0), (.int 0 0), (.ref 2305), (.int 1082 0), (.int 0 0), (.ref 2312)], #[]⟩
noncomputable def m11 : Value := (vs "law_ui0507_20" 18908)
noncomputable def T22 (P : Params) : BT := insL (setL (T21 P) [(3, (x3_22 P)), (12, (x12_22 P))]) 2300 ((fnB 2300 18910 18915 (S 133) "_law_cell" "_law_cell" ["script", "k"] 1078 2 .none m11) ++ (fnB 2307 18918 18927 (S 134) "law" "law" ["script", "i", "j", "box", "k", "count"] 1082 1 .none m11))
noncomputable def s22 (P : Params) (os : OsState) : SharedT := shr (T22 P) 2314 18930 os
end
end Mine
open PyProof.Rows PySem.Calls
namespace Mine
section
set_option maxRecDepth 100000
set_option maxHeartbeats 0
theorem r1 (p : Program) (w : World) (b : List Stmt) (os : OsState) : runW p w 255 (s0 w.params os) (thr1 b) = some (.next, s1 w.params os, Code.body b env, { line := 12, col := 0, endLine := 13, endCol := 8 }) := by kernel_rfl
theorem r2 (p : Program) (w : World) (b : List Stmt) (os : OsState) : runW p w 640 (s1 w.params os) (thr2 b) = some (.next, s2 w.params os, Code.body b env, { line := 18, col := 0, endLine := 19, endCol := 8 }) := by kernel_rfl
theorem r3 (p : Program) (w : World) (b : List Stmt) (os : OsState) : runW p w 706 (s2 w.params os) (thr3 b) = some (.next, s3 w.params os, Code.body b env, { line := 27, col := 0, endLine := 72, endCol := 25 }) := by kernel_rfl
theorem r4 (p : Program) (w : World) (b : List Stmt) (os : OsState) : runW p w 483 (s3 w.params os) (thr4 b) = some (.next, s4 w.params os, Code.body b env, { line := 73, col := 0, endLine := 122, endCol := 28 }) := by kernel_rfl
theorem r5 (p : Program) (w : World) (b : List Stmt) (os : OsState) : runW p w 114 (s4 w.params os) (thr5 b) = some (.next, s5 w.params os, Code.body b env, { line := 150, col := 0, endLine := 160, endCol := 16 }) := by kernel_rfl
theorem r7 (p : Program) (w : World) (b : List Stmt) (os : OsState) : runW p (wF w) 362 (s6 w.params os) (thr7 b) = some (.next, s7 w.params os, Code.body b env, { line := 201, col := 0, endLine := 213, endCol := 12 }) ∧ runW p (wT w) 362 (s6 w.params os) (thr7 b) = some (.next, s7 w.params os, Code.body b env, { line := 201, col := 0, endLine := 213, endCol := 12 }) := ⟨by kernel_rfl, by kernel_rfl⟩
theorem r8 (p : Program) (w : World) (b : List Stmt) (os : OsState) : runW p w 384 (s7 w.params os) (thr8 b) = some (.next, s8 w.params os, Code.body b env, { line := 332, col := 0, endLine := 346, endCol := 16 }) := by kernel_rfl
theorem r9 (p : Program) (w : World) (b : List Stmt) (os : OsState) : runW p w 496 (s8 w.params os) (thr9 b) = some (.next, s9 w.params os, Code.body b env, { line := 424, col := 0, endLine := 428, endCol := 16 }) := by kernel_rfl
theorem r10 (p : Program) (w : World) (b : List Stmt) (os : OsState) : runW p w 371 (s9 w.params os) (thr10 b) = some (.next, s10 w.params os, Code.body b env, { line := 479, col := 0, endLine := 490, endCol := 21 }) := by kernel_rfl
theorem r11 (p : Program) (w : World) (b : List Stmt) (os : OsState) : runW p w 420 (s10 w.params os) (thr11 b) = some (.next, s11 w.params os, Code.body b env, { line := 618, col := 0, endLine := 622, endCol := 47 }) := by kernel_rfl
theorem r12 (p : Program) (w : World) (b : List Stmt) (os : OsState) : runW p (wF w) 369 (s11 w.params os) (thr12 b) = some (.next, s12 w.params os, Code.body b env, { line := 659, col := 0, endLine := 659, endCol := 13 }) ∧ runW p (wT w) 369 (s11 w.params os) (thr12 b) = some (.next, s12 w.params os, Code.body b env, { line := 659, col := 0, endLine := 659, endCol := 13 }) := ⟨by kernel_rfl, by kernel_rfl⟩
theorem r13 (p : Program) (w : World) (b : List Stmt) (os : OsState) : runW p (wF w) 284 (s12 w.params os) (thr13 b) = some (.next, s13 w.params os, Code.body b env, { line := 685, col := 0, endLine := 685, endCol := 8 }) ∧ runW p (wT w) 284 (s12 w.params os) (thr13 b) = some (.next, s13 w.params os, Code.body b env, { line := 685, col := 0, endLine := 685, endCol := 8 }) := ⟨by kernel_rfl, by kernel_rfl⟩
theorem r14 (p : Program) (w : World) (b : List Stmt) (os : OsState) : runW p w 440 (s13 w.params os) (thr14 b) = some (.next, s14 w.params os, Code.body b env, { line := 727, col := 0, endLine := 728, endCol := 55 }) := by kernel_rfl
theorem r15 (p : Program) (w : World) (b : List Stmt) (os : OsState) : runW p (wF w) 515 (s14 w.params os) (thr15 b) = some (.next, s15 w.params os, Code.body b env, { line := 809, col := 0, endLine := 809, endCol := 12 }) ∧ runW p (wT w) 515 (s14 w.params os) (thr15 b) = some (.next, s15 w.params os, Code.body b env, { line := 809, col := 0, endLine := 809, endCol := 12 }) := ⟨by kernel_rfl, by kernel_rfl⟩
theorem r16 (p : Program) (w : World) (b : List Stmt) (os : OsState) : runW p w 391 (s15 w.params os) (thr16 b) = some (.next, s16 w.params os, Code.body b env, { line := 810, col := 0, endLine := 834, endCol := 44 }) := by kernel_rfl
theorem r17 (p : Program) (w : World) (b : List Stmt) (os : OsState) : runW p w 419 (s16 w.params os) (thr17 b) = some (.next, s17 w.params os, Code.body b env, { line := 842, col := 0, endLine := 868, endCol := 32 }) := by kernel_rfl
theorem r18 (p : Program) (w : World) (b : List Stmt) (os : OsState) : runW p w 235 (s17 w.params os) (thr18 b) = some (.next, s18 w.params os, Code.body b env, { line := 903, col := 0, endLine := 903, endCol := 9 }) := by kernel_rfl
theorem r19 (p : Program) (w : World) (b : List Stmt) (os : OsState) : runW p w 716 (s18 w.params os) (thr19 b) = some (.next, s19 w.params os, Code.body b env, { line := 919, col := 0, endLine := 952, endCol := 67 }) := by kernel_rfl
theorem r20 (p : Program) (w : World) (b : List Stmt) (os : OsState) : runW p w 43 (s19 w.params os) (thr20 b) = some (.next, s20 w.params os, Code.body b env, { line := 958, col := 0, endLine := 958, endCol := 8 }) := by kernel_rfl
theorem r21 (p : Program) (w : World) (b : List Stmt) (os : OsState) : runW p w 1023 (s20 w.params os) (thr21 b) = some (.next, s21 w.params os, Code.body b env, { line := 959, col := 0, endLine := 1076, endCol := 60 }) := by kernel_rfl
theorem r22 (p : Program) (w : World) (b : List Stmt) (os : OsState) : runW p w 74 (s21 w.params os) (thr22 b) = some (.next, s22 w.params os, Code.body b env, { line := 1082, col := 0, endLine := 1097, endCol := 28 }) := by kernel_rfl
theorem run1 {p : Program} {w : World} {n : Nat} {s s' : SharedT} {t : Thread} {f : Flow} {c : Code} {q : Pos} (h : runW p w n s t = some (f, s', c, q)) : segRun treeTable p w 11 (some (Value.ref 6)) 1 n s.abs t = some (f, s'.abs, c, q) := segRun_of (runW_eq.trans h)
theorem run2 {p : Program} {w : World} {n : Nat} {s s' : SharedT} {t : Thread} {f : Flow} {c : Code} {q : Pos} (h : runW p (wF w) n s t = some (f, s', c, q) ∧ runW p (wT w) n s t = some (f, s', c, q)) : segRun treeTable p w 11 (some (Value.ref 6)) 1 n s.abs t = some (f, s'.abs, c, q) := by
  refine run1 ?_
  have e := World.withFollow_self w "special-get-raises"
  cases hh : w.params.followText "special-get-raises" with
  | false => rw [hh] at e; have h1 := h.1; unfold wF at h1; rw [e] at h1; exact h1
  | true => rw [hh] at e; have h1 := h.2; unfold wT at h1; rw [e] at h1; exact h1

noncomputable def fh (f : Nat → Obj) (n : Nat) : Heap := ⟨((List.range n).map f).toArray, {}⟩
theorem fh_at (f : Nat → Obj) (n a : Nat) : (fh f n).objs[a]? = if a < n then some (f a) else none := by
  unfold fh
  rw [List.getElem?_toArray, List.getElem?_map]
  by_cases h : a < n
  · rw [List.getElem?_range h, if_pos h]; rfl
  · rw [List.getElem?_eq_none (by rw [List.length_range]; exact Nat.le_of_not_lt h), if_neg h]; rfl
theorem fh_size (f : Nat → Obj) (n : Nat) : (fh f n).objs.size = n := by
  unfold fh
  rw [List.size_toArray, List.length_map, List.length_range]
theorem alive_q (o : Option Obj) : (match o with | some ⟨_, _, .freed, _⟩ => none | o => o) = o.bind alive := by
  cases o with
  | none => rfl
  | some o => obtain ⟨c, d, dt, sl⟩ := o; cases dt <;> rfl
theorem fh_get {f : Nat → Obj} {n a : Nat} (h : a < n) : (fh f n).get? a = alive (f a) := by
  refine (alive_q _).trans ?_
  rw [fh_at, if_pos h]; rfl
theorem fh_none {f : Nat → Obj} {n a : Nat} (h : n ≤ a) : (fh f n).get? a = none := by
  refine (alive_q _).trans ?_
  rw [fh_at, if_neg (Nat.not_lt.mpr h)]; rfl
theorem fh_ext {f g : Nat → Obj} {n : Nat} (h : ∀ i, i < n → f i = g i) : fh f n = fh g n := by
  unfold fh
  rw [List.map_congr_left (fun i hi => h i (List.mem_range.mp hi))]
noncomputable def up (f : Nat → Obj) (a : Nat) (o : Obj) : Nat → Obj := fun i => if i = a then o else f i
theorem up_self {f : Nat → Obj} {a : Nat} {o : Obj} : up f a o a = o := if_pos rfl
theorem up_ne {f : Nat → Obj} {a i : Nat} {o : Obj} (h : i ≠ a) : up f a o i = f i := if_neg h
theorem fh_set {f : Nat → Obj} {n a : Nat} {g : Obj → Obj} : (fh f n).update a g = fh (up f a (g (f a))) n := by
  refine congrArg (Heap.mk · {}) (Array.ext_getElem? fun i => ?_)
  show ((fh f n).objs.modify a g)[i]? = (fh _ n).objs[i]?
  rw [Array.getElem?_modify, fh_at, fh_at]
  by_cases e : a = i
  · subst e
    rw [if_pos rfl, up_self]
    by_cases h : a < n
    · rw [if_pos h, if_pos h]; rfl
    · rw [if_neg h, if_neg h]; rfl
  · rw [if_neg e, up_ne (Ne.symm e)]
theorem fh_push {f : Nat → Obj} {n : Nat} {o : Obj} : (fh f n).push o = fh (up f n o) (n + 1) := by
  refine congrArg (Heap.mk · {}) ?_
  show (((List.range n).map f).toArray.push o) = ((List.range (n + 1)).map (up f n o)).toArray
  rw [List.push_toArray, List.range_succ, List.map_append, List.map_congr_left (fun i hi => (up_ne (Nat.ne_of_lt (List.mem_range.mp hi))).symm)]
  show (_ ++ [o]).toArray = (_ ++ [up f n o n]).toArray
  rw [up_self]
noncomputable def hp (T : BT) (c : Nat → Obj) (n : Nat) : Heap := fh (fun i => (T.get i).getD (c i)) n
theorem hp_get {T : BT} {c : Nat → Obj} {n a : Nat} {o : Obj} (h : a < n) (g : T.get a = some o) : (hp T c n).get? a = alive o := by
  refine (fh_get h).trans ?_
  rw [g]; rfl
theorem hp_set {T : BT} {c : Nat → Obj} {n a : Nat} {o : Obj} {f : Obj → Obj} (g : T.get a = some o) : (hp T c n).update a f = hp (T.set a f) c n := by
  refine fh_set.trans (fh_ext fun i _ => ?_)
  rw [BT.get_set, g]
  by_cases e : i = a
  · subst e; rw [up_self, if_pos rfl]; rfl
  · rw [up_ne e, if_neg e]
def DomB (T : BT) (n : Nat) : Prop := ∀ a o, T.get a = some o → a < n
theorem DomB.set {T : BT} {n a : Nat} {f : Obj → Obj} (D : DomB T n) : DomB (T.set a f) n := by
  intro b o h
  rw [BT.get_set] at h
  by_cases e : b = a
  · subst e
    rw [if_pos rfl] at h
    cases g : T.get b with
    | none => rw [g] at h; cases h
    | some o' => exact D _ _ g
  · rw [if_neg e] at h; exact D _ _ h
noncomputable def heapy : Sem Fin → Bool
  | .load .. | .update .. | .alloc .. | .loadIfAlive .. => true
  | _ => false
theorem heapy_of {cur : Sem Fin} (h : heapy cur = true) : (∃ a q k, cur = .load a q k) ∨ (∃ a q f k, cur = .update a q f k) ∨ (∃ o k, cur = .alloc o k) ∨ ∃ a k, cur = .loadIfAlive a k := by
  cases cur with
  | load a q k => exact .inl ⟨a, q, k, rfl⟩
  | update a q f k => exact .inr (.inl ⟨a, q, f, k, rfl⟩)
  | alloc o k => exact .inr (.inr (.inl ⟨o, k, rfl⟩))
  | loadIfAlive a k => exact .inr (.inr (.inr ⟨a, k, rfl⟩))
  | _ => exact nomatch h
section
variable {den : Code → Sem Fin} {p : Program} {w : World} {H : Heap} {gens : Array GenState} {drawn : Drawn} {k : Nat} {os : OsState} {code : Code} {pos : Pos} {st : List Frame}
theorem step_load {a : Addr} {q : Option Value} {kk : Obj → Sem Fin} {o : Obj} (e : H.get? a = some o) : step den p w ⟨H, gens, drawn, k, os⟩ ⟨.load a q kk, code, pos, st⟩ = .go ⟨H, gens, drawn, k, os⟩ ⟨kk o, code, pos, st⟩ := by
  delta step; dsimp only; rw [e]
theorem step_update {a : Addr} {q : Option Value} {f : Obj → Obj} {kk : Unit → Sem Fin} {o : Obj} (e : H.get? a = some o) : step den p w ⟨H, gens, drawn, k, os⟩ ⟨.update a q f kk, code, pos, st⟩ = .go ⟨H.update a f, gens, drawn, k, os⟩ ⟨kk (), code, pos, st⟩ := by
  delta step; dsimp only; rw [e]; rfl
theorem stepT_else {T : BT} {n : Nat} {life : Life} {cur : Sem Fin} (h : heapy cur = false) : stepT den p w ⟨T, n, life, gens, drawn, k, os⟩ ⟨cur, code, pos, st⟩ = (match step den p w ⟨{}, gens, drawn, k, os⟩ ⟨cur, code, pos, st⟩ with
    | .go s' t' => some (⟨T, n, life, s'.gens, s'.drawn, s'.toks, s'.os⟩, t')
    | .halt _ _ => none) := by
  cases cur <;> first | rfl | cases h
theorem stepT_hp {T : BT} {c : Nat → Obj} {B n N : Nat} {life : Life} {cur : Sem Fin} {r : SharedT × Thread}
    (h : stepT den p w ⟨T, N, life, gens, drawn, k, os⟩ ⟨cur, code, pos, st⟩ = some r) (hn : n ≤ N) (hB : B ≤ n) :
    N ≤ r.1.n ∧ (r.1.n = N → DomB T B → step den p w ⟨hp T c n, gens, drawn, k, os⟩ ⟨cur, code, pos, st⟩ = .go ⟨hp r.1.tree c n, r.1.gens, r.1.drawn, r.1.toks, r.1.os⟩ r.2 ∧ DomB r.1.tree B) := by
  cases hh : heapy cur with
  | false =>
    rw [stepT_else hh] at h
    cases q : step den p w ⟨{}, gens, drawn, k, os⟩ ⟨cur, code, pos, st⟩ with
    | halt o s => rw [q] at h; cases h
    | go s₀ t₀ =>
      rw [q] at h; cases h
      exact ⟨Nat.le_refl _, fun _ D => ⟨step_heap (fun _ _ _ e => by rw [e] at hh; cases hh) (fun _ _ _ _ e => by rw [e] at hh; cases hh) (fun _ _ e => by rw [e] at hh; cases hh) (fun _ _ e => by rw [e] at hh; cases hh) q, D⟩⟩
  | true =>
    revert h
    rcases heapy_of hh with ⟨a, q, kk, rfl⟩ | ⟨a, q, f, kk, rfl⟩ | ⟨o, kk, rfl⟩ | ⟨a, kk, rfl⟩
    · delta stepT; dsimp only
      cases Nat.blt a N with
      | false => intro h; cases h
      | true =>
        dsimp only
        cases g : T.get a with
        | none => intro h; cases h
        | some o =>
          dsimp only
          cases al : alive o with
          | none => intro h; cases h
          | some o' =>
            intro h; cases h
            exact ⟨Nat.le_refl _, fun _ D => ⟨step_load ((hp_get (Nat.lt_of_lt_of_le (D a o g) hB) g).trans al), D⟩⟩
    · delta stepT; dsimp only
      cases Nat.blt a N with
      | false => intro h; cases h
      | true =>
        dsimp only
        cases g : T.get a with
        | none => intro h; cases h
        | some o =>
          dsimp only
          cases al : alive o with
          | none => intro h; cases h
          | some o' =>
            intro h; cases h
            exact ⟨Nat.le_refl _, fun _ D => ⟨hp_set (c := c) g ▸ step_update ((hp_get (Nat.lt_of_lt_of_le (D a o g) hB) g).trans al), D.set⟩⟩
    · delta stepT; dsimp only
      cases ((T.ins N o).get N).isSome with
      | false => intro h; cases h
      | true => intro h; cases h; exact ⟨Nat.le_succ _, fun e => absurd e (Nat.succ_ne_self _)⟩
    · delta stepT; dsimp only
      cases e1 : Nat.blt a N with
      | false =>
        intro h; cases h
        have lt : n ≤ a := Nat.le_trans hn (Nat.le_of_not_lt fun q => by rw [show Nat.blt a N = true from Nat.ble_eq_true_of_le q] at e1; cases e1)
        exact ⟨Nat.le_refl _, fun _ D => ⟨congrArg (fun x => Step.go _ ⟨kk x, code, pos, st⟩) (fh_none lt), D⟩⟩
      | true =>
        dsimp only
        cases g : T.get a with
        | none => intro h; cases h
        | some o =>
          intro h; cases h
          exact ⟨Nat.le_refl _, fun _ D => ⟨congrArg (fun x => Step.go _ ⟨kk x, code, pos, st⟩) (hp_get (Nat.lt_of_lt_of_le (D a o g) hB) g), D⟩⟩
end
section
variable {tb : String → Option Builtin} {p : Program} {w : World} {n₀ : Nat} {ann : Option Value} {b : Nat}
theorem sg_one {s s' : Shared} {t t' : Thread} {m : Nat} {r : Shared × Thread} (he : endAt b t = none) (hk : stepOk n₀ ann t = true) (hs : step (denote tb) p w s t = .go s' t') (h : segGo tb p w n₀ ann b m s' t' = some r) : segGo tb p w n₀ ann b (m + 1) s t = some r := by
  unfold segGo
  rw [he, hk, hs]; exact h
theorem segT_hp {c : Nat → Obj} {B n : Nat} (hB : B ≤ n) : ∀ {m : Nat} {T : BT} {N : Nat} {life : Life} {gens : Array GenState} {drawn : Drawn} {k : Nat} {os : OsState} {t : Thread} {s' : SharedT} {t' : Thread}, segGoT tb p w n₀ ann b m ⟨T, N, life, gens, drawn, k, os⟩ t = some (s', t') → n ≤ N →
    N ≤ s'.n ∧ (s'.n = N → DomB T B → segGo tb p w n₀ ann b m ⟨hp T c n, gens, drawn, k, os⟩ t = some (⟨hp s'.tree c n, s'.gens, s'.drawn, s'.toks, s'.os⟩, t') ∧ DomB s'.tree B)
  | 0, T, N, life, gens, drawn, k, os, t, s', t', h, hn => by cases h; exact ⟨Nat.le_refl _, fun _ D => ⟨rfl, D⟩⟩
  | m + 1, T, N, life, gens, drawn, k, os, ⟨cur, code, pos, st⟩, s', t', h, hn => by
    unfold segGoT at h
    cases he : endAt b ⟨cur, code, pos, st⟩ with
    | some x => rw [he] at h; cases h
    | none =>
      rw [he] at h
      cases hk : stepOk n₀ ann ⟨cur, code, pos, st⟩ with
      | false => rw [hk] at h; cases h
      | true =>
        rw [hk] at h
        cases hs : stepT (denote tb) p w ⟨T, N, life, gens, drawn, k, os⟩ ⟨cur, code, pos, st⟩ with
        | none => rw [hs] at h; cases h
        | some r =>
          rw [hs] at h
          have g1 := stepT_hp (c := c) hs hn hB
          have g2 := segT_hp (c := c) (T := r.1.tree) hB h (Nat.le_trans hn g1.1)
          exact ⟨Nat.le_trans g1.1 g2.1, fun e D => have l3 := Nat.le_antisymm (e ▸ g2.1) g1.1
            have q := g1.2 l3 D
            have q3 := g2.2 (e.trans l3.symm) q.2
            ⟨sg_one he hk q.1 q3.1, q3.2⟩⟩
theorem sg_app : ∀ {n m : Nat} {s s' : Shared} {t t' : Thread} {r : Shared × Thread}, segGo tb p w n₀ ann b n s t = some (s', t') → segGo tb p w n₀ ann b m s' t' = some r → segGo tb p w n₀ ann b (m + n) s t = some r
  | 0, m, s, s', t, t', r, h, k => by cases h; exact k
  | n + 1, m, s, s', t, t', r, h, k => by
    unfold segGo at h
    cases he : endAt b t with
    | some f => rw [he] at h; cases h
    | none =>
      rw [he] at h
      cases hk : stepOk n₀ ann t with
      | false => rw [hk] at h; cases h
      | true =>
        rw [hk] at h
        cases hs : step (denote tb) p w s t with
        | halt o s₂ => rw [hs] at h; cases h
        | go s₂ t₂ => rw [hs] at h; exact sg_one he hk hs (sg_app h k)
end
theorem end_no {b : Nat} {cur : Sem Fin} {c : Code} {p : Pos} {st : List Frame} (h : ∀ f, cur ≠ .pure f) : endAt b ⟨cur, c, p, st⟩ = none := by
  unfold endAt; dsimp only
  cases st.length == b
  · rfl
  · cases cur with
    | pure f => exact absurd rfl (h f)
    | _ => rfl
noncomputable def calmW (t : Thread) : Bool := PySem.W.Fast.tw2348191978395082540 t
theorem calmW_eq {t : Thread} : t.calm = calmW t := by
  unfold calmW
  rw [← PySem.W.Fast.te2348191978395082540]
noncomputable def hotS (A i : Nat) (h : List Obj) (t : Thread) : Option (List Obj × Thread × Nat) := match t.cur with
  | .load a _ k => h[i]?.bind fun o => (alive o).map fun o' => (h, ⟨k o', t.code, t.pos, t.stack⟩, a)
  | .update a _ f k => h[i]?.bind fun o => (alive o).map fun _ => (h.set i (f o), ⟨k (), t.code, t.pos, t.stack⟩, a)
  | .alloc o k => bif Nat.beq i h.length then some (h ++ [o], ⟨k (A + i), t.code, t.pos, t.stack⟩, A + i) else none
  | _ => none
noncomputable def runC (p : Program) (w : World) (A : Nat) : List Nat → List Obj → SharedT → Thread → Option (List Obj × SharedT × Thread × List (Nat × Nat))
  | [], h, s, t => some (h, s, t, [])
  | i :: r, h, s, t => bif Nat.ble 100 i then
      (goW p w (i - 100) s t).bind fun x => bif Nat.ble h.length 100 then bif Nat.beq x.1.n 1000000 then runC p w A r h x.1 x.2 else none else none
    else bif calmW t then
      (hotS A i h t).bind fun x => (runC p w A r x.1 s x.2.1).map fun y => (y.1, y.2.1, y.2.2.1, (x.2.2, A + i) :: y.2.2.2)
    else none
noncomputable def hots (A : Nat) : List Nat → List (Nat × Nat)
  | [] => []
  | i :: r => bif Nat.ble 100 i then hots A r else (A + i, A + i) :: hots A r
theorem hots_ok {A : Nat} : ∀ {l : List Nat} {e : Nat × Nat}, e ∈ hots A l → e.1 = e.2
  | i :: r, e, h => by
    unfold hots at h
    cases q : Nat.ble 100 i with
    | true => rw [q] at h; exact hots_ok h
    | false =>
      rw [q] at h
      rcases List.mem_cons.mp h with rfl | h
      · rfl
      · exact hots_ok h
noncomputable def cost : List Nat → Nat
  | [] => 0
  | i :: r => cost r + (bif Nat.ble 100 i then i - 100 else 1)
theorem hot_at {A : Nat} {h : List Obj} {c : Nat → Obj} {i : Nat} : hotc A h c (A + i) = (h[i]?).getD default := by
  unfold hotc
  rw [if_pos (Nat.le_add_right A i), Nat.add_sub_cancel_left, List.getD_eq_getElem?_getD]
theorem dom_no {T : BT} {A B i : Nat} (hB : B ≤ A) (D : DomB T B) : T.get (A + i) = none := by
  cases g : T.get (A + i) with
  | none => rfl
  | some x => exact absurd (Nat.lt_of_lt_of_le (D _ _ g) (Nat.le_trans hB (Nat.le_add_right A i))) (Nat.lt_irrefl _)
theorem hot_ext {T : BT} {A B i : Nat} {h h' : List Obj} {c : Nat → Obj} {o : Obj} {n : Nat} (hB : B ≤ A) (D : DomB T B) (e : h'[i]? = some o) (f : ∀ j, j ≠ i → h'[j]? = h[j]?) :
    fh (up (fun j => (T.get j).getD (hotc A h c j)) (A + i) o) n = hp T (hotc A h' c) n := by
  refine fh_ext fun j _ => ?_
  by_cases q : j = A + i
  · subst q
    rw [up_self, dom_no hB D, Option.getD_none, hot_at, e]; rfl
  · rw [up_ne q]
    refine congrArg ((T.get j).getD ·) ?_
    unfold hotc
    by_cases u : A ≤ j
    · rw [if_pos u, if_pos u, List.getD_eq_getElem?_getD, List.getD_eq_getElem?_getD, f _ (fun e => q (by rw [← e, Nat.add_sub_cancel' u]))]
    · rw [if_neg u, if_neg u]
theorem hot_get {T : BT} {A B : Nat} {h : List Obj} {c : Nat → Obj} {i : Nat} {o : Obj} (hB : B ≤ A) (D : DomB T B) (e : h[i]? = some o) : (hp T (hotc A h c) (A + h.length)).get? (A + i) = alive o := by
  refine (fh_get (Nat.add_lt_add_left (List.getElem?_eq_some_iff.mp e).1 A)).trans ?_
  rw [dom_no hB D, Option.getD_none, hot_at, e]; rfl
theorem hot_set {T : BT} {A B : Nat} {h : List Obj} {c : Nat → Obj} {i : Nat} {o : Obj} {f : Obj → Obj} (hB : B ≤ A) (D : DomB T B) (e : h[i]? = some o) : (hp T (hotc A h c) (A + h.length)).update (A + i) f = hp T (hotc A (h.set i (f o)) c) (A + (h.set i (f o)).length) := by
  refine fh_set.trans ?_
  rw [dom_no hB D, Option.getD_none, hot_at, e, List.length_set]
  exact hot_ext hB D (List.getElem?_set_self (List.getElem?_eq_some_iff.mp e).1) fun j q => List.getElem?_set_ne (Ne.symm q)
theorem hot_new {T : BT} {A B : Nat} {h : List Obj} {c : Nat → Obj} {o : Obj} (hB : B ≤ A) (D : DomB T B) : (hp T (hotc A h c) (A + h.length)).push o = hp T (hotc A (h ++ [o]) c) (A + (h ++ [o]).length) := by
  refine fh_push.trans ?_
  rw [List.length_append]
  refine hot_ext hB D (List.getElem?_concat_length) fun j q => ?_
  by_cases u : j < h.length
  · rw [List.getElem?_append_left u]
  · rw [List.getElem?_eq_none (Nat.le_of_not_lt u), List.getElem?_eq_none]
    rw [List.length_append]
    exact Nat.lt_of_le_of_ne (Nat.le_of_not_lt u) (Ne.symm q)
theorem bif_t {α : Type} {b : Bool} {x : Option α} {y : α} (h : (bif b then x else none) = some y) : b = true ∧ x = some y := by
  cases b with
  | false => cases h
  | true => exact ⟨rfl, h⟩
theorem bind_t {α β : Type} {x : Option α} {f : α → Option β} {y : β} (h : x.bind f = some y) : ∃ a, x = some a ∧ f a = some y := by
  cases x with
  | none => cases h
  | some a => exact ⟨a, rfl, h⟩
theorem hotS_no {A i : Nat} {h : List Obj} {cur : Sem Fin} {c : Code} {p : Pos} {st : List Frame} (hh : heapy cur = false) : hotS A i h ⟨cur, c, p, st⟩ = none := by
  cases cur <;> first | rfl | exact nomatch hh
theorem hotS_ok {p : Program} {w : World} {A B i : Nat} {c : Nat → Obj} {h : List Obj} {T : BT} {gens : Array GenState} {drawn : Drawn} {k : Nat} {os : OsState} {t : Thread} {x : List Obj × Thread × Nat} (hB : B ≤ A) (hA : 11 ≤ A) (D : DomB T B) (hc : calmW t = true) (e : hotS A i h t = some x) (ea : x.2.2 = A + i) :
    endAt 1 t = none ∧ stepOk 11 (some (Value.ref 6)) t = true ∧ step (denote treeTable) p w ⟨hp T (hotc A h c) (A + h.length), gens, drawn, k, os⟩ t = .go ⟨hp T (hotc A x.1 c) (A + x.1.length), gens, drawn, k, os⟩ x.2.1 := by
  obtain ⟨cur, code, pos, st⟩ := t
  cases hh : heapy cur with
  | false =>
    rw [hotS_no hh] at e; cases e
  | true =>
    rcases heapy_of hh with ⟨a, q, kk, rfl⟩ | ⟨a, q, f, kk, rfl⟩ | ⟨o, kk, rfl⟩ | ⟨a, kk, rfl⟩
    · obtain ⟨o, e1, e⟩ := bind_t e
      obtain ⟨o', e2, rfl⟩ := Option.map_eq_some_iff.mp e
      obtain rfl : a = A + i := ea
      exact ⟨end_no fun _ => nofun, by unfold stepOk; rw [calmW_eq, hc]; rfl, step_load ((hot_get hB D e1).trans e2)⟩
    · obtain ⟨o, e1, e⟩ := bind_t e
      obtain ⟨o', e2, rfl⟩ := Option.map_eq_some_iff.mp e
      obtain rfl : a = A + i := ea
      exact ⟨end_no fun _ => nofun, by
        unfold stepOk; rw [calmW_eq, hc]
        show (true && (Nat.ble 11 (A + i) || _ || _ || _)) = true
        rw [Nat.ble_eq_true_of_le (Nat.le_trans hA (Nat.le_add_right A i))]; rfl, hot_set (c := c) (f := f) hB D e1 ▸ step_update ((hot_get hB D e1).trans e2)⟩
    · obtain ⟨e1, e⟩ := bif_t e
      obtain rfl := Nat.eq_of_beq_eq_true e1
      cases e
      refine ⟨end_no fun _ => nofun, by unfold stepOk; rw [calmW_eq, hc]; rfl, ?_⟩
      show Step.go ⟨(hp T (hotc A h c) (A + h.length)).push o, _, _, _, _⟩ ⟨kk (hp T (hotc A h c) (A + h.length)).objs.size, _, _, _⟩ = _
      rw [hot_new hB D, show (hp T (hotc A h c) (A + h.length)).objs.size = A + h.length from fh_size _ _]
    · cases e
theorem runC_ok {p : Program} {w : World} {A B : Nat} {c : Nat → Obj} (hB : B ≤ A) (hA : 11 ≤ A) (hN : A ≤ 900000) : ∀ {cs : List Nat} {h : List Obj} {s : SharedT} {t : Thread} {r : List Obj × SharedT × Thread × List (Nat × Nat)}, runC p w A cs h s t = some r → (∀ e ∈ r.2.2.2, e.1 = e.2) → s.n = 1000000 → DomB s.tree B →
    segGo treeTable p w 11 (some (Value.ref 6)) 1 (cost cs) ⟨hp s.tree (hotc A h c) (A + h.length), s.gens, s.drawn, s.toks, s.os⟩ t = some (⟨hp r.2.1.tree (hotc A r.1 c) (A + r.1.length), r.2.1.gens, r.2.1.drawn, r.2.1.toks, r.2.1.os⟩, r.2.2.1)
  | [], h, s, t, r, hr, hl, hs, D => by
    cases hr
    rfl
  | i :: cs, h, s, t, r, hr, hl, hs, D => by
    unfold runC at hr
    unfold cost
    cases hi : Nat.ble 100 i with
    | true =>
      rw [hi] at hr
      obtain ⟨x, hg, hr⟩ := bind_t hr
      obtain ⟨hz, hr⟩ := bif_t hr
      obtain ⟨hb, hr⟩ := bif_t hr
      have e1 := Nat.eq_of_beq_eq_true hb
      have g := (segT_hp (c := hotc A h c) (n := A + h.length) (Nat.le_trans hB (Nat.le_add_right _ _)) (goW_eq.trans hg) (hs ▸ Nat.le_trans (Nat.add_le_add hN (Nat.le_of_ble_eq_true hz)) (by decide))).2 (e1.trans hs.symm) D
      exact sg_app g.1 (runC_ok hB hA hN hr hl e1 g.2)
    | false =>
      rw [hi] at hr
      obtain ⟨hc, hr⟩ := bif_t hr
      obtain ⟨x, hx, hr⟩ := bind_t hr
      obtain ⟨y, hy, rfl⟩ := Option.map_eq_some_iff.mp hr
      obtain ⟨q1, q2, q3⟩ := hotS_ok (p := p) (w := w) (c := c) (gens := s.gens) (drawn := s.drawn) (k := s.toks) (os := s.os) hB hA D hc hx (hl _ List.mem_cons_self)
      exact sg_one q1 q2 q3 (runC_ok (r := y) hB hA hN hy (fun e (he : e ∈ y.2.2.2) => hl e (List.mem_cons_of_mem _ he)) hs D)
noncomputable def pX (x : Option (List Obj × SharedT × Thread × List (Nat × Nat))) (t : Thread) : Thread := match x with | some r => r.2.2.1 | none => t
noncomputable def sT (P : Params) (x y z : Obj) (k : Nat) (os : OsState) : SharedT := shr (tb3 P x y z) 1000000 k os
noncomputable def lo (P : Params) (b v k : Value) : Obj := ⟨.type "frame", none, .dict #[en P "table" 517 (.ref 266), en P "byte" 522 b, en P "value" 523 v, en P "k" 528 k] 4, #[]⟩
noncomputable def lsO (a : Array Value) (n : Nat) : Obj := ⟨.type "list", none, .seq a n, #[]⟩
noncomputable def cm1 : List Nat := [113, 0, 101, 0, 0, 101, 0, 101, 0, 104, 0, 0, 102, 0, 101, 0, 0, 0, 1, 101, 1, 101]
noncomputable def cm2 : List Nat := [101, 1, 101, 1, 101, 1, 1, 1, 1, 1, 1, 1, 117]
noncomputable def cm4 : List Nat := [101, 1, 101, 1, 101, 1, 1, 1, 101, 2, 3, 102, 3, 120]
noncomputable def cm7 : List Nat := [112, 4, 5, 102, 5, 114]
noncomputable def at_ (t : Thread) (q : Pos) : Thread := ⟨t.cur, t.code, q, t.stack⟩
noncomputable def has (t : Thread) (c : Sem Fin) : Thread := ⟨c, t.code, t.pos, t.stack⟩
noncomputable def retv (v : Value) : Sem Fin := .pure (.done (.ret v))
noncomputable def shS (v : Int) : Sem Fin := if (1 : Int) ≥ (Builtin.Int.intBits v : Int) then .rule "int.rshift.all-bits" (fun _ => .fresh fun t => retv (.int (if v < 0 then -1 else 0) t)) else .fresh fun t => retv (.int (v.fdiv (2 ^ (1 : Int).toNat)) t)
noncomputable def pushW (a : Array Value) (x : Value) : Array Value := PySem.W.Fast.tw2398297429280069960 a x
theorem pushW_eq {a : Array Value} {x : Value} : pushW a x = a.push x := by
  unfold pushW
  rw [← PySem.W.Fast.te2398297429280069960]
noncomputable def apO (a : Array Value) (n : Nat) (x : Value) : Obj := lsO (pushW a x) (if (pushW a x).size == a.size then n else n + 1)
noncomputable def apS (o : Obj) : Sem Fin := PySem.W.R.bindR (match o.data.pastItsLine with | some what => (Sem.unsupported what : Sem Unit) | _ => .pure ()) fun _ => retv .none
section
variable (p : Program) (w : World) (b : List Stmt) (os : OsState)
noncomputable def thI (A : Nat) : Thread := pX (runC p (wF w) A cm1 [] (sT w.params tup0 tup0 tup0 0 os) (thrA p w b os)) (thrA p w b os)
noncomputable def thX (A : Nat) (v : Value) (k : Nat) (q : Pos) : Thread := pX (runC p w A cm2 [tup0, rit 0 8] (sT w.params (lo w.params .none v .none) tup0 tup0 k os) (at_ (thI p w b os A) q)) (thrA p w b os)
noncomputable def thY (A : Nat) (v : Value) (k : Nat) (q : Pos) (i : Int) : Thread := pX (runC p w A [112] [] (sT w.params (lo w.params .none v .none) tup0 tup0 (k + 4) os) (has (thX p w b os A v k q) (retv (.int i (k + 3))))) (thrA p w b os)
noncomputable def thP (A : Nat) (v : Value) (q : Pos) : Thread := pX (runC p w A cm4 [tup0, rit 8 0] (sT w.params (lo w.params .none v .none) (lsO #[] 0) tup0 0 os) (at_ (thI p w b os A) q)) (thrA p w b os)
variable (A k m : Nat) (g x y z : Obj) (v u j : Int) (t : Tok) (bv kv v2 : Value) (q : Pos)
theorem e1 : runC p (wF w) (A + 269) cm1 [] (sT w.params x y z k os) (thrA p w b os) = some ([rg (k + 1), rit 0 8], sT w.params x y z (k + 3) os, thI p w b os (A + 269), hots (A + 269) cm1) := by kernel_rfl
theorem e1' : runC p (wT w) (A + 269) cm1 [] (sT w.params x y z k os) (thrA p w b os) = some ([rg (k + 1), rit 0 8], sT w.params x y z (k + 3) os, thI p w b os (A + 269), hots (A + 269) cm1) := by kernel_rfl
theorem e2 : runC p w (A + 269) cm2 [g, rit j (.ofNat (m + 1))] (sT w.params (lo w.params bv (.int v t) kv) y z k os) (at_ (thI p w b os (A + 269)) q) =
    some ([g, rit (j + 1) (.ofNat (m + 1) - 1)], sT w.params (lo w.params bv (.int v t) (.int j k)) y z (k + 4) os, has (thX p w b os (A + 269) (.int v t) k q) (retv (.int (Builtin.bitAnd v 1) (k + 3))), hots (A + 269) cm2) := by kernel_rfl
theorem e3 : (runC p w (A + 269) [112] [g, x] (sT w.params (lo w.params bv (.int v t) kv) y z (k + 4) os) (has (thX p w b os (A + 269) (.int v t) k q) (retv (.int 1 (k + 3)))), runC p w (A + 269) [112] [g, x] (sT w.params (lo w.params bv (.int v t) kv) y z (k + 4) os) (has (thX p w b os (A + 269) (.int v t) k q) (retv (.int 0 (k + 3))))) =
    (some ([g, x], sT w.params (lo w.params bv (.int v t) kv) y z (k + 5) os, has (thY p w b os (A + 269) (.int v t) k q 1) (shS v), []), some ([g, x], sT w.params (lo w.params bv (.int v t) kv) y z (k + 5) os, has (thY p w b os (A + 269) (.int v t) k q 0) (shS v), [])) := by kernel_rfl
theorem e4 : (runC p w (A + 269) [116] [g, x] (sT w.params (lo w.params bv (.int v t) kv) y z (k + 6) os) (has (thY p w b os (A + 269) (.int v t) k q 1) (retv (.int u (k + 5)))), runC p w (A + 269) [109] [g, x] (sT w.params (lo w.params bv (.int v t) kv) y z (k + 6) os) (has (thY p w b os (A + 269) (.int v t) k q 0) (retv (.int u (k + 5))))) =
    (some ([g, x], sT w.params (lo w.params bv (.int (Builtin.bitXor u 3988292384) (k + 6)) kv) y z (k + 8) os, at_ (thI p w b os (A + 269)) { line := 156, col := 16, endLine := 156, endCol := 21 }, []), some ([g, x], sT w.params (lo w.params bv (.int u (k + 5)) kv) y z (k + 7) os, at_ (thI p w b os (A + 269)) { line := 158, col := 16, endLine := 158, endCol := 21 }, [])) := by kernel_rfl
theorem calmY (f : Tok → Sem Fin) (g : Unit → Sem Fin) : ((calmW (has (thY p w b os (A + 269) (.int v t) k q 1) (.fresh f)), calmW (has (thY p w b os (A + 269) (.int v t) k q 1) (.rule "int.rshift.all-bits" g))), calmW (has (thY p w b os (A + 269) (.int v t) k q 0) (.fresh f)), calmW (has (thY p w b os (A + 269) (.int v t) k q 0) (.rule "int.rshift.all-bits" g))) = ((true, true), true, true) := by kernel_rfl
theorem e5 (a : Array Value) (n : Nat) : runC p w (A + 269) cm4 [g, rit j 0] (sT w.params (lo w.params bv (.int v t) kv) (lsO a n) z k os) (at_ (thI p w b os (A + 269)) q) =
    some ([g, rit j 0, tup0, se (A + 271)], sT w.params (lo w.params bv (.int v t) kv) (apO a n (.int v t)) z k os, has (thP p w b os (A + 269) (.int v t) q) (apS (apO a n (.int v t))), hots (A + 269) cm4) := by kernel_rfl
theorem e6 : runC p w (A + 269) [134] [g, x, tup0, z] (sT w.params (lo w.params bv v2 kv) y (rit j (.ofNat (m + 1))) k os) (has (thP p w b os (A + 269) (.int v t) q) (retv .none)) =
    some ([g, x, tup0, z], sT w.params (lo w.params (.int j k) (.int j k) kv) y (rit (j + 1) (.ofNat (m + 1) - 1)) (k + 3) os, thrA p w b os, []) := by kernel_rfl
theorem e2z : runC p w (4 * 0 + 269) cm2 [g, rit 0 (.ofNat (7 + 1))] (sT w.params (lc0 w.params) y z (tk 0 + 3) os) (at_ (thI p w b os (4 * 0 + 269)) q) =
    some ([g, rit (0 + 1) (.ofNat (7 + 1) - 1)], sT w.params (lo w.params (.int 0 521) (.int 0 521) (.int 0 (tk 0 + 3))) y z (tk 0 + 3 + 4) os, has (thX p w b os (4 * 0 + 269) (.int 0 521) (tk 0 + 3) q) (retv (.int (Builtin.bitAnd 0 1) (tk 0 + 3 + 3))), hots (4 * 0 + 269) cm2) := by kernel_rfl
theorem e0 : (goW p (wF w) 92 (s5 w.params os) (thr6 b), goW p (wT w) 92 (s5 w.params os) (thr6 b)) = (some (shr (insL (T5 w.params) 265 [lc0 w.params, ls 0, r256, oi 0]) 269 (tk 0) os, thrA p w b os), some (shr (insL (T5 w.params) 265 [lc0 w.params, ls 0, r256, oi 0]) 269 (tk 0) os, thrA p w b os)) := by kernel_rfl
noncomputable def fin6 : Thread := ⟨doneF .next, Code.body b env, { line := 161, col := 0, endLine := 161, endCol := 6 }, [topFrame { line := 0, col := 0, endLine := 0, endCol := 0 }]⟩
theorem e7 : runC p w (4 * 255 + 269) cm7 [g, rit 8 0, tup0, se (4 * 255 + 271)] (sT w.params (lcE w.params) y (oi 255) 17417 os) (has (thP p w b os (4 * 255 + 269) (.int 755167117 17415) q) (retv .none)) =
    some ([g, rit 8 0, tup0, se (4 * 255 + 271), tup0, se 1293], shr ((tb3 w.params (lcE w.params) y (rit 256 0)).set 3 fun _ => gE w.params) 1000000 17418 os, fin6 b, hots (4 * 255 + 269) cm7) := by kernel_rfl
end
theorem bnd_l {i n : Nat} (h : i / 2 < n / 2) : i < n := by omega
theorem bnd_r {i n : Nat} (z : i ≠ 0) (o : i % 2 ≠ 1) (h : i / 2 - 1 < (n - 1) / 2) : i < n := by omega
theorem bnd_ok : ∀ (T : BT) (n i : Nat) (o : Obj), bnd T n = true → T.get i = some o → i < n
  | .nil, _, _, _, _, h => by cases h
  | .node v l r, n, i, o, d, h => by
    unfold bnd at d
    have d := Bool.and_eq_true_iff.mp d
    have d2 := Bool.and_eq_true_iff.mp d.2
    rw [BT.get_node] at h
    by_cases z : i = 0
    · subst z; exact Nat.le_of_ble_eq_true d.1
    · rw [if_neg z] at h
      by_cases odd : i % 2 = 1
      · rw [if_pos odd] at h
        exact bnd_l (bnd_ok l _ _ o d2.1 h)
      · rw [if_neg odd] at h
        exact bnd_r z odd (bnd_ok r _ _ o d2.2 h)
theorem tF_get : ∀ {d : Nat} {f : Nat → Obj} {i : Nat}, i + 1 < 2 ^ d → (tF f d).get i = some (f i)
  | 0, f, i, h => absurd h (by simp)
  | d + 1, f, i, h => by
    rw [Nat.pow_succ] at h
    unfold tF
    rw [BT.get_node]
    by_cases z : i = 0
    · subst z; rfl
    · rw [if_neg z]
      by_cases odd : i % 2 = 1
      · rw [if_pos odd, tF_get (by omega), show 2 * (i / 2) + 1 = i by omega]
      · rw [if_neg odd, tF_get (by omega), show 2 * (i / 2 - 1) + 2 = i by omega]
theorem tb3_dom (P : Params) (x y z : Obj) : DomB (tb3 P x y z) 269 := DomB.set (DomB.set (DomB.set fun _ _ h => bnd_ok _ _ _ _ (show bnd (tz P) 269 = true by kernel_rfl) h))
noncomputable def SS (P : Params) (A : Nat) (x y z : Obj) (h : List Obj) (k : Nat) (os : OsState) : Shared := ⟨hp (tb3 P x y z) (hotc A h cF) (A + h.length), { toList := [] }, { }, k, os⟩
def Go (p : Program) (w : World) (N : Nat) (s : Shared) (t : Thread) (s' : Shared) (t' : Thread) : Prop := ∃ m, m ≤ N ∧ segGo treeTable p w 11 (some (Value.ref 6)) 1 m s t = some (s', t')
section
variable {p : Program} {w : World} {b : List Stmt} {os : OsState}
theorem Go.trans {N M : Nat} {s s' s'' : Shared} {t t' t'' : Thread} (h : Go p w N s t s' t') (k : Go p w M s' t' s'' t'') : Go p w (N + M) s t s'' t'' := by
  obtain ⟨m, l, e⟩ := h
  obtain ⟨m', l', e'⟩ := k
  exact ⟨m' + m, Nat.add_comm m m' ▸ Nat.add_le_add l l', sg_app e e'⟩
theorem Go.le {N M : Nat} {s s' : Shared} {t t' : Thread} (h : Go p w N s t s' t') (l : N ≤ M) : Go p w M s t s' t' := h.elim fun m e => ⟨m, Nat.le_trans e.1 l, e.2⟩
theorem two_run {α : Type} {f : World → Option α} {r : α} (hF : f (wF w) = some r) (hT : f (wT w) = some r) : f w = some r := by
  have e := World.withFollow_self w "special-get-raises"
  cases hh : w.params.followText "special-get-raises" with
  | false => rw [hh] at e; unfold wF at hF; rw [e] at hF; exact hF
  | true => rw [hh] at e; unfold wT at hT; rw [e] at hT; exact hT
theorem run_go {P : Params} {A k k' : Nat} {cs : List Nat} {h h' : List Obj} {x y z x' y' z' : Obj} {t t' : Thread} {l : List Nat} (hN : A ≤ 2000) (e : runC p w (A + 269) cs h (sT P x y z k os) t = some (h', sT P x' y' z' k' os, t', hots (A + 269) l)) :
    Go p w (cost cs) (SS P (A + 269) x y z h k os) t (SS P (A + 269) x' y' z' h' k' os) t' :=
  ⟨_, Nat.le_refl _, runC_ok (r := (h', sT P x' y' z' k' os, t', hots (A + 269) l)) (Nat.le_add_left 269 A) (Nat.le_trans (by decide) (Nat.le_add_left 269 A)) (Nat.le_trans (Nat.add_le_add_right hN 269) (by decide)) e (fun _ he => hots_ok he) rfl (tb3_dom P x y z)⟩
theorem one_bit (v : Int) : Builtin.bitAnd v 1 = 0 ∨ Builtin.bitAnd v 1 = 1 := by
  have key : ∀ n : Nat, n &&& 1 = 0 ∨ n &&& 1 = 1 := fun n => by rw [Nat.and_one_is_mod]; exact Nat.mod_two_eq_zero_or_one n
  unfold Builtin.bitAnd
  cases decide (0 ≤ v) with
  | true => exact (key v.toNat).imp (congrArg Int.ofNat) (congrArg Int.ofNat)
  | false =>
    have h := key (Builtin.bitNot v).toNat
    rw [Nat.and_comm] at h
    exact (h.imp (fun e => congrArg (fun n : Nat => (1 : Int) - (n : Int)) e) (fun e => congrArg (fun n : Nat => (1 : Int) - (n : Int)) e)).symm
theorem sh_go {P : Params} {A k : Nat} {x y z : Obj} {h : List Obj} {t : Thread} (v : Int) (c1 : ∀ f, calmW (has t (.fresh f)) = true) (c2 : ∀ g, calmW (has t (.rule "int.rshift.all-bits" g)) = true) :
    Go p w 2 (SS P A x y z h k os) (has t (shS v)) (SS P A x y z h (k + 1) os) (has t (retv (.int (shV v) k))) := by
  have f1 : ∀ i : Tok → Value, segGo treeTable p w 11 (some (Value.ref 6)) 1 1 (SS P A x y z h k os) (has t (.fresh fun t => retv (i t))) = some (SS P A x y z h (k + 1) os, has t (retv (i k))) := fun i =>
    sg_one (end_no fun _ => nofun) (by unfold stepOk; rw [calmW_eq, c1]; rfl) rfl rfl
  unfold shS shV
  by_cases e : (1 : Int) ≥ (Builtin.Int.intBits v : Int)
  · rw [if_pos e, if_pos e]
    exact ⟨2, Nat.le_refl _, sg_one (end_no fun _ => nofun) (by unfold stepOk; rw [calmW_eq, c2]; rfl) rfl (f1 _)⟩
  · rw [if_neg e, if_neg e]
    exact ⟨1, by decide, f1 _⟩
theorem turnG {A k N : Nat} (hA : A ≤ 2000) {g x y z : Obj} {v : Int} {t : Tok} {bv kv : Value} {q : Pos} {s : Shared} {th : Thread}
    (a1 : Go p w N s th (SS w.params (A + 269) (lo w.params bv (.int v t) kv) y z [g, x] (k + 4) os) (has (thX p w b os (A + 269) (.int v t) k q) (retv (.int (Builtin.bitAnd v 1) (k + 3))))) :
    ∃ q', Go p w (N + 30) s th (SS w.params (A + 269) (lo w.params bv (.int (puV v) (puK v k - 2)) kv) y z [g, x] (puK v k) os) (at_ (thI p w b os (A + 269)) q') := by
  have e3 := e3 p w b os A k g x y z v t bv kv q
  have e4 := e4 p w b os A k g x y z v (shV v) t bv kv q
  have c := fun f g => calmY p w b os A k v t q f g
  unfold puV puK
  rcases one_bit v with e | e
  · rw [e] at a1
    rw [if_neg (by rw [e]; decide), if_neg (by rw [e]; decide)]
    exact ⟨_, (((a1.trans (run_go (l := []) hA (Prod.mk.inj e3).2)).trans (sh_go v (fun f => (Prod.mk.inj (Prod.mk.inj (c f fun _ => retv .none)).2).1) (fun g => (Prod.mk.inj (Prod.mk.inj (c (fun _ => retv .none) g)).2).2))).trans (run_go (l := []) hA (Prod.mk.inj e4).2)).le (Nat.add_le_add_left (by decide : 12 + 2 + 9 ≤ 30) N)⟩
  · rw [e] at a1
    rw [if_pos e, if_pos e]
    exact ⟨_, (((a1.trans (run_go (l := []) hA (Prod.mk.inj e3).1)).trans (sh_go v (fun f => (Prod.mk.inj (Prod.mk.inj (c f fun _ => retv .none)).1).1) (fun g => (Prod.mk.inj (Prod.mk.inj (c (fun _ => retv .none) g)).1).2))).trans (run_go (l := []) hA (Prod.mk.inj e4).1)).le (Nat.add_le_add_left (by decide : 12 + 2 + 16 ≤ 30) N)⟩
theorem turns {A : Nat} (hA : A ≤ 2000) {g y z : Obj} {bv : Value} : ∀ {n m : Nat} {v j : Int} {t k : Nat} {kv : Value} {q : Pos},
    ∃ q', Go p w (60 * n) (SS w.params (A + 269) (lo w.params bv (.int v t) kv) y z [g, rit j (.ofNat (m + n))] k os) (at_ (thI p w b os (A + 269)) q)
      (SS w.params (A + 269) (lo w.params bv (.int (it n v t kv j k).1 (it n v t kv j k).2.1) (it n v t kv j k).2.2.1) y z [g, rit (j + n) (.ofNat m)] (it n v t kv j k).2.2.2 os) (at_ (thI p w b os (A + 269)) q')
  | 0, m, v, j, t, k, kv, q => by
    rw [show j + ((0 : Nat) : Int) = j from Int.add_zero j]
    exact ⟨q, 0, Nat.le_refl _, rfl⟩
  | n + 1, m, v, j, t, k, kv, q => by
    have a1 := run_go hA (e2 p w b os A k (m + n) g y z v j t bv kv q)
    rw [show (Int.ofNat (m + n + 1) - 1 : Int) = Int.ofNat (m + n) from Int.add_sub_cancel (m + n : Nat) 1] at a1
    obtain ⟨q1, h1⟩ := turnG hA a1
    obtain ⟨q2, h2⟩ := turns (n := n) (m := m) (v := puV v) (j := j + 1) (t := puK v k - 2) (k := puK v k) (kv := .int j k) (q := q1) hA
    rw [show j + 1 + (n : Int) = j + ((n + 1 : Nat) : Int) by rw [Int.add_assoc, Int.add_comm 1]; rfl] at h2
    exact ⟨q2, (h1.trans h2).le (Nat.le_trans (Nat.add_le_add_right (by decide : cost cm2 + 30 ≤ 60) (60 * n)) (Nat.le_of_eq (Nat.add_comm 60 (60 * n))))⟩
theorem ss_next (P : Params) (x : Nat) (X Y Z : Obj) (k : Nat) : SS P (4 * x + 269) X Y Z [rg (tk x + 1), rit 8 0, tup0, se (4 * x + 271)] k os = SS P (4 * (x + 1) + 269) X Y Z [] k os := by
  refine congrArg (fun H => (⟨H, { toList := [] }, { }, k, os⟩ : Shared)) (?_ : hp _ _ (4 * x + 269 + 4) = hp _ _ (4 * (x + 1) + 269 + 0))
  rw [show 4 * x + 269 + 4 = 4 * (x + 1) + 269 + 0 from (Nat.add_right_comm (4 * x) 269 4)]
  refine fh_ext fun i hi => congrArg (((tb3 P X Y Z).get i).getD ·) ?_
  unfold hotc
  rw [if_neg (Nat.not_le.mpr hi)]
  by_cases u : 4 * x + 269 ≤ i
  · rw [if_pos u]
    obtain ⟨r, rfl⟩ := Nat.le.dest u
    have hr : r < 4 := Nat.lt_of_add_lt_add_left (n := 4 * x + 269) (Nat.add_right_comm (4 * x) 269 4 ▸ hi)
    unfold cF fF
    rw [if_neg (Nat.not_lt.mpr (Nat.le_trans (Nat.le_add_left 269 (4 * x)) (Nat.le_add_right _ r))), Nat.add_sub_cancel_left, Nat.add_right_comm, Nat.add_sub_cancel, Nat.mul_add_div (by decide), Nat.mul_add_mod, Nat.div_eq_of_lt hr, Nat.mod_eq_of_lt hr]
    match r, hr with
    | 0, _ => rfl
    | 1, _ => rfl
    | 2, _ => rfl
    | 3, _ => exact congrArg se (Nat.add_comm _ _)
  · rw [if_neg u]
theorem ap_ls (x : Nat) (hx : x < 256) : apO (rwL x).toArray x (rwV x) = ls (x + 1) ∧ apS (apO (rwL x).toArray x (rwV x)) = retv .none := by
  have hl : ∀ n, (rwL n).length = n := fun n => by
    induction n with
    | zero => rfl
    | succ n ih => exact List.length_append.trans (congrArg (· + 1) ih)
  have e : apO (rwL x).toArray x (rwV x) = ls (x + 1) := by
    unfold apO ls lsO
    rw [pushW_eq, if_neg (by simp), List.push_toArray]; rfl
  refine ⟨e, ?_⟩
  rw [e]
  have e2 : (ls (x + 1)).data.pastItsLine = none := if_neg (by
    rw [List.size_toArray, hl]
    exact Nat.not_lt.mpr (Nat.le_trans hx (by decide)))
  unfold apS
  rw [e2]; rfl
noncomputable def St (P : Params) (x : Nat) (os : OsState) : Shared := SS P (4 * x + 269) (lo P (.int x (tk x - 3)) (.int x (tk x - 3)) (.int 7 (czsq x).2)) (ls x) (oi x) [] (tk x) os
theorem byteG {x N : Nat} (h : x < 255) {s : Shared} {th : Thread} {q1 : Pos} {bv : Value}
    (a2 : Go p w N s th (SS w.params (4 * x + 269) (lo w.params bv (rwV x) (.int 7 (czsq (x + 1)).2)) (ls x) (oi x) [rg (tk x + 1), rit 8 0] (rw8 x).2.2.2 os) (at_ (thI p w b os (4 * x + 269)) q1)) :
    Go p w (N + 100) s th (St w.params (x + 1) os) (thrA p w b os) := by
  have hA : 4 * x ≤ 2000 := Nat.le_trans (Nat.mul_le_mul_left 4 (Nat.le_of_lt h)) (by decide)
  obtain ⟨g1, g2⟩ := ap_ls x (Nat.lt_succ_of_lt h)
  have a3 := run_go hA (e5 p w b os (4 * x) (rw8 x).2.2.2 (rg (tk x + 1)) (oi x) (rw8 x).1 8 (rw8 x).2.1 bv (.int 7 (czsq (x + 1)).2) q1 (rwL x).toArray x)
  rw [show Value.int (rw8 x).1 (rw8 x).2.1 = rwV x from rfl, g2, g1] at a3
  have ez : oi x = rit ((x : Int) + 1) (.ofNat (254 - x + 1)) := congrArg (rit _) (by show (255 : Int) - (x : Int) = ((254 - x + 1 : Nat) : Int); omega)
  have ez' : rit ((x : Int) + 1 + 1) (.ofNat (254 - x + 1) - 1) = oi (x + 1) := congrArg (rit _) (by show ((254 - x + 1 : Nat) : Int) - 1 = (255 : Int) - ((x + 1 : Nat) : Int); omega)
  have a4 := run_go (l := []) hA (e6 p w b os (4 * x) (rw8 x).2.2.2 (254 - x) (rg (tk x + 1)) (rit 8 0) (ls (x + 1)) (se (4 * x + 271)) (rw8 x).1 ((x : Int) + 1) (rw8 x).2.1 bv (.int 7 (czsq (x + 1)).2) (rwV x) q1)
  rw [← ez, ez', ss_next (os := os) w.params x (lo w.params (.int ((x : Int) + 1) (rw8 x).2.2.2) (.int ((x : Int) + 1) (rw8 x).2.2.2) (.int 7 (czsq (x + 1)).2)) (ls (x + 1)) (oi (x + 1)) ((rw8 x).2.2.2 + 3)] at a4
  exact ((a2.trans a3).trans a4).le (Nat.le_trans (Nat.le_of_eq (Nat.add_assoc N _ _)) (Nat.add_le_add_left (by decide : cost cm4 + cost [134] ≤ 100) N))
theorem at_pos (t : Thread) : at_ t t.pos = t := by cases t; rfl
theorem start_b (x : Nat) (hx : 4 * x ≤ 2000) (X Y Z : Obj) : Go p w 40 (SS w.params (4 * x + 269) X Y Z [] (tk x) os) (thrA p w b os) (SS w.params (4 * x + 269) X Y Z [rg (tk x + 1), rit 0 (.ofNat (0 + 8))] (tk x + 3) os) (at_ (thI p w b os (4 * x + 269)) (thI p w b os (4 * x + 269)).pos) := by
  rw [at_pos]
  exact (run_go hx (two_run (f := fun w' => runC p w' (4 * x + 269) cm1 [] (sT w.params X Y Z (tk x) os) (thrA p w b os)) (e1 p w b os (4 * x) (tk x) X Y Z) (e1' p w b os (4 * x) (tk x) X Y Z))).le (by decide)
theorem it_any (n : Nat) (v j : Int) (t k : Nat) (kv : Value) : it (n + 1) v t kv j k = it (n + 1) v 0 .none j k := rfl
theorem eight (x : Nat) (hx : 4 * x ≤ 2000) : ∃ q1, Go p w 520 (St w.params x os) (thrA p w b os) (SS w.params (4 * x + 269) (lo w.params (.int x (tk x - 3)) (rwV x) (.int 7 (czsq (x + 1)).2)) (ls x) (oi x) [rg (tk x + 1), rit 8 0] (rw8 x).2.2.2 os) (at_ (thI p w b os (4 * x + 269)) q1) := by
  obtain ⟨q1, a2⟩ := turns (p := p) (w := w) (b := b) (os := os) (g := rg (tk x + 1)) (y := ls x) (z := oi x) (bv := .int x (tk x - 3)) (n := 8) (m := 0) (v := x) (j := 0) (t := tk x - 3) (k := tk x + 3) (kv := .int 7 (czsq x).2) (q := (thI p w b os (4 * x + 269)).pos) hx
  rw [it_any 7] at a2
  exact ⟨q1, ((start_b x hx _ (ls x) (oi x)).trans a2).le (by decide)⟩
theorem byte0 : Go p w 620 (SS w.params (4 * 0 + 269) (lc0 w.params) (ls 0) (oi 0) [] (tk 0) os) (thrA p w b os) (St w.params 1 os) (thrA p w b os) := by
  have a2 := run_go (by decide) (e2z p w b os (rg (tk 0 + 1)) (ls 0) (oi 0) (thI p w b os (4 * 0 + 269)).pos)
  rw [show (Int.ofNat (7 + 1) - 1 : Int) = Int.ofNat (0 + 7) from rfl] at a2
  obtain ⟨q1, a3⟩ := turnG (by decide) ((start_b 0 (by decide) (lc0 w.params) (ls 0) (oi 0)).trans a2)
  obtain ⟨q2, a4⟩ := turns (p := p) (w := w) (b := b) (os := os) (g := rg (tk 0 + 1)) (y := ls 0) (z := oi 0) (bv := .int 0 521) (A := 4 * 0) (n := 7) (m := 0) (v := puV 0) (j := 0 + 1) (t := puK 0 (tk 0 + 3) - 2) (k := puK 0 (tk 0 + 3)) (kv := .int 0 (tk 0 + 3)) (q := q1) (by decide)
  exact (byteG (x := 0) (N := 520) (by decide) ((a3.trans a4).le (by decide))).le (by decide)
theorem bytes_ : ∀ {n : Nat}, n < 255 → Go p w (620 * n) (St w.params 1 os) (thrA p w b os) (St w.params (n + 1) os) (thrA p w b os)
  | 0, _ => ⟨0, Nat.le_refl _, rfl⟩
  | n + 1, h => by
    obtain ⟨q1, a⟩ := eight (p := p) (w := w) (b := b) (os := os) (n + 1) (Nat.le_trans (Nat.mul_le_mul_left 4 (Nat.le_of_lt h)) (by decide))
    exact (bytes_ (Nat.lt_of_succ_lt h)).trans (byteG (N := 520) h a)
end
theorem table_ (p : Program) (w : World) (b : List Stmt) (os : OsState) : ∃ M, M ≤ 200000 ∧ segRun treeTable p w 11 (some (Value.ref 6)) 1 M (s5 w.params os).abs (thr6 b) = some (.next, (s6 w.params os).abs, Code.body b env, { line := 161, col := 0, endLine := 161, endCol := 6 }) := by
  have a0 : Go p w 92 (s5 w.params os).abs (thr6 b) (SS w.params (4 * 0 + 269) (lc0 w.params) (ls 0) (oi 0) [] (tk 0) os) (thrA p w b os) := by
    refine ⟨92, Nat.le_refl _, (segGo_of (goW_eq.trans (two_run (f := fun w' => goW p w' 92 (s5 w.params os) (thr6 b)) (Prod.mk.inj (e0 p w b os)).1 (Prod.mk.inj (e0 p w b os)).2))).trans (congrArg (fun H => some ((⟨H, { toList := [] }, { }, tk 0, os⟩ : Shared), thrA p w b os)) ?_)⟩
    rw [show insL (T5 w.params) 265 [lc0 w.params, ls 0, r256, oi 0] = tb3 w.params (lc0 w.params) (ls 0) (oi 0) by kernel_rfl]
    refine fh_ext (n := 269) fun i hi => congrArg (((tb3 w.params (lc0 w.params) (ls 0) (oi 0)).get i).getD ·) ?_
    unfold hotc cF
    rw [if_neg (Nat.not_le.mpr hi), if_pos hi]
  obtain ⟨q1, a1⟩ := eight (p := p) (w := w) (b := b) (os := os) 255 (by decide)
  rw [show rwV 255 = .int 755167117 17415 by kernel_rfl, show (rw8 255).2.2.2 = 17417 by kernel_rfl, show lo w.params (.int ((255 : Nat) : Int) (tk 255 - 3)) (.int 755167117 17415) (.int 7 (czsq (255 + 1)).2) = lcE w.params by kernel_rfl] at a1
  have a2 := run_go (by decide) (e5 p w b os (4 * 255) 17417 (rg (tk 255 + 1)) (oi 255) 755167117 8 17415 (.int 255 17349) (.int 7 17410) q1 (rwL 255).toArray 255)
  obtain ⟨g1, g2⟩ := ap_ls 255 (by decide)
  rw [show rwV 255 = .int 755167117 17415 by kernel_rfl] at g1 g2
  rw [g2, g1] at a2
  have a3 := runC_ok (c := cF) (B := 269) (by decide) (by decide) (by decide) (e7 p w b os (rg (tk 255 + 1)) (ls 256) q1) (fun _ he => hots_ok he) rfl (tb3_dom _ _ _ _)
  obtain ⟨M, l, h⟩ := ((((a0.trans byte0).trans (bytes_ (n := 254) (by decide))).trans a1).trans a2).trans ⟨_, Nat.le_refl _, a3⟩
  refine ⟨1 + M, Nat.le_trans (Nat.add_le_add_left l 1) (by decide), ?_⟩
  rw [Nat.add_comm]
  refine seg_go h (congrArg (fun H => some (Flow.next, (⟨H, { toList := [] }, { }, 17418, os⟩ : Shared), Code.body b env, _)) ?_)
  exact fh_ext (n := 1295) fun i hi => (show _ = ((T6 w.params).get i).getD default by unfold T6; rw [tF_get (Nat.lt_of_lt_of_le (Nat.succ_lt_succ hi) (by decide))]; rfl)
theorem run_mono {tb : String → Option Builtin} {p : Program} {w : World} {n₀ : Nat} {ann : Option Value} {n m : Nat} {s r : Shared} {t : Thread} (h : topRun tb p w n₀ ann n s t = some r) (l : n ≤ m) : topRun tb p w n₀ ann m s t = some r := by
  obtain ⟨k, rfl⟩ := Nat.le.dest l
  exact topRun_mono k _ _ _ _ h
theorem piece_le {tb : String → Option Builtin} {p : Program} {w : World} {n₀ : Nat} {ann : Option Value} {env : Env} {q : Pos} {K N : Nat} {s s' r : Shared} {l rest : List Stmt} {c : Code} {pos p' : Pos} (h : ∃ M, M ≤ K ∧ segRun tb p w n₀ ann 1 M s (piecesOf l env c pos [topFrame q]) = some (.next, s', c, p'))
    (k : topRun tb p w n₀ ann N s' (restOf rest env c p' [topFrame q]) = some r) : topRun tb p w n₀ ann (K + N) s (restOf (l ++ rest) env c pos [topFrame q]) = some r := by
  obtain ⟨M, hM, e⟩ := h
  exact run_mono (piece_app e k) (Nat.add_le_add_right hM N)
noncomputable def P6 : Program := PySem.Challenge.rw_ui0507_20.row.prog
noncomputable def H1 (P : Params) : Heap := absHeap (T22 P) 2314 { }
theorem body_ : behindTheImports P6 = sts1 ++ (sts2 ++ (sts3 ++ (sts4 ++ (sts5 ++ (sts6 ++ (sts7 ++ (sts8 ++ (sts9 ++ (sts10 ++ (sts11 ++ (sts12 ++ (sts13 ++ (sts14 ++ (sts15 ++ (sts16 ++ (sts17 ++ (sts18 ++ (sts19 ++ (sts20 ++ (sts21 ++ (sts22 ++ []))))))))))))))))))))) := by kernel_rfl
theorem pre_ (w : World) (os : OsState) : topGo treeTable P6 w 11 (some (Value.ref 6)) 12 ⟨boot_heap w.params, { toList := [] }, boot_drawn, boot_toks, os⟩ (topStub P6) =
    some ((s0 w.params os).abs, ⟨denote treeTable (.body (behindTheImports P6) env), .body (behindTheImports P6) env, { line := 0, col := 0, endLine := 0, endCol := 0 }, [topFrame { line := 0, col := 0, endLine := 0, endCol := 0 }]⟩) := by kernel_rfl
theorem block_ (w : World) (b : List Stmt) (os : OsState) : segRun treeTable P6 w 11 (some (Value.ref 6)) 1 1 (s0 w.params os).abs (blockOf (behindTheImports P6) env (.body b env) { line := 0, col := 0, endLine := 0, endCol := 0 } [topFrame { line := 0, col := 0, endLine := 0, endCol := 0 }]) =
    some (.next, (s0 w.params os).abs, .body b env, { line := 0, col := 0, endLine := 0, endCol := 0 }) := by kernel_rfl
theorem fin_ (w : World) (c : Code) (os : OsState) (q : Pos) : topRun treeTable P6 w 11 (some (Value.ref 6)) 2 (s22 w.params os).abs ⟨doneF .next, c, q, [topFrame { line := 0, col := 0, endLine := 0, endCol := 0 }]⟩ = some ⟨H1 w.params, { toList := [] }, { }, 18930, os⟩ := by kernel_rfl
theorem run_ (w : World) (os : OsState) : topRun treeTable P6 w 11 (some (Value.ref 6)) (12 + (1 + (255 + (640 + (706 + (483 + (114 + (200000 + (362 + (384 + (496 + (371 + (420 + (369 + (284 + (440 + (515 + (391 + (419 + (235 + (716 + (43 + (1023 + (74 + 2)))))))))))))))))))))))) ⟨boot_heap w.params, { toList := [] }, boot_drawn, boot_toks, os⟩ (topStub P6) = some ⟨H1 w.params, { toList := [] }, { }, 18930, os⟩ := by
  refine go_top (pre_ w os) (piece_block (block_ w _ os) ?_)
  rw [body_]
  refine piece_app (run1 (r1 P6 w _ os)) ?_
  refine piece_app (run1 (r2 P6 w _ os)) ?_
  refine piece_app (run1 (r3 P6 w _ os)) ?_
  refine piece_app (run1 (r4 P6 w _ os)) ?_
  refine piece_app (run1 (r5 P6 w _ os)) ?_
  refine piece_le (table_ P6 w _ os) ?_
  refine piece_app (run2 (r7 P6 w _ os)) ?_
  refine piece_app (run1 (r8 P6 w _ os)) ?_
  refine piece_app (run1 (r9 P6 w _ os)) ?_
  refine piece_app (run1 (r10 P6 w _ os)) ?_
  refine piece_app (run1 (r11 P6 w _ os)) ?_
  refine piece_app (run2 (r12 P6 w _ os)) ?_
  refine piece_app (run2 (r13 P6 w _ os)) ?_
  refine piece_app (run1 (r14 P6 w _ os)) ?_
  refine piece_app (run2 (r15 P6 w _ os)) ?_
  refine piece_app (run1 (r16 P6 w _ os)) ?_
  refine piece_app (run1 (r17 P6 w _ os)) ?_
  refine piece_app (run1 (r18 P6 w _ os)) ?_
  refine piece_app (run1 (r19 P6 w _ os)) ?_
  refine piece_app (run1 (r20 P6 w _ os)) ?_
  refine piece_app (run1 (r21 P6 w _ os)) ?_
  refine piece_app (run1 (r22 P6 w _ os)) ?_
  exact piece_nil (fin_ w _ os _)
noncomputable def q6 : Program := { P6 with main := { P6.main with body := [0, 2, 3, 4, 5, 6, 7, 9, 10, 11, 12, 14, 15, 16, 22, 23, 24, 25, 26, 28, 29, 30, 32, 34, 36, 37, 38, 40, 41, 42, 43, 44, 46, 48, 50, 51, 52, 53, 54, 55, 57, 58, 59, 61, 63, 65, 66, 67, 68, 69, 70, 72, 73, 75, 76, 77, 79, 81, 82, 83, 84, 85, 86, 87, 88, 89, 90, 91, 92, 93, 95, 96, 97, 98, 99, 101, 102, 103, 104, 105, 106, 107, 108, 109, 110, 111, 112, 113, 114, 115, 116, 118, 119, 120, 121, 122, 123, 125, 126, 127, 128, 131, 133, 134].filterMap fun i => P6.main.body[i]? } }
def loose6 : List Str := [Str.ofString "_TABLE", Str.ofString "crc32", Str.ofString "adler32", Str.ofString "fletcher16", Str.ofString "xor8", Str.ofString "sum8", Str.ofString "_WIDTHS", Str.ofString "pack_runs", Str.ofString "unpack_runs", Str.ofString "code_lengths", Str.ofString "pack_huffman", Str.ofString "unpack_huffman", Str.ofString "tokens", Str.ofString "pack_lz77", Str.ofString "unpack_lz77", Str.ofString "MOST_pairs", Str.ofString "shorten", Str.ofString "pack_pairs", Str.ofString "unpack_pairs", Str.ofString "NAMES", Str.ofString "THERE_methods", Str.ofString "BACK_methods", Str.ofString "pack_methods", Str.ofString "unpack_methods", Str.ofString "THERE_filters", Str.ofString "BACK_filters", Str.ofString "MOST_SIZE", Str.ofString "Settings", Str.ofString "make_entry"]
theorem open6 : ∀ w : World, (fencedOpening treeTable P6 w 400000).map (fun s => (s.heap, s.gens, s.drawn, s.toks)) = some (boot_heap w.params, { toList := [] }, boot_drawn, boot_toks) := boot_open (by kernel_rfl) (by decide) (fun s => by kernel_rfl)
theorem size6 : ∀ w : World, ((boot_heap w.params).isNs mainGlobals && ({ toList := [] } : Array GenState).size == 0, (boot_heap w.params).objs.size, (boot_heap w.params).nsMap mainGlobals (Str.ofString "__annotations__")) = (true, 11, some (.ref 6)) := fun w => by kernel_rfl
noncomputable def S6 (P : Params) (os : OsState) : Shared := ⟨H1 P, { toList := [] }, { }, 18930, os⟩
theorem look1a (w : World) : staticsOk (importedModules P6.main.body) (boot_heap w.params) (H1 w.params) = true := by kernel_rfl
theorem look1b (w : World) : namesBound P6 (H1 w.params) = true := by kernel_rfl
theorem look1c (w : World) (os : OsState) : gensDone (S6 w.params os) = true := by kernel_rfl
theorem look1d (w : World) : laidKept (boot_heap w.params) (H1 w.params) = true := by kernel_rfl
noncomputable def Xt6 (s : Shared) : Bool := xlAt q6 [] s && recOk (RowW.records PySem.Challenge.rw_ui0507_20.row.toRowW) s
theorem k1 (w : World) (os : OsState) : seen ((recsOf q6).map (·.name)) (ownsOf q6) [] { (S6 w.params os) with gens := #[] } = expectedOf q6 := by
  rw [PySem.W.Fast.te5160383126252970620]
  kernel_rfl
theorem k2 (w : World) (os : OsState) : (S6 w.params os).heap.bltView = bltViewBooted := by kernel_rfl
theorem k3a (w : World) (os : OsState) : (S6 w.params os).heap.keysOk (looseW q6 loose6) ((recsOf q6).map (·.name)) ((litsOf q6).map (·.1)) ((clssOf q6 (looseW q6 loose6)).map (·.name)) = true := by kernel_rfl
theorem k3b (w : World) (os : OsState) : (S6 w.params os).heap.accountedOkI (importedModules P6.main.body) = true := by kernel_rfl
theorem k3c (w : World) (os : OsState) : tablesOk q6 (S6 w.params os).heap = true := by
  rw [PySem.W.Fast.te10994771534591457954]
  kernel_rfl
theorem k3d (w : World) (os : OsState) : Xt6 (S6 w.params os) = true := by kernel_rfl
theorem k3e (w : World) (os : OsState) : ((S6 w.params os).heap.isNs mainGlobals && (S6 w.params os).heap.isNs builtinsNs && (S6 w.params os).gens.size == 0) = true := by kernel_rfl
theorem k4 (w : World) (os : OsState) : tabsOk q6 (S6 w.params os) = true := by
  rw [PySem.W.Fast.te479339242167458305]
  kernel_rfl
theorem k5 (w : World) (os : OsState) : pinSeenD q6 (drecsOf q6) (S6 w.params os) = pinGoodD (drecsOf q6) := by
  rw [PySem.W.Fast.te16090120013241838585]
  kernel_rfl
theorem k6 (w : World) (os : OsState) : plainSeenE q6 (looseW q6 loose6) (S6 w.params os) = plainGoodE q6 (looseW q6 loose6) := by
  rw [PySem.W.Fast.te2386780881361962483]
  kernel_rfl
theorem k7 (w : World) (os : OsState) : plainSeenD q6 loose6 (S6 w.params os) = plainGoodD q6 loose6 := by
  rw [PySem.W.Fast.te11698064438423848299]
  kernel_rfl
theorem k8 (w : World) (os : OsState) : wideSeen q6 (S6 w.params os) = wideGood q6 := by
  rw [PySem.W.Fast.te7317090234206586261]
  kernel_rfl
theorem k9 (w : World) (os : OsState) : clsSeenW q6 loose6 (S6 w.params os) = clsGoodW q6 loose6 := by
  rw [PySem.W.Fast.te7369524293546568484]
  kernel_rfl
theorem look2 (w : World) (os : OsState) : openSeen q6 loose6 (importedModules P6.main.body) Xt6 true (S6 w.params os) = openGood q6 loose6 := by
  obtain ⟨e1, e2, e3⟩ : (S6 w.params os).heap.isNs mainGlobals = true ∧ (S6 w.params os).heap.isNs builtinsNs = true ∧ ((S6 w.params os).gens.size == 0) = true := by
    have h := k3e w os
    simp only [Bool.and_eq_true] at h
    exact ⟨h.1.1, h.1.2, h.2⟩
  refine looks_pair (k1 w os) (looks_pair (k2 w os) (looks_pair ?_ (looks_pair (k4 w os) (looks_pair (k5 w os) (looks_pair (k6 w os) (looks_pair (k7 w os) (looks_pair (k8 w os) (k9 w os))))))))
  rw [k3a, k3b, k3c, k3d, e1, e2]
  exact e3
theorem get_abs (t : BT) (n : Nat) (life : Life) (a : Addr) : (absHeap t n life).get? a = bif Nat.blt a n then alive ((t.get a).getD default) else none := by
  by_cases h : a < n
  · have e : Nat.blt a n = true := Nat.ble_eq.mpr h
    rw [e]
    unfold Heap.get?
    rw [absHeap_at, if_pos h]
    generalize (t.get a).getD default = o
    obtain ⟨c, d, dt, sl⟩ := o
    cases dt <;> rfl
  · have e : Nat.blt a n = false := by
      cases q : Nat.blt a n with
      | false => rfl
      | true => exact absurd (Nat.ble_eq.mp q) h
    rw [e]
    exact abs_get_none h
theorem obs_map (as : List Addr) (P : Params) (os : OsState) : as.map (S6 P os).heap.get? = as.map fun a => bif Nat.blt a 2314 then alive (((T22 P).get a).getD default) else none := by
  refine List.map_congr_left fun a _ => ?_
  exact get_abs (T22 P) 2314 {} a
theorem said : OpenLaw.wellSaid PySem.Challenge.rw_ui0507_20 = true := by
  rw [PySem.W.Fast.te9446332074065402090]
  kernel_rfl
theorem left6 {α : Type} {Yf : Shared → α} {Ya : World → α} (hY : ∀ (w : World) (os : OsState), Yf (S6 w.params os) = Ya w) : LeftO P6 q6 loose6 Xt6 Yf Ya 400000 true :=
  LeftO.of_pieces (H₀ := boot_heap) (H₁ := H1) open6 size6 run_ (by decide) (fun w => funext fun os => looks_pair (by
    show (staticsOk _ _ _ && namesBound _ _ && gensDone _ && laidKept _ _) = true
    rw [look1a, look1b, look1d]
    exact look1c w os) (looks_pair (look2 w os) (hY w os)))
end
end Mine
open PySem.Spec
namespace Mine
/-- what a def does, wherever it is called: from the ledger news and the arguments vs it comes back with r and the ledger news' that R tells -/
def Fun (prog : Program) (w : World) (K : Frag) (p : Program) (loose : List Str) (mean : ExcName → Option Value) (mg mb : Str → Option Value) (k : Nat) (f : Addr) (vs : List Value) (news : List (Addr × Obj)) (R : Value → List (Addr × Obj) → Prop) : Prop :=
  ∀ (dp un : Nat) (gd : Option (List Code)) (cn : Str) (cs : Scope) (a : Addr) (ccd : Value) (cl : List (Str × Addr)) (outer : List Env) (A₀ : Around) (base h₀ : Heap) (L : Addr) (m : Str → Option Value) (s : Shared) (Q E : Value → Shared → Prop),
    Below A₀ base outer h₀ → Fr h₀ L s.heap m → K.In h₀ → News h₀ L s.heap news → Top p loose mean mg mb h₀ → cs.kind = .function → dp + k < recursionLimit → un + 8 * k < cLine →
    (∀ r news' h' tk', R r news' → Fr h₀ L h' m → News h₀ L h' news' → Q r { s with heap := h', toks := tk' }) →
    wpAny (model prog w) (ktrTop dp un gd cn cs L a ccd cl outer) (call (.ref f) vs) Q E s
section
variable {prog : Program} {w : World} {A : Around} {E : Value → Shared → Prop} {s : Shared} {env : Env} {h₀ : Heap} {target : Expr} {body : List Stmt} {Q : Flow → Shared → Prop}
end
section
variable {prog : Program} {w : World} {K : Frag} {p : Program} {loose : List Str} {mean : ExcName → Option Value} {mg mb : Str → Option Value} {k : Nat} {f : Addr} {vs : List Value} {news : List (Addr × Obj)} {R : Value → List (Addr × Obj) → Prop}
theorem Fun.use {dp un : Nat} {gd : Option (List Code)} {cn : Str} {cs : Scope} {a : Addr} {ccd : Value} {cl : List (Str × Addr)} {outer : List Env} {A₀ : Around} {base h₀ : Heap} {L : Addr} {m : Str → Option Value} {s : Shared} {Q E : Value → Shared → Prop}
    (C : Fun prog w K p loose mean mg mb k f vs news R) (B : Below A₀ base outer h₀) (F : Fr h₀ L s.heap m) (X : K.In h₀) (N : News h₀ L s.heap news) (T : Top p loose mean mg mb h₀) (hk : cs.kind = .function) (hd : dp + k < recursionLimit) (hu : un + 8 * k < cLine)
    (ret : ∀ r news' h' tk', R r news' → Fr h₀ L h' m → News h₀ L h' news' → Q r { s with heap := h', toks := tk' }) :
    wpAny (model prog w) (ktrTop dp un gd cn cs L a ccd cl outer) (call (.ref f) vs) Q E s := C _ _ _ _ _ _ _ _ _ _ _ _ _ _ _ _ _ B F X N T hk hd hu ret
end
section
variable {prog : Program} {w : World} {A : Around} {E : Value → Shared → Prop} {s : Shared} {h₀ : Heap} {L D b : Addr} {m : Str → Option Value} {news : List (Addr × Obj)} {its its2 : Array Value} {n n2 : Nat}
/-- extend by a list of the ledger's -/
theorem extend_U {g : Obj → List (Addr × Obj)} {Q : Value → Shared → Prop} (F : Fr h₀ L s.heap m) (N : News h₀ L s.heap news) (hb : (b, listOf its2 n2) ∈ news) (U : UpdF D (listOf its n) news g) (hz : its.size + its2.size ≤ sizeLine)
    (h : ∀ h' n', Fr h₀ L h' m → News h₀ L h' (g (listOf (its ++ its2) n')) → Q .none { s with heap := h' }) : wpAny (model prog w) A (call (.builtin "list.extend") [.ref D, .ref b]) Q E s := by
  obtain ⟨pre, post, rfl, hg, a, c⟩ := U.split
  obtain ⟨ys, rfl⟩ : ∃ ys : List Value, its = ys.toArray := ⟨its.toList, by rw [Array.toArray_toList]⟩
  refine extend_in F N a c (N _ hb).1 (fun h' n' F' N' => h h' n' F' ?_) (by rw [List.size_toArray] at hz; exact hz)
  rw [hg]
  have e : ys.toArray ++ its2 = (ys ++ its2.toList).toArray := by simp
  rw [e]
  exact N'
end

section
variable {prog : Program} {w : World} {A : Around} {E : Value → Shared → Prop} {s : Shared} {env : Env} {h₀ : Heap} {x : Str} {body : List Stmt} {Q : Flow → Shared → Prop}
end




section
variable {prog : Program} {w : World} {A : Around} {E : Value → Shared → Prop} {Q : Flow → Shared → Prop} {s : Shared} {env : Env} {h₀ : Heap} {L : Addr}
end
section
variable {prog : Program} {w : World} {A : Around} {E : Value → Shared → Prop} {Q : Flow → Shared → Prop} {s : Shared} {env : Env} {h₀ : Heap} {L : Addr}
end

section
open Builtin
theorem take_eq {b : Array UInt8} {t : Tok} {id : String} : Bytes.takeBuffer? id (.bytes b t) 0 = pure (some (b, none)) := by
  have e0 : ((0 : Int) == Bytes.fullReadOnly) = false := by decide
  unfold Bytes.takeBuffer?
  rw [KBy.special_eq KBy.look_buffer, KBy.own_buffer, e0, KBy.buffer_eq]
  kernel_rfl
theorem takeQ_eq {b : Array UInt8} {t : Tok} {id : String} : Bytes.takeBufferQuiet? id (.bytes b t) 0 = pure (some (b, none)) := by
  unfold Bytes.takeBufferQuiet?
  rw [take_eq]
  rfl
theorem joined_snoc (bs : List (Array UInt8)) (b : Array UInt8) : Bytes.joined #[] (bs ++ [b]) = Bytes.joined #[] bs ++ b := by
  unfold Bytes.joined
  rw [List.zipIdx_append, List.foldl_append]
  simp
theorem joined_len : ∀ (bs : List (Array UInt8)), (Bytes.joined #[] bs).size = (bs.map Array.size).sum := by
  intro bs
  have key : ∀ n, n ≤ bs.length → (Bytes.joined #[] (bs.take n)).size = ((bs.take n).map Array.size).sum := by
    intro n
    induction n with
    | zero => intro _; rfl
    | succ n ih =>
      intro hn
      have e : bs.take (n + 1) = bs.take n ++ [bs[n]] := by rw [List.take_add_one]; simp [List.getElem?_eq_getElem (show n < bs.length by omega)]
      rw [e, joined_snoc, Array.size_append, ih (by omega), List.map_append, List.sum_append]
      simp
  simpa using key bs.length (Nat.le_refl _)
theorem fold_size : ∀ (bs : List (Array UInt8)) (n : Nat), (bs.foldl (fun a b => a + b.size) n) = n + (bs.map Array.size).sum
  | [], n => by simp
  | b :: bs, n => by rw [List.foldl_cons, fold_size bs, List.map_cons, List.sum_cons]; omega
section
variable {prog : Program} {w : World} {A : Around} {E : Value → Shared → Prop} {s : Shared}
theorem jlg : ∀ (taken : List (Value × Option Value)) (keep : List Value) {Q : Unit → Shared → Prop}, (∀ p ∈ taken, p.2 = none) → Q () s → wpAny (model prog w) A (Bytes.joinLetGo taken keep) Q E s
  | [], _, Q, _, h => wpAny_pure h
  | (x, u) :: r, keep, Q, hn, h => by
    have hu : u = none := hn _ (.head _)
    subst hu
    unfold Bytes.joinLetGo
    exact wpAny_bind (wpAny_letGo (jlg r keep (fun p hp => hn p (.tail _ hp)) h))
/-- what the loop of a join has taken -/
def JoinI (vs : List Value) (bs : List (Array UInt8)) (s₀ : Shared) (l : List Nat) (b : Array (Array UInt8) × List (Value × Option Value)) (s' : Shared) : Prop :=
  s' = s₀ ∧ ∃ i, l = List.range' i (vs.length - i) ∧ i ≤ vs.length ∧ b.1.toList = bs.take i ∧ (∀ p ∈ b.2, p.2 = none ∧ p.1.onHeap = false)
theorem bjoin_wp {l : Addr} {its : Array Value} {t0 : Tok} {vs : List Value} {bs : List (Array UInt8)} {R : Value → Shared → Prop} (hi : s.heap.IsList l its) (hv : its.toList = vs)
    (hb : ∀ (i : Nat) (v : Value), vs[i]? = some v → ∃ t : Tok, v = Value.bytes (bs.getD i #[]) t) (hl : bs.length = vs.length) (h2 : 2 ≤ vs.length) (hz : (bs.map Array.size).sum ≤ sizeLine)
    (h : ∀ t k, R (.bytes (Bytes.joined #[] bs) t) { s with toks := k }) :
    wpAny (model prog w) A (Builtin.«bytes.join» ⟨[.bytes #[] t0, .ref l], []⟩) (fun fin s' => ∃ v, fin = .done (.ret v) ∧ R v s') E s := by
  obtain ⟨o, ho, hc, n, hd⟩ := id hi
  have hT : s.TypeIs (.ref l) "list" := ⟨o, ho, hc⟩
  have hsz : its.size = vs.length := by rw [← hv]; simp
  show wpAny _ _ (Bytes.joinM .bytes _) _ _ _
  unfold Bytes.joinM
  dsimp only
  refine wpAny_bind (m := selfAndOne _ _) (wpAny_pure ?_)
  dsimp only
  rw [if_pos (by rfl)]
  refine wpAny_bind ?_
  unfold Bytes.joinItems
  refine wpAny_bind (wpAny_typeOf hT ?_)
  rw [if_pos (by rfl)]
  refine wpAny_pure ?_
  refine wpAny_bind (wpAny_seqItems ho hd ?_)
  dsimp only
  rw [if_pos (by rfl)]
  obtain ⟨xs⟩ := its
  obtain rfl : xs = vs := hv
  rcases xs with _ | ⟨x, _ | ⟨y, r⟩⟩
  · exact absurd h2 (show ¬ 2 ≤ 0 by decide)
  · exact absurd h2 (show ¬ 2 ≤ 1 by decide)
  clear h2
  show wpAny (model prog w) A (forIn [:_] (#[], []) _ >>= _) _ _ _
  generalize hits : (⟨_⟩ : Array Value) = its at *
  have hv := congrArg Array.toList hits
  dsimp only at hv
  rw [hv] at hb hl hsz
  obtain ⟨vs, hvs⟩ : ∃ vs, vs = its.toList := ⟨_, rfl⟩
  rw [← hvs] at hb hl hsz
  replace hv := hvs.symm
  refine wpAny_bind ?_
  rw [Std.Legacy.Range.forIn_eq_forIn_range']
  refine wpAny_forIn_list _ (JoinI vs bs s) _ ?turn ?fin _ _ ⟨rfl, 0, ?_, Nat.zero_le _, by simp, fun _ h => (nomatch h)⟩
  case turn =>
    rintro i rest ⟨ps, tk⟩ s' ⟨rfl, j, hlj, hj, hp, ht⟩
    have hlt : j < vs.length := by
      rcases Nat.lt_or_ge j vs.length with q | q
      · exact q
      · rw [Nat.sub_eq_zero_of_le q] at hlj; cases hlj
    obtain ⟨r, hr⟩ : ∃ r, vs.length - j = r + 1 := ⟨vs.length - j - 1, by omega⟩
    rw [hr, List.range'_succ] at hlj
    injection hlj with hij hrest
    subst hij
    obtain ⟨t, hx⟩ := hb i vs[i] (List.getElem?_eq_getElem hlt)
    have hget : its.getD i Value.none = Value.bytes (bs.getD i #[]) t := by
      rw [← hx]
      have hlt' : i < its.size := by omega
      simp only [Array.getD, hlt', dif_pos]
      show its[i] = _
      simp [← hv]
    refine wpAny_bind (wpAny_seqItems ho hd ?_)
    dsimp only at hp ht ⊢
    have hany : (Bytes.Kind.bytes == Bytes.Kind.bytearray || tk.any fun x => x.fst.onHeap) = false := by
      have : (tk.any fun x => x.fst.onHeap) = false := by
        rw [List.any_eq_false]
        intro p hp'
        rw [(ht p hp').2]
        exact Bool.false_ne_true
      rw [this]; rfl
    rw [if_neg (by rw [hany]; exact Bool.false_ne_true), hget]
    refine wpAny_bind (wpAny_holding (wpAny_of_eq takeQ_eq ?_))
    dsimp only
    refine wpAny_bind (wpAny_seqItems ho hd ?_)
    dsimp only
    rw [if_neg (by simp)]
    refine wpAny_pure ⟨rfl, i + 1, ?_, hlt, ?_, ?_⟩
    · show rest = _
      rw [hrest]; congr 1; omega
    · have hb' : i < bs.length := by omega
      show (ps.push _).toList = _
      rw [Array.toList_push, hp, List.take_add_one]
      simp [List.getD, List.getElem?_eq_getElem hb']
    · intro p hp'
      rcases List.mem_append.mp hp' with q | q
      · exact ht p q
      · rw [List.mem_singleton.mp q]; exact ⟨rfl, rfl⟩
  case fin =>
    rintro ⟨ps, tk⟩ s' ⟨rfl, j, hlj, hj, hp, ht⟩
    have hjn : j = vs.length := by
      rcases Nat.lt_or_ge j vs.length with q | q
      · obtain ⟨r, hr⟩ : ∃ r, vs.length - j = r + 1 := ⟨vs.length - j - 1, by omega⟩
        rw [hr, List.range'_succ] at hlj; cases hlj
      · omega
    have hps : ps.toList = bs := by show ps.toList = bs; rw [show ps.toList = bs.take j from hp, hjn, ← hl, List.take_length]
    refine wpAny_bind (wpAny_of_eq (a := #[]) rfl ?_)
    dsimp only
    have hfold : ps.foldl (fun a b => a + b.size) ((#[] : Array UInt8).size * (ps.size - 1)) = (bs.map Array.size).sum := by
      rw [← Array.foldl_toList, hps, fold_size]
      simp
    have hlong : Bytes.tooLong (ps.foldl (fun a b => a + b.size) ((#[] : Array UInt8).size * (ps.size - 1))) = false := by
      rw [hfold]
      unfold Bytes.tooLong
      exact decide_eq_false (by omega)
    rw [if_neg (by rw [hlong]; exact Bool.false_ne_true), hps]
    refine wpAny_bind (m := mkBytes _) (wpAny_mkBytes ?_ (by rw [joined_len]; exact hz))
    refine wpAny_bind (wpAny_holding (wpAny_point ?_))
    refine wpAny_bind (jlg _ _ (fun p hp' => (ht p hp').1) ?_)
    exact wpAny_pure ⟨_, rfl, h _ _⟩
  · rw [hsz]; simp [Std.Legacy.Range.size]
end
end
section
set_option maxRecDepth 100000
theorem slot_bjoin : Slot "bytes" "join" "bytes.join" :=
  .of (owner := "bytes") (n := "join") (by rw [typeLookup_type, builtinLookup_eq_fast]; kernel_rfl) (by decide +kernel) (by decide +kernel) (by decide +kernel)
    (by first | exact .inl (by decide +kernel) | exact .inr (by decide +kernel)) (by rw [isSubtype_type]; kernel_rfl)
theorem type_bjoin : typeOf (.builtin "bytes.join") = pure (.type "method_descriptor") := by show builtinType _ = _; rw [builtinType_eq_fast]; kernel_rfl
theorem entry_bjoin : entryFor table "bytes.join" = some Builtin.«bytes.join» := entryFor_of_tree (by kernel_rfl)
theorem args_bjoin (a b : Value) : argsOk "bytes.join" ⟨[a, b], []⟩ := by
  unfold argsOk; rw [signature?_of (id := "bytes.join") (n := ['n', 'i', 'o', 'j']) (o := ['s', 'e', 't', 'y', 'b']) (by kernel_rfl) FB.owner_bytes]; kernel_rfl
end
/-- the bytes of a list of bytes -/
def BsAre (vs : List Value) (ks : List (List Int)) : Prop := vs.length = ks.length ∧ ∀ (i : Nat) (v : Value), vs[i]? = some v → ∃ b t, v = Value.bytes b t ∧ KBw.bInts b = ks.getD i []
theorem BsAre.nil : BsAre [] [] := ⟨rfl, fun i v h => by simp at h⟩
theorem BsAre.snoc {vs : List Value} {ks : List (List Int)} {b : Array UInt8} {t : Tok} {k : List Int} (h : BsAre vs ks) (hb : KBw.bInts b = k) : BsAre (vs ++ [.bytes b t]) (ks ++ [k]) := by
  refine ⟨by rw [List.length_append, List.length_append, h.1]; rfl, fun i v e => ?_⟩
  rcases Nat.lt_or_ge i vs.length with q | q
  · rw [List.getElem?_append_left q] at e
    obtain ⟨c, u, e1, e2⟩ := h.2 i v e
    have q' : i < ks.length := by rw [← h.1]; exact q
    exact ⟨c, u, e1, by rw [e2]; simp [List.getD, List.getElem?_append_left q']⟩
  · rw [List.getElem?_append_right q] at e
    have hi : i = vs.length := by
      rcases Nat.lt_or_ge (i - vs.length) 1 with w | w
      · omega
      · rw [List.getElem?_eq_none (by simpa using w)] at e; cases e
    subst hi
    simp only [Nat.sub_self, List.getElem?_cons_zero, Option.some.injEq] at e
    exact ⟨b, t, e.symm, by rw [hb]; simp [List.getD, h.1]⟩
theorem BsAre.app {vs us : List Value} {ks js : List (List Int)} (h : BsAre vs ks) (g : BsAre us js) : BsAre (vs ++ us) (ks ++ js) := by
  refine ⟨by rw [List.length_append, List.length_append, h.1, g.1], fun i v e => ?_⟩
  rcases Nat.lt_or_ge i vs.length with q | q
  · rw [List.getElem?_append_left q] at e
    obtain ⟨c, u, e1, e2⟩ := h.2 i v e
    have q' : i < ks.length := by rw [← h.1]; exact q
    exact ⟨c, u, e1, by rw [e2]; simp [List.getD, List.getElem?_append_left q']⟩
  · rw [List.getElem?_append_right q] at e
    obtain ⟨c, u, e1, e2⟩ := g.2 _ v e
    have q' : ks.length ≤ i := by rw [← h.1]; exact q
    exact ⟨c, u, e1, by rw [e2, h.1]; simp [List.getD, List.getElem?_append_right q']⟩
theorem bInts_app (a b : Array UInt8) : KBw.bInts (a ++ b) = KBw.bInts a ++ KBw.bInts b := by simp [KBw.bInts]
theorem bInts_size (a : Array UInt8) : a.size = (KBw.bInts a).length := by simp [KBw.bInts]
theorem BsAre.bs {vs : List Value} {ks : List (List Int)} (h : BsAre vs ks) : ∃ bs : List (Array UInt8), bs.map KBw.bInts = ks ∧ ∀ (i : Nat) (v : Value), vs[i]? = some v → ∃ t : Tok, v = Value.bytes (bs.getD i #[]) t := by
  induction vs generalizing ks with
  | nil => exact ⟨[], by rw [List.length_eq_zero_iff.mp h.1.symm]; rfl, fun i v e => by simp at e⟩
  | cons v vs ih =>
    obtain ⟨k, ks, rfl⟩ : ∃ k r, ks = k :: r := by
      cases ks with
      | nil => exact absurd h.1 (by simp)
      | cons k r => exact ⟨k, r, rfl⟩
    obtain ⟨b, t, e1, e2⟩ := h.2 0 v rfl
    obtain ⟨bs, f1, f2⟩ := ih (ks := ks) ⟨by simpa using h.1, fun i u e => by simpa using h.2 (i + 1) u (by simpa using e)⟩
    refine ⟨b :: bs, by rw [List.map_cons, f1, e2]; rfl, fun i u e => ?_⟩
    cases i with
    | zero =>
      simp only [List.getElem?_cons_zero, Option.some.injEq] at e
      exact ⟨t, by rw [← e, e1]; rfl⟩
    | succ i => simpa using f2 i u (by simpa using e)
theorem joined_ints : ∀ (bs : List (Array UInt8)), KBw.bInts (Builtin.Bytes.joined #[] bs) = (bs.map KBw.bInts).flatten := by
  intro bs
  have key : ∀ n, n ≤ bs.length → KBw.bInts (Builtin.Bytes.joined #[] (bs.take n)) = ((bs.take n).map KBw.bInts).flatten := by
    intro n
    induction n with
    | zero => intro _; rfl
    | succ n ih =>
      intro hn
      have e : bs.take (n + 1) = bs.take n ++ [bs[n]] := by rw [List.take_add_one]; simp [List.getElem?_eq_getElem (show n < bs.length by omega)]
      rw [e, joined_snoc, bInts_app, ih (by omega), List.map_append, List.flatten_append]
      simp
  simpa using key bs.length (Nat.le_refl _)
section
variable {prog : Program} {w : World} {A : Around} {E : Value → Shared → Prop} {s : Shared}
/-- b''.join of a list of bytes -/
theorem bjoin_any {l : Addr} {its : Array Value} {t0 : Tok} {vs : List Value} {ks : List (List Int)} {Q : Value → Shared → Prop} (hi : s.heap.IsList l its) (hv : its.toList = vs) (hb : BsAre vs ks) (h2 : 2 ≤ vs.length) (hz : ks.flatten.length ≤ 16777216)
    (h : ∀ b t k, KBw.bInts b = ks.flatten → Q (.bytes b t) { s with toks := k }) : wpAny (model prog w) A (call (.builtin "bytes.join") [.bytes #[] t0, .ref l]) Q E s := by
  obtain ⟨bs, e1, e2⟩ := hb.bs
  have hl : bs.length = vs.length := by rw [hb.1, ← e1, List.length_map]
  have hs : (bs.map Array.size).sum = ks.flatten.length := by
    rw [← e1, List.length_flatten, List.map_map]
    congr 1
    exact List.map_congr_left fun b _ => bInts_size b
  refine call_meets (S := fun _ R s' => s' = s ∧ ∀ b t k, KBw.bInts b = ks.flatten → R (.ok (.ret (.bytes b t))) { s with toks := k }) slot_bjoin (typeIs_bytes _ _ _) entry_bjoin (args_bjoin _ _) ?_ ⟨rfl, h⟩
  refine .of_wp fun prog w A R s' hS => ?_
  obtain ⟨rfl, h⟩ := hS
  refine bjoin_wp hi hv e2 hl h2 (by rw [hs, sizeLine_eq]; exact hz) fun t k => ?_
  exact h _ t k (by rw [joined_ints, e1])
theorem bjoin_method {M : Model} {b : Array UInt8} {t : Tok} {pl : Sem Bool} {Q : Value × List Value → Shared → Prop} (h : Q (.builtin "bytes.join", [.bytes b t]) s) : wpAny M A (getMethod (.bytes b t) "join" pl) Q E s := by
  with_reducible exact KBd.method_of (.bytes b t) (typeIs_bytes _ _ _) slot_bjoin type_bjoin KBd.noRef h
end
section
variable {prog : Program} {w : World} {A : Around} {E : Value → Shared → Prop} {s : Shared} {h₀ : Heap} {L R : Addr} {m : Str → Option Value} {news : List (Addr × Obj)} {vs : List Value} {ns : List Int} {n : Nat}
end

/-- a tuple that begins with two ints, in the ledger -/
def TupI (news : List (Addr × Obj)) (v : Value) (k : Int × Int) : Prop :=
  ∃ a o its n t u r, v = .ref a ∧ (a, o) ∈ news ∧ o.cls = .type "tuple" ∧ o.data = .seq its n ∧ its.toList = .int k.1 t :: .int k.2 u :: r
section
variable {prog : Program} {w : World} {A : Around} {E : Value → Shared → Prop} {s : Shared} {h₀ : Heap} {L : Addr} {m : Str → Option Value} {news : List (Addr × Obj)}
theorem ask_tup {vs : List Value} {ks : List (Int × Int)} {i j : Nat} {C : Bool → Shared → Prop} (hl : vs.length = ks.length) (hk : ks.Nodup) (ht : ∀ (i : Nat) (v : Value) (k : Int × Int), vs[i]? = some v → ks[i]? = some k → TupI news v k) (N : News h₀ L s.heap news)
    (hi : i < vs.length) (hj : j < vs.length) (hij : i ≠ j) (h : ∀ b, C b s) : kas_ask prog w A (tuples' true) vs i j C s := by
  have hi' : i < ks.length := by omega
  have hj' : j < ks.length := by omega
  obtain ⟨a, o, its, n, t, u, r, e, hm, hc, hd, hits⟩ := ht i vs[i] ks[i] (List.getElem?_eq_getElem hi) (List.getElem?_eq_getElem hi')
  obtain ⟨a', o', its', n', t', u', r', e', hm', hc', hd', hits'⟩ := ht j vs[j] ks[j] (List.getElem?_eq_getElem hj) (List.getElem?_eq_getElem hj')
  have hne : ks[i] ≠ ks[j] := fun q => hij ((List.getElem_inj hk).mp q)
  unfold kas_ask
  have g1 : vs.getD i Value.none = .ref a := by rw [← e]; simp [List.getD, List.getElem?_eq_getElem hi]
  have g2 : vs.getD j Value.none = .ref a' := by rw [← e']; simp [List.getD, List.getElem?_eq_getElem hj]
  rw [g1, g2]
  generalize ks[i] = p at *
  generalize ks[j] = q at *
  obtain ⟨x, y⟩ := p
  obtain ⟨x', y'⟩ := q
  refine kat_lt (N.get hm) hd (N.get hm') hd' ?_
  rw [hits, hits', List.zip_cons_cons, List.zip_cons_cons]
  refine kat_cons (wpAny_eqBool_int ?_)
  by_cases hx : x = x'
  · rw [show (x == x') = true by simpa using hx]
    refine kat_yes (kat_cons (wpAny_eqBool_int ?_))
    by_cases hy : y = y'
    · exact absurd (by rw [hx, hy]) hne
    · rw [show (y == y') = false by simpa using hy]
      refine kat_no ?_
      exact kat_one _ _ (lt_int (h _))
  · rw [show (x == x') = false by simpa using hx]
    refine kat_no ?_
    exact oneLt_int (h _)
theorem tups_kind {vs : List Value} {ks : List (Int × Int)} {Q : SortKind → Shared → Prop} (h2 : 2 ≤ vs.length) (hl : vs.length = ks.length) (ht : ∀ (i : Nat) (v : Value) (k : Int × Int), vs[i]? = some v → ks[i]? = some k → TupI news v k) (N : News h₀ L s.heap news) (h : Q (tuples' true) s) :
    wpAny (model prog w) A (keyKind' vs.toArray) Q E s := by
  have key : ∀ (vs : List Value) (ks : List (Int × Int)), vs.length = ks.length → (∀ (i : Nat) (v : Value) (k : Int × Int), vs[i]? = some v → ks[i]? = some k → TupI news v k) → ∃ fs : List Value, KatTups s.heap vs fs ∧ fs.length = vs.length ∧ ∀ f ∈ fs, ∃ (x : Int) (t : Tok), f = .int x t := by
    intro vs
    induction vs with
    | nil => intro ks _ _; exact ⟨[], KatTups.nil, rfl, fun _ h => (nomatch h)⟩
    | cons v vs ih =>
      intro ks hl ht
      cases ks with
      | nil => simp at hl
      | cons k ks =>
        obtain ⟨fs, f1, f2, f3⟩ := ih ks (by simpa using hl) fun i v' k' e1 e2 => ht (i + 1) v' k' (by simpa using e1) (by simpa using e2)
        obtain ⟨a, o, its, n, t, u, r, e, hm, hc, hd, hits⟩ := ht 0 v k rfl rfl
        subst e
        refine ⟨.int k.1 t :: fs, KatTups.cons (N.get hm) hc hd (by rw [← Array.getElem?_toList, hits]; rfl) f1, by simp [f2], fun f hf => ?_⟩
        rcases List.mem_cons.mp hf with rfl | hf
        · exact ⟨_, _, rfl⟩
        · exact f3 f hf
  obtain ⟨fs, f1, f2, f3⟩ := key vs ks hl ht
  refine kat_kind (T := .type "int") f1 (by omega) (fun v hv => ?_) rfl h
  obtain ⟨x, t, rfl⟩ := f3 v hv
  exact Looks.now
theorem sort_small {a : Addr} {vs : List Value} {n : Nat} {P : PySem.Fin → Shared → Prop} (F : Fr h₀ L s.heap m) (N : News h₀ L s.heap news) (ho : s.heap.get? a = some (seqObj "list" vs.toArray n)) (haL : a ≠ L) (ha0 : h₀.get? a = none) (hna : ∀ p ∈ news, p.1 ≠ a)
    (h2 : vs.length < 2) (h : ∀ c h', Fr h₀ L h' m → News h₀ L h' ((a, listOf vs.toArray c) :: news) → P (.done (.ret .none)) { s with heap := h' }) :
    wpAny (model prog w) A (Builtin.«list.sort» ⟨[.ref a], []⟩) P E s := by
  have ha : a < s.heap.objs.size := Heap.lt_size ho
  have s1 := Heap.SameBut.update s.heap a (Obj.mapSeq fun _ => (#[] : Array Value))
  obtain ⟨e1, ho1⟩ : ∃ e1, (s.heap.update a (Obj.mapSeq fun _ => (#[] : Array Value))).get? a = some (seqObj "list" #[] e1) := ⟨_, get?_update_seq ho fun _ => #[]⟩
  have F3 : Fr h₀ L (((s.heap.update a (Obj.mapSeq fun _ => (#[] : Array Value))).push (seqObj "tuple" vs.toArray 0)).push (seqObj "list" #[] 0)) m := ((kas_fr F s1 haL ha0).push _).push _
  have N2 : News h₀ L (((s.heap.update a (Obj.mapSeq fun _ => (#[] : Array Value))).push (seqObj "tuple" vs.toArray 0)).push (seqObj "list" #[] 0)) news :=
    (kas_news N s1 hna).grown fun b x e => Heap.get?_push_of_some _ (Heap.get?_push_of_some _ e)
  have ho3 : (((s.heap.update a (Obj.mapSeq fun _ => (#[] : Array Value))).push (seqObj "tuple" vs.toArray 0)).push (seqObj "list" #[] 0)).get? a = some (seqObj "list" #[] e1) := Heap.get?_push_of_some _ (Heap.get?_push_of_some _ ho1)
  rw [list_sort_plain]
  refine wpAny_bind (listItems_at ho rfl ?_)
  refine wpAny_bind (listUpdate_at ho rfl ?_ (by rw [List.size_toArray, sizeLine_eq]; omega) (Nat.zero_le _))
  refine wpAny_bind (seqEpoch_at ho1 rfl ?_)
  refine wpAny_bind (wpAny_newTuple ?_ (by show vs.length ≤ _; rw [sizeLine_eq]; omega))
  refine wpAny_bind (wpAny_newList ?_ (Nat.zero_le _))
  refine wpAny_holding ?_
  show wpAny (model prog w) A _ P E { s with heap := ((s.heap.update a (Obj.mapSeq fun _ => (#[] : Array Value))).push (seqObj "tuple" vs.toArray 0)).push (seqObj "list" #[] 0) }
  dsimp only
  have hn2 : vs.toArray.size < 2 := by rw [List.size_toArray]; omega
  rw [if_pos hn2, if_pos hn2]
  refine wpAny_bind (wpAny_pure ?_)
  rw [StateT.run_pure]
  refine wpAny_bind (wpAny_pure ?_)
  dsimp only
  have hout : (arrOf (SortSt.mk' general' (vs.toArray.zip vs.toArray) #[] 7 none)).map (·.2) = vs.toArray := by
    show (vs.toArray.zip vs.toArray).map (·.2) = _
    rcases vs with _ | ⟨v, _ | ⟨v', r⟩⟩
    · simp
    · simp
    · exact absurd h2 (by simp only [List.length_cons]; omega)
  rw [hout]
  have s2 := Heap.SameBut.update (((s.heap.update a (Obj.mapSeq fun _ => (#[] : Array Value))).push (seqObj "tuple" vs.toArray 0)).push (seqObj "list" #[] 0)) a (Obj.mapSeq fun _ => vs.toArray)
  obtain ⟨c2, hc2⟩ : ∃ c2, ((((s.heap.update a (Obj.mapSeq fun _ => (#[] : Array Value))).push (seqObj "tuple" vs.toArray 0)).push (seqObj "list" #[] 0)).update a (Obj.mapSeq fun _ => vs.toArray)).get? a = some (seqObj "list" vs.toArray c2) := ⟨_, get?_update_seq ho3 fun _ => vs.toArray⟩
  refine wpAny_bind (seqEpoch_at ho3 rfl ?_)
  refine wpAny_bind (listUpdate_at ho3 rfl ?_ (Nat.zero_le _) (by rw [List.size_toArray, sizeLine_eq]; omega))
  simp only [bne_self_eq_false, Bool.false_eq_true, if_false]
  refine wpAny_pure (h c2 _ (kas_fr F3 s2 haL ha0) fun p hp => ?_)
  rcases List.mem_cons.mp hp with rfl | hp
  · exact ⟨hc2, haL, ha0⟩
  · exact kas_news N2 s2 hna p hp
end


section
variable {prog : Program} {w : World} {A : Around} {E : Value → Shared → Prop} {s : Shared} {h₀ : Heap} {L : Addr} {m : Str → Option Value} {news : List (Addr × Obj)}
theorem sliceApplied_two {sl : Addr} {u : Tok} {Q : Int × Int × Nat → Shared → Prop} (hs : s.heap.IsSliceOf sl .none (.int 2 u) .none) (h : Q (0, 1, 2) s) :
    wpAny (model prog w) A (Builtin.Slice.sliceApplied (.ref sl) (pure (3 : Int))) Q E s := by
  obtain ⟨os, hos, hcs, hds⟩ := id hs
  unfold Builtin.Slice.sliceApplied Builtin.Slice.sliceFields
  refine wpAny_bind (wpAny_bind (wpAny_field hos hds (x := .none) rfl (wpAny_bind (wpAny_field hos hds (x := .int 2 u) rfl (wpAny_bind (wpAny_field hos hds (x := .none) rfl (wpAny_pure ?_)))))))
  refine wpAny_bind (slicePart_none ?_)
  show wpAny _ _ (if ((1 : Int) == 0) = true then _ else _) _ _ s
  rw [if_neg (by decide)]
  refine wpAny_bind (slicePart_none (wpAny_bind (slicePart_int (wpAny_bind (wpAny_pure ?_)))))
  show wpAny _ _ (match Builtin.Slice.sliceAdjust none (some (2 : Int)) 1 (3 : Int) with | (lo, hi) => pure (lo, (1 : Int), Builtin.Slice.slicePlaces lo hi 1)) _ _ s
  have e : Builtin.Slice.sliceAdjust none (some (2 : Int)) 1 (3 : Int) = (0, 2) := by decide
  rw [e]
  show wpAny _ _ (pure ((0 : Int), (1 : Int), Builtin.Slice.slicePlaces 0 2 1)) _ _ s
  have e2 : Builtin.Slice.slicePlaces 0 2 1 = 2 := by decide
  rw [e2]
  exact wpAny_pure h
theorem getItem_tuple_two {t sl : Addr} {x y z : Value} {u : Tok} {Q : Value → Shared → Prop} (ht : IsTup s.heap t #[x, y, z]) (hs : s.heap.IsSliceOf sl .none (.int 2 u) .none)
    (h : Q (.ref s.heap.objs.size) { s with heap := s.heap.push { cls := .type "tuple", data := .seq #[x, y] } }) : wpAny (model prog w) A (getItem (.ref t) (.ref sl)) Q E s := by
  have hdrop : sizeOk (.seq #[x, y]) := by
    show (#[x, y] : Array Value).size ≤ sizeLine
    rw [sizeLine_eq]
    show 2 ≤ 16777216
    omega
  obtain ⟨os, hos, hcs, hds⟩ := id hs
  have hTs : s.TypeIs (.ref sl) "slice" := ⟨os, hos, hcs⟩
  unfold getItem
  try with_reducible refine wpAny_holding ?_
  first | refine wpAny_bind (wpAny_pure ?_) | skip
  refine wpAny_bind (wpAny_sequenceKey ht.typeIs (by decide) ?_)
  refine wpAny_bind (wpAny_callSpecial?_slot (name := Str.ofString "__getitem__") ht.typeIs slot_tuple_getitem
    (wpAny_call_entry slot_tuple_getitem ht.typeIs entry_tuple_getitem ?_ (args_tuple_getitem _ _)))
  show wpAny _ _ (Builtin.Tuple.tupleItemsOf (.ref t) >>= _) _ _ s
  refine wpAny_bind (tupleItemsOf_ ht ?_)
  refine wpAny_bind (wpAny_typeOf hTs ?_)
  rw [if_pos (by decide)]
  refine wpAny_bind (sliceApplied_two hs ?_)
  show wpAny _ _ (if (((0 : Int) == 0 && (1 : Int) == 1 && (2 : Nat) == 3) = true) then _ else _) _ _ s
  rw [if_neg (by decide)]
  have e : ((List.range 2).filterMap fun (k : Nat) => (#[x, y, z] : Array Value)[((0 : Int) + (k : Int) * 1).toNat]?).toArray = #[x, y] := rfl
  first
    | exact wpAny_bind (m := Builtin.Tuple.tupleExact _) (wpAny_newObj_type (wpAny_pure ⟨_, rfl, wpAny_pure h⟩) hdrop)
    | exact wpAny_bind (m := Builtin.Tuple.tupleExact _) (wpAny_newObj_type (wpAny_bind (wpAny_pure (wpAny_pure ⟨_, rfl, wpAny_pure h⟩))) hdrop)
    | exact wpAny_bind (wpAny_bind (m := Builtin.Tuple.tupleExact _) (wpAny_newObj_type (wpAny_pure (wpAny_pure ⟨_, rfl, wpAny_pure h⟩)) hdrop))
    | exact wpAny_bind (wpAny_bind (m := Builtin.Tuple.tupleExact _) (wpAny_newObj_type (wpAny_pure ⟨_, rfl, wpAny_pure h⟩) hdrop))
/-- the first two of three -/
theorem slice_two {value slice : Expr} {t : Addr} {o : Obj} {x y z : Value} {n : Nat} {u : Tok} {Q : Value → Shared → Prop}
    (F : Fr h₀ L s.heap m) (N : News h₀ L s.heap news) (hm : (t, o) ∈ news) (ho : o = { cls := .type "tuple", data := .seq #[x, y, z] n })
    (h : ∀ D h', Fr h₀ L h' m → News h₀ L h' ((D, { cls := .type "tuple", data := .seq #[x, y] }) :: news) → (∀ p ∈ news, p.1 < D) → Q (.ref D) { s with heap := h' })
    (hs : subscripted slice false (.ref t) (.ref s.heap.objs.size) = operate [.ref s.heap.objs.size, .ref t] (getItem (.ref t) (.ref s.heap.objs.size)) := by with_unfolding_all rfl)
    (hg : ∀ r, letTemporaryGo value (.ref t) r = pure () := by intro _; with_unfolding_all rfl) :
    wpAny (model prog w) A (subscriptTail value slice (.ref t) (.ref s.heap.objs.size)) Q E { s with heap := s.heap.push { cls := .type "slice", data := .fields #[.none, .int 2 u, .none] } } := by
  subst ho
  have ht : IsTup s.heap t #[x, y, z] := ⟨_, (N _ hm).1, rfl, n, rfl⟩
  have ht' : IsTup (s.heap.push { cls := .type "slice", data := .fields #[.none, .int 2 u, .none] }) t #[x, y, z] := ht.keeps fun _ _ e => Heap.get?_push_of_some _ e
  refine subscriptTail_ops (s := { s with heap := s.heap.push { cls := .type "slice", data := .fields #[.none, .int 2 u, .none] } }) ht'.typeIs slot_tuple_getitem.lookup
    (getItem_tuple_two ht' (Heap.IsSliceOf.new ..) ?_) hs hg
  have N1 := News.push (F.push { cls := .type "slice", data := .fields #[.none, .int 2 u, .none] }) (N.grown fun _ _ e => Heap.get?_push_of_some _ e) { cls := .type "tuple", data := .seq #[x, y] }
  exact h _ _ ((F.push _).push _) N1 fun p hp => by
    rw [Heap.size_push]
    exact Nat.lt_succ_of_lt (Heap.lt_size (N p hp).1)
theorem tuple_lt_tree {a b : Addr} {oa ob : Obj} {x y x' y' : Int} {t u t' u' : Tok} {na nb : Nat} {P : PySem.Fin → Shared → Prop} (ha : s.heap.get? a = some oa) (da : oa.data = .seq #[.int x t, .int y u] na) (hb : s.heap.get? b = some ob) (cb : ob.cls = .type "tuple") (db : ob.data = .seq #[.int x' t', .int y' u'] nb)
    (h : P (.done (.ret (.bool (decide (x < x' ∨ (x = x' ∧ y < y')))))) s) : wpAny (model prog w) A (Builtin.«tuple.__lt__» ⟨[.ref a, .ref b], []⟩) P E s := by
  have hTb : s.TypeIs (.ref b) "tuple" := ⟨ob, hb, cb⟩
  show wpAny _ _ (isInstance (.ref b) (.type "tuple") >>= _) _ _ s
  refine wpAny_bind (wpAny_isInstance hTb isSubtype_tuple_tuple ?_)
  simp only [Bool.not_true, Bool.false_eq_true, if_false]
  refine wpAny_bind (wpAny_tupleItemsOf ha da ?_)
  refine wpAny_bind (wpAny_tupleItemsOf hb db ?_)
  show wpAny _ _ (forIn [(Value.int x t, Value.int x' t'), (Value.int y u, Value.int y' u')] _ _ >>= _) _ _ s
  rw [List.forIn_cons]
  refine wpAny_bind (wpAny_bind ?_)
  refine wpAny_bind (wpAny_eqBool_int ?_)
  by_cases e : x = x'
  · rw [show (x == x') = true by simpa using e]
    simp only [Bool.not_true, Bool.false_eq_true, if_false]
    refine wpAny_pure ?_
    dsimp only
    rw [List.forIn_cons]
    refine wpAny_bind ?_
    refine wpAny_bind (wpAny_eqBool_int ?_)
    by_cases e2 : y = y'
    · rw [show (y == y') = true by simpa using e2]
      simp only [Bool.not_true, Bool.false_eq_true, if_false]
      refine wpAny_pure ?_
      dsimp only
      rw [List.forIn_nil]
      refine wpAny_pure ?_
      dsimp only
      have e3 : decide (x < x' ∨ (x = x' ∧ y < y')) = false := by rw [decide_eq_false_iff_not]; omega
      rw [e3] at h
      exact wpAny_pure h
    · rw [show (y == y') = false by simpa using e2]
      simp only [Bool.not_false, if_true]
      refine wpAny_bind (wpAny_rule ?_)
      refine wpAny_bind (lt_int ?_)
      have e3 : decide (x < x' ∨ (x = x' ∧ y < y')) = decide (y < y') := by rw [decide_eq_decide]; omega
      rw [e3] at h
      exact wpAny_bind (wpAny_pure (wpAny_pure (wpAny_pure (wpAny_pure h))))
  · rw [show (x == x') = false by simpa using e]
    simp only [Bool.not_false, if_true]
    refine wpAny_bind (wpAny_rule ?_)
    refine wpAny_bind (lt_int ?_)
    have e3 : decide (x < x' ∨ (x = x' ∧ y < y')) = decide (x < x') := by rw [decide_eq_decide]; omega
    rw [e3] at h
    exact wpAny_bind (wpAny_pure (wpAny_pure (wpAny_pure (wpAny_pure h))))
/-- two tuples of two ints by < -/
theorem lt_tup {a b : Addr} {oa ob : Obj} {x y x' y' : Int} {t u t' u' : Tok} {na nb : Nat} {Q : Value → Shared → Prop} (hu : A.units < cLine) (N : News h₀ L s.heap news) (ha : (a, oa) ∈ news) (ea : oa = { cls := .type "tuple", data := .seq #[.int x t, .int y u] na }) (hb : (b, ob) ∈ news) (eb : ob = { cls := .type "tuple", data := .seq #[.int x' t', .int y' u'] nb })
    (h : Q (.bool (decide (x < x' ∨ (x = x' ∧ y < y')))) s) : wpAny (model prog w) A (compareOp .Lt (.ref a) (.ref b)) Q E s := by
  subst ea
  subst eb
  have hTa : s.TypeIs (.ref a) "tuple" := ⟨_, (N _ ha).1, rfl⟩
  have hTb : s.TypeIs (.ref b) "tuple" := ⟨_, (N _ hb).1, rfl⟩
  refine wpAny_richCompare_same_room (op := .Lt) hTa hTb PySem.F.slot_tuple_lt ?_ hu
  refine wpAny_call_entry PySem.F.slot_tuple_lt hTa PySem.F.entry_tuple_lt ?_ (PySem.F.args_tuple_lt_2 _ _)
  exact tuple_lt_tree (N _ ha).1 rfl (N _ hb).1 rfl rfl ⟨_, rfl, by simp, h⟩
end
section
variable {prog : Program} {w : World} {A : Around} {E : Value → Shared → Prop} {s : Shared} {env : Env} {h₀ : Heap} {target : Expr} {body : List Stmt} {Q : Flow → Shared → Prop}
end
section
variable {prog : Program} {w : World} {A : Around} {E : Value → Shared → Prop} {s : Shared} {env : Env} {h₀ : Heap} {L : Addr} {target : Expr} {body : List Stmt} {Q : Flow → Shared → Prop}
end
def IDict (prog : Program) (w : World) (o : Obj) (c : List (Int × Int)) : Prop := ∃ kvs, o.IsDictOf (intKind prog w) kvs ∧ PyProof.V.FlatPairs PyData.int kvs (kdfD c)
section
variable {prog : Program} {w : World} {A : Around} {E : Value → Shared → Prop} {s : Shared} {env : Env} {h₀ : Heap} {L : Addr} {target : Expr} {body : List Stmt} {Q : Flow → Shared → Prop}
end
section
variable {prog : Program} {w : World} {A : Around} {E : Value → Shared → Prop} {s : Shared} {h₀ : Heap} {L d : Addr} {m : Str → Option Value} {news : List (Addr × Obj)} {o : Obj} {c : List (Int × Int)}
end
section
variable {prog : Program} {w : World} {A : Around} {E : Value → Shared → Prop} {s : Shared} {env : Env} {h₀ : Heap} {L : Addr} {body : List Stmt} {Q : Flow → Shared → Prop}
end
section
variable {prog : Program} {w : World} {A : Around} {E : Value → Shared → Prop} {s : Shared} {h₀ : Heap} {L d : Addr} {news : List (Addr × Obj)} {o : Obj}
end
section
variable {prog : Program} {w : World} {A : Around} {E : Value → Shared → Prop} {Q : Flow → Shared → Prop} {s : Shared} {env : Env} {h₀ : Heap} {L : Addr}
end
section
variable {prog : Program} {w : World} {A : Around} {E : Value → Shared → Prop} {Q : Flow → Shared → Prop} {s : Shared} {env : Env} {h₀ : Heap} {L : Addr}
end
section
variable {prog : Program} {w : World} {A : Around} {E : Value → Shared → Prop} {s : Shared} {h₀ : Heap} {L : Addr} {m : Str → Option Value} {news : List (Addr × Obj)}
end
section
variable {prog : Program} {w : World} {A : Around} {E : Value → Shared → Prop} {s : Shared} {h₀ : Heap} {L d : Addr} {m : Str → Option Value} {news : List (Addr × Obj)} {o : Obj} {c : List (Int × Int)}
/-- max over what yields ints -/
theorem kdu_max {T : String} {r : Addr} {n : Nat} {P : Nat → Value → Prop} {OK : Heap → Prop} {Q : Value → Shared → Prop} (K : KdlSrc prog w T r d n P OK) (hh : A.handled = none) (F : Fr h₀ L s.heap m) (N : News h₀ L s.heap news) (hok : OK s.heap) (val : Nat → Int) (hval : ∀ (i : Nat) (v : Value), P i v → ∃ t : Tok, v = Value.int (val i) t) (hn : 0 < n)
    (h : ∀ (h' : Heap) (tk : Nat) (t' : Tok) (j : Nat), j < n → (∀ i, i < n → val i ≤ val j) → Fr h₀ L h' m → News h₀ L h' news → Q (.int (val j) t') { s with heap := h', toks := tk }) :
    wpAny (model prog w) A (call (.builtin "max") [.ref r]) Q E s := by
  refine call_max_walkS ?_
  obtain ⟨oI, St, hit, W, st⟩ := K.iter A.in1 s hh hok
  refine hit _ _ ⟨s.heap.objs.size, _, _, _, n, P, _, _, rfl, W.toS, st, fun b hb => ?_, hn, CmpOf.ints_gt val hval, fun v s' hP hm => ?_⟩
  · show b < (s.heap.push oI).objs.size
    rw [size_push']
    rcases List.mem_cons.mp hb with e | hb
    · rw [e]; exact Nat.lt_succ_self _
    · rw [List.mem_singleton.mp hb]; exact Nat.lt_succ_of_lt (K.there _ hok).2
  · have hk : ∀ b o, s.heap.get? b = some o → s'.heap.get? b = some o := fun b o e =>
      hm.heap b o (fun hI => absurd (Heap.lt_size e) (by rw [List.mem_singleton.mp hI]; exact Nat.lt_irrefl _)) (Heap.get?_push_of_some _ e)
    obtain ⟨h1, h2⟩ := argBest_gt val (n - 1)
    obtain ⟨t', rfl⟩ := hval _ _ hP
    rw [Moved.eq_with hm]
    exact h s'.heap s'.toks t' _ (by omega) (fun i hi => h2 i (by omega)) (F.keeps hk) fun p hp => ⟨hk _ _ (N p hp).1, (N p hp).2⟩
theorem idict_values {Q : Value → Shared → Prop} (F : Fr h₀ L s.heap m) (N : News h₀ L s.heap news) (hm : (d, o) ∈ news) (hd : IDict prog w o c) (lo : (d == sysModules) = false)
    (h : ∀ (v : Addr) h', Fr h₀ L h' m → News h₀ L h' ((v, { cls := .type "dict_values", data := .fields #[.ref d] }) :: news) → (∀ q ∈ news, q.1 < v) → Q (.ref v) { s with heap := h' }) :
    wpAny (model prog w) A (call (.builtin "dict.values") [.ref d]) Q E s := by
  obtain ⟨kvs, h1, h2⟩ := hd
  exact kdl_view_values F N hm h1 lo h
theorem idict_method {name : Str} {id : String} {pl : Sem Bool} {Q : Value × List Value → Shared → Prop} (hid : dictMethodId name = some id) (N : News h₀ L s.heap news) (hm : (d, o) ∈ news) (hd : IDict prog w o c) (lo : (d == sysModules) = false) (h : Q (.builtin id, [.ref d]) s) :
    wpAny (model prog w) A (getMethod (.ref d) name pl) Q E s := by
  obtain ⟨kvs, h1, h2⟩ := hd
  exact getMethod_tab_any hid (TabAt.ofObj lo (N _ hm).1 h1 h2) h
theorem idict_max {v : Addr} {Q : Value → Shared → Prop} (hh : A.handled = none) (F : Fr h₀ L s.heap m) (N : News h₀ L s.heap ((v, { cls := .type "dict_values", data := .fields #[.ref d] }) :: news)) (hm : (d, o) ∈ news) (hd : IDict prog w o c) (hc : 0 < c.length)
    (h : ∀ h' tk t M, M ∈ c.map (·.2) → (∀ a ∈ c.map (·.2), a ≤ M) → Fr h₀ L h' m → News h₀ L h' news → Q (.int M t) { s with heap := h', toks := tk }) : wpAny (model prog w) A (call (.builtin "max") [.ref v]) Q E s := by
  obtain ⟨kvs, h1, hf⟩ := hd
  have hD : s.heap.DictOf (intKind prog w) d kvs := Heap.dictOf_iff.mpr ⟨o, (N _ (.tail _ hm)).1, h1⟩
  obtain ⟨ep, hat⟩ := hD.dictAt
  have hlen : kvs.length = c.length := by rw [← hf.length, kdfD_length]
  refine kdu_max (kdl_values (knd := PySem.intKind prog w) (kvs := kvs) (ep := ep)) hh F (fun p hp => N p (.tail _ hp)) ⟨⟨_, (N _ (.head _)).1, rfl, rfl⟩, hat⟩ (fun i => ((c[i]?).map (·.2)).getD 0) (fun i x hx => ?_) (by omega) fun h' tk t j hj hall F' N' => ?_
  · obtain ⟨k, hx⟩ := hx
    obtain ⟨p, hp, t, rfl⟩ := kdy_valAt hf hx
    exact ⟨t, by simp [hp]⟩
  · have hj' : j < c.length := by omega
    refine h h' tk t _ ?_ (fun a ha => ?_) F' N'
    · simp only [List.getElem?_eq_getElem hj', Option.map_some, Option.getD_some]
      exact List.mem_map.mpr ⟨_, List.getElem_mem hj', rfl⟩
    · obtain ⟨p, hp, rfl⟩ := List.mem_map.mp ha
      obtain ⟨i, hi, rfl⟩ := List.getElem_of_mem hp
      have := hall i (by omega)
      simpa [List.getElem?_eq_getElem hi] using this
end
section
variable {prog : Program} {w : World} {A : Around} {E : Value → Shared → Prop} {s : Shared} {env : Env} {h₀ : Heap} {x : Str} {body : List Stmt} {Q : Flow → Shared → Prop}
end
section
variable {prog : Program} {w : World} {A : Around} {E : Value → Shared → Prop} {s : Shared} {env : Env} {h₀ : Heap} {L : Addr} {body : List Stmt}
end
section
variable {prog : Program} {w : World} {A : Around} {E : Value → Shared → Prop} {s : Shared} {h₀ : Heap} {L : Addr} {m : Str → Option Value} {env : Env}
open LCg LCp
end
section
variable {prog : Program} {w : World} {A : Around} {E : Value → Shared → Prop} {Q : Flow → Shared → Prop} {s : Shared} {env : Env} {h₀ : Heap} {L : Addr}
end
section
variable {prog : Program} {w : World} {A : Around} {E : Value → Shared → Prop} {s : Shared} {env : Env} {h₀ : Heap} {L : Addr} {body : List Stmt} {Q : Flow → Shared → Prop}
end
section
variable {prog : Program} {w : World} {A : Around} {E : Value → Shared → Prop} {s : Shared} {h₀ : Heap} {L : Addr} {m : Str → Option Value} {news : List (Addr × Obj)}
end
section
variable {prog : Program} {w : World} {A : Around} {E : Value → Shared → Prop} {s : Shared} {h₀ : Heap} {L : Addr} {m : Str → Option Value} {news : List (Addr × Obj)}
end
section
variable {prog : Program} {w : World} {A : Around} {E : Value → Shared → Prop} {Q : Flow → Shared → Prop} {s : Shared} {env : Env} {h₀ : Heap} {L : Addr}
end

open PySem.SeqAt
section
variable {prog : Program} {w : World} {A : Around} {E : Value → Shared → Prop} {s : Shared} {h₀ : Heap} {L : Addr} {news : List (Addr × Obj)}
end
section
variable {prog : Program} {w : World} {A : Around} {E : Value → Shared → Prop} {s : Shared} {h₀ : Heap} {L : Addr} {news : List (Addr × Obj)}
end
section
variable {prog : Program} {w : World} {A : Around} {E : Value → Shared → Prop} {s : Shared} {h₀ : Heap} {L : Addr} {news : List (Addr × Obj)}
end

/-- the order of pairs -/
def pLt (p q : Int × Int) : Bool := decide (p.1 < q.1 ∨ (p.1 = q.1 ∧ p.2 < q.2))
section
variable {prog : Program} {w : World} {A : Around} {E : Value → Shared → Prop} {s : Shared} {h₀ : Heap} {L : Addr} {m : Str → Option Value} {news : List (Addr × Obj)}
theorem ask_tup2 {vs : List Value} {ks : List (Int × Int)} {i j : Nat} {C : Bool → Shared → Prop} (hl : vs.length = ks.length) (hk : ks.Nodup) (ht : ∀ (i : Nat) (v : Value) (k : Int × Int), vs[i]? = some v → ks[i]? = some k → TupI news v k) (N : News h₀ L s.heap news)
    (hi : i < vs.length) (hj : j < vs.length) (hij : i ≠ j) (h : C (pLt (ks.getD i (0, 0)) (ks.getD j (0, 0))) s) : kas_ask prog w A (tuples' true) vs i j C s := by
  have hi' : i < ks.length := by omega
  have hj' : j < ks.length := by omega
  obtain ⟨a, o, its, n, t, u, r, e, hm, hc, hd, hits⟩ := ht i vs[i] ks[i] (List.getElem?_eq_getElem hi) (List.getElem?_eq_getElem hi')
  obtain ⟨a', o', its', n', t', u', r', e', hm', hc', hd', hits'⟩ := ht j vs[j] ks[j] (List.getElem?_eq_getElem hj) (List.getElem?_eq_getElem hj')
  have hne : ks[i] ≠ ks[j] := fun q => hij ((List.getElem_inj hk).mp q)
  have e1 : ks.getD i (0, 0) = ks[i] := by simp [List.getD, List.getElem?_eq_getElem hi']
  have e2 : ks.getD j (0, 0) = ks[j] := by simp [List.getD, List.getElem?_eq_getElem hj']
  rw [e1, e2] at h
  unfold kas_ask
  have g1 : vs.getD i Value.none = .ref a := by rw [← e]; simp [List.getD, List.getElem?_eq_getElem hi]
  have g2 : vs.getD j Value.none = .ref a' := by rw [← e']; simp [List.getD, List.getElem?_eq_getElem hj]
  rw [g1, g2]
  generalize ks[i] = p at *
  generalize ks[j] = q at *
  obtain ⟨x, y⟩ := p
  obtain ⟨x', y'⟩ := q
  refine kat_lt (N.get hm) hd (N.get hm') hd' ?_
  rw [hits, hits', List.zip_cons_cons, List.zip_cons_cons]
  refine kat_cons (wpAny_eqBool_int ?_)
  by_cases hx : x = x'
  · rw [show (x == x') = true by simpa using hx]
    refine kat_yes (kat_cons (wpAny_eqBool_int ?_))
    by_cases hy : y = y'
    · exact absurd (by rw [hx, hy]) hne
    · rw [show (y == y') = false by simpa using hy]
      refine kat_no ?_
      have e : pLt (x, y) (x', y') = decide (y < y') := by
        unfold pLt
        rw [decide_eq_decide]
        constructor
        · rintro (q | q)
          · exact absurd q (by show ¬ x < x'; omega)
          · exact q.2
        · exact fun q => .inr ⟨hx, q⟩
      rw [e] at h
      exact kat_one _ _ (lt_int h)
  · rw [show (x == x') = false by simpa using hx]
    refine kat_no ?_
    have e : pLt (x, y) (x', y') = decide (x < x') := by
      unfold pLt
      rw [decide_eq_decide]
      constructor
      · rintro (q | q)
        · exact q
        · exact absurd q.1 hx
      · exact fun q => .inl q
    rw [e] at h
    exact oneLt_int h
end
/-- generators made while a call ran: those that stood are as they were, the new ones are through -/
def GRow (a b : Array GenState) : Prop := a.size ≤ b.size ∧ (∀ (i : Nat) (x : GenState), a[i]? = some x → b[i]? = some x) ∧ ∀ (i : Nat) (x : GenState), a.size ≤ i → b[i]? = some x → x = .finished
theorem GRow.refl (a : Array GenState) : GRow a a := ⟨Nat.le_refl _, fun _ _ e => e, fun i x h e => by obtain ⟨h', _⟩ := Array.getElem?_eq_some_iff.mp e; omega⟩
theorem GRow.trans {a b c : Array GenState} (h : GRow a b) (h' : GRow b c) : GRow a c := ⟨Nat.le_trans h.1 h'.1, fun i x e => h'.2.1 i x (h.2.1 i x e), fun i x hi e => by
  by_cases hb : i < b.size
  · have e1 := h'.2.1 i b[i] (Array.getElem?_eq_getElem hb)
    rw [e] at e1
    exact (Option.some.inj e1) ▸ h.2.2 i _ hi (Array.getElem?_eq_getElem hb)
  · exact h'.2.2 i x (by omega) e⟩
theorem GRow.bare {a b : Array GenState} (h : GRow a b) (ha : AllBare a) : AllBare b := by
  intro y hy
  obtain ⟨i, hi, rfl⟩ := Array.mem_iff_getElem.mp hy
  by_cases q : i < a.size
  · have e1 := h.2.1 i a[i] (Array.getElem?_eq_getElem q)
    rw [Array.getElem?_eq_getElem hi] at e1
    exact (Option.some.inj e1) ▸ ha _ (Array.getElem_mem q)
  · rw [h.2.2 i _ (by omega) (Array.getElem?_eq_getElem hi)]; rfl
section
variable {prog : Program} {w : World} {A : Around} {E : Value → Shared → Prop} {s : Shared}
/-- the end of a generator's run -/
def GenR (B4 : Shared → Shared → Prop) : Nat → Shared → Shared → Prop := fun n s₀ s₁ => n = 0 ∧ B4 s₀ s₁
def GenY (V : Value → Prop) (B2 : Shared → Shared → Prop) (C : Shared → Prop) : Protocol := fun _ s₀ v s' kap => V v ∧ B2 s₀ s' ∧ ∀ s'', C s'' → kap (.send .none) s''
abbrev GenE (B4 : Shared → Shared → Prop) : GenEnd := fun n s₀ r s₁ => r = .ok (.ret .none) ∧ GenR B4 n s₀ s₁
section
variable {env : Env} {st1 st2 st3 : Stmt} {test e : Expr} {yp ep wp : Pos} {B1 B2 B3 B4 : Shared → Shared → Prop} {C : Shared → Prop} {V : Value → Prop} {n : Nat} {s₀ : Shared} {c : Code} {fs : List Frame}
abbrev cutBody (st1 st2 st3 : Stmt) (test e : Expr) (yp ep wp : Pos) : List Stmt := [st1, st2, .While test [.Expr (.Yield (some e) yp) ep, st3] [] wp]
abbrev cutTurn (st3 : Stmt) (e : Expr) (yp ep : Pos) : List Stmt := [.Expr (.Yield (some e) yp) ep, st3]
/-- the loop's end: the test says no -/
theorem cut_no {Y : Protocol} {R : GenEnd} {wb : List Stmt} (tno : ∀ A' E' s₀ s, B3 s₀ s → wpAny (model prog w) A' (isTrue test env (eval test env)) (fun b s' => b = false ∧ B4 s₀ s') E' s)
    (h : ∀ s', B4 s₀ s' → Seg (model prog w) A R Y n s₀ (.whileLoop test wb [] env) (leafOf (.ok .next)) fs s') (h3 : B3 s₀ s) :
    Seg (model prog w) A R Y n s₀ (.whileLoop test wb [] env) ((model prog w).den (.whileLoop test wb [] env)) fs s := by
  refine seg_whileLoop (wpAny_mono (tno _ _ s₀ s h3) (fun b s' hb => ?_) fun _ _ x => x)
  obtain ⟨rfl, h4⟩ := hb
  rw [if_neg Bool.false_ne_true]
  exact seg_execs_nil (h s' h4)
/-- a turn of the loop: a yield, then what follows it -/
theorem cut_yes {wb : List Stmt} (hwb : wb = cutTurn st3 e yp ep) (hfs : splitAtGen fs = none) (hfg : fs.any Frame.guarded = false)
    (tyes : ∀ A' E' s₀ s, B1 s₀ s → wpAny (model prog w) A' (isTrue test env (eval test env)) (fun b s' => b = true ∧ B1 s₀ s') E' s)
    (ty : ∀ A' E' s₀ s, B1 s₀ s → wpAny (model prog w) A' (eval e env) (fun v s' => V v ∧ B2 s₀ s') E' s)
    (t3 : ∀ A' E' s, C s → wpAny (model prog w) A' (exec st3 env) (fun f s' => f = .next ∧ B3 s s') E' s)
    (tno : ∀ A' E' s₀ s, B3 s₀ s → wpAny (model prog w) A' (isTrue test env (eval test env)) (fun b s' => b = false ∧ B4 s₀ s') E' s)
    (h : ∀ s₁ s', B4 s₁ s' → Seg (model prog w) A (GenE B4) (GenY V B2 C) 0 s₁ (.whileLoop test wb [] env) (leafOf (.ok .next)) fs s') (h1 : B1 s₀ s) (hco : env.scope.isCoroutine = false) (hi : interactive env = false) :
    Seg (model prog w) A (GenE B4) (GenY V B2 C) 1 s₀ (.whileLoop test wb [] env) ((model prog w).den (.whileLoop test wb [] env)) fs s := by
  subst hwb
  refine seg_whileLoop (wpAny_mono (tyes _ _ s₀ s h1) (fun b s' hb => ?_) fun _ _ x => x)
  obtain ⟨rfl, h1'⟩ := hb
  rw [if_pos rfl]
  refine seg_execs_cons (seg_Expr_Yield hfs rfl hfg (wpAny_mono (ty _ _ s₀ s' h1') (fun v s₂ hv => ?_) fun _ _ x => x) hco hi)
  intro kap hk
  refine ⟨hv.1, hv.2, fun s'' h2 => hk .none s'' ?_⟩
  show Seg (model prog w) A (GenE B4) (GenY V B2 C) 0 s'' _ ((execs [st3] env).wrap _ _ _ _) fs s''
  refine seg_execs_cons (seg_wrap (wpAny_mono (t3 _ _ s'' h2) (fun f s₃ hf => ?_) fun _ _ x => x))
  obtain ⟨rfl, h3⟩ := hf
  refine seg_execs_nil ?_
  exact seg_again rfl (cut_no tno (fun s' => h _ s') h3)
theorem cut_tail {R : GenEnd} {Y : Protocol} {m : Nat} {K : Flow → Sem Fin} {H : Value → Sem Fin} {gd : Bool → Bool} {lv : List Value → List Value} {p : Pos} {c' : Code}
    (h : Seg (model prog w) A R Y m s₀ c (K .next) fs s) :
    Seg (model prog w) A R Y m s₀ c' (leafOf (.ok .next)) (.ret (fun r => ((match r with | .ok f => (.pure f : Sem Flow) | .error e => .raise e).onRaise fun (x : Value) => do
        if (← field x 1) == Value.none then unsupported "frame.own-activation:exception-without-traceback"
        setFlight x env.frame).wrap K H gd lv) none (gd false) (lv []) c p [] :: fs) s := by
  refine seg_leaf _ ?_
  exact h
/-- next of a fresh generator that yields -/
theorem next_yield {a : Addr} {g : Nat} {Q : Option Value → Shared → Prop} (hh : A.handled = none) (hl : s.heap.NoLimit) (hroom : A.depth < recursionLimit) (hg : s.heap.IsGen a g)
    (hgs : s.gens[g]? = some (.fresh (.func (cutBody st1 st2 st3 test e yp ep wp) env))) (hco : env.scope.isCoroutine = false) (hi : interactive env = false)
    (t1 : ∀ A' E', wpAny (model prog w) A' (exec st1 env) (fun f s' => f = .next ∧ wpAny (model prog w) A' (exec st2 env) (fun f s' => f = .next ∧ B1 (s.setGen g .running) s') E' s') E' (s.setGen g .running))
    (tyes : ∀ A' E' s₀ s, B1 s₀ s → wpAny (model prog w) A' (isTrue test env (eval test env)) (fun b s' => b = true ∧ B1 s₀ s') E' s)
    (ty : ∀ A' E' s₀ s, B1 s₀ s → wpAny (model prog w) A' (eval e env) (fun v s' => V v ∧ B2 s₀ s') E' s)
    (t3 : ∀ A' E' s, C s → wpAny (model prog w) A' (exec st3 env) (fun f s' => f = .next ∧ B3 s s') E' s)
    (tno : ∀ A' E' s₀ s, B3 s₀ s → wpAny (model prog w) A' (isTrue test env (eval test env)) (fun b s' => b = false ∧ B4 s₀ s') E' s)
    (hQ : ∀ v s₁ gs', V v → B2 (s.setGen g .running) s₁ → (∀ s'', C s'' → gs'.Goes (model prog w) A.in1 (GenE B4) (GenY V B2 C) 0 (.send .none) s'') → Q (some v) (s₁.setGen g gs')) :
    wpAny (model prog w) A (pyNext (.ref a)) Q E s := by
  refine wpAny_pyNext_gen (n := 1) (P := GenR B4) (Y := GenY V B2 C) hh hl hroom hg hgs ⟨rfl, ?_⟩ (fun v s₁ gs' hv => ?_) (fun s₁ hp h' hk => ?_)
  · refine seg_func (seg_execs_cons (seg_wrap (wpAny_mono (t1 _ _) (fun f s₁ hf => ?_) fun _ _ x => x)))
    obtain ⟨rfl, hf⟩ := hf
    refine seg_execs_cons (seg_wrap (wpAny_mono hf (fun f s₂ hf => ?_) fun _ _ x => x))
    obtain ⟨rfl, h1⟩ := hf
    refine seg_execs_cons (seg_While fun p => ?_)
    refine cut_yes rfl rfl rfl tyes ty t3 tno (fun s₁ s' h4 => cut_tail ?_) h1 hco hi
    exact seg_execs_nil (seg_end (.ok (.ret .none)) ⟨rfl, rfl, h4⟩)
  · exact hQ v s₁ gs' hv.1 hv.2.1 hv.2.2
  · exact absurd hp.1 (Nat.succ_ne_zero 0)
/-- next of a generator that yielded and ends -/
theorem next_done {a : Addr} {g : Nat} {gs' : GenState} {Q : Option Value → Shared → Prop} (hh : A.handled = none) (hl : s.heap.NoLimit) (hroom : A.depth < recursionLimit) (hg : s.heap.IsGen a g)
    (hgs : s.gens[g]? = some gs') (hgo : ∀ s'', C s'' → gs'.Goes (model prog w) A.in1 (GenE B4) (GenY V B2 C) 0 (.send .none) s'') (h2 : C (s.setGen g .running)) (hC : ∀ s₀ s, B2 s₀ s → C s)
    (hQ : ∀ s₁, B4 (s.setGen g .running) s₁ → ∀ h', (∀ b o, s₁.heap.get? b = some o → h'.get? b = some o) → Q none { s₁.setGen g .finished with heap := h' }) :
    wpAny (model prog w) A (pyNext (.ref a)) Q E s := by
  refine wpAny_pyNext_gen (n := 0) (P := GenR B4) (Y := GenY V B2 C) hh hl hroom hg hgs (hgo _ h2) (fun v s₁ gs'' hv => ?_) (fun s₁ hp h' hk => hQ s₁ hp.2 h' hk)
  exact (hv.2.2 s₁ (hC _ _ hv.2.1)).elim
end
end

section
variable {prog : Program} {w : World} {A : Around} {E : Value → Shared → Prop} {Q : Flow → Shared → Prop} {s : Shared} {env : Env} {h₀ : Heap} {L : Addr}
end

section
variable {prog : Program} {w : World} {A : Around} {E : Value → Shared → Prop} {Q : Flow → Shared → Prop} {s : Shared} {env : Env} {h₀ : Heap} {L : Addr}
end



section
variable {prog : Program} {w : World} {A : Around} {E : Value → Shared → Prop} {Q : Flow → Shared → Prop} {s : Shared} {env : Env} {h₀ : Heap} {L : Addr}
end
section
variable {prog : Program} {w : World} {A : Around} {E : Value → Shared → Prop} {s : Shared} {h₀ : Heap} {L : Addr} {K : Frag} {m : Str → Option Value}
end



section
variable {prog : Program} {w : World} {A : Around} {E : Value → Shared → Prop} {Q : Flow → Shared → Prop} {s : Shared} {env : Env} {h₀ : Heap} {L : Addr}
end

section
variable {prog : Program} {w : World} {A : Around} {E : Value → Shared → Prop} {Q : Flow → Shared → Prop} {s : Shared} {env : Env} {h₀ : Heap} {L : Addr}
end

section
variable {prog : Program} {w : World} {A : Around} {E : Value → Shared → Prop} {s : Shared} {env : Env} {h₀ : Heap} {L : Addr} {target : Expr} {body : List Stmt}
end

section
variable {prog : Program} {w : World} {A : Around} {E : Value → Shared → Prop} {Q : Flow → Shared → Prop} {s : Shared} {env : Env} {h₀ : Heap} {L : Addr}
end

section
variable {prog : Program} {w : World} {A : Around} {E : Value → Shared → Prop} {s : Shared} {R : Result → Shared → Prop} {b : Array UInt8} {t : Tok} {acc : Array Value}
/-- the loop of list.extend over the ints of bytes -/
theorem ext_loop {S I : Addr} (hh : A.handled = none) (hne : S ≠ I) (hn : acc.size + b.size ≤ sizeLine) (res : Value) {h₁ : Heap}
    (hR : ∀ h' tk c vs, (∀ x o, x ≠ S → x ≠ I → h₁.get? x = some o → h'.get? x = some o) → h'.get? S = some { cls := .type "list", dict := none, data := .seq (acc ++ vs.toArray) c, slots := #[] } → IntsAre vs (KBw.bInts b) → R (.ok (.ret res)) { s with heap := h', toks := tk }) :
    ∀ (k i : Nat) (h : Heap) (tk c : Nat) (vs : List Value), b.size - i = k → i ≤ b.size → KBw.IsBytesIter h I b t i → (∀ x o, x ≠ S → x ≠ I → h₁.get? x = some o → h.get? x = some o) →
      h.get? S = some { cls := .type "list", dict := none, data := .seq (acc ++ vs.toArray) c, slots := #[] } → IntsAre vs ((KBw.bInts b).take i) →
      codeAny (model prog w) A (.builtin "list.extend.loop" ⟨[.ref S, .ref I, res], []⟩) R { s with heap := h, toks := tk } := by
  intro k
  induction k with
  | zero =>
    intro i h tk c vs hk hi hit hkeep hS hI
    have hin : i = b.size := by omega
    subst hin
    refine codeAny_builtin PySem.F.entry_extend_loop ?_
    rw [Around.under_plainId PySem.F.plain_extend_loop _]
    show wpAny _ A.in1 (pyNext (.ref I) >>= _) _ _ _
    refine wpAny_bind (KBw.next_end (s := { s with heap := h, toks := tk }) (A := A.in1) hh hit (by simp) fun h' he => ?_)
    rw [← KBw.ints_length b, List.take_length] at hI
    exact wpAny_pure (hR h' tk c vs (fun x o h1 h2 e => he x o h2 (hkeep x o h1 h2 e)) (he S _ hne hS) hI)
  | succ k ih =>
    intro i h tk c vs hk hi hit hkeep hS hI
    have hlt : i < b.size := by omega
    have hb : b[i]? = some b[i] := by simp [hlt]
    have hlen : vs.length = i := by
      rw [hI.length, List.length_take, KBw.ints_length]; omega
    refine codeAny_builtin PySem.F.entry_extend_loop ?_
    rw [Around.under_plainId PySem.F.plain_extend_loop _]
    show wpAny _ A.in1 (pyNext (.ref I) >>= _) _ _ _
    refine wpAny_bind (KBw.next_item (s := { s with heap := h, toks := tk }) (A := A.in1) hit hb fun h' hit' hs' => ?_)
    have hS' : h'.get? S = _ := hs'.extBut S _ hne hS
    have up : ∀ x o, x ≠ S → h'.get? x = some o → (h'.update S (Obj.mapSeq (·.push (Value.int (b[i].toNat : Int) tk)))).get? x = some o := fun x o hx e => (Heap.get?_update_other _ _ (Ne.symm hx)).trans e
    show wpAny _ A.in1 (updateSeq S (·.push (Value.int (b[i].toNat : Int) tk)) >>= _) _ _ _
    refine wpAny_bind ?_
    have hz : (acc ++ vs.toArray).size ≤ sizeLine := by simp only [Array.size_append, List.size_toArray, hlen]; omega
    have hI' : IntsAre (vs ++ [Value.int (b[i].toNat : Int) tk]) ((KBw.bInts b).take (i + 1)) := by
      have e : (KBw.bInts b).take (i + 1) = (KBw.bInts b).take i ++ [(b[i].toNat : Int)] := by
        rw [List.take_add_one, KBw.ints_get hb]; rfl
      rw [e]
      exact hI.append (.cons _ _ .nil)
    have hS₂ := Heap.get?_update_self (Obj.mapSeq (·.push (Value.int (b[i].toNat : Int) tk))) hS' rfl
    have e : acc ++ (vs ++ [Value.int (b[i].toNat : Int) tk]).toArray = (acc ++ vs.toArray).push (Value.int (b[i].toNat : Int) tk) := by simp [Array.append_push]
    have hS₃ : (h'.update S (Obj.mapSeq (·.push (Value.int (b[i].toNat : Int) tk)))).get? S = some { cls := .type "list", dict := none, data := .seq (acc ++ (vs ++ [Value.int (b[i].toNat : Int) tk]).toArray) (if ((acc ++ vs.toArray).push (Value.int (b[i].toNat : Int) tk)).size == (acc ++ vs.toArray).size then c else c + 1), slots := #[] } := by
      rw [e]; exact hS₂
    refine wpAny_updateSeq hS' rfl (wpAny_pure ⟨plainId_quiet PySem.F.plain_extend_loop _, ih (i + 1) _ (tk + 1) _ (vs ++ [Value.int (b[i].toNat : Int) tk]) (by omega) hlt ?_ (fun x o h1 h2 e => up x o h1 (hs'.extBut x o h2 (hkeep x o h1 h2 e))) hS₃ hI'⟩) hz (by show ((acc ++ vs.toArray).push (Value.int (b[i].toNat : Int) tk)).size ≤ sizeLine + 1; rw [Array.size_push]; omega)
    obtain ⟨o, ho, r⟩ := hit'
    exact ⟨o, up I o (Ne.symm hne) ho, r⟩
theorem bytes_lenAt : typeLookup (.type "bytes") "__len__" = pure (some (.builtin "bytes.__len__")) := by rw [typeLookup_type, builtinLookup_eq_fast]; kernel_rfl
set_option maxRecDepth 100000 in
theorem ext_with (hh : A.handled = none) (S : Addr) (res : Value) (c₀ : Nat) (hS : s.heap.get? S = some { cls := .type "list", data := .seq acc c₀ }) (hn : acc.size + b.size ≤ sizeLine)
    (hR : ∀ h' tk c vs, (∀ x o, x ≠ S → s.heap.get? x = some o → h'.get? x = some o) → h'.get? S = some { cls := .type "list", dict := none, data := .seq (acc ++ vs.toArray) c, slots := #[] } → IntsAre vs (KBw.bInts b) → R (.ok (.ret res)) { s with heap := h', toks := tk }) :
    wpAny (model prog w) A.in1 (Builtin.List.listExtendWith (.ref S) (.bytes b t) res)
      (fun fin s' => match fin with | .done f => R (.ok f) s' | .again c' => c'.quiet = true ∧ codeAny (model prog w) A c' R s') (fun e s' => R (.error e) s') s := by
  have hSI : S ≠ s.heap.objs.size := Nat.ne_of_lt (Heap.lt_size hS)
  unfold Builtin.List.listExtendWith
  refine wpAny_bind (wpAny_typeOf (T := "bytes") (v := .bytes b t) (PySem.W.typeIs_bytes s b t) ?_)
  have h1 : Builtin.List.listSameRef (.ref S) (.bytes b t) = false := rfl
  have h2 : (Value.type "bytes" == Value.type "list") = false := by decide
  have h3 : (Value.type "bytes" == Value.type "tuple") = false := by decide
  simp only [h1, h2, h3, Bool.or_false, Bool.false_eq_true, if_false]
  refine wpAny_bind (KBw.pyIter_bytes ?_)
  refine wpAny_bind (wpAny_holding ?_)
  unfold Builtin.List.listLengthHint
  refine wpAny_bind (wpAny_specialOf (T := "bytes") (v := .bytes b t) (PySem.W.typeIs_bytes _ b t) bytes_lenAt ?_)
  generalize hid : ("bytes.__len__" : String) = id0
  wp_delta
  rw [show splitId id0 = some ("bytes", "__len__") from by subst hid; decide +kernel]
  subst hid
  refine wpAny_bind (wpAny_isInstance (T := "bytes") (b := true) (PySem.W.typeIs_bytes _ b t) (by rw [isSubtype_type]; kernel_rfl) ?_)
  refine wpAny_ite_split (fun hab => absurd hab (by decide)) (fun _ => ?_)
  refine wpAny_ite_split (fun _ => ?_) (fun hab => absurd (by decide +kernel) hab)
  refine wpAny_bind (wpAny_typeOf (PySem.W.typeIs_bytes _ b t) ?_)
  refine wpAny_pure ?_
  rw [if_neg (by decide)]
  refine wpAny_pure ⟨plainId_quiet PySem.F.plain_extend_loop _, ext_loop (acc := acc) (b := b) (t := t) hh hSI hn res (h₁ := s.heap) (fun h' tk c vs hk hS' hI => hR h' tk c vs (fun x o hx e => hk x o hx (Nat.ne_of_lt (Heap.lt_size e)) e) hS' hI) b.size 0 _ _ c₀ [] rfl (Nat.zero_le _) ⟨_, Heap.get?_push_size _ rfl, rfl, rfl⟩ (fun x o _ _ e => Heap.get?_push_of_some _ e) ?_ .nil⟩
  have e : acc ++ ([] : List Value).toArray = acc := by simp
  rw [e]
  exact Heap.get?_push_of_some _ hS
end
section
variable {prog : Program} {w : World} {A : Around} {E : Value → Shared → Prop} {s : Shared} {h₀ : Heap} {L D : Addr} {m : Str → Option Value} {news : List (Addr × Obj)} {its : Array Value} {n : Nat} {b : Array UInt8} {t : Tok}
end
section
variable {prog : Program} {w : World} {A : Around} {E : Value → Shared → Prop} {s : Shared} {b : Array UInt8} {t : Tok}
theorem listB_init {R : Result → Shared → Prop} (hh : A.handled = none) (S : Addr) (hS : s.heap.get? S = some { cls := .type "list", data := .seq #[] }) (hn : b.size ≤ sizeLine)
    (hR : ∀ h' tk c vs, (∀ x o, x ≠ S → s.heap.get? x = some o → h'.get? x = some o) → h'.get? S = some { cls := .type "list", dict := none, data := .seq (List.toArray vs) c, slots := #[] } → IntsAre vs (KBw.bInts b) → R (.ok (.ret .none)) { s with heap := h', toks := tk }) :
    wpAny (model prog w) A.in1 (Builtin.«list.__init__» ⟨[.ref S, .bytes b t], []⟩)
      (fun fin s' => match fin with | .done f => R (.ok f) s' | .again c' => c'.quiet = true ∧ codeAny (model prog w) A c' R s') (fun e s' => R (.error e) s') s := by
  show wpAny _ _ (do let old ← Builtin.List.listItems (.ref S); Builtin.List.listUpdate (.ref S) (fun _ => #[]); letGo old.toList.reverse; Builtin.List.listExtendWith (.ref S) (.bytes b t) .none) _ _ s
  refine wpAny_bind ?_
  unfold Builtin.List.listItems
  refine wpAny_bind (wpAny_seqItems hS rfl (wpAny_pure ?_))
  show wpAny _ _ (updateSeq S (fun _ => #[]) >>= fun _ => letGo (#[] : Array Value).toList.reverse >>= fun _ => Builtin.List.listExtendWith (.ref S) (.bytes b t) .none) _ _ s
  refine wpAny_bind (wpAny_updateSeq hS rfl ?_)
  have hS₂ := Heap.get?_update_self (Obj.mapSeq (fun _ => (#[] : Array Value))) hS rfl
  have oth : ∀ x o, x ≠ S → s.heap.get? x = some o → (s.heap.update S (Obj.mapSeq (fun _ => (#[] : Array Value)))).get? x = some o :=
    fun x o hx e => (Heap.get?_update_other _ _ (Ne.symm hx)).trans e
  refine wpAny_bind (wpAny_letGo ?_)
  refine ext_with (acc := #[]) hh S .none _ hS₂ (by simpa using hn) fun h' tk c vs hk hS' hI => ?_
  refine hR h' tk c vs (fun x o hx e => hk x o hx (oth x o hx e)) ?_ hI
  have e : (#[] : Array Value) ++ vs.toArray = vs.toArray := by simp
  rw [e] at hS'
  exact hS'
/-- list of bytes -/
theorem list_B {h₀ : Heap} {L : Addr} {m : Str → Option Value} {news : List (Addr × Obj)} {ls : List Int} {Q : Value → Shared → Prop} (hh : A.handled = none) (F : Fr h₀ L s.heap m) (N : News h₀ L s.heap news) (hb : KBw.bInts b = ls) (hz : ls.length ≤ 1000000)
    (h : ∀ D c h' tk vs, Fr h₀ L h' m → News h₀ L h' ((D, listOf (List.toArray vs) c) :: news) → (∀ q ∈ news, q.1 < D) → IntsAre vs ls → Q (.ref D) { s with heap := h', toks := tk }) : wpAny (model prog w) A (call (.type "list") [.bytes b t]) Q E s := by
  subst hb
  rw [KBw.ints_length] at hz
  refine callType_codes (Q₁ := fun obj s₁ => obj = .ref s.heap.objs.size ∧ s₁ = { s with heap := s.heap.push { cls := .type "list", data := .seq #[] } }) PySem.F.called_list (PySem.F.typeCall_list_1 _) PySem.F.entry_list_init
    (code_list_new _ ⟨rfl, rfl⟩) fun obj s₁ h₁ => ?_
  obtain ⟨rfl, rfl⟩ := h₁
  have hS : (s.heap.push { cls := .type "list", data := .seq #[] }).get? s.heap.objs.size = some { cls := .type "list", data := .seq #[] } := Heap.get?_push_size _ rfl
  refine ⟨⟨_, hS, rfl⟩, PySem.F.args_list_init_2 _ _, listB_init (A := A.in1) hh _ hS (by rw [sizeLine_eq]; omega) fun h' tk c vs hk hS' hI => ?_⟩
  have keep : ∀ x o, s.heap.get? x = some o → h'.get? x = some o := fun x o e => hk x o (Nat.ne_of_lt (Heap.lt_size e)) (Heap.get?_push_of_some _ e)
  exact ⟨rfl, h _ c h' tk vs (F.keeps keep) (news_pushed F N keep hS' rfl) (fun q hq => Heap.lt_size (N q hq).1) hI⟩
end
def Bx (x : UInt8) : Prop := x = 120 ∨ x = 121
section
variable {prog : Program} {w : World} {A : Around} {E : Value → Shared → Prop} {s : Shared}
end
section
variable {prog : Program} {w : World} {A : Around} {E : Value → Shared → Prop} {s : Shared} {h₀ : Heap} {L : Addr} {m : Str → Option Value} {news : List (Addr × Obj)}
end
section
variable {prog : Program} {w : World} {A : Around} {E : Value → Shared → Prop} {s : Shared} {h₀ : Heap} {L a : Addr} {K : Frag} {m : Str → Option Value} {n : Nat} {x : Str} {t : Tok} {es : Array DictEntry}
theorem topNotIn {r : Option Value} {Q : Value → Shared → Prop} (F : Fr h₀ L s.heap m) (X₀ : K.In h₀) (hl : K.lookup a = some ⟨.type "dict", none, .dict es n, #[]⟩) (hk : KeysLit w.params es.toList) (e : nsIn K a x = some r) (lo : (a == sysModules) = false)
    (h : Q (.bool (!r.isSome)) { s with toks := s.toks + 1 }) : wpAny (model prog w) A (compareOp .NotIn (.str x t) (.ref a)) Q E s :=
  wpAny_notIn_of (strKind_is prog w x t) lo (mapOf_K (prog := prog) (X₀.keeps F.keep) hl hk) (by rw [find_K hl e]; exact h)
end

section
variable {prog : Program} {w : World} {A : Around} {E : Value → Shared → Prop} {s : Shared} {env : Env} {h₀ : Heap} {target : Expr} {body : List Stmt} {Q : Flow → Shared → Prop}
end
section
variable {prog : Program} {w : World} {A : Around} {E : Value → Shared → Prop} {s : Shared} {env : Env} {h₀ : Heap} {x : Str} {body : List Stmt} {Q : Flow → Shared → Prop}
end
section
variable {prog : Program} {w : World} {A : Around} {E : Value → Shared → Prop} {s : Shared} {env : Env} {h₀ : Heap} {target : Expr} {body : List Stmt} {Q : Flow → Shared → Prop}
end
section
variable {prog : Program} {w : World} {A : Around} {E : Value → Shared → Prop} {s : Shared} {env : Env} {h₀ : Heap} {x : Str} {body : List Stmt} {Q : Flow → Shared → Prop}
end


section
variable {prog : Program} {w : World} {A : Around} {E : Value → Shared → Prop} {s : Shared} {h₀ : Heap} {L d : Addr} {news : List (Addr × Obj)} {l : List (Str × Tok)} {c : Nat} {n : Str} {t : Tok} {Q : Value → Shared → Prop}
end


section
variable {prog : Program} {w : World} {K : Frag} {p : Program} {loose : List Str} {mean : ExcName → Option Value} {mg mb : Str → Option Value} {k : Nat} {f : Addr} {vs : List Value} {news : List (Addr × Obj)} {R : Value → List (Addr × Obj) → Prop}
end
section
open LCg
variable {prog : Program} {w : World} {A : Around} {E : Value → Shared → Prop} {s : Shared} {h₀ : Heap} {L : Addr} {m : Str → Option Value} {env : Env}
/-- off the comprehension's two objects -/
def OffCD (C D : Addr) (news : List (Addr × Obj)) : Prop := ∀ p ∈ news, p.1 ≠ C ∧ p.1 ≠ D
/-- the turn of a comprehension over any iterator -/
def CgTurn (prog : Program) (w : World) (A : Around) (h₀ : Heap) (L : Addr) (m : Str → Option Value) (env : Env) (it : Value) (elt : Expr) (x : Str) (scope : Scope) (cl : List (Str × Addr)) (C D : Addr) (J : Nat → List Value → List (Addr × Obj) → Shared → Prop) (Fin : List Value → List (Addr × Obj) → Shared → Prop) : Prop :=
  ∀ k ys news (s' : Shared) oC (E' : Value → Shared → Prop), J k ys news s' → Fr h₀ L s'.heap m → News h₀ L s'.heap ((C, oC) :: (D, lst ys) :: news) → OffCD C D news →
    wpAny (model prog w) A (pyNext it) (fun r s₁ => match r with
      | none => ∃ news₁, Fr h₀ L s₁.heap m ∧ News h₀ L s₁.heap ((C, oC) :: (D, lst ys) :: news₁) ∧ OffCD C D news₁ ∧ ∀ h₂, (∀ b o, b ≠ C → s₁.heap.get? b = some o → h₂.get? b = some o) → Fin ys news₁ { s₁ with heap := h₂ }
      | some v => ∃ news₁, Fr h₀ L s₁.heap m ∧ News h₀ L s₁.heap ((C, oC) :: (D, lst ys) :: news₁) ∧ OffCD C D news₁ ∧ ∀ h₂ tk₂ oC₂ m₂, NsObj oC₂ m₂ → m₂ x = some v → (∀ b o, b ≠ C → s₁.heap.get? b = some o → h₂.get? b = some o) → Fr h₀ L h₂ m → News h₀ L h₂ ((C, oC₂) :: (D, lst ys) :: news₁) →
          wpAny (model prog w) A (eval elt (compEnvC scope cl C env)) (fun y s₃ => ∃ news₃ k', k' < k ∧ Fr h₀ L s₃.heap m ∧ News h₀ L s₃.heap ((C, oC₂) :: (D, lst ys) :: news₃) ∧ OffCD C D news₃ ∧ ys.length < sizeLine ∧
            ∀ h₄, (∀ b o, b ≠ D → s₃.heap.get? b = some o → h₄.get? b = some o) → J k' (ys ++ [y]) news₃ { s₃ with heap := h₄ }) E' { s₁ with heap := h₂, toks := tk₂ }) E' s'
theorem block_G {elt iter : Expr} {x : Str} {px : Pos} {scope : Scope} {cl : List (Str × Addr)} {pos : Pos} {s₂ : Shared} {it : Value} {news : List (Addr × Obj)} {RR : Value → Addr → Result → Shared → Prop}
    (hcell : ∀ y ∈ scope.names, y.2 ≠ .cell) (hkind : scope.kind = .function) (hx : scope.names.lookup x = some .local) (F : Fr h₀ L s₂.heap m) (N : News h₀ L s₂.heap news)
    (hself : ∀ (s : Shared) (Q : Value → Shared → Prop) (E : Value → Shared → Prop), (∀ b o, s₂.heap.get? b = some o → s.heap.get? b = some o) → Q it s → wpAny (model prog w) A (pyIter it) Q E s)
    (hJ : ∀ C D, (∀ p ∈ news, p.1 < D) → D < C → L < D → ∃ (J : Nat → List Value → List (Addr × Obj) → Shared → Prop) (Fin : List Value → List (Addr × Obj) → Shared → Prop) (n : Nat),
      (∀ h tk, (∀ b o, s₂.heap.get? b = some o → h.get? b = some o) → J n [] news { s₂ with heap := h, toks := tk }) ∧ CgTurn prog w A h₀ L m env it elt x scope cl C D J Fin ∧
      ∀ ys news₁ s', Fr h₀ L s'.heap m → News h₀ L s'.heap ((D, lst ys) :: news₁) → OffCD C D news₁ → Fin ys news₁ s' → ∀ m', s'.heap.Ns C m' → C ≠ L → h₀.get? C = none → C ≠ D → RR (.ref D) C (.ok .next) s') :
    wpAny (model prog w) A (newList []) (fun acc s₃ => wpAny (model prog w) A (newFunctionEnv scope env.globals cl [] env.qual none .none (some env)) (fun cenv s₄ =>
      codeAny (model prog w) A (.compStart (.ListComp elt [⟨.Name x px, iter, [], 0⟩] scope pos) 0 it acc { cenv with scope := relabel scope env }) (RR acc cenv.locals) s₄) E s₃) E s₂ := by
  refine wpAny_newObj_type (wpAny_newFunctionEnv hcell (by intro y hy; simp at hy) (fun h₁ hns₁ hsb₁ => ?_) hkind)
  dsimp only at hns₁ hsb₁ ⊢
  generalize hH2 : s₂.heap.push { cls := .type "list", dict := none, data := .seq ([] : List Value).toArray } = H2 at hns₁ hsb₁ ⊢
  have hC : H2.objs.size = s₂.heap.objs.size + 1 := by rw [← hH2, Heap.size_push]
  have hDC : s₂.heap.objs.size ≠ H2.objs.size := by rw [hC]; exact Nat.ne_of_lt (Nat.lt_succ_self _)
  have below : ∀ b, b < s₂.heap.objs.size → b ≠ H2.objs.size ∧ b ≠ s₂.heap.objs.size := fun b hb => ⟨by rw [hC]; exact Nat.ne_of_lt (Nat.lt_succ_of_lt hb), Nat.ne_of_lt hb⟩
  have old : ∀ b o, s₂.heap.get? b = some o → h₁.get? b = some o := fun b o e => hsb₁.extBut b o (below b (Heap.lt_size e)).1 (Heap.get?_push_of_some _ (hH2 ▸ Heap.get?_push_of_some _ e))
  have hacc : h₁.get? s₂.heap.objs.size = some (lst []) := hsb₁.extBut _ _ hDC (Heap.get?_push_of_some _ (hH2 ▸ Heap.get?_push_size _ rfl))
  have fresh : ∀ a, s₂.heap.objs.size ≤ a → s₂.heap.get? a = none := fun a ha => by
    cases e : s₂.heap.get? a with
    | none => rfl
    | some o' => exact absurd (Heap.lt_size e) (Nat.not_lt.mpr ha)
  have fresh₀ : ∀ a, s₂.heap.objs.size ≤ a → h₀.get? a = none := fun a ha => by
    cases e : h₀.get? a with
    | none => rfl
    | some o' => have := F.keep a o' e; rw [fresh a ha] at this; cases this
  have hD₀ : h₀.get? s₂.heap.objs.size = none := fresh₀ _ (Nat.le_refl _)
  have hC₀ : h₀.get? H2.objs.size = none := fresh₀ _ (by rw [hC]; exact Nat.le_succ _)
  have hLlt : L < s₂.heap.objs.size := F.ns.lt
  have hDL : s₂.heap.objs.size ≠ L := Ne.symm (below L hLlt).2
  have hCL : H2.objs.size ≠ L := Ne.symm (below L hLlt).1
  obtain ⟨J, Fin, n, hJ0, turn, hRR⟩ := hJ H2.objs.size s₂.heap.objs.size (fun p hp => Heap.lt_size (N p hp).1) (by rw [hC]; exact Nat.lt_succ_self _) hLlt
  have off₀ : OffCD H2.objs.size s₂.heap.objs.size news := fun p hp => below _ (Heap.lt_size (N p hp).1)
  have loop : ∀ s₃ : Shared, s₃ = { s₂ with heap := h₁, toks := s₂.toks + ([] : List (Str × Value)).length } →
      codeAny (model prog w) A (.compLoop (.ListComp elt [⟨.Name x px, iter, [], 0⟩] scope pos) 0 it (.ref s₂.heap.objs.size) (compEnvC scope cl H2.objs.size env))
        (RR (.ref s₂.heap.objs.size) H2.objs.size) s₃ := by
    rintro s₃ rfl
    refine codeAny_compLoop_list
      (fun k s' => ∃ ys m' news', J k ys news' s' ∧ Fr h₀ L s'.heap m ∧ s'.heap.Ns H2.objs.size m' ∧ News h₀ L s'.heap ((s₂.heap.objs.size, lst ys) :: news') ∧ OffCD H2.objs.size s₂.heap.objs.size news') ?_ n
      ⟨[], _, news, hJ0 h₁ _ old, F.keeps old, hns₁, fun p hp => ?_, off₀⟩
    · rintro k s' ⟨ys, m', news', hj, F', hn', N', off'⟩
      obtain ⟨oC, heC, hoC⟩ := ns_obj hn'
      have NC : News h₀ L s'.heap ((H2.objs.size, oC) :: (s₂.heap.objs.size, lst ys) :: news') := fun p hp => by
        rcases List.mem_cons.mp hp with rfl | hp
        · exact ⟨heC, hCL, hC₀⟩
        · exact N' p hp
      refine wpAny_mono (turn k ys news' s' oC _ hj F' NC off') (fun r s₁ hr => ?_) fun _ _ e => e
      cases r with
      | none =>
        obtain ⟨news₁, F₁, N₁, off₁, hfin⟩ := hr
        exact hRR ys news₁ s₁ F₁ (fun p hp => N₁ p (List.mem_cons_of_mem _ hp)) off₁ (hfin s₁.heap fun _ _ _ e => e) _ (hoC.ns (N₁ _ List.mem_cons_self).1) hCL hC₀ (Ne.symm hDC)
      | some v =>
        obtain ⟨news₁, F₁, N₁, off₁, hrest⟩ := hr
        refine wpAny_assign_Name (wpAny_storeName_local (lookup_relabel_local hx) (hoC.ns (N₁ _ List.mem_cons_self).1) (fun h₂ hn₂ hs₂ => ?_) (by simp [compEnvC, relabel, hkind]))
        have kp₂ : ∀ b o, b ≠ H2.objs.size → s₁.heap.get? b = some o → h₂.get? b = some o := fun b o hb e => hs₂.extBut b o hb e
        obtain ⟨oC₂, heC₂, hoC₂⟩ := ns_obj hn₂
        have F₂ : Fr h₀ L h₂ m := F₁.change hs₂ hCL hC₀
        have N₂ : News h₀ L h₂ ((H2.objs.size, oC₂) :: (s₂.heap.objs.size, lst ys) :: news₁) := fun p hp => by
          rcases List.mem_cons.mp hp with rfl | hp
          · exact ⟨heC₂, hCL, hC₀⟩
          · have z := N₁ p (List.mem_cons_of_mem _ hp)
            refine ⟨kp₂ _ _ ?_ z.1, z.2⟩
            rcases List.mem_cons.mp hp with rfl | hp
            · exact hDC
            · exact (off₁ p hp).1
        refine wpAny_mono (hrest h₂ _ oC₂ _ hoC₂ (by simp) kp₂ F₂ N₂) (fun y s₃ h₃ => ?_) fun _ _ e => e
        obtain ⟨news₃, k', hk', F₃, N₃, off₃, hsz, hj'⟩ := h₃
        have zD := (N₃ (s₂.heap.objs.size, lst ys) (List.mem_cons_of_mem _ List.mem_cons_self)).1
        refine append_at (hsz := by show ys.toArray.size ≤ sizeLine; rw [List.size_toArray]; exact Nat.le_of_lt hsz) zD fun h₄ hs₄ hD₄ => ?_
        have kp₄ : ∀ b o, b ≠ s₂.heap.objs.size → s₃.heap.get? b = some o → h₄.get? b = some o := fun b o hb e => hs₄.extBut b o hb e
        refine ⟨k', hk', ys ++ [y], _, news₃, hj' h₄ kp₄, F₃.change hs₄ hDL hD₀, (hoC₂.ns (N₃ _ List.mem_cons_self).1).sameBut hs₄ (Ne.symm hDC), fun p hp => ?_, off₃⟩
        rcases List.mem_cons.mp hp with rfl | hp
        · exact ⟨hD₄.trans (congrArg some (lst_snoc ys y)), hDL, hD₀⟩
        · have z := N₃ p (List.mem_cons_of_mem _ (List.mem_cons_of_mem _ hp))
          exact ⟨kp₄ _ _ (off₃ p hp).2 z.1, z.2⟩
    · rcases List.mem_cons.mp hp with rfl | hp
      · exact ⟨hacc, hDL, hD₀⟩
      · exact ⟨old _ _ (N p hp).1, (N p hp).2⟩
  exact codeAny_compStart_list (loop _ rfl) (hself _ _ _ old (loop _ rfl))
theorem ListComp_G {elt iter : Expr} {x : Str} {px : Pos} {scope : Scope} {cl : List (Str × Addr)} {pos : Pos} {Q : Value → Shared → Prop} (_F₀ : Fr h₀ L s.heap m)
    (hclos : closureFor scope env = pure cl) (hcell : ∀ y ∈ scope.names, y.2 ≠ .cell) (hkind : scope.kind = .function)
    (hnames : ∀ y ∈ scope.names, y.2 = .local → scope.names.lookup y.1 = some .local) (hx : scope.names.lookup x = some .local)
    (h : wpAny (model prog w) A (eval iter env) (fun xv s₁ => wpAny (model prog w) A (pyIter xv) (fun it s₂ => ∃ news, Fr h₀ L s₂.heap m ∧ News h₀ L s₂.heap news ∧
      (∀ (s : Shared) (Q : Value → Shared → Prop) (E : Value → Shared → Prop), (∀ b o, s₂.heap.get? b = some o → s.heap.get? b = some o) → Q it s → wpAny (model prog w) A (pyIter it) Q E s) ∧
      ∀ C D, (∀ p ∈ news, p.1 < D) → D < C → L < D → ∃ (J : Nat → List Value → List (Addr × Obj) → Shared → Prop) (Fin : List Value → List (Addr × Obj) → Shared → Prop) (n : Nat),
        (∀ h tk, (∀ b o, s₂.heap.get? b = some o → h.get? b = some o) → J n [] news { s₂ with heap := h, toks := tk }) ∧ CgTurn prog w A h₀ L m env it elt x scope cl C D J Fin ∧
        ∀ ys news₁ s' h'', Fr h₀ L h'' m → News h₀ L h'' ((D, lst ys) :: news₁) → Fin ys news₁ s' → Q (.ref D) { s' with heap := h'' }) E s₁) E s)
    (hs : ∀ x, foldedSetIterable iter env x = pure x := by intro _; rfl) :
    wpAny (model prog w) A (eval (.ListComp elt [⟨.Name x px, iter, [], 0⟩] scope pos) env) Q E s := by
  rw [eval_ListComp]
  refine wpAny_comprehension_free (use := none) rfl hs hclos hkind hnames (wpAny_mono h (fun xv s₁ h₁ => wpAny_mono h₁ (fun it s₂ h₂ => ?_) fun _ _ e => e) fun _ _ e => e)
  obtain ⟨news, F, N, hself, hJ⟩ := h₂
  refine block_G hcell hkind hx F N hself fun C D l1 l2 l3 => ?_
  obtain ⟨J, Fin, n, hJ0, turn, hQ⟩ := hJ C D l1 l2 l3
  refine ⟨J, Fin, n, hJ0, turn, fun ys news₁ s' F' N' off' fin m' hn hCL hC₀ hCD => ⟨m', hn, fun h'' hs'' => hQ ys news₁ s' h'' (F'.change hs'' hCL hC₀) (fun p hp => ?_) fin⟩⟩
  refine ⟨hs''.extBut _ _ ?_ (N' p hp).1, (N' p hp).2⟩
  rcases List.mem_cons.mp hp with rfl | hp
  · exact Ne.symm hCD
  · exact (off' p hp).1
end
def KpL (L' : Addr) (h h' : Heap) : Prop := ∀ b o, b ≠ L' → h.get? b = some o → h'.get? b = some o
theorem KpL.refl {L' : Addr} {h : Heap} : KpL L' h h := fun _ _ _ e => e
theorem KpL.trans {L' : Addr} {h h' h'' : Heap} (x : KpL L' h h') (y : KpL L' h' h'') : KpL L' h h'' := fun b o hb e => y b o hb (x b o hb e)
theorem KpL.of {L' : Addr} {h h' : Heap} (x : ∀ b o, h.get? b = some o → h'.get? b = some o) : KpL L' h h' := fun b o _ e => x b o e
/-- a step of a generator's own code: its frame is set, all else stands -/
def GnB (h₀ : Heap) (L' : Addr) (M : (Str → Option Value) → Prop) (s₀ s : Shared) : Prop := ∃ h tk m, s = { s₀ with heap := h, toks := tk } ∧ M m ∧ Fr h₀ L' h m ∧ KpL L' s₀.heap h
def GnC (h₀ : Heap) (L' : Addr) (M : (Str → Option Value) → Prop) (s : Shared) : Prop := ∃ m, M m ∧ Fr h₀ L' s.heap m
def GnF (h₀ : Heap) (L' : Addr) (M : (Str → Option Value) → Prop) (s₀ : Shared) (f : Flow) (s : Shared) : Prop := f = .next ∧ GnB h₀ L' M s₀ s
def GnT (h₀ : Heap) (L' : Addr) (M : (Str → Option Value) → Prop) (s₀ : Shared) (c : Bool) (b : Bool) (s : Shared) : Prop := b = c ∧ GnB h₀ L' M s₀ s
def GnV (h₀ : Heap) (L' : Addr) (M : (Str → Option Value) → Prop) (s₀ : Shared) (V : Value → Prop) (v : Value) (s : Shared) : Prop := V v ∧ GnB h₀ L' M s₀ s
/-- all that stands beside a frame -/
def allOf (h₀ : Heap) (L' : Addr) (h : Heap) : List (Addr × Obj) := PyProof.Rows.ownOf h₀ ((List.range h.objs.size).filter fun b => decide (b ≠ L')) h
theorem allOf_news {h₀ h : Heap} {L' : Addr} : News h₀ L' h (allOf h₀ L' h) := news_ownOf fun hm => by simp at hm
theorem allOf_of {h₀ h : Heap} {L' : Addr} {m : Str → Option Value} (_F : Fr h₀ L' h m) : News h₀ L' h (allOf h₀ L' h) := allOf_news
theorem allOf_kp {h₀ h h' : Heap} {L' : Addr} {m m' : Str → Option Value} (F : Fr h₀ L' h m) (F' : Fr h₀ L' h' m') (N' : News h₀ L' h' (allOf h₀ L' h)) : KpL L' h h' := fun b o hb e => by
  cases hn : h₀.get? b with
  | some o₀ =>
    have : o₀ = o := by have q := F.keep b o₀ hn; rw [e] at q; exact (Option.some.inj q).symm
    exact this ▸ F'.keep b o₀ hn
  | none => exact (N' _ (mem_ownOf (List.mem_filter.mpr ⟨List.mem_range.mpr (Heap.lt_size e), by simpa using hb⟩) hn e)).1
def HidF (h₀ : Heap) (L' : Addr) (h : Heap) (m : Str → Option Value) : Prop := Fr h₀ L' h m
theorem HidF.of {h₀ h : Heap} {L' : Addr} {m : Str → Option Value} (F : Fr h₀ L' h m) : HidF h₀ L' h m := F
theorem gnF_end {h₀ h h' : Heap} {L' : Addr} {M : (Str → Option Value) → Prop} {m m' : Str → Option Value} {s₀ s : Shared} {tk : Nat} (F : HidF h₀ L' h m) (k : KpL L' s₀.heap h) (F' : Fr h₀ L' h' m') (N' : News h₀ L' h' (allOf h₀ L' h)) (hM : M m') (hs : ∃ h tk, s = { s₀ with heap := h, toks := tk }) : GnF h₀ L' M s₀ .next { s with heap := h', toks := tk } := by
  obtain ⟨g, tk', rfl⟩ := hs
  exact ⟨rfl, h', tk, m', rfl, hM, F', k.trans (allOf_kp F F' N')⟩
theorem gnT_end {h₀ h h' : Heap} {L' : Addr} {M : (Str → Option Value) → Prop} {m m' : Str → Option Value} {s₀ s : Shared} {tk : Nat} {c b : Bool} (F : HidF h₀ L' h m) (k : KpL L' s₀.heap h) (F' : Fr h₀ L' h' m') (N' : News h₀ L' h' (allOf h₀ L' h)) (hM : M m') (hs : ∃ h tk, s = { s₀ with heap := h, toks := tk }) (hb : b = c) : GnT h₀ L' M s₀ c b { s with heap := h', toks := tk } := by
  obtain ⟨g, tk', rfl⟩ := hs
  exact ⟨hb, h', tk, m', rfl, hM, F', k.trans (allOf_kp F F' N')⟩
theorem gnV_end {h₀ h h' : Heap} {L' : Addr} {M : (Str → Option Value) → Prop} {m m' : Str → Option Value} {s₀ s : Shared} {tk : Nat} {V : Value → Prop} {v : Value} (F : HidF h₀ L' h m) (k : KpL L' s₀.heap h) (F' : Fr h₀ L' h' m') (N' : News h₀ L' h' (allOf h₀ L' h)) (hM : M m') (hs : ∃ h tk, s = { s₀ with heap := h, toks := tk }) (hv : V v) : GnV h₀ L' M s₀ V v { s with heap := h', toks := tk } := by
  obtain ⟨g, tk', rfl⟩ := hs
  exact ⟨hv, h', tk, m', rfl, hM, F', k.trans (allOf_kp F F' N')⟩
theorem fr_kp {h₀ h h' : Heap} {L L' : Addr} {m m' : Str → Option Value} (F : Fr h₀ L h m) (FL : Fr h₀ L' h' m') (k : KpL L' h h') (hne : L ≠ L') : Fr h₀ L h' m := ⟨F.ns.at' fun o e => k L o hne e, FL.keep, F.above⟩
theorem news_kp {h₀ h h' : Heap} {L L' : Addr} {news : List (Addr × Obj)} (N : News h₀ L h news) (k : KpL L' h h') (off : ∀ p ∈ news, p.1 ≠ L') : News h₀ L h' news := fun p hp => ⟨k _ _ (off p hp) (N p hp).1, (N p hp).2⟩
theorem setIf_push {α : Type} {a : Array α} {x y : α} : (a.push x).setIfInBounds a.size y = a.push y := by
  apply Array.ext'
  simp
theorem grow_push {a : Array GenState} : GRow a (a.push .finished) := by
  refine ⟨by simp, fun i x e => ?_, fun i x hi e => ?_⟩
  · obtain ⟨h', _⟩ := Array.getElem?_eq_some_iff.mp e
    rw [Array.getElem?_push_lt h']
    rw [Array.getElem?_eq_getElem h'] at e
    exact e
  · rw [Array.getElem?_push] at e
    split at e
    · exact (Option.some.inj e).symm
    · rw [Array.getElem?_eq_none (by omega)] at e; cases e
section
open LCg
variable {prog : Program} {w : World} {A : Around} {E : Value → Shared → Prop} {s : Shared} {h₀ : Heap} {L L' G : Addr} {m m1 : Str → Option Value} {M1 m2 m3 : (Str → Option Value) → Prop} {env genv : Env}
/-- the end of the one element -/
def CgEnd (h₀ : Heap) (L : Addr) (m : Str → Option Value) (s : Shared) (C D L' G : Addr) (oC oL oG : Obj) (Fin : Value → List (Addr × Obj) → Prop) (y : Value) (s₃ : Shared) : Prop :=
  ∃ h tk news, s₃ = { s with heap := h, toks := tk } ∧ Fr h₀ L h m ∧ News h₀ L h ((C, oC) :: (D, lst []) :: (L', oL) :: (G, oG) :: news) ∧ OffCD C D news ∧ (∀ p ∈ news, p.1 ≠ L') ∧ Fin y news
theorem cut_one {K : Nat → Prop} {elt : Expr} {x : Str} {scope : Scope} {cl : List (Str × Addr)} {st1 st2 st3 : Stmt} {test e : Expr} {yp ep wp : Pos} {news : List (Addr × Obj)} {gens : Array GenState} {V : Value → Prop} {C D : Addr} {oG : Obj} {Fin : Value → List (Addr × Obj) → Prop} {mm : Nat}
    (hgens : s.gens = gens.push (.fresh (.func (cutBody st1 st2 st3 test e yp ep wp) genv)))
    (hh : A.handled = none) (hl : h₀.NoLimit) (hroom : A.depth < recursionLimit) (FL : Fr h₀ L' s.heap m1) (hLL : L ≠ L') (hG : s.heap.get? G = some oG) (hGG : ∀ h' : Heap, h'.get? G = some oG → h'.IsGen G gens.size) (hGL : G ≠ L') (hG0 : h₀.get? G = none) (hGl : G ≠ L) (hL0 : h₀.get? L' = none)
    (off : ∀ p ∈ news, p.1 ≠ L') (l1 : L' < D) (l2 : G < D) (l3 : D < C)
    (hco : genv.scope.isCoroutine = false) (hi : interactive genv = false)
    (t1 : ∀ A' E' s, Fr h₀ L' s.heap m1 → wpAny (model prog w) A' (exec st1 genv) (GnF h₀ L' M1 s) E' s)
    (t2 : ∀ A' E' s₀ s, GnB h₀ L' M1 s₀ s → wpAny (model prog w) A' (exec st2 genv) (GnF h₀ L' m2 s₀) E' s)
    (tyes : ∀ A' E' s₀ s, GnB h₀ L' m2 s₀ s → wpAny (model prog w) A' (isTrue test genv (eval test genv)) (GnT h₀ L' m2 s₀ true) E' s)
    (ty : ∀ A' E' s₀ s, GnB h₀ L' m2 s₀ s → wpAny (model prog w) A' (eval e genv) (GnV h₀ L' m2 s₀ V) E' s)
    (t3 : ∀ A' E' s, GnC h₀ L' m2 s → wpAny (model prog w) A' (exec st3 genv) (GnF h₀ L' m3 s) E' s)
    (tno : ∀ A' E' s₀ s, GnB h₀ L' m3 s₀ s → wpAny (model prog w) A' (isTrue test genv (eval test genv)) (GnT h₀ L' m3 s₀ false) E' s)
    (helt : ∀ v h tk gens' oC oL m₂ (E' : Value → Shared → Prop), V v → NsObj oC m₂ → m₂ x = some v → Fr h₀ L h m → News h₀ L h ((C, oC) :: (D, lst []) :: (L', oL) :: (G, oG) :: news) → OffCD C D news →
      wpAny (model prog w) A (eval elt (compEnvC scope cl C env)) (CgEnd h₀ L m { s with heap := h, gens := gens', toks := tk } C D L' G oC oL oG Fin) E' { s with heap := h, gens := gens', toks := tk }) :
    ∃ (J : Nat → List Value → List (Addr × Obj) → Shared → Prop) (FinS : List Value → List (Addr × Obj) → Shared → Prop) (n : Nat),
      (∀ h tk, (∀ b o, s.heap.get? b = some o → h.get? b = some o) → J n [] ((G, oG) :: news) { s with heap := h, toks := tk }) ∧ CgTurn prog w A h₀ L m env (.ref G) elt x scope cl C D J FinS ∧
      ∀ ys news₁ s', FinS ys news₁ s' → ∃ y newsF h tk, ys = [y] ∧ Fin y newsF ∧ (∀ p ∈ newsF, p ∈ news₁) ∧ s' = { s with heap := h, gens := gens.push .finished, toks := tk } := by
  have hCL : C ≠ L' := fun e => absurd l1 (e ▸ Nat.lt_asymm l3)
  have hDL : D ≠ L' := fun e => absurd l1 (e ▸ Nat.lt_irrefl _)
  have hCG : C ≠ G := fun e => absurd l2 (e ▸ Nat.lt_asymm l3)
  have hDG : D ≠ G := fun e => absurd l2 (e ▸ Nat.lt_irrefl _)
  have hg0 : s.gens[gens.size]? = some (.fresh (.func (cutBody st1 st2 st3 test e yp ep wp) genv)) := by rw [hgens]; simp
  refine ⟨fun k ys nx s' => match k with
      | 1 => ys = [] ∧ nx = (G, oG) :: news ∧ ∃ h tk, s' = { s with heap := h, toks := tk } ∧ ∀ b o, s.heap.get? b = some o → h.get? b = some o
      | 0 => ∃ y newsF h tk gs', ys = [y] ∧ Fin y newsF ∧ nx = (G, oG) :: newsF ∧ (∀ p ∈ newsF, p.1 ≠ L') ∧ s' = { s with heap := h, gens := gens.push gs', toks := tk } ∧ (∃ mx, m2 mx ∧ Fr h₀ L' h mx) ∧
          ∀ s'', GnC h₀ L' m2 s'' → gs'.Goes (model prog w) A.in1 (GenE (GnB h₀ L' m3)) (GenY V (GnB h₀ L' m2) (GnC h₀ L' m2)) 0 (.send .none) s''
      | _ => False, fun ys nx s' => ∃ y newsF h tk, ys = [y] ∧ Fin y newsF ∧ (∀ p ∈ newsF, p ∈ nx) ∧ s' = { s with heap := h, gens := gens.push .finished, toks := tk }, 1, fun h tk up => ⟨rfl, rfl, h, tk, rfl, up⟩, ?_, fun _ _ _ h => h⟩
  intro k ys nx s' oC E' hJ F N offCD
  match k, hJ with
  | 1, hJ =>
    obtain ⟨rfl, rfl, h, tk, rfl, up⟩ := hJ
    have FL' : Fr h₀ L' h m1 := FL.keeps up
    refine next_yield (g := gens.size) (B1 := GnB h₀ L' m2) (B2 := GnB h₀ L' m2) (B3 := GnB h₀ L' m3) (B4 := GnB h₀ L' m3) (C := GnC h₀ L' m2) (V := V) hh (hl.keeps F.keep) hroom (hGG _ (up _ _ hG)) hg0 hco hi ?_ tyes ty t3 tno ?_
    · intro A' E'
      exact wpAny_mono (t1 A' E' _ FL') (fun f s₁ hf => ⟨hf.1, wpAny_mono (t2 A' E' _ _ hf.2) (fun _ _ q => q) fun _ _ q => q⟩) fun _ _ q => q
    · rintro v s₁ gs' hv ⟨h₁, tk₁, mx, rfl, hmx, FL₁, kp₁⟩ hgo
      have kp₁' : KpL L' h h₁ := kp₁
      have F₁ : Fr h₀ L h₁ m := fr_kp F FL₁ kp₁' hLL
      have offN : ∀ p ∈ (C, oC) :: (D, lst []) :: (G, oG) :: news, p.1 ≠ L' := fun p hp => by
        rcases List.mem_cons.mp hp with rfl | hp
        · exact hCL
        · rcases List.mem_cons.mp hp with rfl | hp
          · exact hDL
          · rcases List.mem_cons.mp hp with rfl | hp
            · exact hGL
            · exact off p hp
      have N₁ : News h₀ L h₁ ((C, oC) :: (D, lst []) :: (G, oG) :: news) := news_kp N kp₁' offN
      refine ⟨(G, oG) :: news, F₁, N₁, offCD, fun h₂ tk₂ oC₂ m₂ hoC₂ hx₂ kp₂ F₂ N₂ => ?_⟩
      obtain ⟨oL, heL, hoL⟩ := ns_obj FL₁.ns
      have heL₂ : h₂.get? L' = some oL := kp₂ _ _ (Ne.symm hCL) heL
      have N₂' : News h₀ L h₂ ((C, oC₂) :: (D, lst []) :: (L', oL) :: (G, oG) :: news) := fun p hp => by
        rcases List.mem_cons.mp hp with rfl | hp
        · exact N₂ _ (.head _)
        · rcases List.mem_cons.mp hp with rfl | hp
          · exact N₂ _ (.tail _ (.head _))
          · rcases List.mem_cons.mp hp with rfl | hp
            · exact ⟨heL₂, Ne.symm hLL, hL0⟩
            · exact N₂ p (.tail _ (.tail _ hp))
      have offCD' : OffCD C D news := fun p hp => offCD p (.tail _ hp)
      have eg : ((({ s with heap := h, toks := tk } : Shared).setGen gens.size .running).gens).setIfInBounds gens.size gs' = gens.push gs' := by
        show ((s.gens.setIfInBounds gens.size .running).setIfInBounds gens.size gs') = _
        rw [hgens, setIf_push, setIf_push]
      have es : ({ ({ ({ s with heap := h, toks := tk } : Shared).setGen gens.size .running with heap := h₁, toks := tk₁ } : Shared).setGen gens.size gs' with heap := h₂, toks := tk₂ } : Shared) = { s with heap := h₂, gens := gens.push gs', toks := tk₂ } := by
        rw [← eg]; rfl
      refine es ▸ wpAny_mono (helt v h₂ tk₂ (gens.push gs') oC₂ oL m₂ _ hv hoC₂ hx₂ F₂ N₂' offCD') (fun y s₃ h₃ => ?_) fun _ _ q => q
      obtain ⟨h₃, tk₃, newsF, rfl, F₃, N₃, off₃, offL₃, fin₃⟩ := h₃
      refine ⟨(G, oG) :: newsF, 0, Nat.zero_lt_one, F₃, fun p hp => ?_, fun p hp => ?_, by rw [sizeLine_eq]; decide, fun h₄ kp₄ => ⟨y, newsF, h₄, tk₃, gs', rfl, fin₃, rfl, offL₃, rfl, ?_, hgo⟩⟩
      · rcases List.mem_cons.mp hp with rfl | hp
        · exact N₃ _ (.head _)
        · rcases List.mem_cons.mp hp with rfl | hp
          · exact N₃ _ (.tail _ (.head _))
          · exact N₃ p (.tail _ (.tail _ (.tail _ hp)))
      · rcases List.mem_cons.mp hp with rfl | hp
        · exact ⟨Ne.symm hCG, Ne.symm hDG⟩
        · exact off₃ p hp
      · have heL₃ := (N₃ (L', oL) (.tail _ (.tail _ (.head _)))).1
        exact ⟨mx, hmx, hoL.ns (kp₄ _ _ (Ne.symm hDL) heL₃), fun b o e => kp₄ b o (fun q => by rw [q] at e; rw [(N₃ (D, lst []) (.tail _ (.head _))).2.2] at e; cases e) (F₃.keep b o e), FL₁.above⟩
  | 0, hJ =>
    obtain ⟨y, newsF, h, tk, gs', rfl, fin, rfl, offL, rfl, FL', hgo⟩ := hJ
    refine next_done (g := gens.size) (gs' := gs') (B2 := GnB h₀ L' m2) (B4 := GnB h₀ L' m3) (C := GnC h₀ L' m2) (V := V) hh (hl.keeps F.keep) hroom (hGG _ (N (G, oG) (.tail _ (.tail _ (.head _)))).1) (by show (gens.push gs')[gens.size]? = _; simp) hgo FL' (fun s₀ s₁ hb => ?_) ?_
    · obtain ⟨h₁, tk₁, mx, rfl, hmx, FL₁, _⟩ := hb
      exact ⟨mx, hmx, FL₁⟩
    · rintro s₁ ⟨h₁, tk₁, mx, rfl, hmx, FL₁, kp₁⟩ h' up'
      have kp' : KpL L' h h' := KpL.trans (show KpL L' h h₁ from kp₁) (KpL.of up')
      have F' : Fr h₀ L h' m := fr_kp F (FL₁.keeps up') kp' hLL
      refine ⟨(G, oG) :: newsF, F', news_kp N kp' fun p hp => ?_, offCD, fun h₂ kp₂ => ⟨y, newsF, h₂, tk₁, rfl, fin, fun p hp => .tail _ hp, ?_⟩⟩
      · rcases List.mem_cons.mp hp with rfl | hp
        · exact hCL
        · rcases List.mem_cons.mp hp with rfl | hp
          · exact hDL
          · rcases List.mem_cons.mp hp with rfl | hp
            · exact hGL
            · exact offL p hp
      · have eg : ((({ s with heap := h, gens := gens.push gs', toks := tk } : Shared).setGen gens.size .running).gens).setIfInBounds gens.size .finished = gens.push .finished := by
          show (((gens.push gs').setIfInBounds gens.size .running).setIfInBounds gens.size .finished) = _
          rw [setIf_push, setIf_push]
        show ({ s with heap := h₂, gens := _, toks := tk₁ } : Shared) = _
        rw [← eg]; rfl
  | k + 2, hJ => exact hJ.elim
end
section
open LCg
variable {prog : Program} {w : World} {A : Around} {E : Value → Shared → Prop} {s : Shared} {h₀ : Heap} {L : Addr} {m : Str → Option Value} {news : List (Addr × Obj)} {env : Env}
/-- a call of a def that yields -/
theorem gen_call {K : Frag} {p : Program} {loose : List Str} {mean : ExcName → Option Value} {mg mb : Str → Option Value} {name qual : Str} {params : Arguments} {body : List Stmt} {scope : Scope} {dV kV doc pm cdv ct oc : Value} {an od : Option Addr} {osl : Array (Option Value)} {f : Addr} {vs : List Value} {binds : List (Str × Value)} {Q : Value → Shared → Prop}
    (F : Fr h₀ L s.heap m) (X₀ : K.In h₀) (N : News h₀ L s.heap news) (T : Top p loose mean mg mb h₀)
    (ho : K.lookup f = some ⟨oc, od, .func (fnOf name qual params body scope dV kV doc pm an cdv ct), osl⟩) (hcd : codeIn K cdv qual = true) (hroom : A.depth < recursionLimit)
    (hbind : BindsTo s (fnOf name qual params body scope dV kV doc pm an cdv ct) ⟨vs, []⟩ binds) (hloc : ∀ y ∈ binds, scope.names.lookup y.1 = some .local)
    (hco : scope.isCoroutine = false) (hgen : scope.isGenerator = true) (hk : scope.kind = .function) (hcell : ∀ x ∈ scope.names, x.2 ≠ .cell)
    (h : ∀ (L' G : Addr) oG h₂ tk, Fr h₀ L h₂ m → News h₀ L h₂ ((G, oG) :: news) → Fr h₀ L' h₂ (fun y => binds.reverse.lookup y) → (∀ p ∈ news, p.1 < L') → L < L' → L' < G → (∀ h' : Heap, h'.get? G = some oG → h'.IsGen G s.gens.size) → h₀.get? L' = none →
      Q (.ref G) { s with heap := h₂, gens := s.gens.push (.fresh (.func body (envOf qual scope L' f cdv))), toks := tk }) :
    wpAny (model prog w) A (call (.ref f) vs) Q E s := by
  refine wpAny_call ?_
  have X := X₀.keeps F.keep
  refine codeAny_call_generator hroom (X _ _ ho) rfl hco hgen rfl (codeRec_of X hcd) (hbind _ _ _ _ ?_)
  refine wpAny_newFunctionEnv hcell hloc (fun h₁ hns hsb => ⟨(T.nolimit.keeps F.keep).fresh _ hsb, ?_⟩) hk
  have up : ∀ b o, s.heap.get? b = some o → h₁.get? b = some o := fun b o e => hsb.extBut b o (Nat.ne_of_lt (Heap.lt_size e)) (Heap.get?_push_of_some _ e)
  have lt : s.heap.objs.size < h₁.objs.size := hns.lt
  have hG0 : ∀ b, s.heap.objs.size ≤ b → h₀.get? b = none := fun b hb => by
    cases e : h₀.get? b with
    | none => rfl
    | some o => exact absurd (Heap.lt_size (F.keep b o e)) (Nat.not_lt.mpr hb)
  refine h s.heap.objs.size h₁.objs.size { cls := .type "generator", data := .fields #[.int s.gens.size 0, .str name (s.toks + binds.length), .str qual (s.toks + binds.length + 1)] } _ _ ((F.keeps up).push _) (fun p hp => ?_) ⟨hns.push _, fun b o e => Heap.get?_push_of_some _ (up b o (F.keep b o e)), Nat.le_trans F.above (Nat.le_of_lt F.ns.lt)⟩ (fun p hp => Heap.lt_size (N p hp).1) F.ns.lt lt (fun h' e => ⟨_, _, _, e, rfl, rfl, rfl⟩) (hG0 _ (Nat.le_refl _))
  rcases List.mem_cons.mp hp with rfl | hp
  · exact ⟨Heap.get?_push_size _ rfl, Nat.ne_of_gt (Nat.lt_trans F.ns.lt lt), hG0 _ (Nat.le_of_lt lt)⟩
  · have z := N p hp
    exact ⟨Heap.get?_push_of_some _ (up _ _ z.1), z.2⟩
/-- the source of a comprehension over a generator of one piece -/
theorem cut_src {elt : Expr} {x : Str} {scope : Scope} {cl : List (Str × Addr)} {st1 st2 st3 : Stmt} {test e : Expr} {yp ep wp : Pos} {genv : Env} {L' G : Addr} {oG : Obj} {h₂ : Heap} {tk : Nat} {m1 : Str → Option Value} {M1 m2 m3 : (Str → Option Value) → Prop} {V : Value → Prop} {Fin : Addr → Value → List (Addr × Obj) → Prop} {Q : Value → Shared → Prop}
    (F : Fr h₀ L h₂ m) (N : News h₀ L h₂ ((G, oG) :: news)) (FL : Fr h₀ L' h₂ m1) (l0 : ∀ p ∈ news, p.1 < L') (lL : L < L') (lG : L' < G) (hGG : ∀ h' : Heap, h'.get? G = some oG → h'.IsGen G s.gens.size) (hL0 : h₀.get? L' = none)
    (hh : A.handled = none) (hl : h₀.NoLimit) (hroom : A.depth < recursionLimit) (hco : genv.scope.isCoroutine = false) (hi : interactive genv = false)
    (t1 : ∀ A' E' s, Fr h₀ L' s.heap m1 → wpAny (model prog w) A' (exec st1 genv) (GnF h₀ L' M1 s) E' s)
    (t2 : ∀ A' E' s₀ s, GnB h₀ L' M1 s₀ s → wpAny (model prog w) A' (exec st2 genv) (GnF h₀ L' m2 s₀) E' s)
    (tyes : ∀ A' E' s₀ s, GnB h₀ L' m2 s₀ s → wpAny (model prog w) A' (isTrue test genv (eval test genv)) (GnT h₀ L' m2 s₀ true) E' s)
    (ty : ∀ A' E' s₀ s, GnB h₀ L' m2 s₀ s → wpAny (model prog w) A' (eval e genv) (GnV h₀ L' m2 s₀ V) E' s)
    (t3 : ∀ A' E' s, GnC h₀ L' m2 s → wpAny (model prog w) A' (exec st3 genv) (GnF h₀ L' m3 s) E' s)
    (tno : ∀ A' E' s₀ s, GnB h₀ L' m3 s₀ s → wpAny (model prog w) A' (isTrue test genv (eval test genv)) (GnT h₀ L' m3 s₀ false) E' s)
    (helt : ∀ C D v h tk gens' oC oL m₂ (E' : Value → Shared → Prop), (∀ p ∈ news, p.1 < L') → L' < G → G < D → D < C → V v → NsObj oC m₂ → m₂ x = some v → Fr h₀ L h m → News h₀ L h ((C, oC) :: (D, lst []) :: (L', oL) :: (G, oG) :: news) →
      wpAny (model prog w) A (eval elt (compEnvC scope cl C env)) (CgEnd h₀ L m { s with heap := h, gens := gens', toks := tk } C D L' G oC oL oG (Fin D)) E' { s with heap := h, gens := gens', toks := tk })
    (hdone : ∀ D y newsF h tk gens', GRow s.gens gens' → Fin D y newsF → Fr h₀ L h m → News h₀ L h ((D, lst [y]) :: newsF) → Q (.ref D) { s with heap := h, gens := gens', toks := tk }) :
    wpAny (model prog w) A (pyIter (.ref G)) (fun it s₂ => ∃ news, Fr h₀ L s₂.heap m ∧ News h₀ L s₂.heap news ∧
      (∀ (s : Shared) (Q : Value → Shared → Prop) (E : Value → Shared → Prop), (∀ b o, s₂.heap.get? b = some o → s.heap.get? b = some o) → Q it s → wpAny (model prog w) A (pyIter it) Q E s) ∧
      ∀ C D, (∀ p ∈ news, p.1 < D) → D < C → L < D → ∃ (J : Nat → List Value → List (Addr × Obj) → Shared → Prop) (Fin : List Value → List (Addr × Obj) → Shared → Prop) (n : Nat),
        (∀ h tk, (∀ b o, s₂.heap.get? b = some o → h.get? b = some o) → J n [] news { s₂ with heap := h, toks := tk }) ∧ CgTurn prog w A h₀ L m env it elt x scope cl C D J Fin ∧
        ∀ ys news₁ s' h'', Fr h₀ L h'' m → News h₀ L h'' ((D, lst ys) :: news₁) → Fin ys news₁ s' → Q (.ref D) { s' with heap := h'' }) E { s with heap := h₂, gens := s.gens.push (.fresh (.func (cutBody st1 st2 st3 test e yp ep wp) genv)), toks := tk } := by
  have hG := N (G, oG) (.head _)
  refine wpAny_pyIter_gen (hGG _ hG.1) ⟨(G, oG) :: news, F, N, fun s' Q' E' up hq => wpAny_pyIter_gen (hGG _ (up _ _ hG.1)) hq, fun C D l1 l2 l3 => ?_⟩
  have l4 : G < D := l1 _ (.head _)
  obtain ⟨J, FinS, n, hJ0, turn, hfin⟩ := cut_one (s := { s with heap := h₂, gens := s.gens.push (.fresh (.func (cutBody st1 st2 st3 test e yp ep wp) genv)), toks := tk }) (gens := s.gens) (C := C) (D := D) (Fin := Fin D) (K := fun _ => True) (mm := 0) (cl := cl) (scope := scope) (elt := elt) (x := x) (env := env) rfl hh hl hroom FL (Nat.ne_of_lt lL) hG.1 hGG (Nat.ne_of_gt lG) hG.2.2 hG.2.1 hL0 (fun p hp => Nat.ne_of_lt (l0 p hp)) (Nat.lt_trans lG l4) l4 l2 hco hi t1 t2 tyes ty t3 tno
    (fun v h tk gens' oC oL m₂ E' a b c d e' _ => helt C D v h tk gens' oC oL m₂ E' l0 lG l4 l2 a b c d e')
  refine ⟨J, FinS, n, hJ0, turn, fun ys news₁ s' h'' F'' N'' fin => ?_⟩
  obtain ⟨y, newsF, h, tk', rfl, fin', sub, rfl⟩ := hfin ys news₁ s' fin
  refine hdone D y newsF h'' tk' _ grow_push fin' F'' fun p hp => ?_
  rcases List.mem_cons.mp hp with rfl | hp
  · exact N'' _ (.head _)
  · exact N'' p (.tail _ (sub p hp))
end
def CutM1 (m1 m : Str → Option Value) : Prop := m = m1
def CutM2 (m1 m : Str → Option Value) : Prop := ∃ t, m = fun y => if y = Str.ofString "at" then some (.int 0 t) else m1 y
def CutM3 (m1 m : Str → Option Value) : Prop := ∃ t t', m = fun y => if y = Str.ofString "at" then some (.int 4096 t) else if y = Str.ofString "at" then some (.int 0 t') else m1 y
def CutV (x : UInt8) (v : Value) : Prop := ∃ t, v = .bytes #[x] t
theorem picked_one (x : UInt8) : KBy.picked #[x] (some 0) (some (0 + 4096)) = #[x] := by
  first | rfl | kernel_rfl
theorem cutV_one {x : UInt8} {t : Tok} : CutV x (.bytes (KBy.picked #[x] (some 0) (some (0 + 4096))) t) := ⟨t, by rw [picked_one]⟩
section
open LCg
variable {prog : Program} {w : World} {A : Around} {E : Value → Shared → Prop} {s : Shared} {h₀ : Heap} {L : Addr} {m : Str → Option Value} {news : List (Addr × Obj)} {env : Env}
end
section
open LCg LCt
variable {prog : Program} {w : World} {A : Around} {E : Value → Shared → Prop} {s : Shared} {h₀ : Heap} {L : Addr} {m : Str → Option Value} {env : Env}
end
section
variable {prog : Program} {w : World} {A : Around} {s : Shared} {env : Env} {h₀ : Heap}
end

section
variable {prog : Program} {w : World} {A : Around} {E : Value → Shared → Prop} {s : Shared} {env : Env} {h₀ : Heap} {target : Expr} {body : List Stmt} {Q : Flow → Shared → Prop}
end

section
variable {prog : Program} {w : World} {A : Around} {E : Value → Shared → Prop} {s₁ : Shared} {env : Env} {h₀ : Heap} {body : List Stmt} {Q : Flow → Shared → Prop}
end

section
variable {kvs : List (Str × Value)} {e0 e1 : Int}
end
section
variable {prog : Program} {w : World} {A : Around} {E : Value → Shared → Prop} {s : Shared} {h₀ : Heap} {L R : Addr} {m : Str → Option Value} {news : List (Addr × Obj)} {vs : List Value} {n : Nat}
end
theorem l_close {c : ClaimW} {cl : Str → Option Addr} {mean : ExcName → Option Value} {args : List WData} {s₁ : Shared} {h : Heap} {g g1 : Array GenState} {t : Nat} {b : Bool} {L : Addr} {m : Str → Option Value} {d : Drawn} {hz : Heap}
    (F : Fr hz L h m) (hz9 : hz = s₁.heap) (hg : s₁.gens = #[]) (hg1 : GRow s₁.gens g1) (hg2 : GRow g1 g) (hb : b = true) (hr : ∀ cls, c.raises args cls = false) (hp : c.post args (.bool true) args = true) :
    GoodWG c cl mean args s₁ (.ok (.ret (.bool b))) ⟨h, g, d, t, s₁.os⟩ := by
  subst hb; subst hz9
  exact ⟨.inl ⟨_, _, [], rfl, hr, ReadsW.bool true, hp, fun _ => ⟨List.nodup_nil, fun _ hm => (nomatch hm)⟩⟩, .of_keep F.keep, rfl, (hg1.trans hg2).bare (.of_eq hg)⟩
theorem rmN {n a b lim : Nat} (h : n + b < lim) (e : Nat.ble a b = true) : n + a < lim := Nat.lt_of_le_of_lt (Nat.add_le_add_left (Nat.le_of_ble_eq_true e) n) h
theorem bz {s : Shared} {fd : FuncData} {vs : List Value} {binds : List (Str × Value)} (h : BindsTo s fd ⟨vs, []⟩ binds) (e : binds = List.zip (fd.params.args.map (·.arg)) vs) : BindsTo s fd ⟨vs, []⟩ (List.zip (fd.params.args.map (·.arg)) vs) := e ▸ h
end Mine
open PyProof.Rows PySem.Calls
namespace Mine
noncomputable section
noncomputable section
/-- THE RECKONER: what the defs give on written values, reckoned by the kernel. A value and an object as the reckoner has them; objects go by their number -/
inductive SV where
  | none
  | bool (b : Bool)
  | int (i : Int)
  | obj (k : Nat)
  | val (v : Value)
  | bytes (l : List Int)
  | str (x : Str)
inductive SO where
  | list (l : List SV)
  | tup (l : List SV)
  | dict (l : List (Int × SV))
  | sdict (l : List (Str × SV))
  | vals (k : Nat)
  | inst (C : Addr) (d : Nat)
  | att (l : List (Str × SV))
  | cell (o : Option SV)
def RV (ρ : List Addr) : SV → Value → Prop
  | .none, V => V = .none
  | .bool b, V => V = .bool b
  | .int i, V => ∃ t, V = .int i t
  | .obj k, V => ∃ a, ρ[k]? = some a ∧ V = .ref a
  | .val v, V => V = v
  | .bytes l, V => ∃ b t, V = .bytes b t ∧ KBw.bInts b = l
  | .str x, V => ∃ t, V = .str x t
def RC (ρ : List Addr) : Option SV → Option Value → Prop
  | .none, V => V = .none
  | .some v, V => ∃ W, V = .some W ∧ RV ρ v W
def Ext (ρ ρ' : List Addr) : Prop := ∀ (k : Nat) (a : Addr), ρ[k]? = some a → ρ'[k]? = some a
theorem Ext.refl {ρ : List Addr} : Ext ρ ρ := fun _ _ h => h
theorem Ext.trans {ρ ρ' ρ'' : List Addr} (h : Ext ρ ρ') (h' : Ext ρ' ρ'') : Ext ρ ρ'' := fun k a e => h' k a (h k a e)
theorem Ext.app {ρ D : List Addr} : Ext ρ (ρ ++ D) := fun k a e => by
  rw [List.getElem?_append_left (List.getElem?_eq_some_iff.mp e).1]
  exact e
theorem Ext.snoc {ρ : List Addr} {D : Addr} : Ext ρ (ρ ++ [D]) := Ext.app
theorem RV.mono {ρ ρ' : List Addr} (h : Ext ρ ρ') : ∀ {v : SV} {V : Value}, RV ρ v V → RV ρ' v V
  | .none, _, e => e
  | .bool _, _, e => e
  | .int _, _, e => e
  | .val _, _, e => e
  | .bytes _, _, e => e
  | .str _, _, e => e
  | .obj _, _, ⟨a, e, e'⟩ => ⟨a, h _ _ e, e'⟩
theorem RC.mono {ρ ρ' : List Addr} (h : Ext ρ ρ') : ∀ {v : Option SV} {V : Option Value}, RC ρ v V → RC ρ' v V
  | .none, _, e => e
  | .some _, _, ⟨W, e, r⟩ => ⟨W, e, r.mono h⟩
inductive RVs (ρ : List Addr) : List SV → List Value → Prop
  | nil : RVs ρ [] []
  | cons {v : SV} {V : Value} {l : List SV} {L : List Value} : RV ρ v V → RVs ρ l L → RVs ρ (v :: l) (V :: L)
theorem RVs.mono {ρ ρ' : List Addr} (h : Ext ρ ρ') {l : List SV} {L : List Value} (r : RVs ρ l L) : RVs ρ' l L := by
  induction r with
  | nil => exact .nil
  | cons a _ ih => exact .cons (a.mono h) ih
theorem RVs.length {ρ : List Addr} {l : List SV} {L : List Value} (r : RVs ρ l L) : L.length = l.length := by
  induction r with
  | nil => rfl
  | cons _ _ ih => rw [List.length_cons, List.length_cons, ih]
theorem RVs.append {ρ : List Addr} {l l' : List SV} {L L' : List Value} (r : RVs ρ l L) (r' : RVs ρ l' L') : RVs ρ (l ++ l') (L ++ L') := by
  induction r with
  | nil => exact r'
  | cons a _ ih => exact .cons a ih
theorem RVs.get {ρ : List Addr} {l : List SV} {L : List Value} (r : RVs ρ l L) : ∀ {i : Nat} {v : SV}, l[i]? = some v → ∃ V, L[i]? = some V ∧ RV ρ v V := by
  induction r with
  | nil => intro i v h; cases h
  | cons a _ ih =>
    intro i v h
    cases i with
    | zero => cases h; exact ⟨_, rfl, a⟩
    | succ i => exact ih h
theorem RVs.set {ρ : List Addr} {l : List SV} {L : List Value} (r : RVs ρ l L) {v : SV} {V : Value} (h : RV ρ v V) : ∀ i : Nat, RVs ρ (l.set i v) (L.set i V) := by
  induction r with
  | nil => exact fun _ => .nil
  | cons a r ih =>
    intro i
    cases i with
    | zero => exact .cons h r
    | succ i => exact .cons a (ih i)
theorem RVs.take {ρ : List Addr} {l : List SV} {L : List Value} (r : RVs ρ l L) : ∀ i : Nat, RVs ρ (l.take i) (L.take i) := by
  induction r with
  | nil => intro i; rw [List.take_nil, List.take_nil]; exact .nil
  | cons a r ih =>
    intro i
    cases i with
    | zero => exact .nil
    | succ i => exact .cons a (ih i)
theorem RVs.drop {ρ : List Addr} {l : List SV} {L : List Value} (r : RVs ρ l L) : ∀ i : Nat, RVs ρ (l.drop i) (L.drop i) := by
  induction r with
  | nil => intro i; rw [List.drop_nil, List.drop_nil]; exact .nil
  | cons a r ih =>
    intro i
    cases i with
    | zero => exact .cons a r
    | succ i => exact ih i
inductive RKs {α : Type} (ρ : List Addr) : List (α × SV) → List (α × Value) → Prop
  | nil : RKs ρ [] []
  | cons {k : α} {v : SV} {V : Value} {l : List (α × SV)} {L : List (α × Value)} : RV ρ v V → RKs ρ l L → RKs ρ ((k, v) :: l) ((k, V) :: L)
theorem RKs.mono {α : Type} {ρ ρ' : List Addr} (h : Ext ρ ρ') {l : List (α × SV)} {L : List (α × Value)} (r : RKs ρ l L) : RKs ρ' l L := by
  induction r with
  | nil => exact .nil
  | cons a _ ih => exact .cons (a.mono h) ih
inductive RAs (P : Params) (ρ : List Addr) : List (Str × SV) → List DictEntry → Prop
  | nil : RAs P ρ [] []
  | cons {x : Str} {t : Tok} {v : SV} {V : Value} {l : List (Str × SV)} {es : List DictEntry} : RV ρ v V → RAs P ρ l es → RAs P ρ ((x, v) :: l) (⟨PyData.keyHash P x, .str x t, V⟩ :: es)
theorem RAs.mono {P : Params} {ρ ρ' : List Addr} (h : Ext ρ ρ') {l : List (Str × SV)} {es : List DictEntry} (r : RAs P ρ l es) : RAs P ρ' l es := by
  induction r with
  | nil => exact .nil
  | cons a _ ih => exact .cons (a.mono h) ih
def RO (prog : Program) (w : World) (ρ : List Addr) : SO → Obj → Prop
  | .list l, o => ∃ vs n, o = { cls := .type "list", data := .seq (List.toArray vs) n } ∧ RVs ρ l vs
  | .tup l, o => ∃ vs n, o = { cls := .type "tuple", data := .seq (List.toArray vs) n } ∧ RVs ρ l vs
  | .dict l, o => ∃ kvs, o.IsDictOf (PySem.intKind prog w) kvs ∧ RKs ρ l kvs
  | .sdict l, o => ∃ kvs, o.IsDictOf (PySem.strKind prog w) kvs ∧ RKs ρ l kvs
  | .vals k, o => ∃ a, ρ[k]? = some a ∧ o = { cls := .type "dict_values", data := .fields #[.ref a] }
  | .inst C k, o => ∃ a, ρ[k]? = some a ∧ o = { cls := .ref C, dict := some a, data := .plain }
  | .att l, o => ∃ es n, o = { cls := .type "dict", data := .dict (List.toArray es) n } ∧ RAs w.params ρ l es
  | .cell v, o => ∃ V, o.data = .cell V ∧ RC ρ v V
theorem RO.mono {prog : Program} {w : World} {ρ ρ' : List Addr} (h : Ext ρ ρ') : ∀ {so : SO} {o : Obj}, RO prog w ρ so o → RO prog w ρ' so o
  | .list _, _, ⟨vs, n, e, r⟩ => ⟨vs, n, e, r.mono h⟩
  | .tup _, _, ⟨vs, n, e, r⟩ => ⟨vs, n, e, r.mono h⟩
  | .dict _, _, ⟨kvs, e, r⟩ => ⟨kvs, e, r.mono h⟩
  | .sdict _, _, ⟨kvs, e, r⟩ => ⟨kvs, e, r.mono h⟩
  | .vals _, _, ⟨a, e, r⟩ => ⟨a, h _ _ e, r⟩
  | .inst _ _, _, ⟨a, e, r⟩ => ⟨a, h _ _ e, r⟩
  | .att _, _, ⟨es, n, e, r⟩ => ⟨es, n, e, r.mono h⟩
  | .cell _, _, ⟨V, e, r⟩ => ⟨V, e, r.mono h⟩
/-- a dict that `in` may be asked of -/
def isD : SO → Bool
  | .dict _ => true
  | .sdict _ => true
  | _ => false
def leqN (a : List Nat) : List Nat → Bool := List.rec (motive := fun _ => List Nat → Bool) (fun b => List.rec (motive := fun _ => Bool) true (fun _ _ _ => false) b) (fun x _ ih b => List.rec (motive := fun _ => Bool) false (fun y r _ => Bool.rec (motive := fun _ => Bool) false (ih r) (Nat.beq x y)) b) a
def sq (a b : Str) : Bool := leqN a.cps.toList b.cps.toList
theorem leqN_eq : ∀ {a b : List Nat}, leqN a b = true ↔ a = b
  | [], [] => ⟨fun _ => rfl, fun _ => rfl⟩
  | [], _ :: _ => ⟨(nomatch ·), (nomatch ·)⟩
  | _ :: _, [] => ⟨(nomatch ·), (nomatch ·)⟩
  | a :: r, b :: r' => by
    show (Bool.rec (motive := fun _ => Bool) false (leqN r r') (Nat.beq a b) : Bool) = true ↔ _
    cases h : Nat.beq a b with
    | true => rw [leqN_eq, Nat.eq_of_beq_eq_true h]; simp
    | false =>
      refine ⟨fun q => (by cases q), fun q => ?_⟩
      rw [(List.cons.inj q).1, show Nat.beq b b = true from Nat.beq_refl b] at h
      cases h
theorem sq_eq {a b : Str} : sq a b = true ↔ a = b := by
  obtain ⟨⟨a⟩⟩ := a
  obtain ⟨⟨b⟩⟩ := b
  show leqN a b = true ↔ _
  rw [leqN_eq]
  simp
/-- a frame: its names' values, its names' kinds, its cells' numbers -/
structure Fi where
  m : List (Str × SV)
  sc : List (Str × NameKind)
  cm : List (Str × Nat)
/-- objects, how often each was changed, how many generators were made -/
structure Sg where
  σ : List SO
  τ : List Nat
  γ : Nat
inductive Fl where
  | next
  | brk
  | ret (v : SV)
inductive Out where
  | v (v : SV)
  | vs (l : List SV)
  | b (b : Bool)
  | f (f : Fl × Fi)
inductive Job where
  | ev (e : Expr)
  | evs (es : List Expr)
  | test (e : Expr)
  | ex (b : List Stmt)
  | whl (t : Expr) (b : List Stmt)
  | loop (c : Option (Nat × Nat)) (t : Expr) (l : List SV) (b : List Stmt)
  | cmp (c : Option (Nat × Nat)) (x : Str) (ct : Option Expr) (elt : Expr) (l : List SV)
def asV (x : Option (Out × Sg)) : Option (SV × Sg) := Option.rec (motive := fun _ => Option (SV × Sg)) none (fun p => Prod.rec (motive := fun _ => Option (SV × Sg)) (fun o s => Out.rec (motive := fun _ => Option (SV × Sg)) (fun v => some (v, s)) (fun _ => none) (fun _ => none) (fun _ => none) o) p) x
def asVs (x : Option (Out × Sg)) : Option (List SV × Sg) := Option.rec (motive := fun _ => Option (List SV × Sg)) none (fun p => Prod.rec (motive := fun _ => Option (List SV × Sg)) (fun o s => Out.rec (motive := fun _ => Option (List SV × Sg)) (fun _ => none) (fun v => some (v, s)) (fun _ => none) (fun _ => none) o) p) x
def asB (x : Option (Out × Sg)) : Option (Bool × Sg) := Option.rec (motive := fun _ => Option (Bool × Sg)) none (fun p => Prod.rec (motive := fun _ => Option (Bool × Sg)) (fun o s => Out.rec (motive := fun _ => Option (Bool × Sg)) (fun _ => none) (fun _ => none) (fun v => some (v, s)) (fun _ => none) o) p) x
def asF (x : Option (Out × Sg)) : Option ((Fl × Fi) × Sg) := Option.rec (motive := fun _ => Option ((Fl × Fi) × Sg)) none (fun p => Prod.rec (motive := fun _ => Option ((Fl × Fi) × Sg)) (fun o s => Out.rec (motive := fun _ => Option ((Fl × Fi) × Sg)) (fun _ => none) (fun _ => none) (fun _ => none) (fun v => some (v, s)) o) p) x
/-- the n-th of a list, reckoned with few steps -/
def tailS {α : Type} (l : List α) : List α := List.rec (motive := fun _ => List α) [] (fun _ t _ => t) l
def dropT {α : Type} (l : List α) (n : Nat) : List α := Nat.rec (motive := fun _ => List α) l (fun _ r => tailS r) n
def nthS {α : Type} (l : List α) (n : Nat) : Option α := List.rec (motive := fun _ => Option α) none (fun a _ _ => some a) (dropT l n)
theorem dropT_eq {α : Type} (l : List α) : ∀ n : Nat, dropT l n = l.drop n
  | 0 => rfl
  | n + 1 => by
    show tailS (dropT l n) = _
    rw [dropT_eq l n, ← List.tail_drop]
    cases l.drop n <;> rfl
theorem nthS_eq {α : Type} (l : List α) (n : Nat) : nthS l n = l[n]? := by
  unfold nthS
  rw [dropT_eq, ← List.head?_drop]
  cases l.drop n <;> rfl
def look {α : Type} (l : List (Str × α)) (x : Str) : Option α := List.rec (motive := fun _ => Option α) none (fun p _ ih => Bool.rec (motive := fun _ => Option α) ih (some p.2) (sq p.1 x)) l
def putM : List (Str × SV) → Str → SV → List (Str × SV)
  | [], x, v => [(x, v)]
  | (k, u) :: r, x, v => match sq k x with
    | true => (k, v) :: r
    | false => (k, u) :: putM r x v
def notDbg (x : Str) : Bool := !(x == ("__debug__" : Str))
def isLoc (sc : List (Str × NameKind)) (x : Str) : Bool := match look sc x with
  | some .local => notDbg x
  | _ => false
def ofVal : Value → Option SV
  | .int i _ => some (.int i)
  | .ref a => some (.val (.ref a))
  | .str x _ => some (.str x)
  | .bytes b _ => some (.bytes (KBw.bInts b))
  | _ => none
def bltT : List (Str × Value) := [("len", .builtin "len"), ("range", .type "range"), ("bytes", .type "bytes"), ("max", .builtin "max"), ("list", .type "list"), ("sorted", .builtin "sorted"), ("str", .type "str"), ("ord", .builtin "ord")]
def guardS {α : Type} (b : Bool) (x : Option α) : Option α := match b with
  | true => x
  | false => none
def soC : SO → Option SV
  | .cell o => o
  | _ => none
def cellS (f : Fi) (g : Sg) (x : Str) : Option SV := (look f.cm x).bind fun k => (g.σ[k]?).bind soC
def globS (K : Frag) (x : Str) : Option SV := match nsIn K mainGlobals x with
  | some (some v) => ofVal v
  | some none => (look bltT x).map .val
  | none => none
def nameS (K : Frag) (f : Fi) (g : Sg) (x : Str) : Option SV := match look f.m x with
  | some v => some v
  | none => match notDbg x with
    | false => none
    | true => match look f.sc x with
      | some .cell => cellS f g x
      | some .free => guardS (!(x == ("__classdict__" : Str))) (cellS f g x)
      | some .globalImplicit => globS K x
      | _ => none
def mkO (so : SO) (g : Sg) : SV × Sg := Sg.rec (motive := fun _ => SV × Sg) (fun σ τ γ => (.obj σ.length, ⟨σ ++ [so], τ ++ [0], γ⟩)) g
def incr : List Nat → Nat → List Nat
  | [], _ => []
  | t :: r, 0 => (t + 1) :: r
  | t :: r, k + 1 => t :: incr r k
def setO (g : Sg) (k : Nat) (so : SO) : Sg := Sg.rec (motive := fun _ => Sg) (fun σ τ γ => ⟨σ.set k so, incr τ k, γ⟩) g
def natS : Int → Option Nat
  | .ofNat n => some n
  | .negSucc _ => none
def small (n : Nat) : Bool := Nat.ble n 100000
def vI : SV → Option Int
  | .int i => some i
  | _ => none
def vB : SV → Option (List Int)
  | .bytes l => some l
  | _ => none
def vS : SV → Option Str
  | .str x => some x
  | _ => none
def vV : SV → Option Value
  | .val v => some v
  | _ => none
def oO (σ : List SO) : SV → Option (Nat × SO)
  | .obj k => (nthS σ k).map fun so => (k, so)
  | _ => none
def soL : SO → Option (List SV)
  | .list l => some l
  | _ => none
def soT : SO → Option (List SV)
  | .tup l => some l
  | _ => none
def soD : SO → Option (List (Int × SV))
  | .dict l => some l
  | _ => none
def soI : SO → Option (Addr × Nat)
  | .inst C d => some (C, d)
  | _ => none
def soA : SO → Option (List (Str × SV))
  | .att l => some l
  | _ => none
/-- a dict that holds texts, or that is empty -/
def soS : SO → Option (List (Str × SV))
  | .sdict l => some l
  | .dict l => match l with
    | [] => some []
    | _ :: _ => none
  | _ => none
def one {α : Type} : List α → Option α
  | [] => none
  | x :: r => match r with
    | [] => some x
    | _ :: _ => none
def two {α : Type} : List α → Option (α × α)
  | [] => none
  | x :: r => (one r).map fun y => (x, y)
def three {α : Type} : List α → Option (α × α × α)
  | [] => none
  | x :: r => (two r).map fun y => (x, y)
def bind2 {α β γ : Type} (x : Option (α × β)) (f : α → β → Option γ) : Option γ := match x with
  | some (a, b) => f a b
  | none => none
def oL (σ : List SO) (v : SV) : Option (Nat × List SV) := (oO σ v).bind fun p => (soL p.2).map fun l => (p.1, l)
def oT (σ : List SO) (v : SV) : Option (Nat × List SV) := (oO σ v).bind fun p => (soT p.2).map fun l => (p.1, l)
def oD (σ : List SO) (v : SV) : Option (Nat × List (Int × SV)) := (oO σ v).bind fun p => (soD p.2).map fun l => (p.1, l)
/-- an instance and its attributes: number, class, number of the dict, what it holds -/
def oI (σ : List SO) (v : SV) : Option (Nat × Addr × Nat × List (Str × SV)) := bind2 (oO σ v) fun k o => bind2 (soI o) fun C d => (σ[d]?).bind fun so => (soA so).map fun l => (k, C, d, l)
/-- a tuple of two ints -/
def oP (σ : List SO) (v : SV) : Option (Int × Int) := bind2 (oT σ v) fun _ l => bind2 (two l) fun a b => (vI a).bind fun x => (vI b).map fun y => (x, y)
def mapS {α β : Type} (f : α → Option β) : List α → Option (List β)
  | [] => some []
  | v :: r => (f v).bind fun k => (mapS f r).map fun ks => k :: ks
/-- an object of the top's -/
def gO (K : Frag) : SV → Option Obj
  | .val v => match v with
    | .ref a => K.lookup a
    | _ => none
  | _ => none
def isTy (T : String) : Value → Bool
  | .type S => decide (S = T)
  | _ => false
def seqD : Data → Option (Array Value)
  | .seq l _ => some l
  | _ => none
def gList (o : Obj) : Option (List Value) := guardS (isTy "list" o.cls) ((seqD o.data).map Array.toList)
/-- a list of the top's -/
def gL (K : Frag) (v : SV) : Option (List Value) := (gO K v).bind gList
def addS (a b : SV) (g : Sg) : Option (SV × Sg) := match a with
  | .int x => (vI b).map fun y => (.int (x + y), g)
  | .bytes l => (vB b).bind fun l' => guardS (small (l.length + l'.length)) (some (.bytes (l ++ l'), g))
  | .str x => (vS b).bind fun y => guardS (small (x.length + y.length)) (some (.str (x ++ y), g))
  | a => bind2 (oL g.σ a) fun _ l => bind2 (oL g.σ b) fun _ l' => guardS (small (l.length + l'.length)) (some (mkO (.list (l ++ l')) g))
def mulS (a b : SV) (g : Sg) : Option (SV × Sg) := bind2 (oL g.σ a) fun _ l => (vI b).bind fun n => (natS n).bind fun n => (one l).bind fun x => guardS (small n) (some (mkO (.list (List.replicate n x)) g))
def binI (op : Operator) (x y : Int) : Option Int := match op with
  | .Sub => some (x - y)
  | .LShift => guardS (decide (0 ≤ y ∧ y ≤ 1000 ∧ x.natAbs < 2 ^ 64)) (some (x * 2 ^ y.toNat))
  | .RShift => guardS (decide (0 ≤ y)) (some (x.fdiv (2 ^ y.toNat)))
  | .BitAnd => some (Builtin.bitAnd x y)
  | .BitOr => some (Builtin.bitOr x y)
  | .BitXor => some (Builtin.bitXor x y)
  | _ => none
def binS (op : Operator) (a b : SV) (g : Sg) : Option (SV × Sg) := match op with
  | .Add => addS a b g
  | .Mult => mulS a b g
  | op => (vI a).bind fun x => (vI b).bind fun y => (binI op x y).map fun z => (.int z, g)
def cmpI (op : CmpOp) (x y : Int) : Option Bool := match op with
  | .Eq => some (x == y)
  | .NotEq => some (x != y)
  | .Lt => some (decide (x < y))
  | .LtE => some (decide (x ≤ y))
  | .Gt => some (decide (y < x))
  | .GtE => some (decide (y ≤ x))
  | _ => none
def isN0 : SV → Bool
  | .none => true
  | _ => false
def isNn : SV → Bool
  | .none => true
  | .val v => match v with
    | .none => true
    | _ => false
  | _ => false
def lookK {α β : Type} (q : α → α → Bool) : List (α × β) → α → Option β
  | [], _ => none
  | p :: r, x => match q p.1 x with
    | true => some p.2
    | false => lookK q r x
def iq (a b : Int) : Bool := decide (a = b)
def anyQ (x : Str) : List Str → Bool
  | [] => false
  | y :: r => match sq y x with
    | true => true
    | false => anyQ x r
def memA (a : Addr) : List Addr → Bool
  | [] => false
  | b :: r => match Nat.beq b a with
    | true => true
    | false => memA a r
def vR : Value → Option Addr
  | .ref a => some a
  | _ => none
/-- a name in a dict of the top's, one of `gd` -/
def gIn (K : Frag) (gd : List Addr) (v : Value) (x : Str) : Option (Option Value) := (vR v).bind fun a => guardS (memA a gd) (nsIn K a x)
/-- `in`, of a text -/
def inO (x : Str) : SO → Option Bool
  | .list l => guardS (small l.length) ((mapS vS l).map (anyQ x))
  | o => (soS o).map fun l => (lookK sq l x).isSome
def inS (K : Frag) (gd : List Addr) (σ : List SO) (x : Str) (b : SV) : Option Bool := match b with
  | .val v => (gIn K gd v x).map Option.isSome
  | b => bind2 (oO σ b) fun _ o => inO x o
def cmpV (op : CmpOp) (a b : SV) (σ : List SO) : Option Bool := match a with
  | .int x => (vI b).bind fun y => cmpI op x y
  | .str x => (vS b).bind fun y => match op with
    | .Eq => some (sq x y)
    | .NotEq => some (!sq x y)
    | _ => none
  | a => guardS (decide (op = .Lt)) (bind2 (oP σ a) fun x y => bind2 (oP σ b) fun x' y' => some (decide (x < x' ∨ (x = x' ∧ y < y'))))
def cmpS (K : Frag) (gd : List Addr) (op : CmpOp) (a b : SV) (σ : List SO) : Option Bool := match op with
  | .Is => guardS (isN0 b) (some (isNn a))
  | .IsNot => guardS (isN0 b) (some (!isNn a))
  | .In => (vS a).bind fun x => inS K gd σ x b
  | .NotIn => (vS a).bind fun x => (inS K gd σ x b).map (!·)
  | op => cmpV op a b σ
def itemO (n : Int) : SO → Option SV
  | .list l => (natS n).bind fun j => guardS (small j) (nthS l j)
  | .tup l => (natS n).bind fun j => guardS (small j && small l.length) (nthS l j)
  | .dict l => lookK iq l n
  | _ => none
def itemS (K : Frag) (gd : List Addr) (a b : SV) (σ : List SO) : Option SV := match b with
  | .int n => match a with
    | .bytes l => (natS n).bind fun j => guardS (small l.length) ((nthS l j).map .int)
    | .val v => (gL K (.val v)).bind fun l => (natS n).bind fun j => guardS (small j) ((nthS l j).bind ofVal)
    | a => bind2 (oO σ a) fun _ o => itemO n o
  | .str x => match a with
    | .val v => (gIn K gd v x).bind fun r => r.bind ofVal
    | a => bind2 (oO σ a) fun _ o => (soS o).bind fun l => lookK sq l x
  | _ => none
def anyK {α : Type} (q : α → α → Bool) : List (α × SV) → α → Bool
  | [], _ => false
  | p :: r, x => match q p.1 x with
    | true => true
    | false => anyK q r x
def mapK {α : Type} (q : α → α → Bool) : List (α × SV) → α → SV → List (α × SV)
  | [], _, _ => []
  | p :: r, x, v => match q p.1 x with
    | true => (p.1, v) :: mapK q r x v
    | false => p :: mapK q r x v
def storD {α : Type} (q : α → α → Bool) (l : List (α × SV)) (x : α) (v : SV) : List (α × SV) := match anyK q l x with
  | true => mapK q l x v
  | false => l ++ [(x, v)]
def storO (n : Int) (v : SV) : SO → Option SO
  | .list l => (natS n).bind fun j => guardS (small l.length && Nat.blt j l.length) (some (.list (l.set j v)))
  | .dict l => guardS (small l.length) (some (.dict (storD iq l n v)))
  | _ => none
def storS (a b v : SV) (g : Sg) : Option Sg := bind2 (oO g.σ a) fun k o => match b with
  | .int n => (storO n v o).map fun so => setO g k so
  | .str x => (soS o).bind fun l => guardS (small l.length) (some (setO g k (.sdict (storD sq l x v))))
  | _ => none
/-- a slice -/
def cutI {α : Type} (l : List α) (lo hi : Option Int) : List α := (l.drop (lo.elim 0 (clipAt l.length))).take (hi.elim l.length (clipAt l.length) - lo.elim 0 (clipAt l.length))
def sliceO (lo hi : Option Int) (g : Sg) : SO → Option (SV × Sg)
  | .list l => guardS (small l.length) (some (mkO (.list (cutI l lo hi)) g))
  | .tup l => guardS (decide (lo = none) && decide (hi = some 2)) ((three l).map fun q => mkO (.tup [q.1, q.2.1]) g)
  | _ => none
def sliceS (v : SV) (lo hi : Option Int) (g : Sg) : Option (SV × Sg) := match v with
  | .bytes l => guardS (small l.length) (some (.bytes (cutI l lo hi), g))
  | .str x => guardS (small x.length && hi.isNone) (lo.map fun lo => (.str (Txt.slice x (some lo) none), g))
  | v => bind2 (oO g.σ v) fun _ o => sliceO lo hi g o
/-- the sort's tree with its questions answered -/
def runK {α : Type} (N : Nat) (lt : Nat → Nat → Bool) : KasT α → Option α
  | .ret a => some a
  | .ask i j k => guardS (Nat.blt i N && Nat.blt j N && !Nat.beq i j) (runK N lt (k (lt i j)))
def keyS (σ : List SO) (v : SV) : Option (Int × Int) := bind2 (oT σ v) fun _ l => bind2 (two (l.take 2)) fun a b => (vI a).bind fun x => (vI b).map fun y => (x, y)
def pairLt (p q : Int × Int) : Bool := decide (p.1 < q.1 ∨ (p.1 = q.1 ∧ p.2 < q.2))
def notIn (k : Int × Int) : List (Int × Int) → Bool
  | [] => true
  | q :: r => !decide (k.1 = q.1 ∧ k.2 = q.2) && notIn k r
def nodupS : List (Int × Int) → Bool
  | [] => true
  | k :: r => notIn k r && nodupS r
def sortS (σ : List SO) (l : List SV) : Option (List SV) := (mapS (keyS σ) l).bind fun ks => guardS (nodupS ks && Nat.blt l.length 64) (match Nat.blt l.length 2 with
  | true => some l
  | false => (runK l.length (fun i j => pairLt (ks.getD i (0, 0)) (ks.getD j (0, 0))) (kas_sort l.length)).map fun p => p.toList.map fun i => l.getD i .none)
def maxI : List Int → Option Int
  | [] => none
  | x :: r => match maxI r with
    | some y => some (if x < y then y else x)
    | none => some x
abbrev Orc := Addr → List SV → Sg → Option (SV × Sg)
def byteS (v : SV) : Option Int := (vI v).bind fun x => guardS (decide (0 ≤ x ∧ x < 256)) (some x)
def itemsI (l : List (Int × SV)) : Option (List Int) := mapS (fun p : Int × SV => vI p.2) l
def soV : SO → Option Nat
  | .vals d => some d
  | _ => none
def lenO : SO → Option Nat
  | .list l => some l.length
  | .dict l => some l.length
  | .sdict l => some l.length
  | _ => none
def lenS (σ : List SO) (v : SV) : Option Nat := match v with
  | .bytes l => some l.length
  | .str x => some x.length
  | v => bind2 (oO σ v) fun _ o => lenO o
def maxS (σ : List SO) (v : SV) : Option Int := bind2 (oO σ v) fun _ so => (soV so).bind fun d => (σ[d]?).bind fun so' => (soD so').bind fun l => (itemsI l).bind maxI
def ordS (v : SV) : Option Int := (vS v).bind fun x => (one x.cps.toList).map fun (n : Nat) => (n : Int)
def isFnV (K : Frag) : Value → Option Addr
  | .ref f => guardS (isFn K (.ref f)) (some f)
  | _ => none
inductive BId
  | len
  | max
  | sorted
  | ord
def bid (id : String) : Option BId := match decide (id = "len") with
  | true => some .len
  | false => match decide (id = "max") with
    | true => some .max
    | false => match decide (id = "sorted") with
      | true => some .sorted
      | false => match decide (id = "ord") with
        | true => some .ord
        | false => none
def callB (i : BId) (v : SV) (g : Sg) : Option (SV × Sg) := match i with
  | .len => (lenS g.σ v).bind fun n => guardS (small n) (some (.int n, g))
  | .max => (maxS g.σ v).map fun x => (.int x, g)
  | .sorted => bind2 (oD g.σ v) fun _ l => guardS l.isEmpty (some (mkO (.list []) g))
  | .ord => (ordS v).map fun x => (.int x, g)
/-- len of an instance that has `__len__` -/
def lenI (K : Frag) (orc : Orc) (v : SV) (g : Sg) : Option (SV × Sg) := (oI g.σ v).bind fun q => match findIn K (.ref q.2.1) "__len__" with
  | some (some m) => (isFnV K m).bind fun f => bind2 (orc f [v] g) fun r g' => (vI r).bind fun n => guardS (decide (0 ≤ n ∧ n ≤ 100000)) (some (.int n, g'))
  | _ => none
def callT (T : String) (v : SV) (g : Sg) : Option (SV × Sg) := match decide (T = "bytes") with
  | true => bind2 (oL g.σ v) fun _ l => guardS (small l.length) ((mapS byteS l).map fun b => (SV.bytes b, g))
  | false => match decide (T = "list") with
    | true => (vB v).bind fun l => guardS (small l.length) (some (mkO (.list (l.map .int)) g))
    | false => match decide (T = "str") with
      | true => (vI v).bind fun n => guardS (decide (0 ≤ n ∧ n < 1000000)) (some (.str (Str.ofString (toString n)), g))
      | false => none
def madeS (g : Sg) (v : SV) (g' : Sg) : Option (SV × Sg) := match v with
  | .none => some (.obj (g.σ.length + 1), g')
  | _ => none
def newS (K : Frag) (orc : Orc) (f : Addr) (vs : List SV) (g : Sg) : Option (SV × Sg) := match findIn K (.ref f) "__init__" with
  | some (some (.ref fI)) => guardS (isFn K (.ref fI)) (bind2 (orc fI (.obj (g.σ.length + 1) :: vs) ⟨g.σ ++ [.att []] ++ [.inst f g.σ.length], g.τ ++ [0] ++ [0], g.γ⟩) (madeS g))
  | _ => none
def callS (K : Frag) (orc : Orc) (f : Value) (vs : List SV) (g : Sg) : Option (SV × Sg) := match f with
  | .builtin id => (bid id).bind fun i => (one vs).bind fun v => match i with
    | .len => match oI g.σ v with
      | some _ => lenI K orc v g
      | none => callB .len v g
    | i => callB i v g
  | .type T => (one vs).bind fun v => callT T v g
  | .ref f => match makesIn K f with
    | true => newS K orc f vs g
    | false => orc f vs g
  | _ => none
def handS : SV → Bool
  | .val v => handedIn v
  | _ => true
def attS (K : Frag) (x : Str) (v : SV) (g : Sg) : Option SV := (oI g.σ v).bind fun q => (findIn K (.ref q.2.1) x).bind fun A => guardS (plainGet K q.2.1 x && hasDictIn K q.2.1 && noGet K A) ((look q.2.2.2 x).bind fun v => guardS (handS v) (some v))
def setA (K : Frag) (x : Str) (u : SV) (v : SV) (g : Sg) : Option Sg := (oI g.σ u).bind fun q => guardS ((findIn K (.ref q.2.1) "__setattr__" == some (some (.builtin "object.__setattr__"))) && plainOver K q.2.1 && (takerIn K q.2.1 x == some none) && hasDictIn K q.2.1 && Nat.ble q.2.2.2.length 900) (some (setO g q.2.2.1 (.att (putM q.2.2.2 x v))))
/-- the def that an instance's method is -/
def instM (K : Frag) (x : Str) (v : SV) (g : Sg) : Option Addr := (oI g.σ v).bind fun q => (findIn K (.ref q.2.1) x).bind fun A => A.bind fun A => (vR A).bind fun f => guardS (plainGet K q.2.1 x && isFn K (.ref f) && keepIn K (.ref f) && (look q.2.2.2 x).isNone && !makesIn K f) (some f)
inductive MId
  | app
  | pop
  | ins
  | sort
  | ext
  | vals
  | join
  | starts
  | split
def MId.id : MId → String
  | .app => "list.append"
  | .pop => "list.pop"
  | .ins => "list.insert"
  | .sort => "list.sort"
  | .ext => "list.extend"
  | .vals => "dict.values"
  | .join => "bytes.join"
  | .starts => "str.startswith"
  | .split => "str.split"
def listT : List (Str × MId) := [("append", .app), ("extend", .ext), ("pop", .pop), ("insert", .ins), ("sort", .sort)]
def strT : List (Str × MId) := [("startswith", .starts), ("split", .split)]
def methO (x : Str) : SO → Option MId
  | .list _ => look listT x
  | .dict l => guardS (sq x "values" && (itemsI l).isSome) (some .vals)
  | _ => none
def methId (σ : List SO) (v : SV) (x : Str) : Option MId := match v with
  | .bytes l => guardS (l.isEmpty && sq x "join") (some .join)
  | .str _ => look strT x
  | v => bind2 (oO σ v) fun _ o => methO x o
def joinS (σ : List SO) (v : SV) : Option (List Int) := bind2 (oL σ v) fun _ l => guardS (Nat.ble 2 l.length) ((mapS vB l).map fun c => c.flatten)
def popS (k : Nat) (g : Sg) : List SV → Option (SV × Sg)
  | [] => none
  | y :: r => some (y, setO g k (.list r))
def methS (i : MId) (v : SV) (vs : List SV) (g : Sg) : Option (SV × Sg) := match i with
  | .app => bind2 (oL g.σ v) fun k l => (one vs).bind fun x => guardS (small l.length) (some (.none, setO g k (.list (l ++ [x]))))
  | .ext => bind2 (oL g.σ v) fun k l => (one vs).bind fun x => bind2 (oL g.σ x) fun _ l' => guardS (small (l.length + l'.length)) (some (.none, setO g k (.list (l ++ l'))))
  | .pop => bind2 (oL g.σ v) fun k l => (one vs).bind fun x => (vI x).bind fun i => guardS (decide (i = 0) && small l.length) (popS k g l)
  | .ins => bind2 (oL g.σ v) fun k l => bind2 (two vs) fun x y => (vI x).bind fun i => guardS (decide (0 ≤ i ∧ i ≤ (l.length : Int)) && small l.length) (some (.none, setO g k (.list (l.take i.toNat ++ y :: l.drop i.toNat))))
  | .sort => bind2 (oL g.σ v) fun k l => guardS vs.isEmpty ((sortS g.σ l).map fun l' => (.none, setO g k (.list l')))
  | .vals => bind2 (oD g.σ v) fun k l => guardS (vs.isEmpty && (itemsI l).isSome) (some (mkO (.vals k) g))
  | .join => (vB v).bind fun l => (one vs).bind fun x => (joinS g.σ x).bind fun b => guardS (l.isEmpty && small b.length) (some (.bytes b, g))
  | .starts => (vS v).bind fun x => (one vs).bind fun u => (vS u).map fun y => (.bool (Txt.startswith x y), g)
  | .split => (vS v).bind fun x => (one vs).bind fun u => (vS u).bind fun y => guardS (Nat.blt 0 y.length && small x.length) (some (mkO (.list ((Txt.split x y).map .str)) g))
def keepsS (K : Frag) (f : Value) : Bool := match f with
  | .builtin _ => true
  | .type _ => true
  | f => keepIn K f
def notStar : Expr → Bool
  | .Starred .. => false
  | _ => true
/-- an index that is no slice -/
def plainIx : Expr → Bool
  | .Slice .. => false
  | _ => true
def sliceOf : Expr → Option (Option Expr × Option Expr × Option Expr)
  | .Slice lo hi sp _ => some (lo, hi, sp)
  | _ => none
/-- a value that is stored as it is -/
def plainE : Expr → Bool
  | .Constant .. => true
  | .Name .. => true
  | .BinOp .. => true
  | .Compare .. => true
  | .Subscript .. => true
  | .Call .. => true
  | .List .. => true
  | .Tuple .. => true
  | .Dict .. => true
  | .Attribute .. => true
  | _ => false
def calleeQ : Expr → Bool
  | .Name .. => true
  | .Subscript .. => true
  | _ => false
def attQ : Expr → Bool
  | .Name .. => true
  | .Subscript .. => true
  | .Attribute .. => true
  | _ => false
def notSet : Expr → Bool
  | .Set .. => false
  | _ => true
def noCall : Expr → Bool
  | .Call .. => false
  | _ => true
def nameOf : Expr → Option Str
  | .Name x _ => some x
  | _ => none
def constS (c : PySem.Const) : Option SV := match c with
  | .int i => some (.int i)
  | .str x => some (.str x)
  | .none => some .none
  | .bool b => some (.bool b)
  | .bytes b => some (.bytes (KBw.bInts b.toArray))
  | _ => none
/-- what counts as true -/
def truS (σ : List SO) : SV → Option Bool
  | .bool b => some b
  | .int i => some (i != 0)
  | _ => none
def setM (f : Fi) (x : Str) (v : SV) : Fi := Fi.rec (motive := fun _ => Fi) (fun m sc cm => ⟨putM m x v, sc, cm⟩) f
/-- what a comprehension is: its element, its name, what it runs over, its test -/
structure Lc where
  elt : Expr
  x : Str
  px : Pos
  it : Expr
  ct : Option Expr
  scope : Scope
  ps : Pos
def oneIf : List Expr → Option (Option Expr)
  | [] => some none
  | e :: r => match r with
    | [] => some (some e)
    | _ :: _ => none
def genOf : Comprehension → Option (Str × Pos × Expr × Option Expr)
  | ⟨t, it, ifs, a⟩ => guardS (decide (a = 0)) (match t with
    | .Name x px => (oneIf ifs).map fun c => (x, px, it, c)
    | _ => none)
def lcOf : Expr → Option Lc
  | .ListComp elt gs scope ps => (one gs).bind fun q => (genOf q).map fun r => ⟨elt, r.1, r.2.1, r.2.2.1, r.2.2.2, scope, ps⟩
  | _ => none
def kindC (k : NameKind) : Bool := match k with
  | .cell => true
  | _ => false
def freeK (k : NameKind) : Bool := match k with
  | .free => true
  | _ => false
def locK (k : NameKind) : Bool := match k with
  | .local => true
  | _ => false
/-- the names of a comprehension as they are looked up -/
def relS (f : Fi) (ns : List (Str × NameKind)) : List (Str × NameKind) := ns.map fun p => match freeK p.2 && (match look f.sc p.1 with | some k => kindC k | none => false) with
  | true => (p.1, .cell)
  | false => p
/-- the cells that a comprehension closes over -/
def closS (f : Fi) : List (Str × NameKind) → Option (List (Str × Nat))
  | [] => some []
  | p :: r => match freeK p.2 with
    | true => (look f.cm p.1).bind fun k => (closS f r).map fun l => (p.1, k) :: l
    | false => closS f r
def scopeK (s : Scope) : Bool := match s.kind with
  | .function => true
  | _ => false
/-- the names' kinds are as the rule wants them -/
def lcOk (c : Lc) : Bool := scopeK c.scope && c.scope.names.all (fun p => !kindC p.2) && c.scope.names.all (fun p => match locK p.2 with | true => isLoc c.scope.names p.1 | false => true) && isLoc c.scope.names c.x
/-- a value that is no display of a tuple or a set -/
def noTup : Expr → Bool
  | .Subscript .. => true
  | .Name .. => true
  | .Call .. => true
  | .Attribute .. => true
  | _ => false
/-- WHAT AN EXPRESSION OR A STATEMENT IS: a look that the kernel takes once for each place of the program -/
inductive EV where
  | non
  | const (c : PySem.Const)
  | name (x : Str)
  | list (es : List Expr)
  | tup (es : List Expr)
  | dict (q : Bool)
  | bin (l : Expr) (op : Operator) (r : Expr)
  | cmp (l : Expr) (ops : List CmpOp) (rs : List Expr)
  | sub (b i : Expr)
  | att (b : Expr) (x : Str)
  | call (q : Bool) (e : Expr) (args : List Expr) (ps : Pos)
  | lc (c : Option Lc)
def viewE : Expr → EV
  | .Constant c _ _ => .const c
  | .Name x _ => .name x
  | .List es _ => .list es
  | .Tuple es _ _ => .tup es
  | .Dict ks vs _ => .dict (ks.isEmpty && vs.isEmpty)
  | .BinOp l op r _ => .bin l op r
  | .Compare l ops rs _ => .cmp l ops rs
  | .Subscript b i _ => .sub b i
  | .Attribute b x _ => .att b x
  | .Call e args kws ps => .call (kws.isEmpty && args.all notStar) e args ps
  | .ListComp elt gs scope ps => .lc (lcOf (.ListComp elt gs scope ps))
  | _ => .non
inductive TV where
  | non
  | boolop (op : BoolOp) (l : List Expr) (p : Pos)
  | unop (op : UnaryOp) (e : Expr)
  | cmp (l : Expr) (ops : List CmpOp) (rs : List Expr)
  | ev
def viewT : Expr → TV
  | .BoolOp op l p => .boolop op l p
  | .UnaryOp op e _ => .unop op e
  | .Compare l ops rs _ => .cmp l ops rs
  | .BinOp .. => .ev
  | .Call .. => .ev
  | .Name .. => .ev
  | .Constant .. => .ev
  | _ => .non
inductive XV where
  | non
  | asg (t : Option Expr) (e : Expr)
  | expr (e : Expr)
  | ift (t : Expr) (b o : List Stmt)
  | whl (t : Expr) (b o : List Stmt)
  | for (t it : Expr) (b o : List Stmt)
  | ret (e : Option Expr)
  | brk
def viewX : Stmt → XV
  | .Assign ts e _ => .asg (one ts) e
  | .Expr e _ => .expr e
  | .If t b o _ => .ift t b o
  | .While t b o _ => .whl t b o
  | .For t it b o _ => .for t it b o
  | .Return e _ => .ret e
  | .Break _ => .brk
  | _ => .non
inductive AV where
  | non
  | name (x : Str)
  | att (b : Expr) (x : Str)
  | tup (es : List Expr)
  | sub (b i : Expr)
def viewA : Expr → AV
  | .Name x _ => .name x
  | .Attribute b x _ => .att b x
  | .Tuple es _ _ => .tup es
  | .Subscript b i _ => .sub b i
  | _ => .non
def attO : Expr → Option (Expr × Str × Pos)
  | .Attribute b x p => some (b, x, p)
  | _ => none
section
variable (K : Frag) (gd : List Addr) (orc : Orc)
def asgT (t : Expr) (v : SV) (f : Fi) (g : Sg) : Option (Fi × Sg) := match viewA t with
  | .name x => match isLoc f.sc x with
    | true => some (setM f x v, g)
    | false => guardS (match look f.sc x with | some k => kindC k | none => false) ((look f.cm x).bind fun k => (g.σ[k]?).bind fun so => match so with
      | .cell _ => some (f, setO g k (.cell (some v)))
      | _ => none)
  | .tup es => bind2 (two es) fun e1 e2 => (nameOf e1).bind fun x => (nameOf e2).bind fun y => bind2 (oT g.σ v) fun _ l => bind2 (two l) fun a b => guardS (isLoc f.sc x && isLoc f.sc y) (some (setM (setM f x a) y b, g))
  | _ => none
variable (self : Job → Fi → Sg → Option (Out × Sg))
def partS (o : Option Expr) (f : Fi) (g : Sg) : Option (Option Int × Sg) := match o with
  | none => some (none, g)
  | some e => bind2 (asV (self (.ev e) f g)) fun v g' => (vI v).map fun i => (some i, g')
def ixS (v : SV) (i : Expr) (f : Fi) (g : Sg) : Option (SV × Sg) := match sliceOf i with
  | some d => guardS d.2.2.isNone (bind2 (partS self d.1 f g) fun lo g1 => bind2 (partS self d.2.1 f g1) fun hi g2 => sliceS v lo hi g2)
  | none => bind2 (asV (self (.ev i) f g)) fun u g1 => (itemS K gd v u g1.σ).map fun v => (v, g1)
def methD (v : SV) (x : Str) (args : List Expr) (f : Fi) (g : Sg) : Option (SV × Sg) := match instM K x v g with
  | some m => bind2 (asVs (self (.evs args) f g)) fun l g1 => callS K orc (.ref m) (v :: l) g1
  | none => (methId g.σ v x).bind fun i => bind2 (asVs (self (.evs args) f g)) fun l g1 => methS i v l g1
def methC (v : SV) (x : Str) (args : List Expr) (f : Fi) (g : Sg) : Option (SV × Sg) := match vI v with
  | some i => guardS (args.isEmpty && sq x (Str.ofString "bit_length")) (some (.int (Builtin.Int.intBits i), g))
  | none => methD K orc self v x args f g
def callE (e : Expr) (args : List Expr) (ps : Pos) (f : Fi) (g : Sg) : Option (SV × Sg) := match attO e with
  | some q => guardS (noCall q.1 && (q.2.2.endLine == ps.line) && Nat.blt args.length 30) (bind2 (asV (self (.ev q.1) f g)) fun v g1 => methC K orc self v q.2.1 args f g1)
  | none => guardS (calleeQ e) (bind2 (asV (self (.ev e) f g)) fun u g1 => (vV u).bind fun c => guardS (keepsS K c) (bind2 (asVs (self (.evs args) f g1)) fun l g2 => callS K orc c l g2))
/-- what a comprehension runs over -/
def srcO (k tt : Nat) : SO → Option (Option (Nat × Nat) × List SV)
  | .list l => guardS (small l.length) (some (some (k, tt), l))
  | .dict l => match l with
    | [] => some (some (k, tt), [])
    | _ :: _ => none
  | .sdict l => guardS (small l.length) (some (some (k, tt), l.map fun p => .str p.1))
  | _ => none
def srcS (v : SV) (g : Sg) : Option (Option (Nat × Nat) × List SV) := match v with
  | .val v => (gL K (.val v)).bind fun l => guardS (small l.length) ((mapS ofVal l).map fun l => (none, l))
  | v => bind2 (oO g.σ v) fun k o => (g.τ[k]?).bind fun tt => srcO k tt o
def lcS (c : Lc) (f : Fi) (g : Sg) : Option (List SV × Sg) := guardS (noTup c.it && lcOk c && c.ct.isSome) (bind2 (asV (self (.ev c.it) f g)) fun v g1 => (closS f c.scope.names).bind fun cm => bind2 (srcS K v g1) fun h l => bind2 (asVs (self (.cmp h c.x c.ct c.elt l) ⟨[], relS f c.scope.names, cm⟩ g1)) fun r g2 => some (r, g2))
def evNon (_ : Fi) (_ : Sg) : Option (SV × Sg) := none
def evConst (c : PySem.Const) (_ : Fi) (g : Sg) : Option (SV × Sg) := (constS c).map fun v => (v, g)
def evName (x : Str) (f : Fi) (g : Sg) : Option (SV × Sg) := (nameS K f g x).map fun v => (v, g)
def evList (es : List Expr) (f : Fi) (g : Sg) : Option (SV × Sg) := bind2 (asVs (self (.evs es) f g)) fun l g1 => guardS (small l.length) (some (mkO (.list l) g1))
def evTup (es : List Expr) (f : Fi) (g : Sg) : Option (SV × Sg) := bind2 (asVs (self (.evs es) f g)) fun l g1 => guardS (small l.length) (some (mkO (.tup l) g1))
def evDict (q : Bool) (_ : Fi) (g : Sg) : Option (SV × Sg) := guardS q (some (mkO (.dict []) g))
def evBin (l : Expr) (op : Operator) (r : Expr) (f : Fi) (g : Sg) : Option (SV × Sg) := bind2 (asV (self (.ev l) f g)) fun a g1 => bind2 (asV (self (.ev r) f g1)) fun b g2 => binS op a b g2
def evCmp (l : Expr) (ops : List CmpOp) (rs : List Expr) (f : Fi) (g : Sg) : Option (SV × Sg) := (one ops).bind fun op => (one rs).bind fun r => guardS (notSet r) <| bind2 (asV (self (.ev l) f g)) fun a g1 => bind2 (asV (self (.ev r) f g1)) fun b g2 => (cmpS K gd op a b g2.σ).map fun c => (.bool c, g2)
def evSub (b i : Expr) (f : Fi) (g : Sg) : Option (SV × Sg) := bind2 (asV (self (.ev b) f g)) fun v g1 => ixS K gd self v i f g1
def evAtt (b : Expr) (x : Str) (f : Fi) (g : Sg) : Option (SV × Sg) := guardS (attQ b) (bind2 (asV (self (.ev b) f g)) fun u g1 => (attS K x u g1).map fun v => (v, g1))
def evCall (q : Bool) (e : Expr) (args : List Expr) (ps : Pos) (f : Fi) (g : Sg) : Option (SV × Sg) := guardS q (callE K orc self e args ps f g)
def evLc (c : Option Lc) (f : Fi) (g : Sg) : Option (SV × Sg) := c.bind fun c => bind2 (lcS K self c f g) fun l g1 => some (mkO (.list l) g1)
def evV (e : EV) (f : Fi) (g : Sg) : Option (SV × Sg) := EV.rec (motive := fun _ => Fi → Sg → Option (SV × Sg)) evNon evConst (evName K) (evList self) (evTup self) evDict (evBin self) (evCmp K gd self) (evSub K gd self) (evAtt K self) (evCall K orc self) (evLc K self) e f g
def evS (e : Expr) (f : Fi) (g : Sg) : Option (SV × Sg) := evV K gd orc self (viewE e) f g
def nameT (sc : List (Str × NameKind)) (t : Expr) : Bool := match nameOf t with
  | some x => isLoc sc x
  | none => false
def rangeOf : Expr → Option Expr
  | .Call f es kws _ => guardS kws.isEmpty ((nameOf f).bind fun x => guardS (sq x "range") (one es))
  | _ => none
def iterO (sc : List (Str × NameKind)) (t : Expr) (k tt : Nat) : SO → Option (Option (Nat × Nat) × List SV)
  | .list l => some (some (k, tt), l)
  | .dict l => guardS (nameT sc t) (some (some (k, tt), l.map fun p => .int p.1))
  | .sdict l => guardS (nameT sc t) (some (some (k, tt), l.map fun p => .str p.1))
  | _ => none
def iterS (sc : List (Str × NameKind)) (t : Expr) (v : SV) (g : Sg) : Option (Option (Nat × Nat) × List SV) := match v with
  | .bytes l => guardS (nameT sc t) (some (none, l.map .int))
  | .str x => guardS (nameT sc t) (some (none, x.cps.toList.map fun n => .str ⟨#[n]⟩))
  | v => bind2 (oO g.σ v) fun k o => (g.τ[k]?).bind fun tt => iterO sc t k tt o
def isRng : Option SV → Bool
  | some (.val (.type T)) => decide (T = "range")
  | _ => false
def itS (t : Expr) (e : Expr) (f : Fi) (g : Sg) : Option ((Option (Nat × Nat) × List SV) × Sg) := match rangeOf e with
  | some e => guardS (isRng (nameS K f g "range") && notStar e && nameT f.sc t) (bind2 (asV (self (.ev e) f g)) fun v g1 => (vI v).bind fun n => (natS n).bind fun k => guardS (small k) (some ((none, (List.range k).map fun (i : Nat) => .int i), g1)))
  | none => guardS (noTup e) (bind2 (asV (self (.ev e) f g)) fun v g1 => (iterS f.sc t v g1).map fun p => (p, g1))
def isLc : Expr → Bool
  | .ListComp .. => true
  | _ => false
/-- a comprehension stored to a name that the frame holds -/
def swapQ (t : Expr) (c : Lc) (f : Fi) : Bool := match t with
  | .Name y py => isLoc f.sc y && (py.line == c.ps.line) && !(c.scope.names.any fun p => p.1 == y && (p.2 == .local || p.2 == .cell))
  | _ => false
/-- a comprehension stored to a cell -/
def cellQ (t : Expr) (f : Fi) : Bool := match t with
  | .Name y _ => match look f.sc y with
    | some k => kindC k
    | none => false
  | _ => false
def asgS (t e : Expr) (v : SV) (f : Fi) (g : Sg) : Option (Fi × Sg) := match viewA t with
  | .non => none
  | .name _ => guardS (plainE e || (isLc e && cellQ t f)) (asgT t v f g)
  | .att b x => guardS (plainE e) ((nameOf b).bind fun y => (nameS K f g y).bind fun u => (setA K x u v g).map fun g' => (f, g'))
  | .tup _ => guardS (noTup e) (asgT t v f g)
  | .sub b i => guardS (plainE e && plainIx i) (bind2 (asV (self (.ev b) f g)) fun a g1 => bind2 (asV (self (.ev i) f g1)) fun j g2 => (storS a j v g2).map fun g' => (f, g'))
def asgC (t e : Expr) (f : Fi) (g : Sg) : Option (Fi × Sg) := match lcOf e with
  | some c => match swapQ t c f with
    | true => (nameOf t).bind fun y => bind2 (lcS K self c f g) fun l g1 => some (setM f y (mkO (.list l) g1).1, (mkO (.list l) g1).2)
    | false => bind2 (asV (self (.ev e) f g)) fun v g1 => asgS K self t e v f g1
  | none => bind2 (asV (self (.ev e) f g)) fun v g1 => asgS K self t e v f g1
def exNon (_ : Fi) (_ : Sg) : Option ((Fl × Fi) × Sg) := none
def exAsg (t : Option Expr) (e : Expr) (f : Fi) (g : Sg) : Option ((Fl × Fi) × Sg) := t.bind fun t => (asgC K self t e f g).map fun p => ((.next, p.1), p.2)
def exExpr (e : Expr) (f : Fi) (g : Sg) : Option ((Fl × Fi) × Sg) := guardS (plainE e) (bind2 (asV (self (.ev e) f g)) fun _ g1 => some ((.next, f), g1))
def exIf (t : Expr) (b o : List Stmt) (f : Fi) (g : Sg) : Option ((Fl × Fi) × Sg) := bind2 (asB (self (.test t) f g)) fun c g1 => match c with
    | true => asF (self (.ex b) f g1)
    | false => asF (self (.ex o) f g1)
def exWhl (t : Expr) (b o : List Stmt) (f : Fi) (g : Sg) : Option ((Fl × Fi) × Sg) := guardS o.isEmpty (asF (self (.whl t b) f g))
def exFor (t it : Expr) (b o : List Stmt) (f : Fi) (g : Sg) : Option ((Fl × Fi) × Sg) := guardS o.isEmpty ((itS K self t it f g).bind fun p => asF (self (.loop p.1.1 t p.1.2 b) f p.2))
def exRet (e : Option Expr) (f : Fi) (g : Sg) : Option ((Fl × Fi) × Sg) := match e with
    | some e => bind2 (asV (self (.ev e) f g)) fun v g1 => some ((.ret v, f), g1)
    | none => some ((.ret .none, f), g)
def exBrk (f : Fi) (g : Sg) : Option ((Fl × Fi) × Sg) := some ((.brk, f), g)
def exX (s : XV) (f : Fi) (g : Sg) : Option ((Fl × Fi) × Sg) := XV.rec (motive := fun _ => Fi → Sg → Option ((Fl × Fi) × Sg)) exNon (exAsg K self) (exExpr self) (exIf self) (exWhl self) (exFor K self) (exRet self) exBrk s f g
def exS (s : Stmt) (f : Fi) (g : Sg) : Option ((Fl × Fi) × Sg) := exX K self (viewX s) f g
/-- the tests of a chain: `b` goes on -/
def chainS (b : Bool) (op : BoolOp) (l : List Expr) (p : Pos) (f : Fi) (g : Sg) : Option (Bool × Sg) := match l with
  | [] => none
  | x :: r => bind2 (asB (self (.test x) f g)) fun c g1 => match c == b with
    | false => some (c, g1)
    | true => match r with
      | [] => some (b, g1)
      | y :: r => asB (self (.test (.BoolOp op (y :: r) p)) f g1)
def testS (e : Expr) (f : Fi) (g : Sg) : Option (Bool × Sg) := match viewT e with
  | .non => none
  | .boolop op l p => match op with
    | .And => chainS self true .And l p f g
    | .Or => chainS self false .Or l p f g
  | .unop op e => guardS (decide (op = .Not)) ((asB (self (.test e) f g)).map fun p => (!p.1, p.2))
  | .cmp l ops rs => match ops with
    | [] => none
    | op :: ops => match rs with
      | [] => none
      | r :: rs => guardS (notSet r && rs.all notSet) <| bind2 (asV (self (.ev l) f g)) fun a g1 => bind2 (asV (self (.ev r) f g1)) fun b g2 => (cmpS K gd op a b g2.σ).bind fun c => match ops with
        | [] => guardS rs.isEmpty (some (c, g2))
        | op2 :: ops2 => guardS ops2.isEmpty ((one rs).bind fun r2 => match c with
          | false => some (false, g2)
          | true => bind2 (asV (self (.ev r2) f g2)) fun d g3 => (cmpS K gd op2 b d g3.σ).map fun c => (c, g3))
  | .ev => bind2 (asV (self (.ev e) f g)) fun v g1 => (truS g1.σ v).map fun c => (c, g1)
def held (c : Option (Nat × Nat)) (g : Sg) : Bool := match c with
  | none => true
  | some p => match g.τ[p.1]? with
    | some t' => Nat.beq t' p.2
    | none => false
/-- what comes behind a turn -/
def turnS (go : Fi → Sg → Option (Out × Sg)) (p : Fl × Fi) (g : Sg) : Option (Out × Sg) := match p.1 with
  | .next => go p.2 g
  | .brk => some (.f (.next, p.2), g)
  | .ret v => some (.f (.ret v, p.2), g)
/-- a turn of a comprehension -/
def cmpT (ct : Option Expr) (elt : Expr) (f : Fi) (g : Sg) : Option (Option SV × Sg) := match ct with
  | none => bind2 (asV (self (.ev elt) f g)) fun v g1 => some (some v, g1)
  | some t => bind2 (asB (self (.test t) f g)) fun c g1 => match c with
    | true => bind2 (asV (self (.ev elt) f g1)) fun v g2 => some (some v, g2)
    | false => some (none, g1)
def consO : Option SV → List SV → List SV
  | none, l => l
  | some v, l => v :: l
def stEv (e : Expr) (f : Fi) (g : Sg) : Option (Out × Sg) := bind2 (evS K gd orc self e f g) fun v g1 => some (.v v, g1)
def stEvs (es : List Expr) (f : Fi) (g : Sg) : Option (Out × Sg) := match es with
  | [] => some (.vs [], g)
  | e :: r => guardS (notStar e) (bind2 (asV (self (.ev e) f g)) fun v g1 => bind2 (asVs (self (.evs r) f g1)) fun l g2 => some (.vs (v :: l), g2))
def stTest (e : Expr) (f : Fi) (g : Sg) : Option (Out × Sg) := bind2 (testS K gd self e f g) fun c g1 => some (.b c, g1)
def exN (r : List Stmt) (p : Fl × Fi) (g1 : Sg) : Option (Out × Sg) := match p.1 with
  | .next => self (.ex r) p.2 g1
  | .brk => some (.f (.brk, p.2), g1)
  | .ret v => some (.f (.ret v, p.2), g1)
def stEx (b : List Stmt) (f : Fi) (g : Sg) : Option (Out × Sg) := match b with
  | [] => some (.f (.next, f), g)
  | s :: r => bind2 (exS K self s f g) (exN self r)
def stWhl (t : Expr) (b : List Stmt) (f : Fi) (g : Sg) : Option (Out × Sg) := bind2 (asB (self (.test t) f g)) fun c g1 => match c with
  | false => some (.f (.next, f), g1)
  | true => bind2 (asF (self (.ex b) f g1)) (turnS (self (.whl t b)))
def stLoop (c : Option (Nat × Nat)) (t : Expr) (l : List SV) (b : List Stmt) (f : Fi) (g : Sg) : Option (Out × Sg) := guardS (held c g) <| match l with
  | [] => some (.f (.next, f), g)
  | v :: r => bind2 (asgT t v f g) fun f₁ g₁ => bind2 (asF (self (.ex b) f₁ g₁)) (turnS (self (.loop c t r b)))
def stCmp (c : Option (Nat × Nat)) (x : Str) (ct : Option Expr) (elt : Expr) (l : List SV) (f : Fi) (g : Sg) : Option (Out × Sg) := guardS (held c g) <| match l with
  | [] => some (.vs [], g)
  | v :: r => bind2 (cmpT self ct elt ⟨[(x, v)], f.sc, f.cm⟩ g) fun o g1 => guardS (held c g1 && Nat.beq g1.γ g.γ) (bind2 (asVs (self (.cmp c x ct elt r) f g1)) fun l' g2 => some (.vs (consO o l'), g2))
def step (j : Job) (f : Fi) (g : Sg) : Option (Out × Sg) := Job.rec (motive := fun _ => Fi → Sg → Option (Out × Sg)) (stEv K gd orc self) (stEvs self) (stTest K gd self) (stEx K self) (stWhl self) (stLoop self) (stCmp self) j f g
/-- the frame and the state made plain, so that no chain of projections grows -/
def plain (f : Fi) (g : Sg) (k : Fi → Sg → Option (Out × Sg)) : Option (Out × Sg) := Fi.rec (motive := fun _ => Option (Out × Sg)) (fun m sc cm => Sg.rec (motive := fun _ => Option (Out × Sg)) (fun σ τ γ => k ⟨m, sc, cm⟩ ⟨σ, τ, γ⟩) g) f
def run (n : Nat) : Job → Fi → Sg → Option (Out × Sg) := Nat.rec (fun _ _ _ => none) (fun _ ih j f g => plain f g (step K gd orc ih j)) n
end
end
theorem look_cons {α : Type} {p : Str × α} {r : List (Str × α)} {x : Str} : look (p :: r) x = if p.1 = x then some p.2 else look r x := by
  show (Bool.rec (motive := fun _ => Option α) (look r x) (some p.2) (sq p.1 x) : Option α) = _
  cases h : sq p.1 x with
  | true => rw [if_pos (sq_eq.mp h)]
  | false => rw [if_neg fun e => by rw [sq_eq.mpr e] at h; cases h]
theorem putM_cons {p : Str × SV} {r : List (Str × SV)} {x : Str} {v : SV} : putM (p :: r) x v = if p.1 = x then (p.1, v) :: r else p :: putM r x v := by
  show (match sq p.1 x with | true => (p.1, v) :: r | false => p :: putM r x v) = _
  cases h : sq p.1 x with
  | true => rw [if_pos (sq_eq.mp h)]
  | false => rw [if_neg fun e => by rw [sq_eq.mpr e] at h; cases h]
theorem look_lookup {α : Type} {x : Str} : ∀ {l : List (Str × α)}, look l x = l.lookup x
  | [] => rfl
  | p :: r => by
    rw [look_cons, List.lookup_cons, look_lookup (l := r)]
    by_cases h : p.1 = x
    · rw [if_pos h, h, show (x == x) = true from by simp]
    · rw [if_neg h, show (x == p.1) = false from by simpa using fun e => h e.symm]
theorem look_put {x y : Str} {v : SV} : ∀ {l : List (Str × SV)}, look (putM l x v) y = if x = y then some v else look l y
  | [] => by
    show look [(x, v)] y = _
    rw [look_cons]
  | p :: r => by
    rw [putM_cons]
    by_cases h : p.1 = x
    · rw [if_pos h, look_cons, look_cons]
      show (if p.1 = y then _ else _) = _
      rw [h]
      by_cases q : x = y
      · rw [if_pos q, if_pos q]
      · rw [if_neg q, if_neg q, if_neg q]
    · rw [if_neg h, look_cons, look_cons, look_put (l := r)]
      by_cases q : x = y
      · rw [if_pos q, if_neg fun e => h (e.trans q.symm)]
        rw [if_pos q]
      · rw [if_neg q, if_neg q]
theorem look_mem {α : Type} {x : Str} {v : α} : ∀ {l : List (Str × α)}, look l x = some v → (x, v) ∈ l
  | [], h => by cases h
  | p :: r, h => by
    rw [look_cons] at h
    by_cases e : p.1 = x
    · rw [if_pos e] at h
      cases h
      rw [← e]
      exact .head _
    · rw [if_neg e] at h
      exact .tail _ (look_mem h)
theorem incr_len : ∀ {l : List Nat} {k : Nat}, (incr l k).length = l.length
  | [], _ => rfl
  | _ :: _, 0 => rfl
  | _ :: r, k + 1 => by show (incr r k).length + 1 = r.length + 1; rw [incr_len]
theorem incr_ne : ∀ {l : List Nat} {k j : Nat}, j ≠ k → (incr l k)[j]? = l[j]?
  | [], _, _, _ => rfl
  | _ :: _, 0, 0, h => absurd rfl h
  | _ :: _, 0, _ + 1, _ => rfl
  | _ :: _, _ + 1, 0, _ => rfl
  | _ :: r, k + 1, j + 1, h => by
    show (incr r k)[j]? = r[j]?
    exact incr_ne fun e => h (by rw [e])
theorem incr_self : ∀ {l : List Nat} {k t : Nat}, l[k]? = some t → (incr l k)[k]? = some (t + 1)
  | [], _, _, h => by cases h
  | _ :: _, 0, _, h => by cases h; rfl
  | _ :: r, k + 1, t, h => by
    show (incr r k)[k]? = _
    exact incr_self h
/-- the program, the world, what is told apart, the dicts of the top that may be asked -/
structure Gm where
  prog : Program
  w : World
  K : Frag
  p : Program
  loose : List Str
  mean : ExcName → Option Value
  mg : Str → Option Value
  mb : Str → Option Value
  gd : List Addr
/-- where code runs: its frame and the function's, the names of a comprehension's frame -/
structure Cx where
  A : Around
  env : Env
  fenv : Env
  h₀ : Heap
  L : Addr
  rest : List (Addr × Obj)
  E : Value → Shared → Prop
  cmp : Option (Str → Option Value)
def Cx.cur (c : Cx) (M : Str → Option Value) : Str → Option Value := match c.cmp with
  | none => M
  | some N => N
/-- the machine's side of a state -/
structure Zs where
  ρ : List Addr
  nw : List (Addr × Obj)
  h : Heap
  tk : Nat
  g : Array GenState
def Zs.sh (z : Zs) (s : Shared) : Shared := { s with heap := z.h, gens := z.g, toks := z.tk }
/-- what goes on: addresses stay, and an object with its stamp as before is as before -/
structure Ex (z : Zs) (g : Sg) (z' : Zs) (g' : Sg) : Prop where
  ext : Ext z.ρ z'.ρ
  stp : ∀ (k t : Nat), g.τ[k]? = some t → ∃ t', g'.τ[k]? = some t' ∧ t ≤ t' ∧ (t' = t → g'.σ[k]? = g.σ[k]? ∧ z'.nw[k]? = z.nw[k]?)
  gr : GRow z.g z'.g
  gq : g.γ ≤ g'.γ ∧ (g'.γ = g.γ → z'.g = z.g)
/-- the ledger holds the reckoner's objects, at the addresses ρ -/
structure Led (Γ : Gm) (R : List (Addr × Obj)) (g : Sg) (ρ : List Addr) (nw : List (Addr × Obj)) : Prop where
  map : nw.map (·.1) = ρ
  nd : ρ.Nodup
  lo : ∀ (k : Nat) (so : SO) (a : Addr), g.σ[k]? = some so → isD so = true → ρ[k]? = some a → (a == sysModules) = false
  len : g.σ.length = nw.length
  obj : ∀ (k : Nat) (so : SO) (p : Addr × Obj), g.σ[k]? = some so → nw[k]? = some p → RO Γ.prog Γ.w ρ so p.2
  sep : ∀ p ∈ R, ∀ q ∈ nw, p.1 ≠ q.1
  tl : g.τ.length = g.σ.length
/-- the state of the reckoner and the machine's -/
structure Cor (Γ : Gm) (c : Cx) (M : Str → Option Value) (g : Sg) (z : Zs) : Prop where
  F : Fr c.h₀ c.L z.h M
  N : News c.h₀ c.L z.h (z.nw ++ c.rest)
  led : Led Γ c.rest g z.ρ z.nw
/-- the frame of the reckoner and the machine's -/
structure Frm (c : Cx) (f : Fi) (M : Str → Option Value) (ρ : List Addr) : Prop where
  rm : ∀ (x : Str) (v : SV), look f.m x = some v → (isLoc f.sc x = true ∧ ∃ V, c.cur M x = some V ∧ RV ρ v V)
  nm : c.env.scope.names = f.sc
  ce : ∀ (x : Str) (k : Nat), look f.cm x = some k → ∃ a, c.env.cells.lookup x = some a ∧ ρ[k]? = some a
section
variable {Γ : Gm} {c : Cx} {R : List (Addr × Obj)} {f : Fi} {M M' : Str → Option Value} {z z' z'' : Zs} {g g' g'' : Sg} {ρ ρ' : List Addr} {nw : List (Addr × Obj)}
theorem Frm.mono (H : Frm c f M ρ) (h : Ext ρ ρ') : Frm c f M ρ' := ⟨fun x v e => by
    obtain ⟨l, V, a, r⟩ := H.rm x v e
    exact ⟨l, V, a, r.mono h⟩, H.nm, fun x k e => by
    obtain ⟨a, b, r⟩ := H.ce x k e
    exact ⟨a, b, h _ _ r⟩⟩
theorem Frm.put (H : Frm c f M ρ) (hc : c.cmp = none) {x : Str} {v : SV} {V : Value} (hx : isLoc f.sc x = true) (h : RV ρ v V) : Frm c (setM f x v) (fun y => if y = x then some V else M y) ρ := ⟨fun y u e => by
    have e' : look (putM f.m x v) y = some u := e
    rw [look_put] at e'
    unfold Cx.cur
    rw [hc]
    by_cases q : x = y
    · rw [if_pos q] at e'
      cases e'
      exact ⟨q ▸ hx, V, if_pos q.symm, h⟩
    · rw [if_neg q] at e'
      obtain ⟨l, U, a, b⟩ := H.rm y u e'
      unfold Cx.cur at a
      rw [hc] at a
      exact ⟨l, U, (if_neg fun z => q z.symm).trans a, b⟩, H.nm, H.ce⟩
theorem Ex.refl : Ex z g z g := ⟨Ext.refl, fun _ t h => ⟨t, h, Nat.le_refl _, fun _ => ⟨rfl, rfl⟩⟩, GRow.refl _, Nat.le_refl _, fun _ => rfl⟩
theorem Ex.trans (h : Ex z g z' g') (h' : Ex z' g' z'' g'') : Ex z g z'' g'' :=
  ⟨h.ext.trans h'.ext, fun k t e => by
    obtain ⟨t', e', l', s'⟩ := h.stp k t e
    obtain ⟨t'', e'', l'', s''⟩ := h'.stp k t' e'
    refine ⟨t'', e'', Nat.le_trans l' l'', fun q => ?_⟩
    have q1 : t' = t := Nat.le_antisymm (q ▸ l'') l'
    have q2 : t'' = t' := q.trans q1.symm
    obtain ⟨a, b⟩ := s' q1
    obtain ⟨c, d⟩ := s'' q2
    exact ⟨c.trans a, d.trans b⟩, h.gr.trans h'.gr, Nat.le_trans h.gq.1 h'.gq.1, fun q => by
    have q1 : g'.γ = g.γ := Nat.le_antisymm (q ▸ h'.gq.1) h.gq.1
    exact (h'.gq.2 (q.trans q1.symm)).trans (h.gq.2 q1)⟩
theorem Ex.same {h' : Heap} {tk : Nat} : Ex z g ⟨z.ρ, z.nw, h', tk, z.g⟩ g := ⟨Ext.refl, fun _ t h => ⟨t, h, Nat.le_refl _, fun _ => ⟨rfl, rfl⟩⟩, GRow.refl _, Nat.le_refl _, fun _ => rfl⟩
theorem Ex.to {h' : Heap} {tk : Nat} (e : Ex z g z' g') : Ex z g ⟨z'.ρ, z'.nw, h', tk, z'.g⟩ g' := e.trans Ex.same
theorem Led.get (H : Led Γ R g ρ nw) {k : Nat} {so : SO} {a : Addr} (h : g.σ[k]? = some so) (ha : ρ[k]? = some a) : ∃ o, nw[k]? = some (a, o) ∧ (a, o) ∈ nw ∧ RO Γ.prog Γ.w ρ so o := by
  have hk : k < nw.length := by rw [← H.len]; exact (List.getElem?_eq_some_iff.mp h).1
  have e : nw[k]? = some nw[k] := List.getElem?_eq_getElem hk
  have e1 : ρ[k]? = some nw[k].1 := by rw [← H.map, List.getElem?_map, e]; rfl
  rw [e1] at ha
  obtain rfl := Option.some.inj ha
  exact ⟨nw[k].2, e, List.getElem_mem hk, H.obj k so _ h e⟩
theorem map_set {l : List (Addr × Obj)} : ∀ {k : Nat} {a : Addr} {o o' : Obj}, l[k]? = some (a, o) → (l.set k (a, o')).map (·.1) = l.map (·.1) := by
  induction l with
  | nil => intro k a o o' h; cases h
  | cons p l ih =>
    intro k a o o' h
    cases k with
    | zero => cases h; rfl
    | succ k => rw [List.set_cons_succ, List.map_cons, List.map_cons, ih h]
theorem Led.set (H : Led Γ R g ρ nw) {k : Nat} {a : Addr} {o o' : Obj} {so : SO} (h : nw[k]? = some (a, o)) (r : RO Γ.prog Γ.w ρ so o') (lo : isD so = true → (a == sysModules) = false) : Led Γ R (setO g k so) ρ (nw.set k (a, o')) where
  map := (map_set h).trans H.map
  nd := H.nd
  lo := fun j so' b e1 e0 e2 => by
    have e1' : (g.σ.set k so)[j]? = some so' := e1
    by_cases hj : k = j
    · subst hj
      have hk : k < nw.length := (List.getElem?_eq_some_iff.mp h).1
      rw [List.getElem?_set_self (by rw [H.len]; exact hk)] at e1'
      have e3 : ρ[k]? = some a := by rw [← H.map, List.getElem?_map, h]; rfl
      rw [e3] at e2
      obtain rfl := Option.some.inj e2
      obtain rfl := Option.some.inj e1'
      exact lo e0
    · rw [List.getElem?_set_ne hj] at e1'
      exact H.lo j so' b e1' e0 e2
  len := by show (g.σ.set k so).length = _; rw [List.length_set, List.length_set]; exact H.len
  obj := fun j so' p e1 e2 => by
    have e1' : (g.σ.set k so)[j]? = some so' := e1
    by_cases hj : k = j
    · subst hj
      have hk : k < nw.length := (List.getElem?_eq_some_iff.mp h).1
      rw [List.getElem?_set_self (by rw [H.len]; exact hk)] at e1'
      rw [List.getElem?_set_self hk] at e2
      cases e1'
      cases e2
      exact r
    · rw [List.getElem?_set_ne hj] at e1' e2
      exact H.obj j so' p e1' e2
  sep := fun p hp q hq => by
    have : q.1 ∈ (nw.set k (a, o')).map (·.1) := List.mem_map_of_mem hq
    rw [map_set h] at this
    obtain ⟨q', hq', e⟩ := List.mem_map.mp this
    rw [← e]
    exact H.sep p hp q' hq'
  tl := by show (incr g.τ k).length = (g.σ.set k so).length; rw [incr_len, List.length_set, H.tl]
theorem Led.push (H : Led Γ R g ρ nw) {D : Addr} {o : Obj} {so : SO} (hD : ∀ p ∈ nw, p.1 ≠ D) (hR : ∀ p ∈ R, p.1 ≠ D) (lo : isD so = true → (D == sysModules) = false) (r : RO Γ.prog Γ.w (ρ ++ [D]) so o) : Led Γ R (mkO so g).2 (ρ ++ [D]) (nw ++ [(D, o)]) where
  map := by rw [List.map_append, H.map]; rfl
  nd := by
    refine List.nodup_append.mpr ⟨H.nd, List.nodup_cons.mpr ⟨List.not_mem_nil, List.nodup_nil⟩, fun a ha b hb e => ?_⟩
    rw [List.mem_singleton.mp hb] at e
    rw [← H.map] at ha
    obtain ⟨p, hp, rfl⟩ := List.mem_map.mp ha
    exact absurd e (hD p hp)
  lo := fun j so' a e1 e0 e2 => by
    have hl : ρ.length = nw.length := by rw [← H.map, List.length_map]
    have e1' : (g.σ ++ [so])[j]? = some so' := e1
    by_cases hj : j < nw.length
    · rw [List.getElem?_append_left (by rw [H.len]; exact hj)] at e1'
      rw [List.getElem?_append_left (by rw [hl]; exact hj)] at e2
      exact H.lo j so' a e1' e0 e2
    · have hj' := Nat.le_of_not_lt hj
      rw [List.getElem?_append_right (by rw [H.len]; exact hj'), H.len] at e1'
      rw [List.getElem?_append_right (by rw [hl]; exact hj'), hl] at e2
      generalize j - nw.length = i at e1' e2
      cases i with
      | zero => cases e1'; cases e2; exact lo e0
      | succ i => cases e1'
  len := by show (g.σ ++ [so]).length = _; rw [List.length_append, List.length_append, H.len]; rfl
  obj := fun j so' p e1 e2 => by
    have e1' : (g.σ ++ [so])[j]? = some so' := e1
    by_cases hj : j < nw.length
    · rw [List.getElem?_append_left hj] at e2
      rw [List.getElem?_append_left (by rw [H.len]; exact hj)] at e1'
      exact (H.obj j so' p e1' e2).mono Ext.snoc
    · have hj' := Nat.le_of_not_lt hj
      rw [List.getElem?_append_right hj'] at e2
      rw [List.getElem?_append_right (by rw [H.len]; exact hj'), H.len] at e1'
      generalize j - nw.length = i at e1' e2
      cases i with
      | zero => cases e1'; cases e2; exact r
      | succ i => cases e1'
  sep := fun p hp q hq => by
    rcases List.mem_append.mp hq with hq | hq
    · exact H.sep p hp q hq
    · rw [List.mem_singleton.mp hq]; exact hR p hp
  tl := by show (g.τ ++ [0]).length = (g.σ ++ [so]).length; rw [List.length_append, List.length_append, H.tl]; rfl
theorem Led.ne (H : Led Γ R g ρ nw) {i j : Nat} (hij : i ≠ j) {p q : Addr × Obj} (hp : nw[i]? = some p) (hq : nw[j]? = some q) : p.1 ≠ q.1 := by
  intro e
  have e1 : ρ[i]? = some p.1 := by rw [← H.map, List.getElem?_map, hp]; rfl
  have e2 : ρ[j]? = some q.1 := by rw [← H.map, List.getElem?_map, hq]; rfl
  have h1 := (List.getElem?_eq_some_iff.mp e1).2
  have h2 := (List.getElem?_eq_some_iff.mp e2).2
  exact hij ((List.getElem_inj H.nd).mp (h1.trans (e.trans h2.symm)))
end
theorem updF_set : ∀ {l : List (Addr × Obj)} {k : Nat} {a : Addr} {o : Obj} {rest : List (Addr × Obj)}, l[k]? = some (a, o) → (∀ j q, j ≠ k → l[j]? = some q → q.1 ≠ a) → (∀ p ∈ rest, p.1 ≠ a) → UpdF a o (l ++ rest) (fun o' => l.set k (a, o') ++ rest)
  | [], _, _, _, _, h, _, _ => by cases h
  | p :: l, 0, a, o, rest, h, h1, h2 => by
    cases h
    refine UpdF.head fun q hq => ?_
    rcases List.mem_append.mp hq with hq | hq
    · obtain ⟨j, hj⟩ := List.getElem?_of_mem hq
      exact h1 (j + 1) q (by omega) hj
    · exact h2 q hq
  | p :: l, k + 1, a, o, rest, h, h1, h2 => UpdF.tail (h1 0 p (by omega) rfl) (updF_set h (fun j q hj hq => h1 (j + 1) q (by omega) hq) h2)
section
variable {Γ : Gm} {c : Cx} {f : Fi} {M : Str → Option Value} {z : Zs} {g g1 g' : Sg} {h' : Heap} {D a : Addr} {o o' : Obj} {so : SO} {k tk : Nat} {s : Shared} {Q : Value → Shared → Prop} {u v : SV} {V : Value}
theorem Cor.same (H : Cor Γ c M g z) (F' : Fr c.h₀ c.L h' M) (N' : News c.h₀ c.L h' (z.nw ++ c.rest)) : Cor Γ c M g ⟨z.ρ, z.nw, h', tk, z.g⟩ := ⟨F', N', H.led⟩
theorem Cor.toks (H : Cor Γ c M g z) : Cor Γ c M g ⟨z.ρ, z.nw, z.h, tk, z.g⟩ := ⟨H.F, H.N, H.led⟩
theorem Led.new (H : Led Γ c.rest g z.ρ z.nw) (F' : Fr c.h₀ c.L h' M) (N' : News c.h₀ c.L h' ((D, o) :: (z.nw ++ c.rest))) (hD : ∀ p ∈ z.nw ++ c.rest, p.1 ≠ D) (lo : isD so = true → (D == sysModules) = false) (r : RO Γ.prog Γ.w (z.ρ ++ [D]) so o) :
    Cor Γ c M (mkO so g).2 ⟨z.ρ ++ [D], z.nw ++ [(D, o)], h', tk, z.g⟩ where
  F := F'
  N := fun p hp => N' p (by
    rcases List.mem_append.mp hp with hp | hp
    · rcases List.mem_append.mp hp with hp | hp
      · exact .tail _ (List.mem_append.mpr (.inl hp))
      · rw [List.mem_singleton.mp hp]; exact .head _
    · exact .tail _ (List.mem_append.mpr (.inr hp)))
  led := H.push (fun p hp => hD p (List.mem_append.mpr (.inl hp))) (fun p hp => hD p (List.mem_append.mpr (.inr hp))) lo r
theorem Cor.new (H : Cor Γ c M g z) (F' : Fr c.h₀ c.L h' M) (N' : News c.h₀ c.L h' ((D, o) :: (z.nw ++ c.rest))) (hD : ∀ p ∈ z.nw ++ c.rest, p.1 < D) (lo : isD so = true → (D == sysModules) = false) (r : RO Γ.prog Γ.w (z.ρ ++ [D]) so o) :
    Cor Γ c M (mkO so g).2 ⟨z.ρ ++ [D], z.nw ++ [(D, o)], h', tk, z.g⟩ := H.led.new F' N' (fun p hp => Nat.ne_of_lt (hD p hp)) lo r
theorem Cor.upd (H : Cor Γ c M g z) (hk : z.nw[k]? = some (a, o)) : UpdF a o (z.nw ++ c.rest) (fun o' => z.nw.set k (a, o') ++ c.rest) :=
  updF_set hk (fun _ _ hj hq => H.led.ne hj hq hk) fun p hp => H.led.sep p hp (a, o) (List.mem_of_getElem? hk)
theorem Cor.put (H : Cor Γ c M g z) (hk : z.nw[k]? = some (a, o)) (F' : Fr c.h₀ c.L h' M) (N' : News c.h₀ c.L h' (z.nw.set k (a, o') ++ c.rest)) (lo : isD so = true → (a == sysModules) = false) (r : RO Γ.prog Γ.w z.ρ so o') :
    Cor Γ c M (setO g k so) ⟨z.ρ, z.nw.set k (a, o'), h', tk, z.g⟩ := ⟨F', N', H.led.set hk r lo⟩
theorem Led.exNew {R : List (Addr × Obj)} (H : Led Γ R g z.ρ z.nw) : Ex z g ⟨z.ρ ++ [D], z.nw ++ [(D, o)], h', tk, z.g⟩ (mkO so g).2 :=
  ⟨Ext.snoc, fun j t e => by
    have hj : j < g.τ.length := (List.getElem?_eq_some_iff.mp e).1
    have hs : j < g.σ.length := by rw [← H.tl]; exact hj
    have hn : j < z.nw.length := by rw [← H.len]; exact hs
    exact ⟨t, (List.getElem?_append_left hj).trans e, Nat.le_refl _, fun _ => ⟨List.getElem?_append_left hs, List.getElem?_append_left hn⟩⟩, GRow.refl _, Nat.le_refl _, fun _ => rfl⟩
theorem exPut {p' : Addr × Obj} : Ex z g ⟨z.ρ, z.nw.set k p', h', tk, z.g⟩ (setO g k so) :=
  ⟨Ext.refl, fun j t e => by
    by_cases hj : j = k
    · subst hj
      exact ⟨t + 1, incr_self e, Nat.le_succ _, fun q => absurd q (Nat.succ_ne_self t)⟩
    · exact ⟨t, (incr_ne hj).trans e, Nat.le_refl _, fun _ => ⟨List.getElem?_set_ne fun z => hj z.symm, List.getElem?_set_ne fun z => hj z.symm⟩⟩, GRow.refl _, Nat.le_refl _, fun _ => rfl⟩
/-- an object of the reckoner's, in the ledger -/
theorem Cor.obj (H : Cor Γ c M g z) (hV : RV z.ρ (.obj k) V) (hs : g.σ[k]? = some so) : ∃ a o, V = .ref a ∧ z.ρ[k]? = some a ∧ z.nw[k]? = some (a, o) ∧ (a, o) ∈ z.nw ++ c.rest ∧ RO Γ.prog Γ.w z.ρ so o := by
  obtain ⟨a, ha, rfl⟩ := hV
  obtain ⟨o, h1, h2, h3⟩ := H.led.get hs ha
  exact ⟨a, o, rfl, ha, h1, List.mem_append.mpr (.inl h2), h3⟩
theorem Led.size {R : List (Addr × Obj)} (H : Led Γ R g z.ρ z.nw) : z.ρ.length = g.σ.length := by rw [← H.map, H.len, List.length_map]
theorem ref_new {R : List (Addr × Obj)} (H : Led Γ R g z.ρ z.nw) : RV (z.ρ ++ [D]) (.obj g.σ.length) (.ref D) := ⟨D, by rw [← H.size]; simp, rfl⟩
/-- what a value's reckoning must give -/
def Got (Γ : Gm) (c : Cx) (M : Str → Option Value) (g : Sg) (z : Zs) (s : Shared) (Q : Value → Shared → Prop) (v : SV) (g' : Sg) : Prop :=
  ∀ V z', Ex z g z' g' → RV z'.ρ v V → Cor Γ c M g' z' → Q V (z'.sh s)
theorem Got.of (G : Got Γ c M g z s Q v g') (h : some (u, g1) = some (v, g')) : Got Γ c M g z s Q u g1 := by cases h; exact G
theorem Got.of' (G : Got Γ c M g z s Q v g') (h : (u, g1) = (v, g')) : Got Γ c M g z s Q u g1 := by cases h; exact G
theorem Got.after {z1 : Zs} (G : Got Γ c M g z s Q v g') (e : Ex z g z1 g1) : Got Γ c M g1 z1 s Q v g' := fun V z' e' hv hn => G V z' (e.trans e') hv hn
theorem Got.now (G : Got Γ c M g z s Q v g) (hV : RV z.ρ v V) (H : Cor Γ c M g z) : Q V { z.sh s with toks := tk } := G V ⟨z.ρ, z.nw, z.h, tk, z.g⟩ Ex.same hV H.toks
/-- a new object comes back -/
theorem Got.new (G : Got Γ c M g z s Q (mkO so g).1 (mkO so g).2) (H : Cor Γ c M g z) (F' : Fr c.h₀ c.L h' M) (N' : News c.h₀ c.L h' ((D, o) :: (z.nw ++ c.rest))) (hD : ∀ p ∈ z.nw ++ c.rest, p.1 < D) (lo : isD so = true → (D == sysModules) = false) (r : RO Γ.prog Γ.w (z.ρ ++ [D]) so o) :
    Q (.ref D) { z.sh s with heap := h', toks := tk } := G _ ⟨_, _, _, tk, _⟩ H.led.exNew (ref_new H.led) (H.new F' N' hD lo r)
/-- an object is put in another's place -/
theorem Got.put (G : Got Γ c M g z s Q v (setO g k so)) (H : Cor Γ c M g z) (hv : RV z.ρ v V) (hk : z.nw[k]? = some (a, o)) (F' : Fr c.h₀ c.L h' M) (N' : News c.h₀ c.L h' (z.nw.set k (a, o') ++ c.rest)) (lo : isD so = true → (a == sysModules) = false) (r : RO Γ.prog Γ.w z.ρ so o') :
    Q V { z.sh s with heap := h', toks := tk } := G _ ⟨_, _, _, tk, _⟩ exPut hv (H.put hk F' N' lo r)
/-- nothing new but the heap's look -/
theorem Got.same (G : Got Γ c M g z s Q v g) (H : Cor Γ c M g z) (hv : RV z.ρ v V) (F' : Fr c.h₀ c.L h' M) (N' : News c.h₀ c.L h' (z.nw ++ c.rest)) : Q V { z.sh s with heap := h', toks := tk } := G _ ⟨_, _, _, tk, _⟩ Ex.same hv (H.same F' N')
end
theorem small_le {n : Nat} (h : small n = true) : n ≤ 100000 := Nat.le_of_ble_eq_true h
theorem natS_eq : ∀ {i : Int} {n : Nat}, natS i = some n → i = (n : Int)
  | .ofNat _, _, h => by cases h; rfl
  | .negSucc _, _, h => by cases h
theorem bind_some {α β : Type} {x : Option α} {f : α → Option β} {y : β} (h : x.bind f = some y) : ∃ a, x = some a ∧ f a = some y := Option.bind_eq_some_iff.mp h
theorem guard_some {α : Type} {b : Bool} {x : Option α} {y : α} (h : guardS b x = some y) : b = true ∧ x = some y := by
  cases b with
  | true => exact ⟨rfl, h⟩
  | false => cases h
theorem bind_elim {α β : Type} {x : Option α} {f : α → Option β} {y : β} {P : Prop} (h : x.bind f = some y) (k : ∀ a, x = some a → f a = some y → P) : P :=
  have ⟨a, h1, h2⟩ := bind_some h
  k a h1 h2
theorem bind_elim2 {α γ β : Type} {x : Option (α × γ)} {f : α → γ → Option β} {y : β} {P : Prop} (h : bind2 x f = some y) (k : ∀ a b, x = some (a, b) → f a b = some y → P) : P := by
  cases x with
  | none => cases h
  | some p => exact k p.1 p.2 rfl h
theorem map_elim {α β : Type} {x : Option α} {f : α → β} {y : β} {P : Prop} (h : x.map f = some y) (k : ∀ a, x = some a → f a = y → P) : P :=
  have ⟨a, h1, h2⟩ := Option.map_eq_some_iff.mp h
  k a h1 h2
theorem map_elim2 {α γ β : Type} {x : Option (α × γ)} {f : α × γ → β} {y : β} {P : Prop} (h : x.map f = some y) (k : ∀ a b, x = some (a, b) → f (a, b) = y → P) : P :=
  have ⟨a, h1, h2⟩ := Option.map_eq_some_iff.mp h
  k a.1 a.2 h1 h2
theorem guard_elim {α : Type} {b : Bool} {x : Option α} {y : α} {P : Prop} (h : guardS b x = some y) (k : b = true → x = some y → P) : P := k (guard_some h).1 (guard_some h).2
theorem and_elim {a b : Bool} {P : Prop} (h : (a && b) = true) (k : a = true → b = true → P) : P := k (Bool.and_eq_true_iff.mp h).1 (Bool.and_eq_true_iff.mp h).2
theorem map_some {α β : Type} {x : Option α} {f : α → β} {y : β} (h : x.map f = some y) : ∃ a, x = some a ∧ f a = y := Option.map_eq_some_iff.mp h
theorem asV_eq : ∀ {r : Option (Out × Sg)} {p : SV × Sg}, asV r = some p → r = some (.v p.1, p.2)
  | some (.v _, _), _, h => by cases h; rfl
  | some (.vs _, _), _, h | some (.b _, _), _, h | some (.f _, _), _, h | none, _, h => by cases h
theorem asVs_eq : ∀ {r : Option (Out × Sg)} {p : List SV × Sg}, asVs r = some p → r = some (.vs p.1, p.2)
  | some (.vs _, _), _, h => by cases h; rfl
  | some (.v _, _), _, h | some (.b _, _), _, h | some (.f _, _), _, h | none, _, h => by cases h
theorem asB_eq : ∀ {r : Option (Out × Sg)} {p : Bool × Sg}, asB r = some p → r = some (.b p.1, p.2)
  | some (.b _, _), _, h => by cases h; rfl
  | some (.v _, _), _, h | some (.vs _, _), _, h | some (.f _, _), _, h | none, _, h => by cases h
theorem asF_eq : ∀ {r : Option (Out × Sg)} {p : (Fl × Fi) × Sg}, asF r = some p → r = some (.f p.1, p.2)
  | some (.f _, _), _, h => by cases h; rfl
  | some (.v _, _), _, h | some (.vs _, _), _, h | some (.b _, _), _, h | none, _, h => by cases h
theorem vI_eq {v : SV} {i : Int} : vI v = some i → v = .int i := by cases v <;> intro h <;> cases h <;> rfl
theorem vB_eq {v : SV} {l : List Int} : vB v = some l → v = .bytes l := by cases v <;> intro h <;> cases h <;> rfl
theorem vS_eq {v : SV} {x : Str} : vS v = some x → v = .str x := by cases v <;> intro h <;> cases h <;> rfl
theorem vV_eq {v : SV} {x : Value} : vV v = some x → v = .val x := by cases v <;> intro h <;> cases h <;> rfl
theorem vR_eq {v : Value} {a : Addr} : vR v = some a → v = .ref a := by cases v <;> intro h <;> cases h <;> rfl
theorem soL_eq {o : SO} {l : List SV} : soL o = some l → o = .list l := by cases o <;> intro h <;> cases h <;> rfl
theorem soT_eq {o : SO} {l : List SV} : soT o = some l → o = .tup l := by cases o <;> intro h <;> cases h <;> rfl
theorem soD_eq {o : SO} {l : List (Int × SV)} : soD o = some l → o = .dict l := by cases o <;> intro h <;> cases h <;> rfl
theorem soI_eq {o : SO} {q : Addr × Nat} : soI o = some q → o = .inst q.1 q.2 := by cases o <;> intro h <;> cases h <;> rfl
theorem soA_eq {o : SO} {l : List (Str × SV)} : soA o = some l → o = .att l := by cases o <;> intro h <;> cases h <;> rfl
theorem soV_eq {o : SO} {d : Nat} : soV o = some d → o = .vals d := by cases o <;> intro h <;> cases h <;> rfl
theorem soS_eq : ∀ {o : SO} {l : List (Str × SV)}, soS o = some l → o = .sdict l ∨ (o = .dict [] ∧ l = [])
  | .sdict _, _, h => by cases h; exact .inl rfl
  | .dict [], _, h => by cases h; exact .inr ⟨rfl, rfl⟩
  | .dict (_ :: _), _, h => by cases h
  | .list _, _, h | .tup _, _, h | .vals _, _, h | .inst _ _, _, h | .att _, _, h | .cell _, _, h => by cases h
theorem soC_eq : ∀ {o : SO} {v : SV}, soC o = some v → o = .cell (some v)
  | .cell _, _, h => congrArg SO.cell h
  | .list _, _, h | .tup _, _, h | .vals _, _, h | .inst _ _, _, h | .att _, _, h | .dict _, _, h | .sdict _, _, h => by cases h
theorem one_eq {α : Type} {l : List α} {x : α} : one l = some x → l = [x] := by
  cases l with
  | nil => intro h; cases h
  | cons y r => cases r <;> intro h <;> cases h <;> rfl
theorem two_eq {α : Type} {l : List α} {x : α × α} (h : two l = some x) : l = [x.1, x.2] := by
  cases l with
  | nil => cases h
  | cons y r =>
    obtain ⟨z, h1, rfl⟩ := map_some (show (one r).map (fun z => (y, z)) = some x from h)
    rw [one_eq h1]
theorem three_eq {α : Type} {l : List α} {x : α × α × α} (h : three l = some x) : l = [x.1, x.2.1, x.2.2] := by
  cases l with
  | nil => cases h
  | cons y r =>
    obtain ⟨z, h1, rfl⟩ := map_some (show (two r).map (fun z => (y, z)) = some x from h)
    rw [two_eq h1]
theorem oO_eq {σ : List SO} {v : SV} {k : Nat} {o : SO} (h : oO σ v = some (k, o)) : v = .obj k ∧ σ[k]? = some o := by
  cases v with
  | obj j => obtain ⟨so, h1, h2⟩ := map_some (show (nthS σ j).map (fun so => (j, so)) = some (k, o) from h); cases h2; exact ⟨rfl, (nthS_eq _ _).symm.trans h1⟩
  | _ => cases h
theorem oX_eq {α : Type} {f : SO → Option α} {g : α → SO} (hf : ∀ o l, f o = some l → o = g l) {σ : List SO} {v : SV} {k : Nat} {l : α} (h : ((oO σ v).bind fun p => (f p.2).map fun l => (p.1, l)) = some (k, l)) : v = .obj k ∧ σ[k]? = some (g l) := by
  obtain ⟨q, h1, h2⟩ := bind_some h
  obtain ⟨l', h3, h4⟩ := map_some h2
  cases h4
  obtain ⟨e1, e2⟩ := oO_eq h1
  rw [hf _ _ h3] at e2
  exact ⟨e1, e2⟩
theorem oP_eq {σ : List SO} {v : SV} {p : Int × Int} (h : oP σ v = some p) : ∃ k, v = .obj k ∧ σ[k]? = some (.tup [.int p.1, .int p.2]) := by
  refine bind_elim2 h fun k l h1 h => ?_
  refine bind_elim2 h fun a b h3 h => ?_
  refine bind_elim h fun x h5 h => ?_
  refine map_elim h fun y h7 h => ?_
  obtain ⟨e1, e2⟩ := oX_eq (f := soT) (fun _ _ => soT_eq) h1
  rw [show l = [a, b] from two_eq h3, vI_eq h5, vI_eq h7] at e2
  subst h
  exact ⟨_, e1, e2⟩
section
variable {Γ : Gm} {c : Cx} {f : Fi} {M : Str → Option Value} {z : Zs} {g : Sg} {a : SV} {V : Value}
theorem Cor.ob (H : Cor Γ c M g z) (hV : RV z.ρ a V) {k : Nat} {so : SO} (e : a = .obj k ∧ g.σ[k]? = some so) : ∃ D o, V = .ref D ∧ z.ρ[k]? = some D ∧ z.nw[k]? = some (D, o) ∧ (D, o) ∈ z.nw ++ c.rest ∧ RO Γ.prog Γ.w z.ρ so o := H.obj (e.1 ▸ hV) e.2
theorem Cor.list (H : Cor Γ c M g z) (hV : RV z.ρ a V) {k : Nat} {l : List SV} (e : oL g.σ a = some (k, l)) : ∃ D vs n, V = .ref D ∧ z.nw[k]? = some (D, listOf (List.toArray vs) n) ∧ (D, listOf (List.toArray vs) n) ∈ z.nw ++ c.rest ∧ RVs z.ρ l vs ∧ vs.length = l.length := by
  obtain ⟨D, o, e1, e2, e3, e4, vs, n, rfl, r⟩ := H.ob hV (oX_eq (f := soL) (fun _ _ => soL_eq) e)
  exact ⟨D, vs, n, e1, e3, e4, r, r.length⟩
theorem Cor.tup (H : Cor Γ c M g z) (hV : RV z.ρ a V) {k : Nat} {l : List SV} (e : oT g.σ a = some (k, l)) : ∃ D vs n, V = .ref D ∧ (D, ({ cls := .type "tuple", data := .seq (List.toArray vs) n } : Obj)) ∈ z.nw ++ c.rest ∧ RVs z.ρ l vs := by
  obtain ⟨D, o, e1, e2, e3, e4, vs, n, rfl, r⟩ := H.ob hV (oX_eq (f := soT) (fun _ _ => soT_eq) e)
  exact ⟨D, vs, n, e1, e4, r⟩
theorem Cor.dict (H : Cor Γ c M g z) (hV : RV z.ρ a V) {k : Nat} {l : List (Int × SV)} (e : oD g.σ a = some (k, l)) : ∃ D o kvs, V = .ref D ∧ z.ρ[k]? = some D ∧ z.nw[k]? = some (D, o) ∧ (D, o) ∈ z.nw ++ c.rest ∧ o.IsDictOf (PySem.intKind Γ.prog Γ.w) kvs ∧ RKs z.ρ l kvs ∧ (D == sysModules) = false := by
  have e' := oX_eq (f := soD) (fun _ _ => soD_eq) e
  obtain ⟨D, o, e1, e2, e3, e4, kvs, hd, r⟩ := H.ob hV e'
  exact ⟨D, o, kvs, e1, e2, e3, e4, hd, r, H.led.lo _ _ D e'.2 rfl e2⟩
end
theorem isDict_nil {prog : Program} {w : World} {o : Obj} (h : o.IsDictOf (PySem.intKind prog w) []) : o.IsDictOf (PySem.strKind prog w) [] := by
  obtain ⟨es, ep, h1, h2, h3, h4, h5⟩ := h
  obtain ⟨l⟩ := es
  cases l with
  | nil => exact ⟨_, ep, h1, h2, fun e he => (by simp at he), .nil, List.nodup_nil⟩
  | cons e r => cases h4
theorem RO.sdict {prog : Program} {w : World} {ρ : List Addr} {so : SO} {o : Obj} {l : List (Str × SV)} (h : soS so = some l) (r : RO prog w ρ so o) : ∃ kvs, o.IsDictOf (PySem.strKind prog w) kvs ∧ RKs ρ l kvs := by
  rcases soS_eq h with rfl | ⟨rfl, rfl⟩
  · exact r
  · obtain ⟨kvs, hd, r⟩ := r
    cases r
    exact ⟨[], isDict_nil hd, .nil⟩
theorem soS_isD {so : SO} {l : List (Str × SV)} (h : soS so = some l) : isD so = true := by
  rcases soS_eq h with rfl | ⟨rfl, rfl⟩ <;> rfl
/-- where a def is called -/
structure Orx (Γ : Gm) (kf : Nat) (c : Cx) : Prop where
  hand : c.A.handled = Option.none
  stk : ∃ outer A₀ base, c.A.frames = some (c.fenv :: outer) ∧ Below A₀ base outer c.h₀
  fr : c.fenv.frame = some c.L
  fk : c.fenv.scope.kind = .function
  dep : c.A.depth + 2 * kf < recursionLimit
  uni : c.A.units + 5 * kf < cLine
  X : Γ.K.In c.h₀
  T : Top Γ.p Γ.loose Γ.mean Γ.mg Γ.mb c.h₀
  gd : ∀ a, memA a Γ.gd = true → (∃ es n, Γ.K.lookup a = some ⟨.type "dict", none, .dict es n, #[]⟩ ∧ KeysLit Γ.w.params es.toList) ∧ (a == sysModules) = false
structure RCx (Γ : Gm) (kf : Nat) (c : Cx) : Prop extends Orx Γ kf c where
  k : c.env.scope.kind = .function
  gl : c.env.globals = mainGlobals
  bl : c.env.builtins = builtinsNs
  fn : c.cmp = none → c.env.locals = c.L
  cp : ∀ N, c.cmp = some N → ∃ o, (c.env.locals, o) ∈ c.rest ∧ LCg.NsObj o N
section
variable {Γ : Gm} {kf : Nat} {c : Cx} {f : Fi} {M : Str → Option Value} {z : Zs} {g : Sg} {s : Shared} {Q : Value → Shared → Prop} {v : SV}
theorem Orx.units (C : Orx Γ kf c) : c.A.units < cLine := Nat.lt_of_le_of_lt (Nat.le_add_right _ _) C.uni
theorem Orx.lower (C : Orx Γ (kf + 1) c) : Orx Γ kf c := ⟨C.hand, C.stk, C.fr, C.fk, by have := C.dep; omega, by have := C.uni; omega, C.X, C.T, C.gd⟩
theorem bltT_eq : ∀ p ∈ bltT, bootBuiltins p.1 = some p.2 ∧ p.1 ≠ "__name__" := by
  unfold bltT
  simp only [List.forall_mem_cons]
  exact ⟨⟨by boot_fast, by decide⟩, ⟨by boot_fast, by decide⟩, ⟨by boot_fast, by decide⟩, ⟨by boot_fast, by decide⟩, ⟨by boot_fast, by decide⟩, ⟨by boot_fast, by decide⟩, ⟨by boot_fast, by decide⟩, ⟨by boot_fast, by decide⟩, fun _ h => (nomatch h)⟩
theorem ofVal_eq {ρ : List Addr} {v : Value} {u : SV} (h : ofVal v = some u) : RV ρ u v := by
  cases v <;> cases h
  · exact ⟨_, rfl⟩
  · exact ⟨_, rfl⟩
  · exact ⟨_, _, rfl, rfl⟩
  · exact rfl
theorem notDbg_eq {x : Str} (h : notDbg x = true) : (x == ("__debug__" : Str)) = false := by
  unfold notDbg at h
  simpa using h
theorem isLoc_eq {sc : List (Str × NameKind)} {x : Str} (h : isLoc sc x = true) : sc.lookup x = some .local ∧ (x == ("__debug__" : Str)) = false := by
  unfold isLoc at h
  rw [look_lookup] at h
  cases e : sc.lookup x with
  | none => rw [e] at h; cases h
  | some k =>
    rw [e] at h
    cases k with
    | «local» => exact ⟨rfl, notDbg_eq h⟩
    | _ => cases h
theorem Frm.kind {ρ : List Addr} (H : Frm c f M ρ) (x : Str) : c.env.kindOf x = f.sc.lookup x := by
  show c.env.scope.names.lookup x = _
  rw [H.nm]
theorem Cor.ns (H : Cor Γ c M g z) (C : RCx Γ kf c) : z.h.Ns c.env.locals (c.cur M) := by
  unfold Cx.cur
  cases e : c.cmp with
  | none => rw [C.fn e]; exact H.F.ns
  | some N =>
    obtain ⟨o, ho, hn⟩ := C.cp N e
    exact hn.ns (H.N _ (List.mem_append.mpr (.inr ho))).1
theorem cell_at (H : Cor Γ c M g z) (fr : Frm c f M z.ρ) {x : Str} (h : cellS f g x = some v) : ∃ a o V, c.env.cells.lookup x = some a ∧ (a, o) ∈ z.nw ++ c.rest ∧ o.data = .cell (some V) ∧ RV z.ρ v V := by
  refine bind_elim h fun k h1 h => ?_
  refine bind_elim h fun so h2 h => ?_
  obtain rfl := soC_eq h
  obtain ⟨a, h3, h4⟩ := fr.ce x k h1
  obtain ⟨a', o, e, h5, h6, h7, V, hd, W, rfl, hr⟩ := H.obj (V := .ref a) ⟨a, h4, rfl⟩ h2
  cases e
  exact ⟨a, o, W, h3, h7, hd, hr⟩
theorem name_ok {x : Str} {pos : Pos} (h : nameS Γ.K f g x = some v) (C : RCx Γ kf c) (fr : Frm c f M z.ρ) (H : Cor Γ c M g z) (G : ∀ V, RV z.ρ v V → Q V (z.sh s)) :
    wpAny (model Γ.prog Γ.w) c.A (eval (.Name x pos) c.env) Q c.E (z.sh s) := by
  have hkx := fr.kind x
  unfold nameS at h
  cases hm : look f.m x with
  | some u =>
    rw [hm] at h
    cases h
    obtain ⟨hl, V, hV, hr⟩ := fr.rm x _ hm
    exact wpAny_Name (wpAny_loadName_local C.k (hkx.trans (isLoc_eq hl).1) (H.ns C) hV (G V hr)) (isLoc_eq hl).2
  | none =>
    rw [hm] at h
    cases hd : notDbg x with
    | false => rw [hd] at h; cases h
    | true =>
      have hd' := notDbg_eq hd
      rw [hd] at h
      cases hk : look f.sc x with
      | none => rw [hk] at h; cases h
      | some nk =>
        rw [hk] at h
        rw [look_lookup] at hk
        rw [hk] at hkx
        cases nk with
        | cell =>
          obtain ⟨a, o, V, h1, h2, h3, hr⟩ := cell_at H fr h
          exact wpAny_Name (wpAny_loadName_cell C.k hkx h1 ⟨o, (H.N _ h2).1, h3⟩ (G V hr)) hd'
        | free =>
          refine guard_elim h fun hn h => ?_
          obtain ⟨a, o, V, h1, h2, h3, hr⟩ := cell_at H fr h
          exact wpAny_Name (wpAny_loadName_free C.k hkx h1 ⟨o, (H.N _ h2).1, h3⟩ (G V hr) (by simpa using hn)) hd'
        | globalImplicit =>
          have h' : (match nsIn Γ.K mainGlobals x with | some (some v) => ofVal v | some none => (look bltT x).map SV.val | none => none) = some v := h
          have T := topRead_of C.T
          have hg : z.h.Ns c.env.globals Γ.mg := C.gl ▸ T.g.keeps H.F.keep
          cases e : nsIn Γ.K mainGlobals x with
          | none => rw [e] at h'; cases h'
          | some r =>
            rw [e] at h'
            cases r with
            | some gv => exact Name_function_global C.k hkx (loadGlobal_global hg (mg_of C.X T.g e) (G gv (ofVal_eq h'))) hd'
            | none =>
              refine map_elim h' fun b hb hrfl => ?_
              subst hrfl
              obtain ⟨h1, h2⟩ := bltT_eq _ (look_mem hb)
              exact Name_function_global C.k hkx (loadGlobal_builtin hg (mg_none_of C.X T.g e) (show z.h.Ns c.env.builtins Γ.mb from C.bl ▸ T.b.keeps H.F.keep) ((T.builtins x h2).trans h1) (G b rfl)) hd'
        | _ => cases h
end
theorem UpdF.upd {d : Addr} {o : Obj} : ∀ {l : List (Addr × Obj)} {g : Obj → List (Addr × Obj)}, UpdF d o l g → ∀ o', Upd d o o' l (g o')
  | _, _, .head h => fun _ => .head h
  | _, _, .tail h r => fun o' => .tail h (UpdF.upd r o')
theorem sub_hs {i : Expr} (h : plainIx i = true) (o k : Value) : subscripted i false o k = operate [o, k] (getItem o k) := by
  cases i <;> first | rfl | cases h
/-- a test of equality -/
def QOk {α : Type} (q : α → α → Bool) : Prop := ∀ a b : α, q a b = true ↔ a = b
theorem iq_ok : QOk iq := fun _ _ => decide_eq_true_iff
theorem sq_ok : QOk sq := fun _ _ => sq_eq
section
variable {α : Type} [DecidableEq α] {q : α → α → Bool} (hq : QOk q) {ρ : List Addr} {n : α}
include hq
theorem q_no {a b : α} (h : q a b = false) : a ≠ b := fun e => by rw [(hq a b).mpr e] at h; cases h
theorem RKs.look {l : List (α × SV)} {kvs : List (α × Value)} (r : RKs ρ l kvs) : (∀ {v : SV}, lookK q l n = some v → ∃ W, valueAt kvs n = some W ∧ RV ρ v W) ∧ (lookK q l n).isSome = (valueAt kvs n).isSome := by
  induction r with
  | nil => exact ⟨fun h => (by cases h), rfl⟩
  | @cons k u V l L a _ ih =>
    have e0 : lookK q ((k, u) :: l) n = match q k n with | true => some u | false => lookK q l n := rfl
    unfold valueAt at ih ⊢
    cases h : q k n with
    | true =>
      rw [e0, h]
      have e := (hq k n).mp h
      exact ⟨fun h' => (by cases h'; exact ⟨V, by simp [e], a⟩), by simp [e]⟩
    | false =>
      rw [e0, h, List.find?_cons_of_neg (by simpa using q_no hq h)]
      exact ih
theorem RKs.any {l : List (α × SV)} {kvs : List (α × Value)} (r : RKs ρ l kvs) : kvs.any (fun kv => decide (kv.1 = n)) = anyK q l n := by
  induction r with
  | nil => rfl
  | @cons k u V l L a _ ih =>
    show (decide (k = n) || L.any (fun kv => decide (kv.1 = n))) = match q k n with | true => true | false => anyK q l n
    rw [ih]
    cases h : q k n with
    | true => rw [decide_eq_true ((hq k n).mp h)]; rfl
    | false => rw [decide_eq_false (q_no hq h)]; rfl
theorem RKs.map {v : SV} {V : Value} (hv : RV ρ v V) {l : List (α × SV)} {kvs : List (α × Value)} (r : RKs ρ l kvs) : RKs ρ (mapK q l n v) (kvs.map fun kv => if kv.1 = n then (kv.1, V) else kv) := by
  induction r with
  | nil => exact .nil
  | @cons k u U l L a _ ih =>
    show RKs ρ (match q k n with | true => (k, v) :: mapK q l n v | false => (k, u) :: mapK q l n v) ((if k = n then (k, V) else (k, U)) :: L.map fun kv => if kv.1 = n then (kv.1, V) else kv)
    cases h : q k n with
    | true => rw [if_pos ((hq k n).mp h)]; exact .cons hv ih
    | false => rw [if_neg (q_no hq h)]; exact .cons a ih
omit hq [DecidableEq α] in
theorem RKs.append {l l' : List (α × SV)} {L L' : List (α × Value)} (r : RKs ρ l L) (r' : RKs ρ l' L') : RKs ρ (l ++ l') (L ++ L') := by
  induction r with
  | nil => exact r'
  | cons a _ ih => exact .cons a ih
omit hq [DecidableEq α] in
theorem RKs.length {l : List (α × SV)} {L : List (α × Value)} (r : RKs ρ l L) : L.length = l.length := by
  induction r with
  | nil => rfl
  | cons _ _ ih => rw [List.length_cons, List.length_cons, ih]
theorem RKs.stor {v : SV} {V : Value} (hv : RV ρ v V) {l : List (α × SV)} {kvs : List (α × Value)} (r : RKs ρ l kvs) : RKs ρ (storD q l n v) (stored kvs n V) := by
  unfold storD stored
  have e := r.any hq (n := n)
  cases h : anyK q l n with
  | true =>
    rw [h] at e
    rw [if_pos e]
    exact r.map hq hv
  | false =>
    rw [h] at e
    rw [if_neg (by rw [e]; exact Bool.false_ne_true)]
    exact r.append (.cons hv .nil)
end
theorem repl_arr (V : Value) : ∀ (n : Nat) (a : List Value), List.foldl (fun x1 x2 : Array Value => x1 ++ x2) a.toArray (List.replicate n #[V]) = (a ++ List.replicate n V).toArray
  | 0, a => by simp
  | n + 1, a => by
    rw [List.replicate_succ, List.foldl_cons]
    have : a.toArray ++ #[V] = (a ++ [V]).toArray := by simp
    rw [this, repl_arr V n (a ++ [V]), List.replicate_succ, List.append_assoc]
    rfl
theorem RVs.repl {ρ : List Addr} {v : SV} {V : Value} (h : RV ρ v V) : ∀ n : Nat, RVs ρ (List.replicate n v) (List.replicate n V)
  | 0 => .nil
  | n + 1 => .cons h (RVs.repl h n)
theorem seqIx_nat {j n : Nat} (h : j < n) : seqIndex? (j : Int) n = some j := by
  unfold seqIndex?
  have h0 : ¬ ((j : Int) < 0) := by omega
  simp [h0, h]
theorem gIn_eq {K : Frag} {gd : List Addr} {v : Value} {x : Str} {r : Option Value} (h : gIn K gd v x = some r) : ∃ a, v = .ref a ∧ memA a gd = true ∧ nsIn K a x = some r := by
  refine bind_elim h fun a h1 h => ?_
  obtain ⟨h2, h3⟩ := guard_some h
  exact ⟨a, vR_eq h1, h2, h3⟩
theorem isTy_eq {T : String} {v : Value} (h : isTy T v = true) : v = .type T := by
  cases v with
  | type S => rw [of_decide_eq_true (show decide (S = T) = true from h)]
  | _ => cases h
theorem gL_eq {K : Frag} {v : Value} {l : List Value} (h : gL K (.val v) = some l) : ∃ a dd n sl, v = .ref a ∧ K.lookup a = some ⟨.type "list", dd, .seq l.toArray n, sl⟩ := by
  cases v with
  | ref a =>
    refine bind_elim (show (K.lookup a).bind gList = some l from h) fun o h1 h => ?_
    refine guard_elim h fun h2 h => ?_
    refine map_elim h fun arr h3 hrfl => ?_
    subst hrfl
    obtain ⟨cl, dd, da, sl⟩ := o
    have h2' := isTy_eq h2
    have h2'' : cl = .type "list" := h2'
    subst h2''
    cases da with
    | seq a' n => cases h3; exact ⟨a, dd, n, sl, rfl, h1⟩
    | _ => cases h3
  | _ => cases h
theorem sq_beq {x y : Str} : sq x y = (x == y) := by
  cases h : sq x y with
  | true => rw [sq_eq.mp h]; simp
  | false => exact (beq_eq_false_iff_ne.mpr fun e => by rw [sq_eq.mpr e] at h; cases h).symm
theorem anyQ_eq {x : Str} : ∀ {l : List Str}, anyQ x l = l.any (· == x)
  | [] => rfl
  | y :: r => by
    show (match sq y x with | true => true | false => anyQ x r) = ((y == x) || r.any (· == x))
    rw [← sq_beq, ← anyQ_eq (l := r)]
    cases sq y x <;> rfl
theorem mapS_cons {α β : Type} {f : α → Option β} {v : α} {r : List α} {ks : List β} (h : mapS f (v :: r) = some ks) : ∃ k l, f v = some k ∧ mapS f r = some l ∧ ks = k :: l := by
  refine bind_elim (show (f v).bind (fun k => (mapS f r).map fun ks => k :: ks) = some ks from h) fun k h1 h2 => ?_
  refine map_elim h2 fun l h3 h4 => ?_
  exact ⟨k, l, h1, h3, h4.symm⟩
theorem mapS_len {α β : Type} {f : α → Option β} : ∀ {l : List α} {ks : List β}, mapS f l = some ks → ks.length = l.length
  | [], _, h => by cases h; rfl
  | v :: r, ks, h => by
    obtain ⟨k, l, h1, h2, rfl⟩ := mapS_cons h
    rw [List.length_cons, List.length_cons, mapS_len h2]
theorem mapS_get {α β : Type} {f : α → Option β} : ∀ {l : List α} {ks : List β}, mapS f l = some ks → ∀ {i : Nat} {v : α} {k : β}, l[i]? = some v → ks[i]? = some k → f v = some k
  | [], _, h, _, _, _, hv, _ => by cases hv
  | v :: r, ks, h, i, u, k, hv, hk => by
    obtain ⟨k', l, h1, h2, rfl⟩ := mapS_cons h
    cases i with
    | zero => cases hv; cases hk; exact h1
    | succ i => exact mapS_get h2 hv hk
theorem strs_are {ρ : List Addr} {l : List SV} {vs : List Value} (r : RVs ρ l vs) : ∀ {ys : List Str}, mapS vS l = some ys → StrsAre vs ys := by
  induction r with
  | nil => intro ys h; cases h; exact .nil
  | cons hv _ ih =>
    intro ys h
    obtain ⟨k, ks, h1, h2, rfl⟩ := mapS_cons h
    obtain rfl := vS_eq h1
    obtain ⟨t, rfl⟩ := hv
    exact .cons _ _ (ih h2)
section
variable {Γ : Gm} {kf : Nat} {c : Cx} {M : Str → Option Value} {z : Zs} {g g' : Sg} {s : Shared} {v a b : SV} {V U : Value}
theorem item_ok {Q : Value → Shared → Prop} {x : Expr} {i : Expr} (hp : plainIx i = true) (ht : ∀ o r, letTemporaryGo x o r = pure ()) (h0 : itemS Γ.K Γ.gd a b g.σ = some v) (C : Orx Γ kf c) (H : Cor Γ c M g z) (ha : RV z.ρ a V) (hb : RV z.ρ b U) (G : ∀ W tk, RV z.ρ v W → Q W { z.sh s with toks := tk }) :
    wpAny (model Γ.prog Γ.w) c.A (subscriptTail x i V U) Q c.E (z.sh s) := by
  cases b with
  | int n =>
    obtain ⟨t, rfl⟩ := hb
    cases a with
    | bytes l =>
      refine bind_elim h0 fun j hj h => ?_
      obtain rfl := natS_eq hj
      refine guard_elim h fun hz h => ?_
      refine map_elim h fun y hy hrfl => ?_
      subst hrfl
      obtain ⟨b, tb, rfl, hb⟩ := ha
      rw [nthS_eq] at hy
      have hlt := (List.getElem?_eq_some_iff.mp hy).1
      have hg : l.getD ((j : Nat) : Int).toNat 0 = y := by rw [Int.toNat_natCast, List.getD_eq_getElem?_getD, hy]; rfl
      have hz' := small_le hz
      refine KBw.item_K hb (by omega) (by omega) (by omega) (fun t' k _ _ => ?_) (sub_hs hp _ _) (ht _)
      rw [hg]
      exact G _ _ ⟨_, rfl⟩
    | val u =>
      refine bind_elim h0 fun l hl h1 => ?_
      refine bind_elim h1 fun j hj h2 => ?_
      refine guard_elim h2 fun hz h3 => ?_
      refine bind_elim h3 fun y hy h => ?_
      clear h0 h1 h2 h3
      rw [nthS_eq] at hy
      obtain rfl := natS_eq hj
      obtain ⟨d, dd, n, sl, rfl, hK⟩ := gL_eq hl
      have ha' : V = .ref d := ha
      subst ha'
      have hz' := small_le hz
      exact item_list (x := y) (lstK (C.X.keeps H.F.keep) hK) (by omega) (by omega) (by simpa using hy) (G y z.tk (ofVal_eq h)) (sub_hs hp _ _) (ht _)
    | obj k =>
      refine bind_elim2 h0 fun k' so hq h2 => ?_
      clear h0
      obtain ⟨D, o, rfl, hD, hk, hm, hr⟩ := H.ob ha (oO_eq hq)
      cases so with
      | list l =>
        obtain ⟨vs, nn, rfl, hr⟩ := hr
        refine bind_elim h2 fun j hj h => ?_
        obtain rfl := natS_eq hj
        refine guard_elim h fun hz h => ?_
        obtain ⟨W, hW, hrW⟩ := hr.get ((nthS_eq _ _).symm.trans h)
        have hz' := small_le hz
        exact item_list (x := W) (PySem.IsL.isList (n := nn) (H.N _ hm).1) (by omega) (by omega) (by simpa using hW) (G W z.tk hrW) (sub_hs hp _ _) (ht _)
      | tup l =>
        obtain ⟨vs, nn, rfl, hr⟩ := hr
        refine bind_elim h2 fun j hj h => ?_
        obtain rfl := natS_eq hj
        refine guard_elim h fun hz h => ?_
        refine and_elim hz fun hz hz2 => ?_
        obtain ⟨W, hW, hrW⟩ := hr.get ((nthS_eq _ _).symm.trans h)
        have hz' := small_le hz
        refine item_tuple (j := j) (x := W) (items := vs.toArray) ⟨_, (H.N _ hm).1, rfl, nn, rfl⟩ (by omega) (by omega) ?_ (by simpa using hW) (G W z.tk hrW) (sub_hs hp _ _) (ht _)
        rw [List.size_toArray]
        exact seqIx_nat (List.getElem?_eq_some_iff.mp hW).1
      | dict l =>
        obtain ⟨kvs, hd, hr⟩ := hr
        obtain ⟨W, hW, hrW⟩ := (hr.look iq_ok).1 h2
        exact kda_item (knd := PySem.intKind Γ.prog Γ.w) H.N hm hd (intKind_is _ _ _ _) hW (G W _ hrW) (sub_hs hp _ _) (ht _)
      | _ => cases h2
    | _ => cases h0
  | str x =>
    obtain ⟨t, rfl⟩ := hb
    cases a with
    | val u =>
      refine bind_elim h0 fun r h1 h4 => ?_
      refine bind_elim h4 fun y hy h => ?_
      clear h0 h4
      subst hy
      obtain ⟨d, rfl, h2, h3⟩ := gIn_eq h1
      have ha' : V = .ref d := ha
      subst ha'
      obtain ⟨⟨es, n, hK, hkl⟩, _⟩ := C.gd d h2
      exact topItem_K H.F C.X hK hkl h3 (G y _ (ofVal_eq h)) (sub_hs hp _ _)
    | obj k =>
      refine bind_elim2 h0 fun k' so hq h2 => ?_
      refine bind_elim h2 fun l hl h2 => ?_
      obtain ⟨D, o, rfl, hD, hk, hm, hr⟩ := H.ob ha (oO_eq hq)
      obtain ⟨kvs, hd, hr⟩ := hr.sdict hl
      obtain ⟨W, hW, hrW⟩ := (hr.look sq_ok).1 h2
      exact kda_item (knd := PySem.strKind Γ.prog Γ.w) H.N hm hd (strKind_is _ _ _ _) hW (G W _ hrW) (sub_hs hp _ _) (ht _)
    | _ => cases h0
  | _ => cases h0
theorem stor_ok {Q : Unit → Shared → Prop} {d : SV} {W : Value} (h0 : storS a b d g = some g') (H : Cor Γ c M g z) (ha : RV z.ρ a V) (hb : RV z.ρ b U) (hc : RV z.ρ d W)
    (G : ∀ z', Ex z g z' g' → Cor Γ c M g' z' → Q () (z'.sh s)) : wpAny (model Γ.prog Γ.w) c.A (setItem V U W) Q c.E (z.sh s) := by
  refine bind_elim2 h0 fun k so hq h => ?_
  clear h0
  have hs := (oO_eq hq).2
  obtain ⟨D, o, rfl, hD, hk, hm, hr⟩ := H.ob ha (oO_eq hq)
  cases b with
  | int n =>
    refine map_elim h fun so' h2 hrfl => ?_
    subst hrfl
    obtain ⟨t, rfl⟩ := hb
    cases so with
    | list l =>
      obtain ⟨vs, nn, rfl, hr⟩ := hr
      refine bind_elim h2 fun j hj h4 => ?_
      obtain rfl := natS_eq hj
      refine guard_elim h4 fun hz h3 => ?_
      obtain rfl := Option.some.inj h3
      refine and_elim hz fun hz hz2 => ?_
      have hz' := small_le hz
      have hz2' : j < l.length := Nat.le_of_ble_eq_true hz2
      have hln := hr.length
      obtain ⟨pre, post, e, hg, x1, x2⟩ := (H.upd hk).split
      have N := H.N
      rw [e] at N
      have y := N (D, listOf vs.toArray nn) (List.mem_append.mpr (.inr (.head _)))
      refine ki_setAt y.1 (by omega) (by omega) (by rw [List.size_toArray]; omega) ?_
      rw [Int.toNat_natCast]
      refine G ⟨_, _, _, z.tk, _⟩ exPut (H.put (o' := listOf (List.toArray (vs.set j W)) nn) hk (H.F.change (Heap.SameBut.update ..) y.2.1 y.2.2) ?_ (fun e => nomatch e) ⟨_, _, rfl, hr.set hc j⟩)
      rw [hg]
      refine ki_turn (fun a : Array Value => a.setIfInBounds j W) N x1 x2 ?_ ?_
      · show vs.toArray.setIfInBounds j W = (vs.set j W).toArray
        apply Array.toList_inj.mp
        simp
      · simp
    | dict l =>
      obtain ⟨kvs, hd, hr⟩ := hr
      refine guard_elim h2 fun hz h3 => ?_
      obtain rfl := Option.some.inj h3
      have hz' := small_le hz
      refine kda_set (knd := PySem.intKind Γ.prog Γ.w) H.F H.N (H.upd hk) hd (intKind_is _ _ _ _) (by rw [hr.length, sizeLine_eq]; omega) fun h' o' F' N' hd' => ?_
      exact G ⟨_, _, _, _, _⟩ exPut (H.put hk F' N' (fun _ => H.led.lo k _ D hs rfl hD) ⟨_, hd', hr.stor iq_ok hc⟩)
    | _ => cases h2
  | str x =>
    refine bind_elim h fun l hl h => ?_
    refine guard_elim h fun hz h3 => ?_
    obtain rfl := Option.some.inj h3
    obtain ⟨t, rfl⟩ := hb
    obtain ⟨kvs, hd, hr⟩ := hr.sdict hl
    have hz' := small_le hz
    refine kda_set (knd := PySem.strKind Γ.prog Γ.w) H.F H.N (H.upd hk) hd (strKind_is _ _ _ _) (by rw [hr.length, sizeLine_eq]; omega) fun h' o' F' N' hd' => ?_
    exact G ⟨_, _, _, _, _⟩ exPut (H.put hk F' N' (fun _ => H.led.lo k _ D hs (soS_isD hl) hD) ⟨_, hd', hr.stor sq_ok hc⟩)
  | _ => cases h
theorem add_ok {Q : Value → Shared → Prop} (h : addS a b g = some (v, g')) (H : Cor Γ c M g z) (ha : RV z.ρ a V) (hb : RV z.ρ b U) (G : Got Γ c M g z s Q v g') :
    wpAny (model Γ.prog Γ.w) c.A (binaryOp .Add V U) Q c.E (z.sh s) := by
  cases a with
  | int x =>
    refine map_elim h fun y h1 h => ?_
    replace G := G.of' h
    obtain rfl := vI_eq h1
    obtain ⟨t, rfl⟩ := ha
    obtain ⟨u, rfl⟩ := hb
    exact add_int (G.now ⟨_, rfl⟩ H)
  | bytes l =>
    refine bind_elim h fun l' h1 h => ?_
    obtain rfl := vB_eq h1
    refine guard_elim h fun hz h => ?_
    replace G := G.of h
    have hz' := small_le hz
    obtain ⟨b1, t1, rfl, e1⟩ := ha
    obtain ⟨b2, t2, rfl, e2⟩ := hb
    exact KBa.add_K e1 e2 (by omega) fun t' k e => G.now ⟨_, _, rfl, e⟩ H
  | str x =>
    refine bind_elim h fun y h1 h => ?_
    obtain rfl := vS_eq h1
    refine guard_elim h fun hz h => ?_
    replace G := G.of h
    have hz' := small_le hz
    obtain ⟨t1, rfl⟩ := ha
    obtain ⟨t2, rfl⟩ := hb
    exact SBL.add (fun t' k _ => G.now ⟨_, rfl⟩ H) (by rw [sizeLine_eq]; omega)
  | obj k =>
    refine bind_elim2 (show bind2 (oL g.σ (.obj k)) (fun _ l => bind2 (oL g.σ b) fun _ l' => guardS (small (l.length + l'.length)) (some (mkO (.list (l ++ l')) g))) = some (v, g') from h) fun k1 l1 hq h => ?_
    refine bind_elim2 h fun k2 l2 hq' h => ?_
    refine guard_elim h fun hz h => ?_
    replace G := G.of h
    have hz' := small_le hz
    obtain ⟨D, vs, nn, rfl, _, hm, hr, hl⟩ := H.list ha hq
    obtain ⟨D', vs', nn', rfl, _, hm', hr', hl'⟩ := H.list hb hq'
    exact add_lists H.F H.N (PySem.IsL.isList (n := nn) (H.N _ hm).1) (PySem.IsL.isList (n := nn') (H.N _ hm').1) (fun h' F' N' => G.new H F' N' (fun q hq => Heap.lt_size (H.N q hq).1) (fun e => nomatch e) ⟨_, _, rfl, (hr.append hr').mono Ext.snoc⟩) (by rw [hl, hl', sizeLine_eq]; omega)
  | _ => cases h
theorem mul_ok {Q : Value → Shared → Prop} (h : mulS a b g = some (v, g')) (H : Cor Γ c M g z) (ha : RV z.ρ a V) (hb : RV z.ρ b U) (G : Got Γ c M g z s Q v g') :
    wpAny (model Γ.prog Γ.w) c.A (binaryOp .Mult V U) Q c.E (z.sh s) := by
  refine bind_elim2 h fun k l hq h => ?_
  refine bind_elim h fun n hn h => ?_
  refine bind_elim h fun n hn' h => ?_
  refine bind_elim h fun x hx h => ?_
  refine guard_elim h fun hz h => ?_
  replace G := G.of h
  obtain rfl := vI_eq hn
  obtain rfl := natS_eq hn'
  have hz' := small_le hz
  obtain ⟨u, rfl⟩ := hb
  obtain ⟨D, vs, nn, rfl, _, hm, hr, _⟩ := H.list ha hq
  rw [one_eq hx] at hr
  cases hr with
  | @cons _ X _ _ hx hr =>
    cases hr
    refine mul_list (items := #[X]) H.F H.N (H.N _ hm).1 (by omega) (by omega) (by simp; omega) fun h' F' N' => ?_
    have e : List.foldl (fun x1 x2 : Array Value => x1 ++ x2) #[] (List.replicate (if (#[X] : Array Value).isEmpty = true then 0 else (n : Int).toNat) #[X]) = (List.replicate n X).toArray := by
      have := repl_arr X n []
      simpa using this
    rw [e] at N'
    exact G.new H F' N' (fun q hq => Heap.lt_size (H.N q hq).1) (fun e => nomatch e) ⟨_, _, rfl, RVs.repl (hx.mono Ext.snoc) n⟩
theorem bin_ok {Q : Value → Shared → Prop} {op : Operator} (h : binS op a b g = some (v, g')) (H : Cor Γ c M g z) (ha : RV z.ρ a V) (hb : RV z.ρ b U) (G : Got Γ c M g z s Q v g') :
    wpAny (model Γ.prog Γ.w) c.A (binaryOp op V U) Q c.E (z.sh s) := by
  have hints : ∀ {op : Operator}, ((vI a).bind fun x => (vI b).bind fun y => (binI op x y).map fun z => (SV.int z, g)) = some (v, g') → wpAny (model Γ.prog Γ.w) c.A (binaryOp op V U) Q c.E (z.sh s) := by
    intro op h
    refine bind_elim h fun x h1 h => ?_
    refine bind_elim h fun y h2 h => ?_
    refine map_elim h fun r h3 h => ?_
    replace G := G.of' h
    obtain rfl := vI_eq h1
    obtain rfl := vI_eq h2
    obtain ⟨t, rfl⟩ := ha
    obtain ⟨u, rfl⟩ := hb
    have G' : ∀ t tk, Q (.int r t) { z.sh s with toks := tk } := fun t tk => G.now ⟨_, rfl⟩ H
    cases op with
    | Sub => cases h3; exact sub_int (G' _ _)
    | LShift =>
      refine guard_elim h3 fun e h3 => ?_
      cases h3
      have e := of_decide_eq_true e
      exact lshift_int_small e.1 (by omega) e.2.2 (G' _ _)
    | RShift =>
      refine guard_elim h3 fun e h3 => ?_
      cases h3
      exact rshift_int (of_decide_eq_true e) (G' _ _)
    | BitAnd => cases h3; exact and_int (G' _ _)
    | BitOr => cases h3; exact or_int (G' _ _)
    | BitXor => cases h3; exact xor_int (G' _ _)
    | _ => cases h3
  cases op with
  | Add => exact add_ok h H ha hb G
  | Mult => exact mul_ok h H ha hb G
  | _ => exact hints h
/-- a slice, its ends reckoned -/
theorem slice_ok {Q : Value → Shared → Prop} {lo hi : Option Int} {l u : Value} {i : Expr} {x : Expr} (ht : ∀ o r, letTemporaryGo x o r = pure ()) (h : sliceS a lo hi g = some (v, g')) (H : Cor Γ c M g z) (ha : RV z.ρ a V) (hl : IsPart l lo) (hu : IsPart u hi)
    (hs : ∀ o k, subscripted i false o k = operate [k, o] (getItem o k)) (G : Got Γ c M g z s Q v g') :
    wpAny (model Γ.prog Γ.w) c.A (subscriptTail x i V (.ref z.h.objs.size)) Q c.E { z.sh s with heap := z.h.push { cls := .type "slice", data := .fields #[l, u, .none] } } := by
  cases a with
  | bytes ks =>
    refine guard_elim h fun hz h => ?_
    replace G := G.of h
    have hz' := small_le hz
    obtain ⟨b, t, rfl, e⟩ := ha
    exact KBc.slice_K (s := z.sh s) H.F H.N e hl hu (by omega) (fun h' t' k F' N' e' => G.same H ⟨_, _, rfl, e'⟩ F' N') (hs _ _) (ht _)
  | str ks =>
    refine guard_elim h fun hz h2 => ?_
    refine and_elim hz fun hz2 hn => ?_
    refine map_elim h2 fun lo' h1 h3 => ?_
    replace G := G.of' h3
    clear h h2 hz
    subst h1
    cases hi with
    | some _ => cases hn
    | none =>
      cases hl
      cases hu
      obtain ⟨t, rfl⟩ := ha
      have hz' := small_le hz2
      exact slice_strN_sn (s := z.sh s) H.F H.N (fun h' t' k F' N' => G.same H ⟨_, rfl⟩ F' N') (hs _ _) (ht _) (by rw [sizeLine_eq]; omega)
  | obj k =>
    refine bind_elim2 (show bind2 (oO g.σ (.obj k)) (fun _ o => sliceO lo hi g o) = some (v, g') from h) fun k so hq h2 => ?_
    clear h
    obtain ⟨D, o, rfl, hD, hk, hm, hr⟩ := H.ob ha (oO_eq hq)
    cases so with
    | list ls =>
      obtain ⟨vs, nn, rfl, hr⟩ := hr
      refine guard_elim h2 fun hz h => ?_
      replace G := G.of h
      have hz' := small_le hz
      have hln := hr.length
      exact kmk_slice_lit (s := z.sh s) (zs := cutI vs lo hi) H.F H.N (PySem.IsL.isList (n := nn) (H.N _ hm).1) hl hu (by rw [slicePick_plain, List.size_toArray]; rfl) (fun D' h' F' N' l1 => G.new H F' N' l1 (fun e => nomatch e) ⟨_, _, rfl, by unfold cutI; rw [hln]; exact ((hr.mono Ext.snoc).drop _).take _⟩) (hs _ _) (ht _) (by rw [List.size_toArray, hln, sizeLine_eq]; omega)
    | tup ls =>
      obtain ⟨vs, nn, rfl, hr⟩ := hr
      refine guard_elim h2 fun hz h => ?_
      refine map_elim h fun q h1 h => ?_
      replace G := G.of' h
      refine and_elim hz fun e1 e2 => ?_
      obtain rfl := of_decide_eq_true e1
      obtain rfl := of_decide_eq_true e2
      cases hl
      cases hu
      rw [three_eq h1] at hr
      rcases hr with _ | ⟨hx, hr⟩
      rcases hr with _ | ⟨hy, hr⟩
      rcases hr with _ | ⟨hz, hr⟩
      cases hr
      exact slice_two (s := z.sh s) H.F H.N hm rfl (fun D' h' F' N' l1 => G.new H F' N' l1 (fun e => nomatch e) ⟨_, _, rfl, .cons (hx.mono Ext.snoc) (.cons (hy.mono Ext.snoc) .nil)⟩) (hs _ _) (ht _)
    | _ => cases h2
  | _ => cases h
end
theorem runK_wp {α : Type} {N : Nat} {lt : Nat → Nat → Bool} {cmp : Nat → Nat → (Bool → Shared → Prop) → Shared → Prop} {I : Shared → Prop} (hc : ∀ i j C s, i < N → j < N → i ≠ j → I s → (∀ s', I s' → C (lt i j) s') → cmp i j C s) {a : α}
    {Q : α → Shared → Prop} (hq : ∀ s, I s → Q a s) : ∀ (t : KasT α) (s : Shared), runK N lt t = some a → I s → t.kasWp cmp Q s
  | .ret _, s, h, hi => by cases h; exact hq s hi
  | .ask i j k, s, h, hi => by
    refine guard_elim (show guardS (Nat.blt i N && Nat.blt j N && !Nat.beq i j) (runK N lt (k (lt i j))) = some a from h) fun e h => ?_
    refine and_elim e fun e e3 => ?_
    refine and_elim e fun e1 e2 => ?_
    exact hc i j _ s (Nat.le_of_ble_eq_true e1) (Nat.le_of_ble_eq_true e2) (fun e => by subst e; rw [show Nat.beq i i = true from Nat.beq_refl i] at e3; cases e3) hi fun s' hi' => runK_wp hc hq (k (lt i j)) s' h hi'
theorem keyS_eq {σ : List SO} {v : SV} {k : Int × Int} (h : keyS σ v = some k) : ∃ j r, v = .obj j ∧ σ[j]? = some (.tup (.int k.1 :: .int k.2 :: r)) := by
  refine bind_elim2 h fun j l h1 h => ?_
  refine bind_elim2 h fun a b h2 h => ?_
  refine bind_elim h fun x h3 h => ?_
  refine map_elim h fun y h4 hrfl => ?_
  subst hrfl
  obtain ⟨e1, e2⟩ := oX_eq (f := soT) (fun _ _ => soT_eq) h1
  have e3 : l.take 2 = [a, b] := two_eq h2
  rw [vI_eq h3, vI_eq h4] at e3
  refine ⟨j, l.drop 2, e1, ?_⟩
  rw [← List.take_append_drop 2 l, e3] at e2
  exact e2
theorem notIn_eq {k : Int × Int} : ∀ {l : List (Int × Int)}, notIn k l = true → k ∉ l
  | [], _ => List.not_mem_nil
  | q :: r, h => by
    refine and_elim (show (!decide (k.1 = q.1 ∧ k.2 = q.2) && notIn k r) = true from h) fun h1 h2 => ?_
    intro hm
    rcases List.mem_cons.mp hm with rfl | hm
    · rw [decide_eq_true (show k.1 = k.1 ∧ k.2 = k.2 from ⟨rfl, rfl⟩)] at h1
      cases h1
    · exact notIn_eq h2 hm
theorem nodupS_eq : ∀ {l : List (Int × Int)}, nodupS l = true → l.Nodup
  | [], _ => List.nodup_nil
  | k :: r, h => by
    refine and_elim (show (notIn k r && nodupS r) = true from h) fun h1 h2 => ?_
    exact List.nodup_cons.mpr ⟨notIn_eq h1, nodupS_eq h2⟩
theorem RVs.pick {ρ : List Addr} {l : List SV} {L : List Value} (r : RVs ρ l L) : ∀ p : List Nat, RVs ρ (p.map fun i => l.getD i .none) (p.map fun i => L.getD i .none)
  | [] => .nil
  | i :: p => by
    refine .cons ?_ (r.pick p)
    cases h : l[i]? with
    | none =>
      have : L[i]? = none := List.getElem?_eq_none (by rw [r.length]; exact List.getElem?_eq_none_iff.mp h)
      show RV ρ ((l[i]?).getD .none) ((L[i]?).getD .none)
      rw [h, this]
      rfl
    | some v =>
      obtain ⟨V, hV, hr⟩ := r.get h
      show RV ρ ((l[i]?).getD .none) ((L[i]?).getD .none)
      rw [h, hV]
      exact hr
theorem maxI_ge : ∀ {l : List Int}, (maxI l = none → l = []) ∧ ∀ x, maxI l = some x → x ∈ l ∧ ∀ y ∈ l, y ≤ x
  | [] => ⟨fun _ => rfl, fun _ h => by cases h⟩
  | x :: r => by
    have ih := @maxI_ge r
    have e : maxI (x :: r) = match maxI r with | some y => some (if x < y then y else x) | none => some x := rfl
    cases h : maxI r with
    | none =>
      rw [e, h, ih.1 h]
      refine ⟨fun q => (by cases q), fun z q => ?_⟩
      cases q
      exact ⟨.head _, fun y hy => by rw [List.mem_singleton.mp hy]; exact Int.le_refl _⟩
    | some y =>
      rw [e, h]
      obtain ⟨i1, i2⟩ := ih.2 y h
      refine ⟨fun q => (by cases q), fun z q => ?_⟩
      obtain rfl := Option.some.inj q
      by_cases hxy : x < y
      · rw [if_pos hxy]
        exact ⟨.tail _ i1, fun u hu => (List.mem_cons.mp hu).elim (fun e => by rw [e]; exact Int.le_of_lt hxy) (i2 u)⟩
      · rw [if_neg hxy]
        exact ⟨.head _, fun u hu => (List.mem_cons.mp hu).elim (fun e => by rw [e]; exact Int.le_refl _) fun hu => Int.le_trans (i2 u hu) (Int.not_lt.mp hxy)⟩
theorem RKs.ints {ρ : List Addr} : ∀ {c : List (Int × Int)} {kvs : List (Int × Value)}, RKs ρ (c.map fun p : Int × Int => (p.1, SV.int p.2)) kvs → PyProof.V.FlatPairs PyData.int kvs (kdfD c)
  | [], _, r => by cases r; exact .nil
  | (k, x) :: c, _, r => by
    cases r with
    | cons a r =>
      obtain ⟨t, rfl⟩ := a
      exact .cons (.int x t) r.ints
theorem itemsI_eq : ∀ {l : List (Int × SV)} {ys : List Int}, itemsI l = some ys → ∃ c : List (Int × Int), l = c.map (fun p => (p.1, SV.int p.2)) ∧ ys = c.map (·.2)
  | [], _, h => by cases h; exact ⟨[], rfl, rfl⟩
  | (k, v) :: r, ys, h => by
    obtain ⟨x, l, h1, h2, rfl⟩ := mapS_cons h
    obtain ⟨c, rfl, rfl⟩ := itemsI_eq h2
    exact ⟨(k, x) :: c, by rw [show v = SV.int x from vI_eq h1]; rfl, rfl⟩
section
variable {Γ : Gm} {kf : Nat} {c : Cx} {M : Str → Option Value} {z : Zs} {g g' : Sg} {s : Shared} {v a b : SV} {V U : Value}
theorem nn_ok {ρ : List Addr} (h : RV ρ a V) : (V == Value.none) = isNn a := by
  cases a with
  | none => rw [show V = _ from h]; rfl
  | bool x => rw [show V = _ from h]; rfl
  | int i => obtain ⟨t, rfl⟩ := h; rfl
  | obj k => obtain ⟨x, _, rfl⟩ := h; rfl
  | val u =>
    rw [show V = u from h]
    cases u <;> rfl
  | bytes l => obtain ⟨x, t, rfl, _⟩ := h; rfl
  | str x => obtain ⟨t, rfl⟩ := h; rfl
theorem in_ok {x : Str} {t : Tok} {r : Bool} (h : inS Γ.K Γ.gd g.σ x b = some r) (C : Orx Γ kf c) (H : Cor Γ c M g z) (hb : RV z.ρ b U) {Q : Value → Shared → Prop} :
    ((∀ tk, Q (.bool r) { z.sh s with toks := tk }) → wpAny (model Γ.prog Γ.w) c.A (compareOp .In (.str x t) U) Q c.E (z.sh s)) ∧ ((∀ tk, Q (.bool (!r)) { z.sh s with toks := tk }) → wpAny (model Γ.prog Γ.w) c.A (compareOp .NotIn (.str x t) U) Q c.E (z.sh s)) := by
  cases b with
  | val u =>
    refine map_elim h fun y h1 hrfl => ?_
    subst hrfl
    obtain ⟨d, rfl, h2, h3⟩ := gIn_eq h1
    have hb' : U = .ref d := hb
    subst hb'
    obtain ⟨⟨es, n, hK, hkl⟩, lo⟩ := C.gd d h2
    exact ⟨fun G => topIn_K H.F C.X hK hkl h3 lo (G _), fun G => topNotIn H.F C.X hK hkl h3 lo (G _)⟩
  | obj k =>
    refine bind_elim2 h fun k' so hq h2 => ?_
    obtain ⟨D, o, rfl, hD, hk, hm, hr⟩ := H.ob hb (oO_eq hq)
    have hd : ∀ l, soS so = some l → (lookK sq l x).isSome = r → ((∀ tk, Q (.bool r) { z.sh s with toks := tk }) → wpAny (model Γ.prog Γ.w) c.A (compareOp .In (.str x t) (.ref D)) Q c.E (z.sh s)) ∧ ((∀ tk, Q (.bool (!r)) { z.sh s with toks := tk }) → wpAny (model Γ.prog Γ.w) c.A (compareOp .NotIn (.str x t) (.ref D)) Q c.E (z.sh s)) := by
      intro l hl hrr
      obtain ⟨kvs, hd, hr⟩ := hr.sdict hl
      have lo := H.led.lo _ _ D (oO_eq hq).2 (soS_isD hl) hD
      have e : (valueAt kvs x).isSome = r := (hr.look sq_ok (n := x)).2.symm.trans hrr
      exact ⟨fun G => kda_in (knd := PySem.strKind _ _) H.N hm hd lo (strKind_is _ _ _ _) r e (G _), fun G => wpAny_notIn_of (strKind_is _ _ x t) lo (kda_dict H.N hm hd).mapOf (by rw [e]; exact G _)⟩
    cases so with
    | list l =>
      obtain ⟨vs, nn, rfl, hr⟩ := hr
      refine guard_elim h2 fun hz h => ?_
      refine map_elim h fun ys h1 hrfl => ?_
      have hs := strs_are hr h1
      have hi := PySem.IsL.isList (n := nn) (H.N _ hm).1
      rw [← hrfl, anyQ_eq]
      exact ⟨fun G => in_list_strs hi hs (G z.tk), fun G => notin_list_strs hi hs (G z.tk)⟩
    | dict l => exact map_elim (show (soS (.dict l)).map (fun l => (lookK sq l x).isSome) = some r from h2) fun l h1 h2 => hd l h1 h2
    | sdict l => exact map_elim (show (soS (.sdict l)).map (fun l => (lookK sq l x).isSome) = some r from h2) fun l h1 h2 => hd l h1 h2
    | _ => cases h2
  | _ => cases h
theorem cmpv_ok {Q : Value → Shared → Prop} {op : CmpOp} {r : Bool} (h : cmpV op a b g.σ = some r) (C : Orx Γ kf c) (H : Cor Γ c M g z) (ha : RV z.ρ a V) (hb : RV z.ρ b U) (G : ∀ tk, Q (.bool r) { z.sh s with toks := tk }) :
    wpAny (model Γ.prog Γ.w) c.A (compareOp op V U) Q c.E (z.sh s) := by
  cases a with
  | int x =>
    refine bind_elim h fun y h1 h => ?_
    obtain rfl := vI_eq h1
    obtain ⟨t, rfl⟩ := ha
    obtain ⟨u, rfl⟩ := hb
    have G := G z.tk
    cases op with
    | Eq => cases h; exact eq_int G
    | NotEq => cases h; exact ne_int G
    | Lt => cases h; exact lt_int G
    | LtE => cases h; exact le_int G
    | Gt => cases h; exact gt_int G
    | GtE => cases h; exact ge_int G
    | _ => cases h
  | str x =>
    refine bind_elim h fun y h1 h => ?_
    obtain rfl := vS_eq h1
    obtain ⟨t, rfl⟩ := ha
    obtain ⟨u, rfl⟩ := hb
    have G := G z.tk
    cases op with
    | Eq => cases h; exact PyProof.Rows.eq_str (sq_beq ▸ G)
    | NotEq => cases h; exact PyProof.Rows.ne_str (show Q (.bool (!(x == y))) _ from sq_beq ▸ G)
    | _ => cases h
  | obj k =>
    refine guard_elim h fun e h => ?_
    refine bind_elim2 h fun x y h1 h => ?_
    refine bind_elim2 h fun x' y' h2 h => ?_
    cases h
    obtain rfl := of_decide_eq_true e
    obtain ⟨k, ek, hs⟩ := oP_eq h1
    obtain ⟨k', ek', hs'⟩ := oP_eq h2
    obtain ⟨D, o, rfl, hD, hk, hm, vs, nn, rfl, hr⟩ := H.ob ha ⟨ek, hs⟩
    obtain ⟨D', o', rfl, hD', hk', hm', vs', nn', rfl, hr'⟩ := H.ob hb ⟨ek', hs'⟩
    rcases hr with _ | ⟨⟨t1, rfl⟩, hr⟩
    rcases hr with _ | ⟨⟨t2, rfl⟩, hr⟩
    cases hr
    rcases hr' with _ | ⟨⟨t3, rfl⟩, hr'⟩
    rcases hr' with _ | ⟨⟨t4, rfl⟩, hr'⟩
    cases hr'
    exact lt_tup C.units H.N hm rfl hm' rfl (G z.tk)
  | _ => obtain ⟨e, h⟩ := guard_some h; cases h
theorem cmp_ok {Q : Value → Shared → Prop} {op : CmpOp} {r : Bool} (h : cmpS Γ.K Γ.gd op a b g.σ = some r) (C : Orx Γ kf c) (H : Cor Γ c M g z) (ha : RV z.ρ a V) (hb : RV z.ρ b U) (G : ∀ tk, Q (.bool r) { z.sh s with toks := tk }) :
    wpAny (model Γ.prog Γ.w) c.A (compareOp op V U) Q c.E (z.sh s) := by
  cases op with
  | Is =>
    refine guard_elim h fun hn h => ?_
    cases h
    have hb' : U = .none := by cases b <;> first | (cases hn; done) | exact hb
    rw [hb']
    exact PySem.is_none (by rw [nn_ok ha]; exact G z.tk)
  | IsNot =>
    refine guard_elim h fun hn h => ?_
    cases h
    have hb' : U = .none := by cases b <;> first | (cases hn; done) | exact hb
    rw [hb']
    exact PySem.isNot_none (by rw [nn_ok ha]; exact G z.tk)
  | In =>
    refine bind_elim h fun x h1 h => ?_
    obtain rfl := vS_eq h1
    obtain ⟨t, rfl⟩ := ha
    exact (in_ok h C H hb).1 G
  | NotIn =>
    refine bind_elim h fun x h1 h => ?_
    refine map_elim h fun y h2 hrfl => ?_
    subst hrfl
    obtain rfl := vS_eq h1
    obtain ⟨t, rfl⟩ := ha
    exact (in_ok h2 C H hb).2 G
  | _ => exact cmpv_ok h C H ha hb G
theorem list_ok {Q : Value → Shared → Prop} {l : List SV} {vs : List Value} (hz : small l.length = true) (H : Cor Γ c M g z) (r : RVs z.ρ l vs) (G : Got Γ c M g z s Q (mkO (.list l) g).1 (mkO (.list l) g).2) :
    wpAny (model Γ.prog Γ.w) c.A (newList vs) Q c.E (z.sh s) :=
  newList_N H.F H.N (fun h' F' N' => G.new H F' N' (fun q hq => Heap.lt_size (H.N q hq).1) (fun e => nomatch e) ⟨_, _, rfl, r.mono Ext.snoc⟩) (by rw [r.length, sizeLine_eq]; have := small_le hz; omega)
theorem tup_ok {Q : Value → Shared → Prop} {l : List SV} {vs : List Value} (hz : small l.length = true) (H : Cor Γ c M g z) (r : RVs z.ρ l vs) (G : Got Γ c M g z s Q (mkO (.tup l) g).1 (mkO (.tup l) g).2) :
    wpAny (model Γ.prog Γ.w) c.A (newTuple vs) Q c.E (z.sh s) :=
  newTuple_N H.F H.N (fun h' F' N' => G.new H F' N' (fun q hq => Heap.lt_size (H.N q hq).1) (fun e => nomatch e) ⟨_, _, rfl, r.mono Ext.snoc⟩) (by rw [r.length, sizeLine_eq]; have := small_le hz; omega)
theorem dict_ok {Q : Value → Shared → Prop} {pos : Pos} (hl : c.h₀.NoLimit) (H : Cor Γ c M g z) (G : Got Γ c M g z s Q (mkO (.dict []) g).1 (mkO (.dict []) g).2) :
    wpAny (model Γ.prog Γ.w) c.A (eval (.Dict [] [] pos) c.env) Q c.E (z.sh s) :=
  Dict_empty_made2 H.F H.N (modules_low hl) fun _ _ F' N' lo _ _ hd _ _ => G.new H F' N' (fun q hq => Heap.lt_size (H.N q hq).1) (fun _ => lo) ⟨[], hd, .nil⟩
theorem sort_ok {Q : Value → Shared → Prop} {k : Nat} {l l' : List SV} (hs : oL g.σ a = some (k, l)) (h : sortS g.σ l = some l') (H : Cor Γ c M g z) (ha : RV z.ρ a V) (G : Got Γ c M g z s Q .none (setO g k (.list l'))) :
    wpAny (model Γ.prog Γ.w) c.A (call (.builtin "list.sort") [V]) Q c.E (z.sh s) := by
  obtain ⟨D, vs, nn, rfl, hk, hm, hr, hvl⟩ := H.list ha hs
  refine bind_elim h fun ks hks h => ?_
  refine guard_elim h fun hn h => ?_
  refine and_elim hn fun hn h64 => ?_
  have hn2 : l.length < 64 := Nat.le_of_ble_eq_true h64
  have hnd := nodupS_eq hn
  have hlen := mapS_len hks

  have U := H.upd hk
  obtain ⟨pre, post, e, hg, x1, x2⟩ := U.split
  have hoff : ∀ q ∈ pre ++ post, q.1 ≠ D := fun q hq => (List.mem_append.mp hq).elim (x1 q) (x2 q)
  have hN0 : ∀ q ∈ z.nw ++ c.rest, q = (D, listOf (List.toArray vs) nn) ∨ q ∈ pre ++ post := fun q hq => by
    rw [e] at hq
    rcases List.mem_append.mp hq with hq | hq
    · exact .inr (List.mem_append.mpr (.inl hq))
    · rcases List.mem_cons.mp hq with hq | hq
      · exact .inl hq
      · exact .inr (List.mem_append.mpr (.inr hq))
  have N0 : News c.h₀ c.L z.h ((D, listOf (List.toArray vs) nn) :: (pre ++ post)) := fun q hq => H.N q (by
    rw [e]
    rcases List.mem_cons.mp hq with rfl | hq
    · exact List.mem_append.mpr (.inr (.head _))
    · rcases List.mem_append.mp hq with hq | hq
      · exact List.mem_append.mpr (.inl hq)
      · exact List.mem_append.mpr (.inr (.tail _ hq)))
  have back : ∀ {h' : Heap} {o' : Obj}, News c.h₀ c.L h' ((D, o') :: (pre ++ post)) → News c.h₀ c.L h' (z.nw.set k (D, o') ++ c.rest) := fun {h' o'} N' => by
    rw [hg]
    intro q hq
    refine N' q ?_
    rcases List.mem_append.mp hq with hq | hq
    · exact .tail _ (List.mem_append.mpr (.inl hq))
    · rcases List.mem_cons.mp hq with rfl | hq
      · exact .head _
      · exact .tail _ (List.mem_append.mpr (.inr hq))
  cases h2 : Nat.blt l.length 2 with
  | true =>
    rw [h2] at h
    cases h
    have h2' : l.length < 2 := Nat.le_of_ble_eq_true h2
    have ho : z.h.get? D = some (seqObj "list" vs.toArray nn) := (N0 _ (.head _)).1
    refine wpAny_call_entry slot_list_sort ⟨_, ho, rfl⟩ entry_list_sort (sort_small H.F (fun q hq => N0 q (.tail _ hq)) ho (N0 _ (.head _)).2.1 (N0 _ (.head _)).2.2 hoff (by omega) fun c h' F' N' => ?_) (args_list_sort _)
    exact ⟨_, rfl, G.put H rfl hk F' (back N') (fun e => nomatch e) ⟨_, _, rfl, hr⟩⟩
  | false =>
    have h2' : ¬ l.length < 2 := fun e => by rw [show Nat.blt l.length 2 = true from Nat.ble_eq_true_of_le e] at h2; cases h2
    rw [h2] at h
    refine map_elim h fun q hq hrfl => ?_
    subst hrfl
    have ht : ∀ (i : Nat) (v : Value) (k : Int × Int), vs[i]? = some v → ks[i]? = some k → TupI (pre ++ post) v k := by
      intro i v kk hv hkk
      have hi : i < l.length := by rw [← hvl]; exact (List.getElem?_eq_some_iff.mp hv).1
      obtain ⟨V', hV', hrv⟩ := hr.get (List.getElem?_eq_getElem hi)
      rw [hv] at hV'
      obtain rfl := Option.some.inj hV'
      obtain ⟨j, r, ej, hsj⟩ := keyS_eq (mapS_get hks (List.getElem?_eq_getElem hi) hkk)
      rw [ej] at hrv
      obtain ⟨D2, o2, rfl, hD2, hk2, hm2, vs2, nn2, rfl, hr2⟩ := H.obj hrv hsj
      rcases hr2 with _ | ⟨⟨t1, rfl⟩, hr2⟩
      rcases hr2 with _ | ⟨⟨t2, rfl⟩, hr2⟩
      rename_i rr
      rcases hN0 _ hm2 with e2 | e2
      · have e3 := congrArg (fun q : Addr × Obj => q.2.cls) e2
        exact absurd e3 (show ¬ (Value.type "tuple" = Value.type "list") by decide)
      · exact ⟨D2, _, _, nn2, t1, t2, rr, rfl, e2, rfl, rfl, rfl⟩
    have e0 : (vs.toArray.toList).length = l.length := by simpa using hvl
    refine kat_lsort H.F N0 (UpdF.head hoff) rfl (by rw [e0]; omega) (by rw [e0]; omega) fun e1 h' F' N' => ?_
    have N₀ : News c.h₀ c.L h' (pre ++ post) := fun p hp => N' p (.tail _ hp)
    refine tups_kind (s := { z.sh s with heap := h' }) (by omega) (by omega) ht N₀ ?_
    refine runK_wp (N := l.length) (lt := fun i j => pairLt (ks.getD i (0, 0)) (ks.getD j (0, 0))) (I := fun s' => ∃ tk, s' = { z.sh s with heap := h', toks := tk }) (a := q) ?_ ?_ _ _ (by simpa [hvl] using hq) ⟨_, rfl⟩
    · rintro i j C s' hi hj hij ⟨tk, rfl⟩ hC
      exact ask_tup2 (s := { z.sh s with heap := h', toks := tk }) (by omega) hnd ht N₀ (by omega) (by omega) hij (hC _ ⟨tk, rfl⟩)
    · rintro s' ⟨tk, rfl⟩
      refine KasFin.intro (s := { z.sh s with heap := h', toks := tk }) F' N' (UpdF.head hoff) fun h'' c F'' N'' => ?_
      refine G.put H rfl hk F'' (back N'') (fun e => nomatch e) ⟨_, _, rfl, hr.pick q.toList⟩
end
def BId.nm : BId → String
  | .len => "len"
  | .max => "max"
  | .sorted => "sorted"
  | .ord => "ord"
theorem bid_eq {id : String} {i : BId} (h : bid id = some i) : id = i.nm := by
  unfold bid at h
  cases e1 : decide (id = "len") with
  | true => rw [e1] at h; cases h; exact of_decide_eq_true e1
  | false =>
    rw [e1] at h
    cases e2 : decide (id = "max") with
    | true => rw [e2] at h; cases h; exact of_decide_eq_true e2
    | false =>
      rw [e2] at h
      cases e3 : decide (id = "sorted") with
      | true => rw [e3] at h; cases h; exact of_decide_eq_true e3
      | false =>
        rw [e3] at h
        cases e4 : decide (id = "ord") with
        | true => rw [e4] at h; cases h; exact of_decide_eq_true e4
        | false => rw [e4] at h; cases h
section
variable {Γ : Gm} {orc : Orc} {kf : Nat} {c : Cx} {M : Str → Option Value} {z : Zs} {g g' : Sg} {s : Shared} {v a b : SV} {V U : Value}
set_option maxRecDepth 20000 in
theorem getm_ok {i : MId} {x : Str} {pl : Sem Bool} {Q : Value × List Value → Shared → Prop} (h : methId g.σ a x = some i) (H : Cor Γ c M g z) (ha : RV z.ρ a V) (G : Q (.builtin i.id, [V]) (z.sh s)) :
    wpAny (model Γ.prog Γ.w) c.A (getMethod V x pl) Q c.E (z.sh s) := by
  cases a with
  | bytes l =>
    refine guard_elim h fun e h => ?_
    cases h
    refine and_elim e fun e1 e2 => ?_
    obtain ⟨b, t, rfl, hb⟩ := ha
    rw [sq_eq.mp e2]
    exact bjoin_method G
  | str y =>
    obtain ⟨t, rfl⟩ := ha
    have hm2 := look_mem (show look strT x = some i from h)
    unfold strT at hm2
    simp only [List.mem_cons, List.not_mem_nil, or_false, Prod.mk.injEq] at hm2
    rcases hm2 with ⟨rfl, rfl⟩ | ⟨rfl, rfl⟩
    · exact PySem.GM.startswith G
    · exact PySem.GM.split G
  | obj k =>
    refine bind_elim2 h fun k so hq h2 => ?_
    clear h
    obtain ⟨D, o, rfl, hD, hk, hm, hr⟩ := H.ob ha (oO_eq hq)
    cases so with
    | list l =>
      obtain ⟨vs, nn, rfl, hr⟩ := hr
      have hm2 := look_mem (show look listT x = some i from h2)
      unfold listT at hm2
      simp only [List.mem_cons, List.not_mem_nil, or_false, Prod.mk.injEq] at hm2
      rcases hm2 with ⟨rfl, rfl⟩ | ⟨rfl, rfl⟩ | ⟨rfl, rfl⟩ | ⟨rfl, rfl⟩ | ⟨rfl, rfl⟩
      · exact kl_method H.N hm PySem.F.slot_list_append PySem.F.type_list_append G
      · exact kl_method H.N hm PySem.F.slot_list_extend PySem.F.type_list_extend G
      · exact kl_method H.N hm PySem.F.slot_list_pop PySem.F.type_list_pop G
      · exact kl_method H.N hm PySem.F.slot_list_insert PySem.F.type_list_insert G
      · exact kl_method H.N hm PySem.F.slot_list_sort PySem.F.type_list_sort G
    | dict l =>
      obtain ⟨kvs, hd, hr⟩ := hr
      refine guard_elim h2 fun e h => ?_
      cases h
      refine and_elim e fun e1 e2 => ?_
      rw [sq_eq.mp e1]
      obtain ⟨ys, hy⟩ := Option.isSome_iff_exists.mp e2
      obtain ⟨c, hc, _⟩ := itemsI_eq hy
      rw [hc] at hr
      exact idict_method (c := c) rfl H.N hm ⟨kvs, hd, hr.ints⟩ (H.led.lo _ _ D (oO_eq hq).2 rfl hD) G
    | _ => cases h2
  | _ => cases h
theorem RVs.strs {ρ : List Addr} {l : List Str} {vs : List Value} (r : StrsAre vs l) : RVs ρ (l.map .str) vs := by
  induction r with
  | nil => exact .nil
  | cons n t _ ih => exact .cons ⟨t, rfl⟩ ih
theorem bs_are {ρ : List Addr} {l : List SV} {vs : List Value} (r : RVs ρ l vs) : ∀ {ks : List (List Int)}, mapS vB l = some ks → BsAre vs ks := by
  induction r with
  | nil => intro ks h; cases h; exact .nil
  | @cons v V l L hv _ ih =>
    intro ks h
    obtain ⟨k, ks, h1, h2, rfl⟩ := mapS_cons h
    obtain rfl := vB_eq h1
    obtain ⟨b, t, rfl, hb⟩ := hv
    exact BsAre.app (BsAre.snoc .nil hb) (ih h2)
theorem callm_ok {i : MId} {vs : List SV} {Vs : List Value} {Q : Value → Shared → Prop} (h0 : methS i a vs g = some (v, g')) (H : Cor Γ c M g z) (ha : RV z.ρ a V) (hv : RVs z.ρ vs Vs) (G : Got Γ c M g z s Q v g') :
    wpAny (model Γ.prog Γ.w) c.A (call (.builtin i.id) (V :: Vs)) Q c.E (z.sh s) := by
  have hone : ∀ {x : SV}, one vs = some x → ∃ X, Vs = [X] ∧ RV z.ρ x X := fun {x} hx => by
    rw [one_eq hx] at hv
    rcases hv with _ | ⟨h1, hv⟩
    cases hv
    exact ⟨_, rfl, h1⟩
  cases i with
  | app =>
    refine bind_elim2 h0 fun k l hq h => ?_
    refine bind_elim h fun x hx h => ?_
    refine guard_elim h fun hz h => ?_
    replace G := G.of h
    have hz' := small_le hz
    obtain ⟨X, rfl, hX⟩ := hone hx
    obtain ⟨D, us, nn, rfl, hk, hm, hr, hrl⟩ := H.list ha hq
    refine append_K (its := us.toArray) (n := nn) H.F H.N (UpdF.upd (H.upd hk) _) (fun h' F' N' => ?_) (by rw [List.size_toArray, sizeLine_eq]; omega)
    exact G.put H rfl hk F' N' (fun e => nomatch e) ⟨us ++ [X], nn + 1, by simp, hr.append (.cons hX .nil)⟩
  | ext =>
    refine bind_elim2 h0 fun k l hq h => ?_
    refine bind_elim h fun x hx h => ?_
    refine bind_elim2 h fun k' l' hq' h => ?_
    refine guard_elim h fun hz h => ?_
    replace G := G.of h
    have hz' := small_le hz
    obtain ⟨X, rfl, hX⟩ := hone hx
    obtain ⟨D, us, nn, rfl, hk, hm, hr, hrl⟩ := H.list ha hq
    obtain ⟨D', us', nn', rfl, hk', hm', hr', hrl'⟩ := H.list hX hq'
    refine extend_U (its := us.toArray) (n := nn) H.F H.N hm' (H.upd hk) (by rw [List.size_toArray, List.size_toArray, sizeLine_eq]; omega) fun h' n' F' N' => ?_
    exact G.put H rfl hk F' N' (fun e => nomatch e) ⟨us ++ us', n', by simp, hr.append hr'⟩
  | pop =>
    refine bind_elim2 h0 fun k l hq h => ?_
    refine bind_elim h fun x hx h => ?_
    refine bind_elim h fun i hi h1 => ?_
    refine guard_elim h1 fun hz h2 => ?_
    clear h0 h h1
    refine and_elim hz fun e0 hz => ?_
    have hz' := small_le hz
    obtain ⟨X, rfl, hX⟩ := hone hx
    obtain rfl := vI_eq hi
    obtain rfl := of_decide_eq_true e0
    obtain ⟨t, rfl⟩ := hX
    obtain ⟨D, us, nn, rfl, hk, hm, hr, hrl⟩ := H.list ha hq
    cases l with
    | nil => cases h2
    | cons y r =>
      replace G := G.of h2
      rcases hr with _ | ⟨hx, hr⟩
      rename_i X us
      refine kl_popAt (k := 0) (p := []) (q := us) (its := (X :: us).toArray) (n := nn) H.F H.N (by decide) ?_ rfl (UpdF.upd (H.upd hk) _) ?_ fun h' F' N' => ?_
      · simp [seqIndex?]
      · show (X :: us).length ≤ sizeLine
        rw [sizeLine_eq]

        omega
      · exact G.put H hx hk F' N' (fun e => nomatch e) ⟨us, nn + 1, rfl, hr⟩
  | ins =>
    refine bind_elim2 h0 fun k l hq h => ?_
    refine bind_elim2 h fun x y hx h => ?_
    refine bind_elim h fun i hi h => ?_
    refine guard_elim h fun hz h => ?_
    replace G := G.of h
    refine and_elim hz fun e0 hz => ?_
    have hz' := small_le hz
    have e1 := of_decide_eq_true e0
    obtain rfl := vI_eq hi
    rw [two_eq hx] at hv
    rcases hv with _ | ⟨⟨t, rfl⟩, hv⟩
    rcases hv with _ | ⟨hx, hv⟩
    cases hv
    rename_i X
    obtain ⟨D, us, nn, rfl, hk, hm, hr, hrl⟩ := H.list ha hq

    have e : kl_ins us i X = us.take i.toNat ++ X :: us.drop i.toNat := by
      unfold kl_ins
      rw [if_neg (by omega)]
      have : min i.toNat us.length = i.toNat := by omega
      rw [this]
    refine kl_insert (its := us.toArray) (n := nn) H.F H.N ?_ e (UpdF.upd (H.upd hk) _) (by show us.length ≤ sizeLine; rw [sizeLine_eq]; omega) fun h' F' N' => ?_
    · simp only [Builtin.List.listFitsIndex, Bool.and_eq_true, decide_eq_true_eq]
      omega
    · exact G.put H rfl hk F' N' (fun e => nomatch e) ⟨_, nn + 1, rfl, (hr.take _).append (.cons hx (hr.drop _))⟩
  | sort =>
    refine bind_elim2 h0 fun k l hq h => ?_
    refine guard_elim h fun e h => ?_
    refine map_elim h fun l' hl h => ?_
    replace G := G.of' h
    rw [List.isEmpty_iff.mp e] at hv
    cases hv
    exact sort_ok hq hl H ha G
  | vals =>
    refine bind_elim2 h0 fun k l hq h => ?_
    refine guard_elim h fun e h => ?_
    replace G := G.of h
    refine and_elim e fun e1 e2 => ?_
    rw [List.isEmpty_iff.mp e1] at hv
    cases hv
    obtain ⟨D, o, kvs, rfl, hD, hk, hm, hd, hr, lo⟩ := H.dict ha hq
    obtain ⟨ys, hy⟩ := Option.isSome_iff_exists.mp e2
    obtain ⟨c, hc, _⟩ := itemsI_eq hy

    rw [hc] at hr
    refine idict_values (c := c) H.F H.N hm ⟨kvs, hd, hr.ints⟩ lo fun X h' F' N' l1 => ?_
    exact G.new H F' N' l1 (fun e => nomatch e) ⟨D, Ext.snoc _ _ hD, rfl⟩
  | join =>
    refine bind_elim h0 fun l hq h => ?_
    refine bind_elim h fun x hx h => ?_
    refine bind_elim h fun b hb h => ?_
    refine guard_elim h fun e h => ?_
    replace G := G.of h
    refine and_elim e fun e1 hz => ?_
    obtain rfl := vB_eq hq
    obtain ⟨X, rfl, hX⟩ := hone hx
    refine bind_elim2 hb fun k l2 h1 h2 => ?_
    refine guard_elim h2 fun hl2 h2 => ?_
    refine map_elim h2 fun c h3 hrfl => ?_
    subst hrfl
    obtain ⟨bb, t, rfl, hbb⟩ := ha
    rw [List.isEmpty_iff.mp e1] at hbb
    have hs : bb = #[] := Array.eq_empty_of_size_eq_zero (by rw [← KBw.ints_length, hbb]; rfl)
    subst hs
    obtain ⟨D, us, nn, rfl, hk, hm, hr, hrl⟩ := H.list hX h1
    have hz' := small_le hz
    exact bjoin_any (PySem.IsL.isList (n := nn) (H.N _ hm).1) (by simp) (bs_are hr h3) (by rw [hrl]; exact Nat.le_of_ble_eq_true hl2) (by omega) fun b t k e => G.now ⟨_, _, rfl, e⟩ H
  | starts =>
    refine bind_elim h0 fun x hx h => ?_
    refine bind_elim h fun u hu h => ?_
    refine map_elim h fun y hy h => ?_
    replace G := G.of' h
    obtain rfl := vS_eq hx
    obtain ⟨X, rfl, hX⟩ := hone hu
    obtain rfl := vS_eq hy
    obtain ⟨t, rfl⟩ := ha
    obtain ⟨t', rfl⟩ := hX
    exact PySem.SC.startswith (G.now rfl H)
  | split =>
    refine bind_elim h0 fun x hx h => ?_
    refine bind_elim h fun u hu h => ?_
    refine bind_elim h fun y hy h => ?_
    refine guard_elim h fun e h => ?_
    replace G := G.of h
    refine and_elim e fun e1 hz => ?_
    obtain rfl := vS_eq hx
    obtain ⟨X, rfl, hX⟩ := hone hu
    obtain rfl := vS_eq hy
    obtain ⟨t, rfl⟩ := ha
    obtain ⟨t', rfl⟩ := hX
    have hz' := small_le hz
    have e1' : 0 < y.length := Nat.le_of_ble_eq_true e1
    refine KSpl.split1 H.F H.N (by simp; omega) (fun D l h' k hl hs F' N' l1 => ?_) (by rw [sizeLine_eq]; omega)
    exact G.new H F' N' l1 (fun e => nomatch e) ⟨_, _, rfl, hl ▸ RVs.strs hs⟩
/-- a def's contract for the reckoner -/
def OrcOK (Γ : Gm) (orc : Orc) (kf : Nat) : Prop :=
  ∀ (f : Addr) (vs : List SV) (g : Sg) (v : SV) (g' : Sg) (c : Cx) (M : Str → Option Value) (z : Zs) (Vs : List Value) (s : Shared) (R : Result → Shared → Prop), orc f vs g = some (v, g') → Cor Γ c M g z → RVs z.ρ vs Vs → Orx Γ kf c →
    (∀ r z', Ex z g z' g' → RV z'.ρ v r → Cor Γ c M g' z' → R (.ok (.ret r)) (z'.sh s)) → codeAny (model Γ.prog Γ.w) c.A (.call (.ref f) ⟨Vs, []⟩) R (z.sh s)
theorem bytesS_eq : ∀ {l : List SV} {b : List Int}, mapS byteS l = some b → b.length = l.length ∧ KBa.In b ∧ ∀ {ρ : List Addr} {Vs : List Value}, RVs ρ l Vs → IntsAre Vs b
  | [], _, h => by
    cases h
    exact ⟨rfl, fun _ h => (nomatch h), fun r => by cases r; exact .nil⟩
  | v :: r, b, h => by
    obtain ⟨x, l, h1, h2, rfl⟩ := mapS_cons h
    refine bind_elim h1 fun y h3 h4 => ?_
    refine guard_elim h4 fun e h4 => ?_
    cases h4
    obtain rfl := vI_eq h3
    obtain ⟨a1, a2, a3⟩ := bytesS_eq h2
    refine ⟨by rw [List.length_cons, List.length_cons, a1], fun y hy => ?_, fun r => ?_⟩
    · rcases List.mem_cons.mp hy with rfl | hy
      · exact of_decide_eq_true e
      · exact a2 y hy
    · rcases r with _ | ⟨⟨t, rfl⟩, r⟩
      exact .cons _ _ (a3 r)
theorem RVs.ints {ρ : List Addr} {l : List Int} {vs : List Value} (r : IntsAre vs l) : RVs ρ (l.map .int) vs := by
  induction r with
  | nil => exact .nil
  | cons n t _ ih => exact .cons ⟨t, rfl⟩ ih
theorem callb_ok {i : BId} {id : String} {Q : Value → Shared → Prop} (hi : bid id = some i) (h : callB i a g = some (v, g')) (C : Orx Γ kf c) (H : Cor Γ c M g z) (ha : RV z.ρ a V) (G : Got Γ c M g z s Q v g') :
    wpAny (model Γ.prog Γ.w) c.A (call (.builtin id) [V]) Q c.E (z.sh s) := by
  obtain rfl := bid_eq hi
  cases i with
  | len =>
    refine bind_elim h fun n hn h => ?_
    refine guard_elim h fun hz h => ?_
    replace G := G.of h
    have hz' := small_le hz
    cases a with
    | bytes l =>
      obtain ⟨b, t, rfl, e2⟩ := ha
      cases hn
      exact KBw.len_K e2 (by omega) (G.now ⟨_, rfl⟩ H)
    | str x =>
      obtain ⟨t, rfl⟩ := ha
      cases hn
      exact PyProof.Rows.len_str (by omega) (G.now ⟨_, rfl⟩ H)
    | obj k =>
      refine bind_elim2 (show bind2 (oO g.σ (.obj k)) (fun _ o => lenO o) = some n from hn) fun k so hq hn => ?_
      obtain ⟨D, o, rfl, hD, hk, hm, hr⟩ := H.ob ha (oO_eq hq)
      cases so with
      | list l =>
        obtain ⟨us, nn, rfl, hr⟩ := hr
        cases hn
        refine len_list (PySem.IsL.isList (n := nn) (H.N _ hm).1) (by rw [List.size_toArray, hr.length]; omega) ?_
        rw [List.size_toArray, hr.length]
        exact G.now ⟨_, rfl⟩ H
      | dict l =>
        obtain ⟨kvs, hd, hr⟩ := hr
        cases hn
        refine kda_len (knd := PySem.intKind _ _) H.N hm hd (H.led.lo _ _ D (oO_eq hq).2 rfl hD) (by rw [hr.length]; omega) ?_
        rw [hr.length]
        exact G.now ⟨_, rfl⟩ H
      | sdict l =>
        obtain ⟨kvs, hd, hr⟩ := hr
        cases hn
        refine kda_len (knd := PySem.strKind _ _) H.N hm hd (H.led.lo _ _ D (oO_eq hq).2 rfl hD) (by rw [hr.length]; omega) ?_
        rw [hr.length]
        exact G.now ⟨_, rfl⟩ H
      | _ => cases hn
    | _ => cases hn
  | max =>
    refine map_elim h fun x hx h => ?_
    replace G := G.of' h
    refine bind_elim2 hx fun k so h1 h => ?_
    refine bind_elim h fun d h2 h => ?_
    refine bind_elim h fun so' h3 h => ?_
    refine bind_elim h fun l h4 h => ?_
    refine bind_elim h fun ys h5 h6 => ?_
    obtain ⟨f1, f2⟩ := oO_eq h1
    rw [soV_eq h2] at f2
    rw [soD_eq h4] at h3
    obtain ⟨D, o, rfl, hD, hk, hm, a', ha', rfl⟩ := H.ob ha ⟨f1, f2⟩
    obtain ⟨a2, o2, e2, ha2, hk2, hm2, kvs, hdd, hr⟩ := H.obj (V := .ref a') ⟨a', ha', rfl⟩ h3
    cases e2
    obtain ⟨cs, hc, rfl⟩ := itemsI_eq h5
    obtain ⟨i1, i2⟩ := maxI_ge.2 x h6
    rw [hc] at hr
    refine idict_max (c := cs) (d := a') (o := o2) (v := D) (news := z.nw ++ c.rest) C.hand H.F (fun q hq => ?_) hm2 ⟨kvs, hdd, hr.ints⟩ ?_ fun h' tk t Mx hM1 hM2 F' N' => ?_
    · rcases List.mem_cons.mp hq with rfl | hq
      · exact H.N _ hm
      · exact H.N _ hq
    · cases cs with
      | nil => cases i1
      | cons q cs => exact Nat.succ_pos _
    · have : Mx = x := Int.le_antisymm (i2 _ hM1) (hM2 _ i1)
      subst this
      exact G.same H ⟨_, rfl⟩ F' N'
  | sorted =>
    refine bind_elim2 h fun k l hq h => ?_
    refine guard_elim h fun he h => ?_
    replace G := G.of h
    obtain ⟨D, o, kvs, rfl, hD, hk, hm, hd, hr, lo⟩ := H.dict ha hq

    rw [List.isEmpty_iff.mp he] at hr
    cases hr
    refine kdu_sortedD (knd := PySem.intKind Γ.prog Γ.w) (enc := PyData.int) (D := []) (fun _ _ => kdl_flat_int) C.hand H.F H.N (TabAt.ofObj lo (H.N _ hm).1 hd .nil) (by decide) fun B h' tk F' N' l1 => ?_
    have z := N' (B, listOf #[] 0) (.head _)
    refine wpAny_call_entry slot_list_sort ⟨_, z.1, rfl⟩ entry_list_sort (sort_small (vs := []) F' (fun q hq => N' q (.tail _ hq)) z.1 z.2.1 z.2.2 (fun q hq => Nat.ne_of_lt (l1 q hq)) (by decide) fun c h2 F2 N2 => ⟨_, rfl, ?_⟩) (args_list_sort _)
    exact G.new H F2 N2 l1 (fun e => nomatch e) ⟨[], c, rfl, .nil⟩
  | ord =>
    refine map_elim h fun x hx h => ?_
    replace G := G.of' h
    refine bind_elim hx fun y hy hx => ?_
    refine map_elim hx fun n hn hrfl => ?_
    subst hrfl
    obtain rfl := vS_eq hy
    obtain ⟨t, rfl⟩ := ha
    obtain ⟨⟨l⟩⟩ := y
    have e : l = [n] := one_eq hn
    subst e
    exact P.ord_of_char (G.now ⟨_, rfl⟩ H)
theorem callt_ok {T : String} {Q : Value → Shared → Prop} (h : callT T a g = some (v, g')) (C : Orx Γ kf c) (H : Cor Γ c M g z) (ha : RV z.ρ a V) (G : Got Γ c M g z s Q v g') :
    wpAny (model Γ.prog Γ.w) c.A (call (.type T) [V]) Q c.E (z.sh s) := by
  unfold callT at h
  cases e1 : decide (T = "bytes") with
  | true =>
    rw [e1] at h
    obtain rfl := of_decide_eq_true e1
    refine bind_elim2 h fun k l hq h => ?_
    refine guard_elim h fun hz h => ?_
    refine map_elim h fun b hb h => ?_
    replace G := G.of' h
    have hz' := small_le hz
    obtain ⟨D, us, nn, rfl, hk, hm, hr, hl⟩ := H.list ha hq
    obtain ⟨b1, b2, b3⟩ := bytesS_eq hb
    exact KBa.make_K H.F H.N C.hand (PySem.IsL.isList (n := nn) (H.N _ hm).1) (b3 hr) b2 (by omega) fun h' t' k' F' N' _ => G.same H ⟨_, _, rfl, KBa.ints_make b2⟩ F' N'
  | false =>
    rw [e1] at h
    cases e2 : decide (T = "list") with
    | true =>
      rw [e2] at h
      obtain rfl := of_decide_eq_true e2
      refine bind_elim h fun l hl h => ?_
      refine guard_elim h fun hz h => ?_
      replace G := G.of h
      have hz' := small_le hz
      obtain rfl := vB_eq hl
      obtain ⟨b, t, rfl, hb⟩ := ha
      refine list_B C.hand H.F H.N hb (by omega) fun D c h' tk vs F' N' l1 hi => ?_
      exact G.new H F' N' l1 (fun e => nomatch e) ⟨_, _, rfl, RVs.ints hi⟩
    | false =>
      rw [e2] at h
      cases e3 : decide (T = "str") with
      | true =>
        rw [e3] at h
        obtain rfl := of_decide_eq_true e3
        refine bind_elim h fun n hn h => ?_
        refine guard_elim h fun hz h => ?_
        replace G := G.of h
        have hz' := of_decide_eq_true hz
        obtain rfl := vI_eq hn
        obtain ⟨t, rfl⟩ := ha
        refine PySem.P.str_of_int ?_ (G.now ⟨_, rfl⟩ H)
        have h1 : n.natAbs < 2 ^ 1920 := Nat.lt_of_lt_of_le (show n.natAbs < 2 ^ 20 by omega) (Nat.pow_le_pow_right (by decide) (by decide))
        cases h0 : n.natAbs with
        | zero => decide
        | succ k => exact (Nat.log2_lt (by omega)).mpr (h0 ▸ h1)
      | false => rw [e3] at h; cases h
theorem new_ok {f : Addr} {vs : List SV} {Vs : List Value} {Q : Value → Shared → Prop} (O : OrcOK Γ orc kf) (hmk : makesIn Γ.K f = true) (h : newS Γ.K orc f vs g = some (v, g')) (C : Orx Γ (kf + 1) c) (H : Cor Γ c M g z) (hv : RVs z.ρ vs Vs) (G : Got Γ c M g z s Q v g') :
    wpAny (model Γ.prog Γ.w) c.A (call (.ref f) Vs) Q c.E (z.sh s) := by
  have Y := C.lower
  unfold newS at h
  cases hfi : findIn Γ.K (.ref f) "__init__" with
  | none => rw [hfi] at h; cases h
  | some r =>
    rw [hfi] at h
    cases r with
    | none => cases h
    | some r =>
      cases r with
      | ref fI =>
        refine guard_elim h fun hfn h => ?_
        refine bind_elim2 h fun v1 g1 ho h => ?_
        cases v1 with
        | none =>
          replace G := G.of h
          refine call_cls H.F C.X H.N hmk hfi hfn fun x dx h1 F1 N1 l1 l2 => ?_
          have hlen := H.led.size
          have H1 : Cor Γ c M (mkO (.att []) g).2 ⟨z.ρ ++ [dx], z.nw ++ [(dx, dictOf [] 0)], h1, z.tk, z.g⟩ := H.new F1 (fun q hq => N1 q (.tail _ hq)) l1 (fun e => nomatch e) ⟨[], 0, rfl, .nil⟩
          have H2 : Cor Γ c M (mkO (.inst f g.σ.length) (mkO (.att []) g).2).2 ⟨z.ρ ++ [dx] ++ [x], z.nw ++ [(dx, dictOf [] 0)] ++ [(x, { cls := .ref f, dict := some dx, data := .plain })], h1, z.tk, z.g⟩ := H1.new F1 (fun q hq => N1 q (by
            rcases List.mem_cons.mp hq with rfl | hq
            · exact .head _
            · rcases List.mem_append.mp hq with hq | hq
              · rcases List.mem_append.mp hq with hq | hq
                · exact .tail _ (.tail _ (List.mem_append.mpr (.inl hq)))
                · rw [List.mem_singleton.mp hq]; exact .tail _ (.head _)
              · exact .tail _ (.tail _ (List.mem_append.mpr (.inr hq))))) (fun q hq => by
            rcases List.mem_append.mp hq with hq | hq
            · rcases List.mem_append.mp hq with hq | hq
              · exact Nat.lt_trans (l1 q (List.mem_append.mpr (.inl hq))) l2
              · rw [List.mem_singleton.mp hq]; exact l2
            · exact Nat.lt_trans (l1 q (List.mem_append.mpr (.inr hq))) l2) (fun e => nomatch e) ⟨dx, by show (z.ρ ++ [dx] ++ [x])[g.σ.length]? = _; rw [← hlen]; simp, rfl⟩
          have e1 : Ex z g ⟨z.ρ ++ [dx] ++ [x], z.nw ++ [(dx, dictOf [] 0)] ++ [(x, { cls := .ref f, dict := some dx, data := .plain })], h1, z.tk, z.g⟩ (mkO (.inst f g.σ.length) (mkO (.att []) g).2).2 := H.led.exNew.trans H1.led.exNew
          have hself : RV (z.ρ ++ [dx] ++ [x]) (.obj (g.σ.length + 1)) (.ref x) := ⟨x, by rw [← hlen]; simp, rfl⟩
          obtain ⟨outer, A₀, base, hfr, B⟩ := C.stk
          refine O fI _ _ .none g1 { c with A := c.A.under (.builtin "type.__call__" ⟨.ref f :: Vs, []⟩) } M ⟨_, _, h1, z.tk, z.g⟩ (.ref x :: Vs) s _ ho ⟨H2.F, H2.N, H2.led⟩ (.cons hself ((hv.mono Ext.snoc).mono Ext.snoc)) ⟨Y.hand, ⟨outer, A₀, base, ?_, B⟩, Y.fr, Y.fk, ?_, ?_, Y.X, Y.T, Y.gd⟩ fun r z3 x1 x2 x3 => ?_
          · show (c.A.under _).frames = _
            unfold Around.under
            dsimp only
            rw [hfr]
            rfl
          · show (c.A.under _).depth + _ < _
            rw [depth_under_make]
            have := C.dep
            omega
          · show (c.A.under _).units + _ < _
            rw [units_under_make]
            have := C.uni
            omega
          · exact ⟨x2, G _ z3 (e1.trans x1) (hself.mono x1.ext) ⟨x3.F, x3.N, x3.led⟩⟩
        | _ => cases h
      | _ => cases h
theorem inst_at {q : Nat × Addr × Nat × List (Str × SV)} (H : Cor Γ c M g z) (hV : RV z.ρ a V) (h : oI g.σ a = some q) :
    ∃ x dx es n, V = .ref x ∧ InstAt z.h x ⟨.ref q.2.1, some dx, .plain, #[]⟩ q.2.1 (some (dictOf es n)) ∧ RAs Γ.w.params z.ρ q.2.2.2 es ∧ z.nw[q.2.2.1]? = some (dx, dictOf es n) := by
  refine bind_elim2 h fun k so h1 h => ?_
  refine bind_elim2 h fun Cl d h2 h => ?_
  refine bind_elim h fun so' h3 h => ?_
  refine map_elim h fun l h4 hrfl => ?_
  subst hrfl
  obtain ⟨e1, e2⟩ := oO_eq h1
  rw [soI_eq h2] at e2
  rw [soA_eq h4] at h3
  obtain ⟨x, o, rfl, hx, hk, hm, dx, hdx, rfl⟩ := H.ob hV ⟨e1, e2⟩
  obtain ⟨dx', od, e, hdx', hk', hm', es, n, rfl, hr⟩ := H.obj (V := .ref dx) ⟨dx, hdx, rfl⟩ h3
  cases e
  exact ⟨x, dx, es, n, rfl, InstAt.of_news H.N hm hm', hr, hk'⟩
theorem isFnV_eq {K : Frag} {m : Value} {f : Addr} (h : isFnV K m = some f) : m = .ref f ∧ isFn K (.ref f) = true := by
  cases m with
  | ref a => obtain ⟨h1, h2⟩ := guard_some (show guardS (isFn K (.ref a)) (some a) = some f from h); cases h2; exact ⟨rfl, h1⟩
  | _ => cases h
theorem leni_ok {Q : Value → Shared → Prop} (O : OrcOK Γ orc kf) (h : lenI Γ.K orc a g = some (v, g')) (C : Orx Γ (kf + 1) c) (H : Cor Γ c M g z) (ha : RV z.ρ a V) (G : Got Γ c M g z s Q v g') :
    wpAny (model Γ.prog Γ.w) c.A (call (.builtin "len") [V]) Q c.E (z.sh s) := by
  refine bind_elim h fun q hq h => ?_
  cases hfi : findIn Γ.K (.ref q.2.1) "__len__" with
  | none => rw [hfi] at h; cases h
  | some r =>
    rw [hfi] at h
    cases r with
    | none => cases h
    | some m =>
      refine bind_elim h fun f hf h => ?_
      refine bind_elim2 h fun r g1 ho h => ?_
      refine bind_elim h fun n hn h => ?_
      refine guard_elim h fun hz h => ?_
      replace G := G.of h
      obtain ⟨rfl, hfn⟩ := isFnV_eq hf
      obtain rfl := vI_eq hn
      have hz' := of_decide_eq_true hz
      obtain ⟨x, dx, es, nn, rfl, I, hr, hk⟩ := inst_at H ha hq
      have Y := C.lower
      obtain ⟨outer, A₀, base, hfr, B⟩ := C.stk
      refine PySem.W.len_K H.F C.X I hfi hfn (wpAny_call (O f _ _ _ _ { c with A := c.A.in1 } M z [.ref x] s _ ho ⟨H.F, H.N, H.led⟩ (.cons ha .nil) ⟨Y.hand, ⟨outer, A₀, base, hfr, B⟩, Y.fr, Y.fk, ?_, ?_, Y.X, Y.T, Y.gd⟩ fun r z3 x1 x2 x3 => ?_))
      · show c.A.in1.depth + _ < _
        rw [depth_in1]
        exact Y.dep
      · show c.A.in1.units + _ < _
        rw [units_in1]
        have := C.uni
        omega
      · obtain ⟨t, rfl⟩ := x2
        exact ⟨⟨hz'.1, by omega⟩, (G.after x1).now ⟨_, rfl⟩ ⟨x3.F, x3.N, x3.led⟩⟩
theorem call_ok {f : Value} {vs : List SV} {Vs : List Value} {Q : Value → Shared → Prop} (O : OrcOK Γ orc kf) (h : callS Γ.K orc f vs g = some (v, g')) (C : Orx Γ (kf + 1) c) (H : Cor Γ c M g z) (hv : RVs z.ρ vs Vs) (G : Got Γ c M g z s Q v g') :
    wpAny (model Γ.prog Γ.w) c.A (call f Vs) Q c.E (z.sh s) := by
  have hone : ∀ {x : SV}, one vs = some x → ∃ X, Vs = [X] ∧ RV z.ρ x X := fun {x} hx => by
    rw [one_eq hx] at hv
    rcases hv with _ | ⟨h1, hv⟩
    cases hv
    exact ⟨_, rfl, h1⟩
  cases f with
  | builtin id =>
    refine bind_elim h fun i hi h => ?_
    refine bind_elim h fun x h1 h => ?_
    obtain ⟨X, rfl, hX⟩ := hone h1
    cases i with
    | len =>
      have h' : (match oI g.σ x with | some _ => lenI Γ.K orc x g | none => callB .len x g) = some (v, g') := h
      cases ho : oI g.σ x with
      | some q => rw [ho] at h'; obtain rfl := bid_eq hi; exact leni_ok O h' C H hX G
      | none => rw [ho] at h'; exact callb_ok hi h' C H hX G
    | max => exact callb_ok hi h C H hX G
    | sorted => exact callb_ok hi h C H hX G
    | ord => exact callb_ok hi h C H hX G
  | type T =>
    refine bind_elim h fun x h1 h => ?_
    obtain ⟨X, rfl, hX⟩ := hone h1
    exact callt_ok h C H hX G
  | ref f =>
    have h' : (match makesIn Γ.K f with | true => newS Γ.K orc f vs g | false => orc f vs g) = some (v, g') := h
    cases hmk : makesIn Γ.K f with
    | true =>
      rw [hmk] at h'
      exact new_ok O hmk h' C H hv G
    | false =>
      rw [hmk] at h'
      exact wpAny_call (O f vs g v g' c M z Vs s _ h' H hv C.lower fun r z' x1 x2 x3 => G r z' x1 x2 x3)
  | _ => cases h
theorem getL_ok {P : Params} {ρ : List Addr} {l : List (Str × SV)} {es : List DictEntry} (r : RAs P ρ l es) (x : Str) : (∀ v, look l x = some v → ∃ V, getL x es = some (some V) ∧ RV ρ v V) ∧ (look l x = none → getL x es = some none) ∧ es.any (·.refKey) = false := by
  induction r with
  | nil => exact ⟨fun v h => (by cases h), fun _ => rfl, rfl⟩
  | @cons y t v V l es a _ ih =>
    have hr : (({ hash := PyData.keyHash P y, key := .str y t, val := V } : DictEntry) :: es).any (·.refKey) = false := by
      show (_ || es.any (·.refKey)) = false
      rw [ih.2.2]
      rfl
    refine ⟨fun u h => ?_, fun h => ?_, hr⟩
    · rw [look_cons] at h
      by_cases e : y = x
      · rw [if_pos e] at h
        cases h
        refine ⟨V, ?_, a⟩
        unfold getL
        rw [List.find?_cons_of_pos (by show (y == x) = true; simpa using e)]
      · rw [if_neg e] at h
        obtain ⟨U, h1, h2⟩ := ih.1 u h
        refine ⟨U, ?_, h2⟩
        unfold getL at h1 ⊢
        rw [List.find?_cons_of_neg (by show ¬ (y == x) = true; simpa using e)]
        split at h1
        · exact h1
        · split at h1 <;> cases h1
    · rw [look_cons] at h
      by_cases e : y = x
      · rw [if_pos e] at h; cases h
      · rw [if_neg e] at h
        have := ih.2.1 h
        unfold getL at this ⊢
        rw [List.find?_cons_of_neg (by show ¬ (y == x) = true; simpa using e)]
        split at this
        · rename_i e1; cases this
        · rw [hr]; rfl
theorem putL_ok {P : Params} {ρ : List Addr} {x : Str} {t : Tok} {v : SV} {V : Value} (hv : RV ρ v V) {l : List (Str × SV)} {es : List DictEntry} (r : RAs P ρ l es) : RAs P ρ (putM l x v) (putL x (PyData.keyHash P x) (.str x t) V es) := by
  induction r with
  | nil => exact .cons hv .nil
  | @cons y u w' W l es a r ih =>
    rw [putM_cons]
    show RAs P ρ _ (if (y == x) = true then _ else _)
    by_cases e : y = x
    · rw [if_pos e, if_pos (by simpa using e)]
      exact .cons hv r
    · rw [if_neg e, if_neg (by simpa using e)]
      exact .cons a ih
theorem RAs.length {P : Params} {ρ : List Addr} {l : List (Str × SV)} {es : List DictEntry} (r : RAs P ρ l es) : es.length = l.length := by
  induction r with
  | nil => rfl
  | cons _ _ ih => rw [List.length_cons, List.length_cons, ih]
theorem putL_len {x : Str} {hh : Int} {k V : Value} : ∀ {es : List DictEntry}, (putL x hh k V es).length ≤ es.length + 1
  | [] => Nat.le_refl _
  | e :: r => by
    unfold putL
    split
    · simp
    · have := putL_len (x := x) (hh := hh) (k := k) (V := V) (es := r)
      simp only [List.length_cons]
      omega
theorem hand_ok {ρ : List Addr} {v : SV} {V : Value} (h : handS v = true) (r : RV ρ v V) : handedIn V = true := by
  cases v with
  | none => cases r; rfl
  | bool b => cases r; rfl
  | int i => obtain ⟨t, rfl⟩ := r; rfl
  | obj k => obtain ⟨a, _, rfl⟩ := r; rfl
  | val u => cases r; exact h
  | bytes l => obtain ⟨b, t, rfl, _⟩ := r; rfl
  | str x => obtain ⟨t, rfl⟩ := r; rfl
theorem att_ok {x : Str} {Q : Value → Shared → Prop} {ex : Bool} (h : attS Γ.K x a g = some v) (C : Orx Γ kf c) (H : Cor Γ c M g z) (hV : RV z.ρ a V) (G : ∀ W tk, RV z.ρ v W → Q W { z.sh s with toks := tk }) :
    wpAny (model Γ.prog Γ.w) c.A (getAttr V x ex) Q c.E (z.sh s) := by
  refine bind_elim h fun q hq h => ?_
  refine bind_elim h fun B hf h => ?_
  refine guard_elim h fun hg h => ?_
  refine and_elim hg fun hg h3 => ?_
  refine and_elim hg fun h1 h2 => ?_
  refine bind_elim h fun u hu h => ?_
  refine guard_elim h fun hh h => ?_
  cases h
  obtain ⟨a, dx, es, n, rfl, I, hr, _⟩ := inst_at H hV hq
  obtain ⟨W, hW, hrW⟩ := (getL_ok hr x).1 _ hu
  exact get_own H.F C.X I h1 h2 hf h3 hW (hand_ok hh hrW) (G W _ hrW)
theorem seta_ok {x : Str} {d : SV} {Q : Unit → Shared → Prop} {W : Value} (h : setA Γ.K x a d g = some g') (C : Orx Γ kf c) (H : Cor Γ c M g z) (hV : RV z.ρ a V) (hv : RV z.ρ d W)
    (G : ∀ z', Ex z g z' g' → Cor Γ c M g' z' → Q () (z'.sh s)) : wpAny (model Γ.prog Γ.w) c.A (setAttr V x W) Q c.E (z.sh s) := by
  refine bind_elim h fun q hq h => ?_
  refine guard_elim h fun hg h => ?_
  cases h
  refine and_elim hg fun hg h5 => ?_
  refine and_elim hg fun hg h4 => ?_
  refine and_elim hg fun hg h3 => ?_
  refine and_elim hg fun h1 h2 => ?_
  obtain ⟨a, dx, es, n, rfl, I, hr, hk⟩ := inst_at H hV hq
  have hlen := hr.length
  have h5' : q.2.2.2.length ≤ 900 := Nat.le_of_ble_eq_true h5
  have hget : (getL x es).isSome = true := by
    cases hl : look q.2.2.2 x with
    | none => rw [(getL_ok hr x).2.1 hl]; rfl
    | some u =>
      obtain ⟨U, hU, _⟩ := (getL_ok hr x).1 u hl
      rw [hU]; rfl
  refine set_dict H.F C.X H.N I rfl (beq_iff_eq.mp h1) h2 (beq_iff_eq.mp h3) h4 hget rfl (UpdF.upd (H.upd hk) _) ?_ fun h' F' N' => ?_
  · have := putL_len (x := x) (hh := PyData.keyHash Γ.w.params x) (k := .str x ((z.sh s).toks + 1)) (V := W) (es := es)
    omega
  · exact G ⟨_, _, _, _, _⟩ exPut (H.put hk F' N' (fun e => nomatch e) ⟨_, _, rfl, putL_ok hv hr⟩)
theorem instm_ok {x : Str} {f : Addr} {pl : Sem Bool} {Q : Value × List Value → Shared → Prop} (h : instM Γ.K x a g = some f) (C : Orx Γ kf c) (H : Cor Γ c M g z) (hV : RV z.ρ a V) (G : keepIn Γ.K (.ref f) = true → makesIn Γ.K f = false → Q (.ref f, [V]) (z.sh s)) :
    wpAny (model Γ.prog Γ.w) c.A (getMethod V x pl) Q c.E (z.sh s) := by
  refine bind_elim h fun q hq h => ?_
  refine bind_elim h fun B₀ hf h1 => ?_
  refine bind_elim h1 fun B e1 h2 => ?_
  refine bind_elim h2 fun g hg h3 => ?_
  refine guard_elim h3 fun hq2 h4 => ?_
  have hB : B = Value.ref g := by cases B <;> cases hg <;> rfl
  have hgf : g = f := Option.some.inj h4
  rw [e1, hB, hgf] at hf
  rw [hgf] at hq2
  refine and_elim hq2 fun hg h5 => ?_
  refine and_elim hg fun hg h4 => ?_
  refine and_elim hg fun hg h3 => ?_
  refine and_elim hg fun h1 h2 => ?_
  obtain ⟨a, dx, es, n, rfl, I, hr, hk⟩ := inst_at H hV hq
  exact method_inst H.F C.X I h1 hf h2 ((getL_ok hr x).2.1 (by simpa using h4)) (G h3 (by simpa using h5))
end
theorem star_cons {e : Expr} (h : notStar e = true) (rest : List Expr) (env : Env) : starEach (e :: rest) env = (false, eval e env) :: starEach rest env := by
  cases e <;> first | rfl | cases h
theorem star_any {env : Env} {pos : Pos} : ∀ {es : List Expr}, es.all notStar = true → (backTo pos (starEach es env)).any (·.1) = false
  | [], _ => rfl
  | e :: r, h => by
    refine and_elim (show (notStar e && r.all notStar) = true from h) fun h1 h2 => ?_
    rw [star_cons h1]
    show (false || (backTo pos (starEach r env)).any (·.1)) = false
    rw [star_any h2]
    rfl
theorem star_len {env : Env} {pos : Pos} : ∀ {es : List Expr}, es.all notStar = true → (backTo pos (starEach es env)).all (!·.1) = true
  | [], _ => rfl
  | e :: r, h => by
    refine and_elim (show (notStar e && r.all notStar) = true from h) fun h1 h2 => ?_
    rw [star_cons h1]
    show (true && (backTo pos (starEach r env)).all (!·.1)) = true
    rw [star_len h2]
    rfl
theorem swaps_plain {e : Expr} (h : plainE e = true) (t : Option Expr) (l : Nat) (env : Env) : swapsWith e t l env = pure false := by
  cases e <;> first | rfl | cases h
theorem meth_he {b : Expr} {name : Str} {ap pos : Pos} {args : List Expr} {env : Env} (h0 : noCall b = true) (h1 : args.all notStar = true) (h2 : (ap.endLine == pos.line) = true) (h3 : args.length < 30) :
    eval (.Call (.Attribute b name ap) args [] pos) env = (do
      let ov ← eval b env
      standAt ap.atName
      let (f, first) ← holding [ov] (getMethod ov name (do return (← importBound b env).getD true))
      callWith pos f first (backTo pos (starEach args env)) []) := by
  have hf : methodCallForm (args.length + 0) (backTo pos (starEach args env)) (backToKw pos (keywordEach [] env)) = true := by
    unfold methodCallForm
    rw [star_len h1]
    simp [keywordEach, backToKw, h3]
  have hb : ∀ m : Sem Value, attributeBase b name env m = m := by
    intro m
    cases b <;> first | rfl | cases h0
  rw [show eval (.Call (.Attribute b name ap) args [] pos) env = (do
    let ov ← attributeBase b name env (eval b env)
    standAt ap.atName
    methodCall b name ap pos env ov (args.length + 0) (backTo pos (starEach args env)) (backToKw pos (keywordEach [] env))) from rfl, hb]
  show (do
      let ov ← eval b env
      standAt ap.atName
      methodCall b name ap pos env ov (args.length + 0) (backTo pos (starEach args env)) (backToKw pos (keywordEach [] env))) = _
  congr 1
  funext ov
  congr 1
  funext _
  unfold methodCall
  rw [hf]
  have e2 : methodCallPos true b env ap pos = pure pos := by
    unfold methodCallPos
    rw [h2]
    rfl
  rw [e2]
  rfl
theorem sliceOf_some {i : Expr} {d : Option Expr × Option Expr × Option Expr} : sliceOf i = some d → ∃ p, i = .Slice d.1 d.2.1 d.2.2 p := by cases i <;> intro h <;> cases h <;> exact ⟨_, rfl⟩
theorem sliceOf_none {i : Expr} : sliceOf i = none → plainIx i = true := by cases i <;> intro h <;> first | rfl | cases h
theorem nameOf_eq {e : Expr} {x : Str} : nameOf e = some x → ∃ p, e = .Name x p := by cases e <;> intro h <;> cases h <;> exact ⟨_, rfl⟩
theorem evalArgs_nilS {M : Model} {A : Around} {E : Value → Shared → Prop} {s : Shared} {f : Value} {Q : Args → Shared → Prop} (h : wpAny M A (spliced []) (fun vs s' => Q ⟨vs, []⟩ s') E s) : wpAny M A (evalArgs f true [] []) Q E s := by
  unfold evalArgs
  show wpAny M A (spliced [] >>= _) Q E s
  refine wpAny_bind (wpAny_mono h (fun vs s' h' => ?_) fun _ _ x => x)
  refine wpAny_holding ?_
  exact wpAny_bind (wpAny_pure (wpAny_bind (wpAny_pure (wpAny_pure h'))))
theorem callWith_blt {M : Model} {A : Around} {E : Value → Shared → Prop} {s : Shared} {env : Env} {pos : Pos} {id : String} {first : List Value} {Q : Value → Shared → Prop} {args : List Expr} (hs : args.all notStar = true)
    (h : wpAny M A (spliced (backTo pos (starEach args env))) (fun vs s₁ => wpAny M A (call (.builtin id) (first ++ vs)) Q E s₁) E s) : wpAny M A (callWith pos (.builtin id) first (backTo pos (starEach args env)) []) Q E s := by
  cases args with
  | nil => exact Calls.callWith_builtin rfl (evalArgs_nilS h)
  | cons e r =>
    refine and_elim (show (notStar e && r.all notStar) = true from hs) fun h1 h2 => ?_
    exact callWith_method1 h (star_cons h1 _ _) (star_any h2)
theorem callWith_typ {M : Model} {A : Around} {E : Value → Shared → Prop} {s : Shared} {env : Env} {pos : Pos} {T : String} {Q : Value → Shared → Prop} {args : List Expr} (hs : args.all notStar = true)
    (h : wpAny M A (spliced (backTo pos (starEach args env))) (fun vs s₁ => wpAny M A (call (.type T) vs) Q E s₁) E s) : wpAny M A (callWith pos (.type T) [] (backTo pos (starEach args env)) []) Q E s := by
  cases args with
  | nil => exact PySem.callWith_type rfl (evalArgs_nilS h)
  | cons e r =>
    refine and_elim (show (notStar e && r.all notStar) = true from hs) fun h1 h2 => ?_
    exact callWith_type1 h (star_cons h1 _ _) (star_any h2)
theorem callWith_any {M : Model} {K : Frag} {A : Around} {E : Value → Shared → Prop} {s : Shared} {env : Env} {pos : Pos} {f : Value} {first : List Value} {Q : Value → Shared → Prop} {args : List Expr} (hs : args.all notStar = true) (hk : keepIn K f = true)
    (h : wpAny M A (spliced (backTo pos (starEach args env))) (fun vs s₁ => K.In s₁.heap ∧ wpAny M A (call f (first ++ vs)) Q E s₁) E s) : wpAny M A (callWith pos f first (backTo pos (starEach args env)) []) Q E s := by
  refine callWith_of (by rw [star_any hs]; rfl) (keeps_K hk) ?_
  cases args with
  | nil => exact evalArgs_nilS h
  | cons e r =>
    refine and_elim (show (notStar e && r.all notStar) = true from hs) fun h1 h2 => ?_
    rw [star_cons h1] at h ⊢
    exact Calls.evalArgs_plain h
theorem sub_any {prog : Program} {w : World} {A : Around} {E : Value → Shared → Prop} {s : Shared} {n : Str} {np : Pos} {base slice : Expr} {o i : Value} {Q : Value → Shared → Prop} (h : wpAny (model prog w) A (subscriptTail (.Name n np) slice o i) Q E s) :
    wpAny (model prog w) A (subscriptTail base slice o i) Q E s := fun Γ p hΓ => by
  have h' := h Γ p hΓ
  unfold subscriptTail at h' ⊢
  simp only [Sem.wp_bind'] at h' ⊢
  refine Sem.wp_mono _ Γ _ (fun b p1 s1 h1 => ?_) (fun _ _ _ e => e) _ _ h'
  refine Sem.wp_mono _ Γ _ (fun r p2 s2 h2 => ?_) (fun _ _ _ e => e) _ _ h1
  exact wpAny_letTemporaryGo (Q := fun _ s' => Q r s') h2 Γ p2 hΓ
theorem callee_he {e : Expr} (h : calleeQ e = true) (args : List Expr) (pos : Pos) (env : Env) : eval (.Call e args [] pos) env = (do callWith pos (← eval e env) [] (backTo pos (starEach args env)) (backToKw pos (keywordEach [] env))) := by
  cases e <;> first | rfl | cases h
theorem att_he {e : Expr} (h : attQ e = true) {attr : Str} {pos : Pos} {env : Env} {prog : Program} {w : World} {A : Around} {E : Value → Shared → Prop} {s : Shared} {Q : Value → Shared → Prop}
    (hh : wpAny (model prog w) A (eval e env) (fun o s₁ => wpAny (model prog w) A (getAttr o attr true) Q E s₁) E s) : wpAny (model prog w) A (eval (.Attribute e attr pos) env) Q E s := by
  cases e with
  | Name x p => exact Attribute_Name_ hh
  | Subscript x y p => exact Attribute_any_ hh
  | Attribute x y p => exact Attribute_any_ hh
  | _ => cases h
def RF (ρ : List Addr) : Fl → Flow → Prop
  | .next, F => F = .next
  | .brk, F => F = .brk
  | .ret v, F => ∃ V, F = .ret V ∧ RV ρ v V
section
variable (Γ : Gm) (kf : Nat)
def EvOK (e : Expr) (f : Fi) (g : Sg) (v : SV) (g' : Sg) : Prop :=
  ∀ (c : Cx) (M : Str → Option Value) (z : Zs) (s : Shared) (Q : Value → Shared → Prop), RCx Γ kf c → Frm c f M z.ρ → Cor Γ c M g z → Got Γ c M g z s Q v g' → wpAny (model Γ.prog Γ.w) c.A (eval e c.env) Q c.E (z.sh s)
def EvsOK (es : List Expr) (f : Fi) (g : Sg) (l : List SV) (g' : Sg) : Prop :=
  ∀ (c : Cx) (M : Str → Option Value) (z : Zs) (s : Shared) (Q : List Value → Shared → Prop) (pos : Pos), RCx Γ kf c → Frm c f M z.ρ → Cor Γ c M g z →
    (∀ Vs z', Ex z g z' g' → RVs z'.ρ l Vs → Cor Γ c M g' z' → Q Vs (z'.sh s)) → wpAny (model Γ.prog Γ.w) c.A (spliced (backTo pos (starEach es c.env))) Q c.E (z.sh s)
def TestOK (e : Expr) (f : Fi) (g : Sg) (b : Bool) (g' : Sg) : Prop :=
  ∀ (c : Cx) (M : Str → Option Value) (z : Zs) (s : Shared) (Q : Bool → Shared → Prop), RCx Γ kf c → Frm c f M z.ρ → Cor Γ c M g z → (∀ z', Ex z g z' g' → Cor Γ c M g' z' → Q b (z'.sh s)) → wpAny (model Γ.prog Γ.w) c.A (isTrue e c.env (eval e c.env)) Q c.E (z.sh s)
def GotF (c : Cx) (g : Sg) (z : Zs) (s : Shared) (Q : Flow → Shared → Prop) (p : Fl × Fi) (g' : Sg) : Prop :=
  ∀ FL M' z', Ex z g z' g' → RF z'.ρ p.1 FL → Frm c p.2 M' z'.ρ → Cor Γ c M' g' z' → Q FL (z'.sh s)
def ExOK (b : List Stmt) (f : Fi) (g : Sg) (p : Fl × Fi) (g' : Sg) : Prop :=
  ∀ (c : Cx) (M : Str → Option Value) (z : Zs) (s : Shared) (Q : Flow → Shared → Prop), RCx Γ kf c → c.cmp = none → PassesOwn (model Γ.prog Γ.w) c.A c.env c.E → Frm c f M z.ρ → Cor Γ c M g z → GotF Γ c g z s Q p g' → wpAny (model Γ.prog Γ.w) c.A (execs b c.env) Q c.E (z.sh s)
def WhlOK (t : Expr) (b : List Stmt) (f : Fi) (g : Sg) (p : Fl × Fi) (g' : Sg) : Prop :=
  ∀ (k : Nat) (c : Cx) (M : Str → Option Value) (z : Zs) (s : Shared) (Q : Flow → Shared → Prop), RCx Γ kf c → c.cmp = none → PassesOwn (model Γ.prog Γ.w) c.A c.env c.E → Frm c f M z.ρ → Cor Γ c M g z → GotF Γ c g z s Q p g' → WhlRest Γ.prog Γ.w c.A c.E c.env t b [] Q k (z.sh s)
/-- a comprehension's frame, whatever its name holds -/
def LcFrm (c : Cx) (scope : Scope) (cl : List (Str × Addr)) (x : Str) (f : Fi) (M : Str → Option Value) (ρ : List Addr) : Prop :=
  ∀ (c' : Cx) (C : Addr) (N : Str → Option Value) (u : SV) (V : Value) (ρ' : List Addr), c'.env = compEnvC scope cl C c.env → c'.cmp = some N → N x = some V → Ext ρ ρ' → RV ρ' u V → Frm c' ⟨[(x, u)], f.sc, f.cm⟩ M ρ'
def CmpOK (h : Option (Nat × Nat)) (x : Str) (ct : Option Expr) (elt : Expr) (l : List SV) (f : Fi) (g : Sg) (r : List SV) (g' : Sg) : Prop := match ct with
  | none => True
  | some t => ∀ (c : Cx) (M : Str → Option Value) (z : Zs) (s : Shared) (scope : Scope) (cl : List (Str × Addr)) (S : List (Addr × Obj) → Prop) (P : Nat → Value → Prop) (i : Nat) (acc : List SV) (ys : List Value) (Fin : List Value → List (Addr × Obj) → Prop), RCx Γ kf c → scope.kind = .function → LcFrm c scope cl x f M z.ρ →
    Led Γ c.rest g z.ρ z.nw → z.g = s.gens → RVs z.ρ acc ys → (∀ j v, P (i + j) v → ∃ u, l[j]? = some u ∧ RV z.ρ u v) → (∀ z' g', Ex z g z' g' → held h g' = true → Led Γ c.rest g' z'.ρ z'.nw → S (z'.nw ++ c.rest)) →
    (∀ z' ys', Ex z g z' g' → Led Γ c.rest g' z'.ρ z'.nw → z'.g = s.gens → RVs z'.ρ (acc ++ r) ys' → Fin ys' (z'.nw ++ c.rest)) → LCt.CompRestT Γ.prog Γ.w c.A c.h₀ c.L M c.env t elt x scope cl s S P Fin l.length i ys (z.nw ++ c.rest)
def JobOK (j : Job) (f : Fi) (g : Sg) (out : Out) (g' : Sg) : Prop := match j, out with
  | .ev e, .v v => EvOK Γ kf e f g v g'
  | .evs es, .vs l => EvsOK Γ kf es f g l g'
  | .test e, .b c => TestOK Γ kf e f g c g'
  | .ex b, .f p => ExOK Γ kf b f g p g'
  | .whl t b, .f p => WhlOK Γ kf t b f g p g'
  | .cmp h x ct elt l, .vs r => CmpOK Γ kf h x ct elt l f g r g'
  | _, _ => True
end
section
variable {Γ : Gm} {orc : Orc} {kf : Nat} {self : Job → Fi → Sg → Option (Out × Sg)} {c : Cx} {M : Str → Option Value} {z : Zs} {s : Shared} {Q : Value → Shared → Prop} {f : Fi} {g g' : Sg} {v : SV}
theorem part_ok (IH : ∀ j f g out g', self j f g = some (out, g') → JobOK Γ (kf + 1) j f g out g') {o : Option Expr} {i : Option Int} (h : partS self o f g = some (i, g')) (C : RCx Γ (kf + 1) c) (fr : Frm c f M z.ρ) (H : Cor Γ c M g z)
    (G : ∀ V z', Ex z g z' g' → IsPart V i → Cor Γ c M g' z' → Q V (z'.sh s)) : wpAny (model Γ.prog Γ.w) c.A (evalPart o c.env) Q c.E (z.sh s) := by
  cases o with
  | none => cases h; exact evalPart_none_step (G _ z Ex.refl .none H)
  | some e =>
    refine bind_elim2 h fun u g1 h1 h2 => ?_
    refine map_elim h2 fun j h3 h4 => ?_
    cases h4
    exact evalPart_some_step (IH _ _ _ _ _ (asV_eq h1) c M z s _ C fr H fun V z1 e1 r1 H1 => by
      rw [show u = SV.int j from vI_eq h3] at r1
      obtain ⟨t, rfl⟩ := r1
      exact G _ z1 e1 (.int j t) H1)
theorem ix_ok (IH : ∀ j f g out g', self j f g = some (out, g') → JobOK Γ (kf + 1) j f g out g') {b i : Expr} {pos : Pos} {u₀ : SV} {g₀ : Sg} (h1 : asV (self (.ev b) f g) = some (u₀, g₀)) (h0 : ixS Γ.K Γ.gd self u₀ i f g₀ = some (v, g')) (C : RCx Γ (kf + 1) c) (fr : Frm c f M z.ρ) (H : Cor Γ c M g z)
    (G : Got Γ c M g z s Q v g') : wpAny (model Γ.prog Γ.w) c.A (eval (.Subscript b i pos) c.env) Q c.E (z.sh s) := by
  refine Subscript_ (IH _ _ _ _ _ (asV_eq h1) c M z s _ C fr H fun V z1 e1 r1 H1 => ?_)
  have fr1 := fr.mono e1.ext
  unfold ixS at h0
  cases hi : sliceOf i with
  | some d =>
    rw [hi] at h0
    obtain ⟨lo', hi2, sp⟩ := d
    refine guard_elim h0 fun e0 h4 => ?_
    refine bind_elim2 h4 fun lo g2 h2 h5 => ?_
    refine bind_elim2 h5 fun hi' g3 h3 h => ?_
    clear h0 h4 h5
    obtain ⟨ps, rfl⟩ := sliceOf_some hi
    cases sp with
    | some _ => cases e0
    | none =>
      refine wpAny_Slice (part_ok IH h2 C fr1 H1 fun W z2 e2 r2 H2 => part_ok IH h3 C (fr1.mono e2.ext) H2 fun X z3 e3 r3 H3 => evalPart_none_step ?_)
      refine sub_any (n := "") (np := default) ?_
      exact slice_ok (z := z3) (fun _ _ => rfl) h H3 (r1.mono (e2.ext.trans e3.ext)) r2 r3 (fun _ _ => rfl) (((G.after e1).after e2).after e3)
  | none =>
    rw [hi] at h0
    refine bind_elim2 h0 fun u g2 h3 h4 => ?_
    refine map_elim h4 fun c0 h5 h6 => ?_
    replace G := G.of' h6
    refine IH _ _ _ _ _ (asV_eq h3) c M z1 s _ C fr1 H1 fun U z2 e2 r2 H2 => sub_any (n := "") (np := default) ?_
    exact item_ok (sliceOf_none hi) (fun _ _ => rfl) h5 C.toOrx H2 (r1.mono e2.ext) r2 fun W tk hW => ((G.after e1).after e2) _ ⟨_, _, _, tk, _⟩ Ex.same hW H2.toks
set_option maxRecDepth 20000 in
theorem meth_ok (IH : ∀ j f g out g', self j f g = some (out, g') → JobOK Γ (kf + 1) j f g out g') (O : OrcOK Γ orc kf) {b : Expr} {x : Str} {ap pos : Pos} {args : List Expr} {u : SV} {g1 : Sg} (h1 : asV (self (.ev b) f g) = some (u, g1)) (h : methC Γ.K orc self u x args f g1 = some (v, g')) (hnc : noCall b = true)
    (hst : args.all notStar = true) (hln : (ap.endLine == pos.line) = true) (h30 : args.length < 30) (C : RCx Γ (kf + 1) c) (fr : Frm c f M z.ρ) (H : Cor Γ c M g z) (G : Got Γ c M g z s Q v g') :
    wpAny (model Γ.prog Γ.w) c.A (eval (.Call (.Attribute b x ap) args [] pos) c.env) Q c.E (z.sh s) := by
  refine MethodCall_ (IH _ _ _ _ _ (asV_eq h1) c M z s _ C fr H fun V z1 e1 r1 H1 => ?_) (meth_he hnc hst hln h30)
  have fr1 := fr.mono e1.ext
  unfold methC at h
  cases hv : vI u with
  | some i =>
    rw [hv] at h
    refine guard_elim h fun hq h => ?_
    replace G := G.of h
    refine and_elim hq fun q1 q2 => ?_
    rw [sq_eq.mp q2]
    rw [List.isEmpty_iff.mp q1]
    rw [show u = SV.int i from vI_eq hv] at r1
    obtain ⟨t, rfl⟩ := r1
    refine getMethod_int_bit_length ?_
    dsimp only
    refine callWith_method0 ?_
    refine call_int_bit_length ?_
    exact (G.after e1).now ⟨_, rfl⟩ H1
  | none =>
    rw [hv] at h
    unfold methD at h
    cases hf : instM Γ.K x u g1 with
    | some m =>
      rw [hf] at h
      refine bind_elim2 h fun l g2 h3 h4 => ?_
      refine instm_ok (z := z1) hf C.toOrx H1 r1 fun hkp _ => ?_
      exact callWith_any (first := [V]) hst hkp (IH _ _ _ _ _ (asVs_eq h3) c M z1 s _ _ C fr1 H1 fun Vs z2 e2 r2 H2 => ⟨C.X.keeps H2.F.keep, call_ok O h4 C.toOrx H2 (.cons (r1.mono e2.ext) r2) ((G.after e1).after e2)⟩)
    | none =>
      rw [hf] at h
      refine bind_elim h fun i hi h => ?_
      refine bind_elim2 h fun l g2 h3 h4 => ?_
      refine getm_ok (z := z1) hi H1 r1 ?_
      exact callWith_blt (first := [V]) hst (IH _ _ _ _ _ (asVs_eq h3) c M z1 s _ _ C fr1 H1 fun Vs z2 e2 r2 H2 => callm_ok h4 H2 (r1.mono e2.ext) r2 ((G.after e1).after e2))
theorem const_ok {k0 : PySem.Const} {k : _} {pos : Pos} (h : constS k0 = some v) (H : Cor Γ c M g z) (G : Got Γ c M g z s Q v g) : wpAny (model Γ.prog Γ.w) c.A (eval (.Constant k0 k pos) c.env) Q c.E (z.sh s) := by
  cases k0 with
  | int i => cases h; exact wpAny_Constant_int (G.now ⟨_, rfl⟩ H)
  | str x => cases h; exact wpAny_Constant_str (G.now ⟨_, rfl⟩ H)
  | none => cases h; exact wpAny_Constant_none (G _ z Ex.refl rfl H)
  | bool b => cases h; exact wpAny_Constant_bool (G _ z Ex.refl rfl H)
  | bytes b => cases h; exact PySem.W.Constant_bytes (G.now ⟨_, _, rfl, rfl⟩ H)
  | _ => cases h
theorem callE_ok (IH : ∀ j f g out g', self j f g = some (out, g') → JobOK Γ (kf + 1) j f g out g') (O : OrcOK Γ orc kf) {e : Expr} {args : List Expr} {pos : Pos} (h : callE Γ.K orc self e args pos f g = some (v, g')) (hst : args.all notStar = true)
    (C : RCx Γ (kf + 1) c) (fr : Frm c f M z.ρ) (H : Cor Γ c M g z) (G : Got Γ c M g z s Q v g') : wpAny (model Γ.prog Γ.w) c.A (eval (.Call e args [] pos) c.env) Q c.E (z.sh s) := by
  have hc : guardS (calleeQ e) (bind2 (asV (self (.ev e) f g)) fun u g1 => (vV u).bind fun c => guardS (keepsS Γ.K c) (bind2 (asVs (self (.evs args) f g1)) fun l g2 => callS Γ.K orc c l g2)) = some (v, g') → wpAny (model Γ.prog Γ.w) c.A (eval (.Call e args [] pos) c.env) Q c.E (z.sh s) := by
    intro h
    refine guard_elim h fun hq h => ?_
    refine bind_elim2 h fun u g0 h0 h => ?_
    refine bind_elim h fun q hu h => ?_
    refine guard_elim h fun hkp h => ?_
    refine bind_elim2 h fun l g1 h1 h2 => ?_
    clear h
    refine Call_ (IH _ _ _ _ _ (asV_eq h0) c M z s _ C fr H fun V z0 e0 r0 H0 => ?_) (callee_he hq _ _ _)
    rw [vV_eq hu] at r0
    have hV' : V = q := r0
    subst hV'
    have go := IH _ _ _ _ _ (asVs_eq h1) c M z0 s
    have fr0 := fr.mono e0.ext
    cases V with
    | builtin id => exact callWith_blt (first := []) hst (go _ _ C fr0 H0 fun Vs z1 e1 r1 H1 => call_ok O h2 C.toOrx H1 r1 ((G.after e0).after e1))
    | type T => exact callWith_typ hst (go _ _ C fr0 H0 fun Vs z1 e1 r1 H1 => call_ok O h2 C.toOrx H1 r1 ((G.after e0).after e1))
    | ref f => exact callWith_any (first := []) hst hkp (go _ _ C fr0 H0 fun Vs z1 e1 r1 H1 => ⟨C.X.keeps H1.F.keep, call_ok O h2 C.toOrx H1 r1 ((G.after e0).after e1)⟩)
    | _ => cases h2
  cases e with
  | Attribute b meth ap =>
    refine guard_elim h fun hg h => ?_
    refine and_elim hg fun hg h30 => ?_
    refine and_elim hg fun hnc hln => ?_
    refine bind_elim2 h fun u g1 h1 h => ?_
    exact meth_ok IH O h1 h hnc hst hln (Nat.le_of_ble_eq_true h30) C fr H G
  | _ => exact hc h
end
theorem lcOf_eq {e : Expr} {k : Lc} (h : lcOf e = some k) : e = .ListComp k.elt [⟨.Name k.x k.px, k.it, (match k.ct with | none => [] | some t => [t]), 0⟩] k.scope k.ps := by
  cases e with
  | ListComp elt gs scope ps =>
    refine bind_elim h fun q h1 h => ?_
    refine map_elim h fun r h2 hrfl => ?_
    subst hrfl
    rw [one_eq h1]
    obtain ⟨t, it, ifs, a⟩ := q
    refine guard_elim h2 fun h3 h4 => ?_
    cases t with
    | Name x px =>
      refine map_elim h4 fun c h5 hrfl => ?_
      subst hrfl
      rw [of_decide_eq_true h3]
      cases ifs with
      | nil => cases h5; rfl
      | cons t r =>
        cases r with
        | nil => cases h5; rfl
        | cons _ _ => cases h5
    | _ => cases h4
  | _ => cases h
theorem freeK_eq (k : NameKind) : (k == NameKind.free) = freeK k := by cases k <;> rfl
theorem kindC_eq (k : NameKind) : (some k == some NameKind.cell) = kindC k := by cases k <;> rfl
theorem rel_eq {c : Cx} {f : Fi} {M : Str → Option Value} {ρ : List Addr} (fr : Frm c f M ρ) (hk : c.env.scope.kind = .function) (scope : Scope) : (relabel scope c.env).names = relS f scope.names := by
  show scope.names.map _ = scope.names.map _
  refine List.map_congr_left fun p _ => ?_
  obtain ⟨n, k⟩ := p
  dsimp only
  have e1 : (c.env.scope.kind == ScopeKind.function) = true := by rw [hk]; rfl
  have e2 : (c.env.kindOf n == some NameKind.cell) = (match look f.sc n with | some k => kindC k | none => false) := by
    show (c.env.scope.names.lookup n == _) = _
    rw [fr.nm, ← look_lookup]
    cases look f.sc n with
    | none => rfl
    | some k => exact kindC_eq k
  rw [e1, e2, freeK_eq, Bool.and_true]
  cases (freeK k && match look f.sc n with | some k => kindC k | none => false) <;> rfl
theorem clos_go {c : Cx} {f : Fi} {M : Str → Option Value} {ρ : List Addr} (fr : Frm c f M ρ) : ∀ {ns : List (Str × NameKind)} {cm : List (Str × Nat)} (acc : List (Str × Addr)), closS f ns = some cm →
    ∃ cl, (forIn ns acc (fun (x : Str × NameKind) (r : List (Str × Addr)) => if (x.2 == NameKind.free) = true then (do let a ← cellOf c.env x.1; pure (ForInStep.yield ((x.1, a) :: r))) else (pure (ForInStep.yield r) : Sem _))) = (pure (cl ++ acc) : Sem (List (Str × Addr))) ∧
      (∀ x a, (x, a) ∈ cl → c.env.cells.lookup x = some a) ∧ ∀ x k, (x, k) ∈ cm → look f.cm x = some k ∧ ∃ a, (x, a) ∈ cl
  | [], cm, acc, h => by
    cases h
    exact ⟨[], rfl, fun _ _ h => (nomatch h), fun _ _ h => (nomatch h)⟩
  | (n, k) :: r, cm, acc, h => by
    rw [List.forIn_cons]
    have h' : (match freeK k with | true => (look f.cm n).bind fun k => (closS f r).map fun l => (n, k) :: l | false => closS f r) = some cm := h
    dsimp only
    rw [freeK_eq]
    cases e : freeK k with
    | true =>
      rw [e] at h'
      refine bind_elim h' fun j h1 h2 => ?_
      refine map_elim h2 fun l h3 hrfl => ?_
      subst hrfl
      obtain ⟨a, ha, _⟩ := fr.ce n j h1
      obtain ⟨cl, e1, e2, e3⟩ := clos_go fr ((n, a) :: acc) h3
      have e0 : cellOf c.env n = pure a := by unfold cellOf; rw [ha]
      rw [if_pos rfl, e0]
      simp only [pure_bind]
      refine ⟨cl ++ [(n, a)], by rw [e1, List.append_assoc]; rfl, fun x b hx => ?_, fun x k hx => ?_⟩
      · rcases List.mem_append.mp hx with hx | hx
        · exact e2 x b hx
        · cases List.mem_singleton.mp hx; exact ha
      · rcases List.mem_cons.mp hx with hx | hx
        · cases hx; exact ⟨h1, a, List.mem_append.mpr (.inr (.head _))⟩
        · obtain ⟨y1, b, y2⟩ := e3 x k hx
          exact ⟨y1, b, List.mem_append.mpr (.inl y2)⟩
    | false =>
      rw [e] at h'
      rw [if_neg Bool.false_ne_true]
      simp only [pure_bind]
      exact clos_go fr acc h'
theorem clos_ok {c : Cx} {f : Fi} {M : Str → Option Value} {ρ : List Addr} (fr : Frm c f M ρ) {scope : Scope} {cm : List (Str × Nat)} (h : closS f scope.names = some cm) :
    ∃ cl, closureFor scope c.env = pure cl ∧ ∀ x k, look cm x = some k → ∃ a, cl.lookup x = some a ∧ ρ[k]? = some a := by
  obtain ⟨cl, e1, e2, e3⟩ := clos_go fr [] h
  refine ⟨cl, ?_, fun x k hx => ?_⟩
  · unfold closureFor
    rw [List.append_nil] at e1
    refine Eq.trans ?_ (congrArg (fun m => m >>= fun cs => (pure cs : Sem (List (Str × Addr)))) e1)
    refine congrArg (fun m => m >>= fun cs => (pure cs : Sem (List (Str × Addr)))) ?_
    rfl
  · obtain ⟨h1, a, h2⟩ := e3 x k (look_mem hx)
    obtain ⟨a', h3, h4⟩ := fr.ce x k h1
    cases hl : cl.lookup x with
    | none => exact absurd (List.lookup_eq_none_iff.mp hl (x, a) h2) (by simp)
    | some b =>
      rw [← look_lookup] at hl
      have := e2 x b (look_mem hl)
      rw [h3] at this
      cases this
      exact ⟨a', rfl, h4⟩
theorem lcOk_eq {k : Lc} (h : lcOk k = true) : k.scope.kind = .function ∧ (∀ y ∈ k.scope.names, y.2 ≠ .cell) ∧ (∀ y ∈ k.scope.names, y.2 = .local → k.scope.names.lookup y.1 = some .local) ∧ k.scope.names.lookup k.x = some .local ∧ notDbg k.x = true := by
  refine and_elim h fun h h4 => ?_
  refine and_elim h fun h h3 => ?_
  refine and_elim h fun h1 h2 => ?_
  refine ⟨?_, fun y hy e => ?_, fun y hy e => ?_, (isLoc_eq h4).1, ?_⟩
  · unfold scopeK at h1
    cases hk : k.scope.kind <;> rw [hk] at h1 <;> first | rfl | cases h1
  · have := List.all_eq_true.mp h2 y hy
    rw [e] at this
    cases this
  · have := List.all_eq_true.mp h3 y hy
    rw [e] at this
    exact (isLoc_eq this).1
  · have := (isLoc_eq h4).2
    unfold notDbg
    rw [this]
    rfl
theorem lcfrm_ok {c : Cx} {f : Fi} {M : Str → Option Value} {ρ : List Addr} (fr : Frm c f M ρ) (hk : c.env.scope.kind = .function) {k : Lc} (hok : lcOk k = true) {cm : List (Str × Nat)} (h : closS f k.scope.names = some cm) :
    ∃ cl, closureFor k.scope c.env = pure cl ∧ LcFrm c k.scope cl k.x ⟨[], relS f k.scope.names, cm⟩ M ρ := by
  obtain ⟨cl, e1, e2⟩ := clos_ok fr h
  obtain ⟨h1, h2, h3, h4, h5⟩ := lcOk_eq hok
  refine ⟨cl, e1, fun c' C N u V ρ' he hc hN hx hu => ⟨fun y w hy => ?_, ?_, fun y j hy => ?_⟩⟩
  · rw [show look [(k.x, u)] y = _ from look_cons] at hy
    by_cases hxy : k.x = y
    · subst hxy
      rw [if_pos rfl] at hy
      cases hy
      refine ⟨?_, V, ?_, hu⟩
      · unfold isLoc
        have : (relS f k.scope.names).lookup k.x = some .local := by
          rw [← rel_eq fr hk]
          exact lookup_relabel_local h4
        rw [look_lookup, this]
        exact h5
      · unfold Cx.cur
        rw [hc]
        exact hN
    · rw [if_neg hxy] at hy
      cases hy
  · rw [he]
    exact rel_eq fr hk k.scope
  · obtain ⟨a, h6, h7⟩ := e2 y j hy
    rw [he]
    exact ⟨a, h6, hx _ _ h7⟩
section
open LCg LCt
variable {prog : Program} {w : World} {A : Around} {E : Value → Shared → Prop} {s : Shared} {h₀ : Heap} {L : Addr} {m : Str → Option Value} {env : Env}
/-- a dict of texts that a comprehension runs over -/
def SrcD (prog : Program) (w : World) (A : Around) (h₀ : Heap) (L : Addr) (m : Str → Option Value) (env : Env) (ct elt : Expr) (x : Str) (scope : Scope) (cl : List (Str × Addr)) (Fin : Shared → List Value → List (Addr × Obj) → Prop) (xv : Value) (s₁ : Shared) : Prop :=
  ∃ d od kvs news, xv = .ref d ∧ A.handled = none ∧ Fr h₀ L s₁.heap m ∧ News h₀ L s₁.heap news ∧ (d, od) ∈ news ∧ od.IsDictOf (PySem.strKind prog w) kvs ∧ (d == sysModules) = false ∧ kvs.length ≤ sizeLine ∧
    ∀ s₂ : Shared, (∃ h, s₂ = { s₁ with heap := h }) → CompRestT prog w A h₀ L m env ct elt x scope cl s₂ (fun nw => (d, od) ∈ nw) (fun i v => ∃ k y, kvs[i]? = some (k, y) ∧ (PySem.strKind prog w).is k v = true) (Fin s₂) kvs.length 0 [] news
theorem block_D {ct elt iter : Expr} {x : Str} {px : Pos} {scope : Scope} {cl : List (Str × Addr)} {pos : Pos} {Fin : Shared → List Value → List (Addr × Obj) → Prop} {xv : Value} {s₁ : Shared} {RR : Value → Addr → Result → Shared → Prop}
    (hcell : ∀ y ∈ scope.names, y.2 ≠ .cell) (hkind : scope.kind = .function) (hx : scope.names.lookup x = some .local) (h : SrcD prog w A h₀ L m env ct elt x scope cl Fin xv s₁)
    (hRR : ∀ s₂ D C h tk m' ys news', (∃ h, s₂ = { s₁ with heap := h }) → Fr h₀ L h m → News h₀ L h ((D, lst ys) :: news') → Off1 D news' → h.Ns C m' → h₀.get? C = none → h₀.get? D = none → C ≠ L → D ≠ L → C ≠ D → (∀ p ∈ news', p.1 ≠ C) → Fin s₂ ys news' → RR (.ref D) C (.ok .next) { s₂ with heap := h, toks := tk }) :
    wpAny (model prog w) A (pyIter xv) (fun it s₂ => wpAny (model prog w) A (newList []) (fun acc s₃ => wpAny (model prog w) A (newFunctionEnv scope env.globals cl [] env.qual none .none (some env)) (fun cenv s₄ =>
      codeAny (model prog w) A (.compStart (.ListComp elt [⟨.Name x px, iter, [ct], 0⟩] scope pos) 0 it acc { cenv with scope := relabel scope env }) (RR acc cenv.locals) s₄) E s₃) E s₂) E s₁ := by
  obtain ⟨d, od, kvs, news, rfl, hh, F, N, hm, hd, lo, hsz, R⟩ := h
  obtain ⟨ep, ha⟩ := KdkAt.of hd
  have hat := ha.dictAt (N _ hm).1
  have hlt : d < s₁.heap.objs.size := Heap.lt_size (N _ hm).1
  have hne : d ≠ s₁.heap.objs.size := Nat.ne_of_lt hlt
  refine wpAny_pyIter_dict lo hat ?_
  refine block_T (Walks.dictKeys (prog := prog) (w := w) (knd := PySem.strKind prog w) hh s₁.heap.objs.size d hne kvs ep) hsz (fun i h st => by obtain ⟨o, e, _⟩ := st.1; exact ⟨o, e⟩) (fun i h h' o nw st e e' k N S => ⟨by obtain ⟨o', q, r⟩ := st.1; rw [e] at q; cases q; exact ⟨o, e', r⟩, ha.dictAt (N _ S).1⟩) hcell hkind hx ⟨⟨_, Heap.get?_push_size _ rfl, rfl, rfl⟩, hat.push _⟩ (fun b hb => ?_)
    (F.keeps fun _ _ e => Heap.get?_push_of_some _ e) (N.grown fun _ _ e => Heap.get?_push_of_some _ e) (Nat.ne_of_lt F.ns.lt) (next_is_new F) (fun p hp => Nat.ne_of_lt (Heap.lt_size (N p hp).1)) hm (R _ ⟨_, rfl⟩) ?_
  · show b < (s₁.heap.push _).objs.size
    rw [Heap.size_push]
    rcases List.mem_cons.mp hb with rfl | hb
    · exact Nat.lt_succ_self _
    · rw [List.mem_singleton.mp hb]; exact Nat.lt_succ_of_lt hlt
  · intro D C h tk m' ys news' F' N' o1 hn hC₀ hD₀ hCL hDL hCD offC fin
    exact hRR _ D C h tk m' ys news' ⟨_, rfl⟩ F' N' o1 hn hC₀ hD₀ hCL hDL hCD offC fin
/-- [.. for x in d if ..], d a dict of texts -/
theorem ListComp_Dt {ct elt iter : Expr} {x : Str} {px : Pos} {scope : Scope} {cl : List (Str × Addr)} {pos : Pos} {Q : Value → Shared → Prop}
    (hclos : closureFor scope env = pure cl) (hcell : ∀ y ∈ scope.names, y.2 ≠ .cell) (hkind : scope.kind = .function)
    (hnames : ∀ y ∈ scope.names, y.2 = .local → scope.names.lookup y.1 = some .local) (hx : scope.names.lookup x = some .local)
    (h : wpAny (model prog w) A (eval iter env) (SrcD prog w A h₀ L m env ct elt x scope cl (fun s₂ => FinE h₀ L m s₂ Q)) E s)
    (hs : ∀ x, foldedSetIterable iter env x = pure x) :
    wpAny (model prog w) A (eval (.ListComp elt [⟨.Name x px, iter, [ct], 0⟩] scope pos) env) Q E s := by
  rw [eval_ListComp]
  refine wpAny_comprehension_free (use := none) rfl hs hclos hkind hnames (wpAny_mono h (fun xv s₁ h₁ => ?_) fun _ _ e => e)
  refine block_D hcell hkind hx h₁ fun s₂ D C h tk m' ys news' hs₂ F' N' o1 hn hC₀ hD₀ hCL hDL hCD offC fin => ?_
  refine ⟨m', hn, fun h'' hs'' => fin D h'' tk (F'.change hs'' hCL hC₀) (fun p hp => ?_) o1⟩
  refine ⟨hs''.extBut _ _ ?_ (N' p hp).1, (N' p hp).2⟩
  rcases List.mem_cons.mp hp with rfl | hp
  · exact Ne.symm hCD
  · exact offC p hp
/-- y = [.. for x in d if ..] -/
theorem Assign_ListComp_Dt {ct elt iter : Expr} {x y : Str} {px py : Pos} {scope : Scope} {cl : List (Str × Addr)} {pos spos : Pos} {Q : Flow → Shared → Prop} (hLe : env.locals = L)
    (hsw : swapsWith (.ListComp elt [⟨.Name x px, iter, [ct], 0⟩] scope pos) (some (.Name y py)) spos.line env = pure true)
    (hclos : closureFor scope env = pure cl) (hcell : ∀ y ∈ scope.names, y.2 ≠ .cell) (hkind : scope.kind = .function)
    (hnames : ∀ y ∈ scope.names, y.2 = .local → scope.names.lookup y.1 = some .local) (hx : scope.names.lookup x = some .local)
    (hy : env.kindOf y = some .local) (hp : (env.scope.kind == .class || (env.scope.kind == .module && env.locals != env.globals)) = false)
    (h : wpAny (model prog w) A (eval iter env) (SrcD prog w A h₀ L m env ct elt x scope cl (fun s₂ => FinA h₀ L m s₂ y Q)) E s)
    (hs : ∀ x, foldedSetIterable iter env x = pure x) :
    wpAny (model prog w) A (exec (.Assign [.Name y py] (.ListComp elt [⟨.Name x px, iter, [ct], 0⟩] scope pos) spos) env) Q E s := by
  subst hLe
  rw [exec_Assign_Name_used _ _ _ _ hsw]
  refine wpAny_bind (wpAny_standAt (wpAny_bind ?_))
  show wpAny _ A (do let _ ← comprehension (.ListComp elt [⟨.Name x px, iter, [ct], 0⟩] scope pos) scope env _ (newList []) false (eval iter env) (some (assign (.Name y py) env))) _ _ s
  refine wpAny_bind (wpAny_mono (wpAny_comprehension_free (use := some (assign (.Name y py) env)) (Q := fun _ s' => Q .next s') rfl hs hclos hkind hnames
    (wpAny_mono h (fun xv s₁ h₁ => ?_) fun _ _ e => e)) (fun _ s' hq => wpAny_pure (wpAny_pure hq)) fun _ _ e => e)
  refine block_D hcell hkind hx h₁ fun s₂ D C h tk m' ys news' hs₂ F' N' o1 hn hC₀ hD₀ hCL hDL hCD offC fin => ?_
  show wpAny _ A (assign (.Name y py) env (.ref D)) _ _ _
  refine wpAny_assign_Name (wpAny_storeName_local hy F'.ns (fun h₂ hn₂ hs₂ => ?_) hp)
  have hL₀ : h₀.get? env.locals = none := Heap.get?_none_of_le F'.above
  have F₂ : Fr h₀ env.locals h₂ (fun z => if z = y then some (.ref D) else m z) := ⟨hn₂, fun b o e => hs₂.extBut b o (fun q => by rw [q, hL₀] at e; cases e) (F'.keep b o e), F'.above⟩
  refine ⟨m', hn.sameBut hs₂ hCL, fun h'' hs'' => fin D h'' _ (F₂.change hs'' hCL hC₀) (fun p hp => ?_) o1⟩
  have z : h₂.get? p.1 = some p.2 := hs₂.extBut _ _ (N' p hp).2.1 (N' p hp).1
  refine ⟨hs''.extBut _ _ ?_ z, (N' p hp).2⟩
  rcases List.mem_cons.mp hp with rfl | hp
  · exact Ne.symm hCD
  · exact offC p hp
end
section
open LCg LCt
variable {Γ : Gm} {orc : Orc} {kf : Nat} {self : Job → Fi → Sg → Option (Out × Sg)} {c : Cx} {M : Str → Option Value} {z : Zs} {s : Shared} {f : Fi} {g g' : Sg} {v : SV}
theorem Led.less {R R' : List (Addr × Obj)} {ρ : List Addr} {nw : List (Addr × Obj)} (H : Led Γ R g ρ nw) (h : ∀ p ∈ R', ∀ q ∈ nw, p.1 ≠ q.1) : Led Γ R' g ρ nw := ⟨H.map, H.nd, H.lo, H.len, H.obj, h, H.tl⟩
/-- a turn of a comprehension -/
theorem cmp_turn (IH : ∀ j f g out g', self j f g = some (out, g') → JobOK Γ (kf + 1) j f g out g') {h : Option (Nat × Nat)} {x : Str} {t elt : Expr} {v : SV} {r' r : List SV} {o : Option SV} {g1 : Sg}
    (h1 : cmpT self (some t) elt ⟨[(x, v)], f.sc, f.cm⟩ g = some (o, g1)) (hh : held h g1 = true) (hγ : g1.γ = g.γ) (h3 : asVs (self (.cmp h x (some t) elt r') f g1) = some (r, g')) : CmpOK Γ (kf + 1) h x (some t) elt (v :: r') f g (consO o r) g' := by
  intro c M z s scope cl S P i acc ys Fin C hk hf led hg hys hP hS hF
  refine CompRestT.succ ?_
  intro V I oI C' oC D m₂ h' tk E' hPv hC hx F N off ne
  obtain ⟨u, hu, hru⟩ := hP 0 V hPv
  have hu' : v = u := Option.some.inj hu
  subst hu'
  have offm := off.mem
  have e0 : ({ s with heap := h', toks := tk } : Shared) = (⟨z.ρ, z.nw, h', tk, z.g⟩ : Zs).sh s := by
    unfold Zs.sh
    rw [hg]
  have sep0 : ∀ p ∈ (I, oI) :: (C', oC) :: (D, lst ys) :: c.rest, ∀ q ∈ z.nw, p.1 ≠ q.1 := fun p hp q hq => by
    have o3 := offm q (List.mem_append.mpr (.inl hq))
    rcases List.mem_cons.mp hp with rfl | hp
    · exact Ne.symm o3.1
    · rcases List.mem_cons.mp hp with rfl | hp
      · exact Ne.symm o3.2.1
      · rcases List.mem_cons.mp hp with rfl | hp
        · exact Ne.symm o3.2.2
        · exact led.sep p hp q hq
  have H0 : Cor Γ { c with env := compEnvC scope cl C' c.env, rest := (I, oI) :: (C', oC) :: (D, lst ys) :: c.rest, E := E', cmp := some m₂ } M g ⟨z.ρ, z.nw, h', tk, z.g⟩ := ⟨F, fun p hp => N p (by
    rcases List.mem_append.mp hp with hp | hp
    · exact .tail _ (.tail _ (.tail _ (List.mem_append.mpr (.inl hp))))
    · rcases List.mem_cons.mp hp with rfl | hp
      · exact .head _
      · rcases List.mem_cons.mp hp with rfl | hp
        · exact .tail _ (.head _)
        · rcases List.mem_cons.mp hp with rfl | hp
          · exact .tail _ (.tail _ (.head _))
          · exact .tail _ (.tail _ (.tail _ (List.mem_append.mpr (.inr hp))))), led.less sep0⟩
  have C1 : RCx Γ (kf + 1) { c with env := compEnvC scope cl C' c.env, rest := (I, oI) :: (C', oC) :: (D, lst ys) :: c.rest, E := E', cmp := some m₂ } :=
    ⟨⟨C.hand, C.stk, C.fr, C.fk, C.dep, C.uni, C.X, C.T, C.gd⟩, hk, C.gl, C.bl, (fun e => by cases e), fun N e => by cases e; exact ⟨oC, .tail _ (.head _), hC⟩⟩
  have fr0 := hf { c with env := compEnvC scope cl C' c.env, rest := (I, oI) :: (C', oC) :: (D, lst ys) :: c.rest, E := E', cmp := some m₂ } C' m₂ v V z.ρ rfl rfl hx Ext.refl hru
  have J := IH _ _ _ _ _ (asVs_eq h3)
  have fin : ∀ (z2 : Zs) (rest : Value → List (Addr × Obj) → Prop) (W : Value) (acc' : List SV) (ys' : List Value), (CompRestT Γ.prog Γ.w c.A c.h₀ c.L M c.env t elt x scope cl s S P Fin r'.length (i + 1) ys' (z2.nw ++ c.rest) → rest W (z2.nw ++ c.rest)) → acc' ++ r = acc ++ consO o r → RVs z2.ρ acc' ys' →
      Ex ⟨z.ρ, z.nw, h', tk, z.g⟩ g z2 g1 → Cor Γ { c with env := compEnvC scope cl C' c.env, rest := (I, oI) :: (C', oC) :: (D, lst ys) :: c.rest, E := E', cmp := some m₂ } M g1 z2 → CompEnd c.h₀ c.L M { s with heap := h', toks := tk } I oI C' oC D (lst ys) S rest W (z2.sh s) := by
    intro z2 rest W acc' ys' hr hacc hys' e2 H2
    have ex : Ex z g z2 g1 := Ex.same.trans e2
    have hg2 : z2.g = s.gens := (e2.gq.2 hγ).trans hg
    have led2 : Led Γ c.rest g1 z2.ρ z2.nw := H2.led.less fun p hp => H2.led.sep p (.tail _ (.tail _ (.tail _ hp)))
    refine ⟨z2.h, z2.tk, z2.nw ++ c.rest, by unfold Zs.sh; rw [hg2], H2.F, fun p hp => H2.N p ?_, Off3.of fun p hp => ?_, hS z2 g1 ex hh led2, hr ?_⟩
    · rcases List.mem_cons.mp hp with rfl | hp
      · exact List.mem_append.mpr (.inr (.head _))
      · rcases List.mem_cons.mp hp with rfl | hp
        · exact List.mem_append.mpr (.inr (.tail _ (.head _)))
        · rcases List.mem_cons.mp hp with rfl | hp
          · exact List.mem_append.mpr (.inr (.tail _ (.tail _ (.head _))))
          · rcases List.mem_append.mp hp with hp | hp
            · exact List.mem_append.mpr (.inl hp)
            · exact List.mem_append.mpr (.inr (.tail _ (.tail _ (.tail _ hp))))
    · rcases List.mem_append.mp hp with hp | hp
      · exact ⟨Ne.symm (H2.led.sep _ (.head _) p hp), Ne.symm (H2.led.sep _ (.tail _ (.head _)) p hp), Ne.symm (H2.led.sep _ (.tail _ (.tail _ (.head _))) p hp)⟩
      · exact offm p (List.mem_append.mpr (.inr hp))
    · exact J c M z2 s scope cl S P (i + 1) acc' ys' Fin C hk (fun c' C N u V ρ' a b d e r => hf c' C N u V ρ' a b d (ex.ext.trans e) r) led2 hg2 hys' (fun j U hU => by
        obtain ⟨u, h5, h6⟩ := hP (j + 1) U (by rw [show i + (j + 1) = i + 1 + j by omega]; exact hU)
        exact ⟨u, h5, h6.mono ex.ext⟩) (fun z' g' e => hS z' g' (ex.trans e)) fun z' ys' e l hg' r => hF z' ys' (ex.trans e) l hg' (by rw [← hacc]; exact r)
  refine bind_elim2 h1 fun b g0 hb h1' => ?_
  rw [e0]
  refine IH _ _ _ _ _ (asB_eq hb) _ M ⟨z.ρ, z.nw, h', tk, z.g⟩ s _ C1 fr0 H0 fun z1 e1 H1 => ?_
  cases b with
  | false =>
    cases h1'
    rw [if_neg Bool.false_ne_true, ← e0]
    exact fin z1 _ _ acc ys id rfl (hys.mono e1.ext) e1 H1
  | true =>
    refine bind_elim2 h1' fun w g2 hw e => ?_
    cases e
    rw [if_pos rfl]
    refine IH _ _ _ _ _ (asV_eq hw) _ M z1 s _ C1 (fr0.mono e1.ext) H1 fun W z2 e2 r2 H2 => ?_
    rw [← e0]
    exact fin z2 _ W (acc ++ [w]) (ys ++ [W]) id (by rw [List.append_assoc]; rfl) ((hys.mono (e1.ext.trans e2.ext)).append (.cons r2 .nil)) (e1.trans e2) H2
theorem keys_at {ρ : List Addr} {l : List (Str × SV)} {kvs : List (Str × Value)} (r : RKs ρ l kvs) : ∀ {i : Nat} {k : Str} {y : Value}, kvs[i]? = some (k, y) → (l.map fun p => SV.str p.1)[i]? = some (SV.str k) := by
  induction r with
  | nil => intro i k y e; cases e
  | cons a _ ih =>
    intro i k y e
    cases i with
    | zero => cases e; rfl
    | succ i => exact ih e
theorem held_at {k tt : Nat} {z1 z' : Zs} {g1 g' : Sg} {d : Addr} {o : Obj} (ht : g1.τ[k]? = some tt) (hk : z1.nw[k]? = some (d, o)) (e : Ex z1 g1 z' g') (hh : held (some (k, tt)) g' = true) : (d, o) ∈ z'.nw := by
  obtain ⟨t', e1, _, e3⟩ := e.stp k tt ht
  have hh' : (match g'.τ[k]? with | some t' => Nat.beq t' tt | none => false) = true := hh
  rw [e1] at hh'
  exact List.mem_of_getElem? ((e3 (Nat.eq_of_beq_eq_true hh')).2.trans hk)
theorem vals_of {ρ : List Addr} : ∀ {l : List Value} {r : List SV}, mapS ofVal l = some r → ∀ {j : Nat} {V : Value}, l[j]? = some V → ∃ u, r[j]? = some u ∧ RV ρ u V
  | [], _, h, _, _, e => by cases e
  | v :: l, r, h, j, V, e => by
    obtain ⟨k, ks, h1, h2, rfl⟩ := mapS_cons h
    cases j with
    | zero => cases e; exact ⟨k, rfl, ofVal_eq h1⟩
    | succ j => exact vals_of h2 (j := j) e
/-- what a comprehension runs over, on the machine -/
theorem lc_src {h : Option (Nat × Nat)} {l0 : List SV} {g0 : Sg} {t elt : Expr} {x : Str} {scope : Scope} {cl : List (Str × Addr)} {Fin : Shared → List Value → List (Addr × Obj) → Prop} (h3 : srcS Γ.K v g0 = some (h, l0)) (C : RCx Γ kf c)
    (R : ∀ (z1 : Zs) (s₂ : Shared) (S : List (Addr × Obj) → Prop) (P : Nat → Value → Prop), Ex z g z1 g0 → Cor Γ c M g0 z1 → z1.g = s₂.gens → (∃ h, s₂ = { z1.sh s with heap := h }) → (∀ j V, P j V → ∃ u, l0[j]? = some u ∧ RV z1.ρ u V) → (∀ z' g', Ex z1 g0 z' g' → held h g' = true → Led Γ c.rest g' z'.ρ z'.nw → S (z'.nw ++ c.rest)) →
      CompRestT Γ.prog Γ.w c.A c.h₀ c.L M c.env t elt x scope cl s₂ S P (Fin s₂) l0.length 0 [] (z1.nw ++ c.rest)) :
    (∀ V z1, Ex z g z1 g0 → RV z1.ρ v V → Cor Γ c M g0 z1 → CompSrcT Γ.prog Γ.w c.A c.h₀ c.L M c.env t elt x scope cl Fin V (z1.sh s)) ∨
      (∀ V z1, Ex z g z1 g0 → RV z1.ρ v V → Cor Γ c M g0 z1 → SrcD Γ.prog Γ.w c.A c.h₀ c.L M c.env t elt x scope cl Fin V (z1.sh s)) := by
  cases v with
  | val u =>
    refine bind_elim h3 fun l h4 h5 => ?_
    refine guard_elim h5 fun hz h6 => ?_
    refine map_elim h6 fun r h7 h8 => ?_
    cases h8
    clear h3 h5 h6
    obtain ⟨d, dd, n, sl, rfl, hK⟩ := gL_eq h4
    have hz' := small_le hz
    refine .inl fun V z1 e1 r1 H1 => ?_
    have r1' : V = .ref d := r1
    subst r1'
    have hl : l0.length = l.toArray.size := (mapS_len h7).trans (List.size_toArray).symm
    refine CompSrcT.base C.hand H1.F H1.N (lstK C.X hK) (by rw [List.size_toArray, sizeLine_eq]; omega) fun hp => ?_
    rw [← hl]
    exact R z1 { z1.sh s with heap := hp } _ _ e1 H1 rfl ⟨hp, rfl⟩ (fun j V hj => vals_of h7 (by simpa using hj)) fun _ _ _ _ _ => .inl (lstK C.X hK)
  | obj k =>
    refine bind_elim2 (show bind2 (oO g0.σ (.obj k)) (fun k o => (g0.τ[k]?).bind fun tt => srcO k tt o) = some (h, l0) from h3) fun k' so hq h4 => ?_
    refine bind_elim h4 fun tt ht h5 => ?_
    clear h3 h4
    obtain ⟨hk', hs⟩ := oO_eq hq
    have hk'' : k = k' := by cases hk'; rfl
    subst hk''
    have hD : ∀ l, soS so = some l → l.length ≤ 100000 → h = some (k, tt) → l0 = l.map (fun p => SV.str p.1) → ∀ V z1, Ex z g z1 g0 → RV z1.ρ (.obj k) V → Cor Γ c M g0 z1 → SrcD Γ.prog Γ.w c.A c.h₀ c.L M c.env t elt x scope cl Fin V (z1.sh s) := by
      intro l hl hz hh hl0 V z1 e1 r1 H1
      obtain ⟨D, o, rfl, hD, hkk, hm, hr⟩ := H1.ob r1 ⟨rfl, hs⟩
      obtain ⟨kvs, hd, hr⟩ := hr.sdict hl
      have e0 : l0.length = kvs.length := by rw [hl0, List.length_map, hr.length]
      refine ⟨D, o, kvs, _, rfl, C.hand, H1.F, H1.N, hm, hd, H1.led.lo _ _ D hs (soS_isD hl) hD, by rw [hr.length, sizeLine_eq]; omega, fun s₂ hs₂ => ?_⟩
      rw [← e0]
      refine R z1 s₂ _ _ e1 H1 (by obtain ⟨_, rfl⟩ := hs₂; rfl) hs₂ (fun j V hj => ?_) fun z' g' e' hh' _ => List.mem_append.mpr (.inl (held_at ht hkk e' (hh ▸ hh')))
      obtain ⟨key, y, h6, h7⟩ := hj
      obtain ⟨tk, rfl⟩ := Value.isStrOf_shape h7
      exact ⟨.str key, by rw [hl0]; exact keys_at hr h6, ⟨tk, rfl⟩⟩
    cases so with
    | list l =>
      refine guard_elim h5 fun hz h6 => ?_
      cases h6
      have hz' := small_le hz
      refine .inl fun V z1 e1 r1 H1 => ?_
      obtain ⟨D, o, rfl, hD, hkk, hm, vs, nn, rfl, hr⟩ := H1.ob r1 ⟨rfl, hs⟩
      have hl : l0.length = vs.toArray.size := by rw [List.size_toArray, hr.length]
      refine CompSrcT.ledger C.hand H1.F H1.N hm (by rw [← hl, sizeLine_eq]; omega) fun hp => ?_
      rw [← hl]
      refine R z1 { z1.sh s with heap := hp } _ _ e1 H1 rfl ⟨hp, rfl⟩ (fun j V hj => ?_) fun z' g' e' hh' _ => .inr ⟨_, List.mem_append.mpr (.inl (held_at ht hkk e' hh')), rfl, nn, rfl⟩
      have hj' : vs[j]? = some V := by simpa using hj
      have hjl : j < l0.length := by rw [hl, List.size_toArray]; exact (List.getElem?_eq_some_iff.mp hj').1
      obtain ⟨V', hV', hrv⟩ := hr.get (List.getElem?_eq_getElem hjl)
      rw [hj'] at hV'
      cases hV'
      exact ⟨_, List.getElem?_eq_getElem hjl, hrv⟩
    | dict l =>
      cases l with
      | nil =>
        cases h5
        exact .inr (hD [] rfl (Nat.zero_le _) rfl rfl)
      | cons _ _ => cases h5
    | sdict l =>
      refine guard_elim h5 fun hz h6 => ?_
      cases h6
      exact .inr (hD l rfl (small_le hz) rfl rfl)
    | _ => cases h5
  | _ => cases h3
theorem noTup_eq {e : Expr} (h : noTup e = true) : (∀ (t : Expr) (l : Nat) (env : Env), swapsWithSole [t] e l env = pure false) ∧ (∀ (es : List Expr) (k : Nat) (ps : Pos) (env : Env), swappedStores [.Tuple es k ps] e env = pure none) ∧ ∀ (env : Env) (x : Value), foldedSetIterable e env x = pure x := by
  cases e <;> first | (cases h; done) | exact ⟨fun _ _ _ => rfl, fun _ _ _ _ => rfl, fun _ _ => rfl⟩
theorem Off1.ne {D : Addr} : ∀ {l : List (Addr × Obj)}, Off1 D l → ∀ p ∈ l, p.1 ≠ D
  | [], _, _, h => nomatch h
  | _ :: _, x, p, h => by
    rcases List.mem_cons.mp h with rfl | h
    · exact x.1
    · exact Off1.ne x.2 p h
/-- a comprehension, as a value -/
theorem lc_ok (IH : ∀ j f g out g', self j f g = some (out, g') → JobOK Γ (kf + 1) j f g out g') {e : Expr} {k : Lc} {l : List SV} {g1 : Sg} (hk : lcOf e = some k) (h0 : lcS Γ.K self k f g = some (l, g1)) {Q : Value → Shared → Prop} (C : RCx Γ (kf + 1) c) (fr : Frm c f M z.ρ) (H : Cor Γ c M g z)
    (G : Got Γ c M g z s Q (mkO (.list l) g1).1 (mkO (.list l) g1).2) : wpAny (model Γ.prog Γ.w) c.A (eval e c.env) Q c.E (z.sh s) := by
  rw [lcOf_eq hk]
  refine guard_elim h0 fun hq h => ?_
  refine and_elim hq fun hq h9 => ?_
  refine and_elim hq fun hnt hok => ?_
  refine bind_elim2 h fun v g0 h1 h2 => ?_
  refine bind_elim h2 fun cm hcm h3 => ?_
  refine bind_elim2 h3 fun hd l0 hsrc h4 => ?_
  refine bind_elim2 h4 fun r g2 h5 h6 => ?_
  cases h6
  cases hct : k.ct with
  | none => rw [hct] at h9; cases h9
  | some t =>
    rw [hct] at h5
    have J := IH _ _ _ _ _ (asVs_eq h5)
    obtain ⟨cl, hclos, hf⟩ := lcfrm_ok fr C.k hok hcm
    obtain ⟨k1, k2, k3, k4, _⟩ := lcOk_eq hok
    have go := fun Q => IH _ _ _ _ _ (asV_eq h1) c M z s Q C fr H
    have hs := (noTup_eq hnt).2.2 c.env
    rcases lc_src (s := s) (Fin := fun s₂ => FinE c.h₀ c.L M s₂ Q) (cl := cl) (t := t) (elt := k.elt) (x := k.x) (scope := k.scope) (z := z) (g := g) (M := M) hsrc C (fun z1 s₂ S P e1 H1 hg hs₂ hP hS => J c M z1 s₂ k.scope cl S P 0 [] [] _ C k1 (fun c' C N u V ρ' a b d e r => hf c' C N u V ρ' a b d (e1.ext.trans e) r) H1.led hg .nil (fun j V hj => hP j V (by rw [Nat.zero_add] at hj; exact hj)) hS fun z' ys' e led hg' r => by
        intro D h tk F' N' o1
        obtain ⟨hp, rfl⟩ := hs₂
        have e2 : ({ ({ z1.sh s with heap := hp } : Shared) with heap := h, toks := tk } : Shared) = (⟨z'.ρ ++ [D], z'.nw ++ [(D, lst ys')], h, tk, z'.g⟩ : Zs).sh s := by unfold Zs.sh; rw [hg']; rfl
        rw [e2]
        exact G _ _ ((e1.trans e).trans led.exNew) (ref_new led) (led.new F' N' (Off1.ne o1) (fun e => nomatch e) ⟨ys', _, rfl, r.mono Ext.snoc⟩)) with A | B
    · exact LCt.ListComp_T H.F hclos k2 k1 k3 k4 (go _ fun V z1 e1 r1 H1 => A V z1 e1 r1 H1) hs
    · exact ListComp_Dt hclos k2 k1 k3 k4 (go _ fun V z1 e1 r1 H1 => B V z1 e1 r1 H1) hs
/-- a comprehension, stored to a name of the frame -/
theorem lca_ok (IH : ∀ j f g out g', self j f g = some (out, g') → JobOK Γ (kf + 1) j f g out g') {e : Expr} {k : Lc} {l : List SV} {g1 : Sg} {y : Str} {py pos : Pos} (hk : lcOf e = some k) (h0 : lcS Γ.K self k f g = some (l, g1)) (hsw : swapQ (.Name y py) k f = true) {Q : Flow → Shared → Prop} (C : RCx Γ (kf + 1) c) (hc : c.cmp = none) (fr : Frm c f M z.ρ) (H : Cor Γ c M g z)
    (G : GotF Γ c g z s Q (.next, setM f y (mkO (.list l) g1).1) (mkO (.list l) g1).2) : wpAny (model Γ.prog Γ.w) c.A (exec (.Assign [.Name y py] e pos) c.env) Q c.E (z.sh s) := by
  rw [lcOf_eq hk]
  refine guard_elim h0 fun hq h => ?_
  refine and_elim hq fun hq h9 => ?_
  refine and_elim hq fun hnt hok => ?_
  refine bind_elim2 h fun v g0 h1 h2 => ?_
  refine bind_elim h2 fun cm hcm h3 => ?_
  refine bind_elim2 h3 fun hd l0 hsrc h4 => ?_
  refine bind_elim2 h4 fun r g2 h5 h6 => ?_
  cases h6
  refine and_elim (show (isLoc f.sc y && (py.line == k.ps.line) && !(k.scope.names.any fun p => p.1 == y && (p.2 == .local || p.2 == .cell))) = true from hsw) fun hq2 hq3 => ?_
  refine and_elim hq2 fun hy hln => ?_
  have hky : c.env.kindOf y = some .local := (fr.kind y).trans (isLoc_eq hy).1
  cases hct : k.ct with
  | none => rw [hct] at h9; cases h9
  | some t =>
    rw [hct] at h5
    have J := IH _ _ _ _ _ (asVs_eq h5)
    obtain ⟨cl, hclos, hf⟩ := lcfrm_ok fr C.k hok hcm
    obtain ⟨k1, k2, k3, k4, _⟩ := lcOk_eq hok
    have go := fun Q => IH _ _ _ _ _ (asV_eq h1) c M z s Q C fr H
    have hs := (noTup_eq hnt).2.2 c.env
    have hsw' : swapsWith (.ListComp k.elt [⟨.Name k.x k.px, k.it, [t], 0⟩] k.scope k.ps) (some (.Name y py)) pos.line c.env = pure true := by
      show (pure (_ && _ && _ && _) : Sem Bool) = _
      have b1 : (c.env.blockKind == ScopeKind.function) = true := by
        unfold Env.blockKind
        simp [C.k, ScopeKind.isAnnotationScope]
      have b2 : (c.env.kindOf y == some NameKind.local) = true := by rw [hky]; rfl
      rw [b1, b2]
      show (pure (true && true && (py.line == k.ps.line) && _) : Sem Bool) = _
      rw [hln]
      show (pure (!(k.scope.names.any fun p => p.1 == y && (p.2 == .local || p.2 == .cell))) : Sem Bool) = _
      rw [hq3]
    have hp : (c.env.scope.kind == .class || (c.env.scope.kind == .module && c.env.locals != c.env.globals)) = false := by rw [C.k]; rfl
    rcases lc_src (s := s) (Fin := fun s₂ => FinA c.h₀ c.L M s₂ y Q) (cl := cl) (t := t) (elt := k.elt) (x := k.x) (scope := k.scope) (z := z) (g := g) (M := M) hsrc C (fun z1 s₂ S P e1 H1 hg hs₂ hP hS => J c M z1 s₂ k.scope cl S P 0 [] [] _ C k1 (fun c' C N u V ρ' a b d e r => hf c' C N u V ρ' a b d (e1.ext.trans e) r) H1.led hg .nil (fun j V hj => hP j V (by rw [Nat.zero_add] at hj; exact hj)) hS fun z' ys' e led hg' r => by
        intro D h tk F' N' o1
        obtain ⟨hp, rfl⟩ := hs₂
        have e2 : ({ ({ z1.sh s with heap := hp } : Shared) with heap := h, toks := tk } : Shared) = (⟨z'.ρ ++ [D], z'.nw ++ [(D, lst ys')], h, tk, z'.g⟩ : Zs).sh s := by unfold Zs.sh; rw [hg']; rfl
        rw [e2]
        exact G .next _ _ ((e1.trans e).trans led.exNew) rfl ((fr.mono ((e1.trans e).ext.trans Ext.snoc)).put hc hy (ref_new led)) (led.new F' N' (Off1.ne o1) (fun e => nomatch e) ⟨ys', _, rfl, r.mono Ext.snoc⟩)) with A | B
    · exact LCt.Assign_ListComp_T H.F (C.fn hc) hsw' hclos k2 k1 k3 k4 hky hp (go _ fun V z1 e1 r1 H1 => A V z1 e1 r1 H1) hs
    · exact Assign_ListComp_Dt (C.fn hc) hsw' hclos k2 k1 k3 k4 hky hp (go _ fun V z1 e1 r1 H1 => B V z1 e1 r1 H1) hs
end
theorem notSet_eq {r : Expr} (h : notSet r = true) (op : CmpOp) : behindInMarks op r = false := by cases r <;> first | rfl | cases h
section
variable {Γ : Gm} {orc : Orc} {kf : Nat} {self : Job → Fi → Sg → Option (Out × Sg)} {c : Cx} {M : Str → Option Value} {z : Zs} {s : Shared} {f : Fi} {g g' : Sg} {v : SV}
theorem ev_ok (IH : ∀ j f g out g', self j f g = some (out, g') → JobOK Γ (kf + 1) j f g out g') (O : OrcOK Γ orc kf) {e : Expr} (h : evS Γ.K Γ.gd orc self e f g = some (v, g')) : EvOK Γ (kf + 1) e f g v g' := by
  intro c M z s Q C fr H G
  cases e with
  | Constant k0 k pos =>
    refine map_elim h fun u hu e => ?_
    replace G := G.of' e
    exact const_ok hu H G
  | Name x pos =>
    refine map_elim h fun u hu e => ?_
    replace G := G.of' e
    exact name_ok hu C fr H fun V hV => G V z Ex.refl hV H
  | List es pos =>
    refine bind_elim2 h fun l g1 h1 h2 => ?_
    refine guard_elim h2 fun hz h3 => ?_
    replace G := G.of h3
    exact List_ (IH _ _ _ _ _ (asVs_eq h1) c M z s _ _ C fr H fun Vs z1 e1 r1 H1 => list_ok hz H1 r1 (G.after e1))
  | Tuple es k pos =>
    refine bind_elim2 h fun l g1 h1 h2 => ?_
    refine guard_elim h2 fun hz h3 => ?_
    replace G := G.of h3
    exact Tuple_ (IH _ _ _ _ _ (asVs_eq h1) c M z s _ _ C fr H fun Vs z1 e1 r1 H1 => tup_ok hz H1 r1 (G.after e1))
  | Dict ks vs pos =>
    refine guard_elim h fun e h => ?_
    replace G := G.of h
    refine and_elim e fun e1 e2 => ?_
    rw [List.isEmpty_iff.mp e1, List.isEmpty_iff.mp e2]
    exact dict_ok C.T.nolimit H G
  | BinOp l op r pos =>
    refine bind_elim2 h fun a g1 h1 h2 => ?_
    refine bind_elim2 h2 fun b g2 h3 h4 => ?_
    exact wpAny_BinOp (IH _ _ _ _ _ (asV_eq h1) c M z s _ C fr H fun V z1 e1 r1 H1 =>
      IH _ _ _ _ _ (asV_eq h3) c M z1 s _ C (fr.mono e1.ext) H1 fun U z2 e2 r2 H2 => bin_ok h4 H2 (r1.mono e2.ext) r2 ((G.after e1).after e2))
  | Compare l ops rs pos =>
    refine bind_elim h fun op o1 h => ?_
    refine bind_elim h fun r o2 h => ?_
    refine guard_elim h fun hn h => ?_
    refine bind_elim2 h fun a g1 h1 h2 => ?_
    refine bind_elim2 h2 fun b g2 h3 h4 => ?_
    refine map_elim h4 fun c0 h5 h6 => ?_
    replace G := G.of' h6
    rw [one_eq o1, one_eq o2]
    exact wpAny_Compare1 (IH _ _ _ _ _ (asV_eq h1) c M z s _ C fr H fun V z1 e1 r1 H1 =>
      IH _ _ _ _ _ (asV_eq h3) c M z1 s _ C (fr.mono e1.ext) H1 fun U z2 e2 r2 H2 => cmp_ok h5 C.toOrx H2 (r1.mono e2.ext) r2 fun tk => ((G.after e1).after e2).now rfl H2) (notSet_eq hn _)
  | Subscript b i pos =>
    refine bind_elim2 h fun u g1 h1 h2 => ?_
    exact ix_ok IH h1 h2 C fr H G
  | Attribute b x pos =>
    refine guard_elim h fun hq h => ?_
    refine bind_elim2 h fun u g1 h1 h2 => ?_
    refine map_elim h2 fun u' hu e => ?_
    replace G := G.of' e
    exact att_he hq (IH _ _ _ _ _ (asV_eq h1) c M z s _ C fr H fun V z1 e1 r1 H1 => att_ok hu C.toOrx H1 r1 fun W tk hW => (G.after e1).now hW H1)
  | Call e args kws pos =>
    refine guard_elim h fun q h => ?_
    refine and_elim q fun e1 hst => ?_
    rw [List.isEmpty_iff.mp e1]
    exact callE_ok IH O h hst C fr H G
  | ListComp elt gs scope ps =>
    refine bind_elim h fun k hk h => ?_
    refine bind_elim2 h fun l g1 h1 h2 => ?_
    replace G := G.of h2
    exact lc_ok IH hk h1 C fr H G
  | _ => cases h
/-- a cell is set -/
theorem storeC {prog : Program} {w : World} {A : Around} {E : Value → Shared → Prop} {s : Shared} {h₀ : Heap} {L a : Addr} {m : Str → Option Value} {env : Env} {news : List (Addr × Obj)} {gg : Obj → List (Addr × Obj)} {o : Obj} {v₀ : Option Value} {v : Value} {x : Str} {Q : Unit → Shared → Prop} (F : Fr h₀ L s.heap m) (N : News h₀ L s.heap news) (hc : env.cells.lookup x = some a) (U : UpdF a o news gg) (hd : o.data = .cell v₀)
    (h : ∀ h' o', Fr h₀ L h' m → News h₀ L h' (gg o') → o'.data = .cell (some v) → Q () { s with heap := h' }) (hk : env.scope.kind = .function) (hx : env.kindOf x = some .cell) : wpAny (model prog w) A (storeName env x v) Q E s := by
  obtain ⟨own, rest, rfl, hg, h1, h2⟩ := U.split
  have hmem := N (a, o) (List.mem_append_right _ (.head _))
  refine wpAny_storeName_cell hk hx hc ⟨o, hmem.1, hd⟩ fun h' hv hs => ?_
  obtain ⟨o', ho', hd'⟩ := hv
  refine h h' o' ⟨F.ns.sameBut hs (Ne.symm hmem.2.1), fun b ob e => (hs.2 b (fun q => ?_)).trans (F.keep b ob e), F.above⟩ (hg o' ▸ N.setAt h1 h2 hs ho') hd'
  rw [q, hmem.2.2] at e; cases e
theorem RCx.noCls (C : RCx Γ kf c) : (c.env.scope.kind == .class || (c.env.scope.kind == .module && c.env.locals != c.env.globals)) = false := by rw [C.k]; rfl
theorem RCx.inter (C : RCx Γ kf c) : interactive c.env = false := by
  show (c.env.scope.kind == .module && _) = false
  rw [C.k]
  rfl
theorem stor_name {x : Str} {V : Value} {Q : Unit → Shared → Prop} (hx : isLoc f.sc x = true) (C : RCx Γ kf c) (hc : c.cmp = none) (fr : Frm c f M z.ρ) (H : Cor Γ c M g z) (hv : RV z.ρ v V)
    (G : ∀ z', Ex z g z' g → Frm c (setM f x v) (fun y => if y = x then some V else M y) z'.ρ → Cor Γ c (fun y => if y = x then some V else M y) g z' → Q () (z'.sh s)) : wpAny (model Γ.prog Γ.w) c.A (storeName c.env x V) Q c.E (z.sh s) := by
  have e := C.fn hc
  refine wpAny_storeName_local ((fr.kind x).trans (isLoc_eq hx).1) (e ▸ H.F.ns) (fun h' hn hs => ?_) C.noCls
  rw [e] at hn hs
  exact G ⟨_, _, _, _, _⟩ Ex.same (fr.put hc hx hv) ⟨H.F.set hn hs, H.N.set hs, H.led⟩
theorem kindC_at {sc : List (Str × NameKind)} {x : Str} (h : (match look sc x with | some k => kindC k | none => false) = true) : sc.lookup x = some .cell := by
  rw [look_lookup] at h
  cases e : sc.lookup x with
  | none => rw [e] at h; cases h
  | some k =>
    rw [e] at h
    cases k <;> first | rfl | cases h
theorem asgn_ok {x : Str} {ps : Pos} {V : Value} {Q : Unit → Shared → Prop} {f' : Fi} (h : asgT (.Name x ps) v f g = some (f', g')) (C : RCx Γ kf c) (hc : c.cmp = none) (fr : Frm c f M z.ρ) (H : Cor Γ c M g z) (hv : RV z.ρ v V)
    (G : ∀ M' z', Ex z g z' g' → Frm c f' M' z'.ρ → Cor Γ c M' g' z' → Q () (z'.sh s)) : wpAny (model Γ.prog Γ.w) c.A (storeName c.env x V) Q c.E (z.sh s) := by
  have h' : (match isLoc f.sc x with | true => some (setM f x v, g) | false => guardS (match look f.sc x with | some k => kindC k | none => false) ((look f.cm x).bind fun k => (g.σ[k]?).bind fun so => (match so with | .cell _ => some (f, setO g k (.cell (some v))) | _ => none))) = some (f', g') := h
  cases hx : isLoc f.sc x with
  | true =>
    rw [hx] at h'
    cases h'
    exact stor_name hx C hc fr H hv fun z' e' fr' H' => G _ z' e' fr' H'
  | false =>
    rw [hx] at h'
    refine guard_elim h' fun hk h1 => ?_
    refine bind_elim h1 fun k h2 h3 => ?_
    refine bind_elim h3 fun so h4 h5 => ?_
    clear h h' h1 h3
    cases so with
    | cell o =>
      cases h5
      obtain ⟨a, ha, hρ⟩ := fr.ce x k h2
      obtain ⟨a', ob, e, _, hk', hm, W, hd, _⟩ := H.obj (V := .ref a) ⟨a, hρ, rfl⟩ h4
      cases e
      exact storeC H.F H.N ha (H.upd hk') hd (fun h' o' F' N' hd' => G M ⟨_, _, _, _, _⟩ exPut fr (H.put hk' F' N' (fun e => nomatch e) ⟨_, hd', V, rfl, hv⟩)) C.k ((fr.kind x).trans (kindC_at hk))
    | _ => cases h5
theorem asg_ok {t : Expr} {V : Value} {Q : Unit → Shared → Prop} {f' : Fi} (h : asgT t v f g = some (f', g')) (C : RCx Γ kf c) (hc : c.cmp = none) (fr : Frm c f M z.ρ) (H : Cor Γ c M g z) (hv : RV z.ρ v V)
    (G : ∀ M' z', Ex z g z' g' → Frm c f' M' z'.ρ → Cor Γ c M' g' z' → Q () (z'.sh s)) : wpAny (model Γ.prog Γ.w) c.A (assign t c.env V) Q c.E (z.sh s) := by
  cases t with
  | Name x ps =>
    exact PyProof.Rows.assign_Name (asgn_ok h C hc fr H hv G)
  | Tuple es k ps =>
    refine bind_elim2 h fun e1 e2 h1 h => ?_
    refine bind_elim h fun x h2 h => ?_
    refine bind_elim h fun y h3 h => ?_
    refine bind_elim2 h fun k l h4 h => ?_
    refine bind_elim2 h fun a b h5 h => ?_
    refine guard_elim h fun hx h => ?_
    cases h
    refine and_elim hx fun hx hy => ?_
    obtain ⟨p1, rfl⟩ := nameOf_eq h2
    obtain ⟨p2, rfl⟩ := nameOf_eq h3
    rw [two_eq h1]
    obtain ⟨D, us, nn, rfl, hm, hr⟩ := H.tup hv h4
    rw [two_eq h5] at hr
    rcases hr with _ | ⟨ha, hr⟩
    rcases hr with _ | ⟨hb, hr⟩
    cases hr
    refine unpackN_ (items := (_ :: _ :: []).toArray) H.F H.N ⟨_, (H.N _ hm).1, rfl, nn, rfl⟩ C.hand rfl rfl fun h' F' N' => ?_
    have H1 : Cor Γ c M g ⟨z.ρ, z.nw, h', z.tk, z.g⟩ := H.same F' N'
    refine assignInOrder_cons (PyProof.Rows.assign_Name (stor_name (z := ⟨z.ρ, z.nw, h', z.tk, z.g⟩) hx C hc fr H1 ha fun z2 e2 fr2 H2 => ?_))
    refine assignInOrder_cons (PyProof.Rows.assign_Name (stor_name (f := setM f x a) hy C hc fr2 H2 (hb.mono e2.ext) fun z3 e3 fr3 H3 => ?_))
    exact assignInOrder_nil (G _ z3 (Ex.same.trans (e2.trans e3)) fr3 H3)
  | _ => cases h
theorem tru_ok {b : Bool} {V : Value} {σ : List SO} {Q : Bool → Shared → Prop} {sh : Shared} (h : truS σ v = some b) {ρ : List Addr} (hv : RV ρ v V) (G : Q b sh) : wpAny (model Γ.prog Γ.w) c.A (truthy V) Q c.E sh := by
  cases v with
  | bool x =>
    cases h
    have hv' : V = .bool b := hv
    subst hv'
    exact wpAny_truthy_bool G
  | int i =>
    cases h
    obtain ⟨t, rfl⟩ := hv
    exact PyProof.Rows.truthy_int G
  | _ => cases h
theorem test_ok (IH : ∀ j f g out g', self j f g = some (out, g') → JobOK Γ kf j f g out g') {e : Expr} {b : Bool} (h : testS Γ.K Γ.gd self e f g = some (b, g')) : TestOK Γ kf e f g b g' := by
  intro c M z s Q C fr H G
  have plain : ∀ {e : Expr} (he : isTrue e c.env (eval e c.env) = (do let v ← eval e c.env; standAt e.pos; holding [v] (truthy v))), (bind2 (asV (self (.ev e) f g)) fun v g1 => (truS g1.σ v).map fun c => (c, g1)) = some (b, g') → wpAny (model Γ.prog Γ.w) c.A (isTrue e c.env (eval e c.env)) Q c.E (z.sh s) := by
    intro e he h
    refine bind_elim2 h fun u g1 h1 h2 => ?_
    refine map_elim h2 fun x hx h3 => ?_
    cases h3
    exact isTrue_plain (IH _ _ _ _ _ (asV_eq h1) c M z s _ C fr H fun V z1 e1 r1 H1 => tru_ok hx r1 (G z1 e1 H1)) he
  cases e with
  | BoolOp op l pos =>
    cases l with
    | nil => cases op <;> cases h
    | cons x r =>
      cases op with
      | And =>
        refine bind_elim2 h fun b0 g1 h1 h2 => ?_
        refine isTrue_and (IH _ _ _ _ _ (asB_eq h1) c M z s _ C fr H fun z1 e1 H1 => ?_)
        cases b0 with
        | false =>
          cases h2
          exact G z1 e1 H1
        | true =>
          cases r with
          | nil =>
            cases h2
            exact isTrue_and_nil (G z1 e1 H1)
          | cons y r => exact IH _ _ _ _ _ (asB_eq h2) c M z1 s _ C (fr.mono e1.ext) H1 fun z2 e2 H2 => G z2 (e1.trans e2) H2
      | Or =>
        refine bind_elim2 h fun b0 g1 h1 h2 => ?_
        refine isTrue_or (IH _ _ _ _ _ (asB_eq h1) c M z s _ C fr H fun z1 e1 H1 => ?_)
        cases b0 with
        | true =>
          cases h2
          exact G z1 e1 H1
        | false =>
          cases r with
          | nil =>
            cases h2
            exact isTrue_or_nil (G z1 e1 H1)
          | cons y r => exact IH _ _ _ _ _ (asB_eq h2) c M z1 s _ C (fr.mono e1.ext) H1 fun z2 e2 H2 => G z2 (e1.trans e2) H2
  | UnaryOp op e pos =>
    refine guard_elim h fun ho h => ?_
    refine map_elim2 h fun b0 g1 h1 h2 => ?_
    cases h2
    obtain rfl := of_decide_eq_true ho
    exact isTrue_not (IH _ _ _ _ _ (asB_eq h1) c M z s _ C fr H fun z1 e1 H1 => G z1 e1 H1)
  | Compare l ops rs pos =>
    cases ops with
    | nil => cases h
    | cons op ops =>
      cases rs with
      | nil => cases h
      | cons r rs =>
        refine guard_elim h fun hn h1 => ?_
        refine and_elim hn fun hn hns => ?_
        refine bind_elim2 h1 fun a g1 h2 h3 => ?_
        refine bind_elim2 h3 fun b' g2 h4 h5 => ?_
        refine bind_elim h5 fun c0 h6 h7 => ?_
        clear h h1 h3 h5
        cases ops with
        | nil =>
          refine guard_elim h7 fun he h8 => ?_
          cases h8
          rw [List.isEmpty_iff.mp he]
          exact wpAny_isTrue_Compare1 (IH _ _ _ _ _ (asV_eq h2) c M z s _ C fr H fun V z1 e1 r1 H1 =>
            IH _ _ _ _ _ (asV_eq h4) c M z1 s _ C (fr.mono e1.ext) H1 fun U z2 e2 r2 H2 => cmp_ok h6 C.toOrx H2 (r1.mono e2.ext) r2 fun tk => wpAny_truthy_bool (G ⟨_, _, _, tk, _⟩ ((e1.trans e2).trans Ex.same) H2.toks)) (notSet_eq hn _)
        | cons op2 ops2 =>
          refine guard_elim h7 fun he h8 => ?_
          refine bind_elim h8 fun r' hr' h9 => ?_
          clear h7 h8
          rw [List.isEmpty_iff.mp he]
          rw [one_eq hr'] at hns ⊢
          have hn2 : notSet r' = true := (Bool.and_eq_true_iff.mp (show (notSet r' && true) = true from hns)).1
          refine isTrue_chain (IH _ _ _ _ _ (asV_eq h2) c M z s _ C fr H fun V z1 e1 r1 H1 => ?_) (notSet_eq hn2 op2)
          refine test_link (IH _ _ _ _ _ (asV_eq h4) c M z1 s _ C (fr.mono e1.ext) H1 fun U z2 e2 r2 H2 => cmp_ok h6 C.toOrx H2 (r1.mono e2.ext) r2 fun tk => wpAny_truthy_bool ?_)
          have H2' := H2.toks (tk := tk)
          have e12 : Ex z g ⟨z2.ρ, z2.nw, z2.h, tk, z2.g⟩ g2 := (e1.trans e2).trans Ex.same
          cases c0 with
          | false =>
            cases h9
            exact G _ e12 H2'
          | true =>
            refine bind_elim2 h9 fun d g3 h10 h11 => ?_
            refine map_elim h11 fun c1 h12 h13 => ?_
            cases h13
            exact test_last (IH _ _ _ _ _ (asV_eq h10) c M ⟨z2.ρ, z2.nw, z2.h, tk, z2.g⟩ s _ C (fr.mono (e1.ext.trans e2.ext)) H2' fun W z3 e3 r3 H3 => cmp_ok h12 C.toOrx H3 (r2.mono e3.ext) r3 fun tk => wpAny_truthy_bool (G ⟨_, _, _, tk, _⟩ ((e12.trans e3).trans Ex.same) H3.toks))
  | BinOp l op r pos => exact plain rfl h
  | Call e a k p => exact plain rfl h
  | Name x p => exact plain rfl h
  | Constant k0 k p => exact plain rfl h
  | _ => cases h
end
section
variable {Γ : Gm} {orc : Orc} {kf : Nat} {c : Cx} {M : Str → Option Value} {z : Zs} {s : Shared} {f : Fi} {g g' : Sg} {v : SV} {n : Nat} {c0 : Option (Nat × Nat)} {t : Expr} {l : List SV} {b : List Stmt} {p : Fl × Fi} {Q : Flow → Shared → Prop}
theorem GotF.after {z1 : Zs} {g1 : Sg} (G : GotF Γ c g z s Q p g') (e : Ex z g z1 g1) : GotF Γ c g1 z1 s Q p g' := fun FL M' z' e' hv hf hn => G FL M' z' (e.trans e') hv hf hn
theorem loop_inv (h : run Γ.K Γ.gd orc n (.loop c0 t l b) f g = some (.f p, g')) : ∃ m, n = m + 1 ∧ held c0 g = true ∧ ((l = [] ∧ p = (.next, f) ∧ g' = g) ∨ ∃ v r f1 g1 p1 g2, l = v :: r ∧ asgT t v f g = some (f1, g1) ∧ run Γ.K Γ.gd orc m (.ex b) f1 g1 = some (.f p1, g2) ∧ turnS (run Γ.K Γ.gd orc m (.loop c0 t r b)) p1 g2 = some (.f p, g')) := by
  cases n with
  | zero => cases h
  | succ m =>
    refine guard_elim (show guardS (held c0 g) (match l with | [] => some (Out.f (.next, f), g) | v :: r => bind2 (asgT t v f g) fun f₁ g₁ => bind2 (asF (run Γ.K Γ.gd orc m (.ex b) f₁ g₁)) (turnS (run Γ.K Γ.gd orc m (.loop c0 t r b)))) = some (.f p, g') from h) fun hh h => ?_
    refine ⟨m, rfl, hh, ?_⟩
    cases l with
    | nil => cases h; exact .inl ⟨rfl, rfl, rfl⟩
    | cons v r =>
      refine bind_elim2 h fun f1 g1 h1 h => ?_
      refine bind_elim2 h fun p1 g2 h2 h => ?_
      exact .inr ⟨v, r, f1, g1, p1, g2, rfl, h1, asF_eq h2, h⟩
theorem isInt_shape {prog : Program} {w : World} {k : Int} {v : Value} (h : (PySem.intKind prog w).is k v = true) : ∃ t, v = .int k t := by
  cases v with
  | int i t => exact ⟨t, by rw [show i = k from by simpa [PySem.intKind, Value.isInt] using h]⟩
  | _ => simp [PySem.intKind, Value.isInt] at h
theorem keys_atI {ρ : List Addr} {l : List (Int × SV)} {kvs : List (Int × Value)} (r : RKs ρ l kvs) : ∀ {i : Nat} {k : Int} {y : Value}, kvs[i]? = some (k, y) → (l.map fun p => SV.int p.1)[i]? = some (SV.int k) := by
  induction r with
  | nil => intro i k y e; cases e
  | cons a _ ih =>
    intro i k y e
    cases i with
    | zero => cases e; rfl
    | succ i => exact ih e
/-- a loop, over any iterator -/
theorem for_run {I : Addr} {fp : List Addr} {P : Nat → Value → Prop} {St : Nat → Heap → Prop} {S : List (Addr × Obj) → Prop} (IH : ∀ m, m ≤ n → ∀ j f g out g', run Γ.K Γ.gd orc m j f g = some (out, g') → JobOK Γ kf j f g out g')
    (W : Walks Γ.prog Γ.w c.A I fp [I] l.length P St) (hIo : ∀ i h, St i h → ∃ o, h.get? I = some o)
    (hSt : ∀ i (h h' : Heap) o nw, St i h → h.get? I = some o → h'.get? I = some o → (∀ b o, c.h₀.get? b = some o → h'.get? b = some o) → News c.h₀ c.L h' nw → S nw → St i h')
    (hS : ∀ z' g', Ex z g z' g' → held c0 g' = true → S (z'.nw ++ c.rest)) (hP : ∀ i V, P i V → ∃ u, l[i]? = some u ∧ RV z.ρ u V)
    (hgo : ∀ i V (s : Shared) (Q : Unit → Shared → Prop) (E : Value → Shared → Prop), St i s.heap → Q () s → wpAny (model Γ.prog Γ.w) c.A (letOwnedTupleGo t (.ref I) V) Q E s)
    (h : run Γ.K Γ.gd orc n (.loop c0 t l b) f g = some (.f p, g')) (C : RCx Γ kf c) (hc : c.cmp = none) (hE : PassesOwn (model Γ.prog Γ.w) c.A c.env c.E) (fr : Frm c f M z.ρ) (H : Cor Γ c M g z)
    (h0 : St 0 z.h) (hI0 : c.h₀.get? I = none) (hIL : c.L ≠ I) (hIn : ∀ p ∈ z.nw ++ c.rest, p.1 ≠ I) (G : GotF Γ c g z s Q p g') :
    codeAny (model Γ.prog Γ.w) c.A (.forLoop t (.ref I) b [] c.env) (fun r s' => match r with | .ok f => Q f s' | .error e => cameBackBy (model Γ.prog Γ.w) c.A c.env c.E e s') (z.sh s) := by
  have hL : c.env.locals = c.L := C.fn hc
  refine codeAny_forLoop_any (fun k s' => ∃ i m f' M' g1 z', k = l.length + 1 - i ∧ i ≤ l.length ∧ m ≤ n ∧ s' = z'.sh s ∧ run Γ.K Γ.gd orc m (.loop c0 t (l.drop i) b) f' g1 = some (.f p, g') ∧ Ex z g z' g1 ∧ Frm c f' M' z'.ρ ∧ Cor Γ c M' g1 z' ∧ St i z'.h ∧ ∀ p ∈ z'.nw ++ c.rest, p.1 ≠ I) ?_ (l.length + 1)
    ⟨0, n, f, M, g, z, rfl, Nat.zero_le _, Nat.le_refl _, rfl, h, Ex.refl, fr, H, h0, hIn⟩
  rintro k s' ⟨i, m, f', M', g1, z', rfl, hi, hm, rfl, hrun, e1, fr1, H1, hst, hIn1⟩
  have keep : ∀ h₂ : Heap, (∀ b o, b ∉ [I] → z'.h.get? b = some o → h₂.get? b = some o) → Fr c.h₀ c.L h₂ M' ∧ News c.h₀ c.L h₂ (z'.nw ++ c.rest) := fun h₂ hk => ⟨LCg.fr_but H1.F hk hIL hI0, LCg.news_but H1.N hk hIn1⟩
  obtain ⟨m', rfl, hh, hcase⟩ := loop_inv hrun
  by_cases hlt : i < l.length
  · rw [List.drop_eq_getElem_cons hlt] at hcase
    rcases hcase with ⟨e, _⟩ | ⟨u, r, f2, g2, p1, g3, e, ha, hb, hfin⟩
    · cases e
    · cases e
      refine W.item i _ _ _ hlt hst fun V h₂ tk₂ hPV hst₂ hk₂ => ?_
      obtain ⟨F2, N2⟩ := keep h₂ hk₂
      obtain ⟨u, hu, hru⟩ := hP i V hPV
      rw [List.getElem?_eq_getElem hlt] at hu
      cases hu
      obtain ⟨oI, hoI⟩ := hIo _ _ hst₂
      refine hgo _ _ _ _ _ hst₂ ?_
      have H2 : Cor Γ { c with rest := (I, oI) :: c.rest } M' g1 ⟨z'.ρ, z'.nw, h₂, tk₂, z'.g⟩ := ⟨F2, fun p hp => by
          rcases List.mem_append.mp hp with hp | hp
          · exact N2 p (List.mem_append.mpr (.inl hp))
          · rcases List.mem_cons.mp hp with rfl | hp
            · exact ⟨hoI, Ne.symm hIL, hI0⟩
            · exact N2 p (List.mem_append.mpr (.inr hp)), H1.led.less fun p hp q hq => by
          rcases List.mem_cons.mp hp with rfl | hp
          · exact Ne.symm (hIn1 q (List.mem_append.mpr (.inl hq)))
          · exact H1.led.sep p hp q hq⟩
      have C2 : RCx Γ kf { c with rest := (I, oI) :: c.rest } := ⟨⟨C.hand, C.stk, C.fr, C.fk, C.dep, C.uni, C.X, C.T, C.gd⟩, C.k, C.gl, C.bl, C.fn, fun N e => by rw [show c.cmp = some N from e] at hc; cases hc⟩
      have fr2 : Frm { c with rest := (I, oI) :: c.rest } f' M' z'.ρ := ⟨fr1.rm, fr1.nm, fr1.ce⟩
      refine wpAny_passesOwn hE ?_
      refine asg_ok (c := { c with rest := (I, oI) :: c.rest }) (z := ⟨z'.ρ, z'.nw, h₂, tk₂, z'.g⟩) (s := s) ha C2 hc fr2 H2 (hru.mono e1.ext) fun M3 z3 e3 fr3 H3 => ?_
      refine wpAny_passesOwn hE ?_
      refine IH m' (by omega) _ _ _ _ _ hb { c with rest := (I, oI) :: c.rest } M3 z3 s _ C2 hc hE fr3 H3 fun FL M4 z4 e4 r4 fr4 H4 => ?_
      have ex : Ex z g z4 g3 := (e1.trans Ex.same).trans (e3.trans e4)
      have fr4' : Frm c p1.2 M4 z4.ρ := ⟨fr4.rm, fr4.nm, fr4.ce⟩
      have H4' : Cor Γ c M4 g3 z4 := ⟨H4.F, fun p hp => H4.N p ((List.mem_append.mp hp).elim (fun hp => List.mem_append.mpr (.inl hp)) fun hp => List.mem_append.mpr (.inr (.tail _ hp))), H4.led.less fun p hp => H4.led.sep p (.tail _ hp)⟩
      obtain ⟨fl1, f3⟩ := p1
      cases fl1 with
      | next =>
        have r4' : FL = .next := r4
        subst r4'
        have hfin' : run Γ.K Γ.gd orc m' (.loop c0 t (l.drop (i + 1)) b) f3 g3 = some (.f p, g') := hfin
        obtain ⟨_, _, hh', _⟩ := loop_inv hfin'
        have hIz : (I, oI) ∈ z4.nw ++ { c with rest := (I, oI) :: c.rest }.rest := List.mem_append.mpr (.inr (.head _))
        refine ⟨l.length + 1 - (i + 1), by omega, i + 1, m', f3, M4, g3, z4, rfl, hlt, by omega, rfl, hfin', ex, fr4', H4', hSt _ _ _ _ _ hst₂ hoI (H4.N _ hIz).1 H4.F.keep H4'.N (hS z4 g3 ex hh'), fun q hq => ?_⟩
        rcases List.mem_append.mp hq with hq | hq
        · exact Ne.symm (H4.led.sep _ (.head _) q hq)
        · exact hIn1 q (List.mem_append.mpr (.inr hq))
      | brk =>
        cases hfin
        have r4' : FL = .brk := r4
        subst r4'
        exact G .next M4 z4 ex rfl fr4' H4'
      | ret v =>
        cases hfin
        obtain ⟨V, rfl, hV⟩ := r4
        exact G (.ret V) M4 z4 ex ⟨V, rfl, hV⟩ fr4' H4'
  · have hin : i = l.length := Nat.le_antisymm hi (Nat.not_lt.mp hlt)
    subst hin
    rw [List.drop_length] at hcase
    rcases hcase with ⟨_, rfl, rfl⟩ | ⟨_, _, _, _, _, _, e, _⟩
    · refine W.done _ _ _ hst fun h₂ tk₂ hk₂ => wpAny_execs_nil ?_
      obtain ⟨F2, N2⟩ := keep h₂ hk₂
      exact G .next M' ⟨_, _, h₂, tk₂, _⟩ e1.to rfl fr1 (H1.same F2 N2)
    · cases e
theorem go_name {x : Str} {xp : Pos} {prog : Program} {w : World} {A : Around} {I : Addr} {V : Value} {s : Shared} {Q : Unit → Shared → Prop} {E : Value → Shared → Prop} (h : Q () s) : wpAny (model prog w) A (letOwnedTupleGo (.Name x xp) (.ref I) V) Q E s := wpAny_pure h
/-- a loop by an iterator that stands alone -/
theorem for_own {o : Obj} {P : Nat → Value → Prop} {St : Nat → Heap → Prop} {x : Str} {xp : Pos} (IH : ∀ m, m ≤ n → ∀ j f g out g', run Γ.K Γ.gd orc m j f g = some (out, g') → JobOK Γ kf j f g out g')
    (W : Walks Γ.prog Γ.w c.A z.h.objs.size [z.h.objs.size] [z.h.objs.size] l.length P St) (hIo : ∀ i h, St i h → ∃ o, h.get? z.h.objs.size = some o) (hP : ∀ i V, P i V → ∃ u, l[i]? = some u ∧ RV z.ρ u V)
    (h : run Γ.K Γ.gd orc n (.loop c0 (.Name x xp) l b) f g = some (.f p, g')) (C : RCx Γ kf c) (hc : c.cmp = none) (hE : PassesOwn (model Γ.prog Γ.w) c.A c.env c.E) (fr : Frm c f M z.ρ) (H : Cor Γ c M g z)
    (h0 : St 0 (z.h.push o)) (G : GotF Γ c g z s Q p g') :
    codeAny (model Γ.prog Γ.w) c.A (.forLoop (.Name x xp) (.ref z.h.objs.size) b [] c.env) (fun r s' => match r with | .ok f => Q f s' | .error e => cameBackBy (model Γ.prog Γ.w) c.A c.env c.E e s') { z.sh s with heap := z.h.push o } :=
  for_run (z := ⟨z.ρ, z.nw, z.h.push o, z.tk, z.g⟩) (S := fun _ => True) IH W hIo (fun i h h' o' nw st e e' _ _ _ => W.frame i h h' st fun b hb ob eb => by
      rw [List.mem_singleton.mp hb] at eb ⊢
      rw [e] at eb
      rw [← eb]
      exact e') (fun _ _ _ _ => trivial) hP (fun _ _ _ _ _ _ hq => go_name hq) h C hc hE fr
    ⟨H.F.push _, fun q hq => ⟨Heap.get?_push_of_some _ (H.N q hq).1, (H.N q hq).2⟩, H.led⟩ h0 (next_is_new H.F) (Nat.ne_of_lt H.F.ns.lt) (fun q hq => Nat.ne_of_lt (Heap.lt_size (H.N q hq).1)) (G.after Ex.same)
theorem rangeOf_eq {e e1 : Expr} (h : rangeOf e = some e1) : ∃ fp cp, e = .Call (.Name "range" fp) [e1] [] cp := by
  cases e with
  | Call f es kws cp =>
    refine guard_elim h fun h1 h => ?_
    refine bind_elim h fun x h2 h => ?_
    refine guard_elim h fun h3 h4 => ?_
    obtain ⟨fp, rfl⟩ := nameOf_eq h2
    rw [List.isEmpty_iff.mp h1, one_eq h4, sq_eq.mp h3]
    exact ⟨fp, cp, rfl⟩
  | _ => cases h
theorem isRng_eq {o : Option SV} (h : isRng o = true) : o = some (.val (.type "range")) := by
  cases o with
  | none => cases h
  | some v =>
    cases v with
    | val v =>
      cases v with
      | type T => rw [of_decide_eq_true (show decide (T = "range") = true from h)]
      | _ => cases h
    | _ => cases h
theorem nameT_eq {sc : List (Str × NameKind)} {t : Expr} (h : nameT sc t = true) : ∃ x xp, t = .Name x xp := by
  unfold nameT at h
  cases e : nameOf t with
  | none => rw [e] at h; cases h
  | some x =>
    obtain ⟨p, rfl⟩ := nameOf_eq e
    exact ⟨x, p, rfl⟩
theorem for_ok {it : Expr} {pos : Pos} {q : (Option (Nat × Nat) × List SV) × Sg}
    (IH : ∀ m, m ≤ n → ∀ j f g out g', run Γ.K Γ.gd orc m j f g = some (out, g') → JobOK Γ kf j f g out g') (h0 : itS Γ.K (run Γ.K Γ.gd orc n) t it f g = some q) (hr : run Γ.K Γ.gd orc n (.loop q.1.1 t q.1.2 b) f q.2 = some (.f p, g'))
    (C : RCx Γ kf c) (hc : c.cmp = none) (hE : PassesOwn (model Γ.prog Γ.w) c.A c.env c.E) (fr : Frm c f M z.ρ) (H : Cor Γ c M g z) (G : GotF Γ c g z s Q p g') : wpAny (model Γ.prog Γ.w) c.A (exec (.For t it b [] pos) c.env) Q c.E (z.sh s) := by
  unfold itS at h0
  cases hro : rangeOf it with
  | some e1 =>
    rw [hro] at h0
    refine guard_elim h0 fun hg h1 => ?_
    refine and_elim hg fun hg hx => ?_
    refine and_elim hg fun hn hst => ?_
    refine bind_elim2 h1 fun v g1 h2 h3 => ?_
    refine bind_elim h3 fun N h4 h5 => ?_
    refine bind_elim h5 fun N' hN h6 => ?_
    refine guard_elim h6 fun hz h7 => ?_
    cases h7
    clear h0 h1 h3 h5 h6
    obtain rfl := natS_eq hN
    have hz' := small_le hz
    obtain ⟨fp, cp, rfl⟩ := rangeOf_eq hro
    obtain ⟨x, xp, rfl⟩ := nameT_eq hx
    refine wpAny_For (Call_ (name_ok (isRng_eq hn) C fr H fun V hV => ?_)) fun _ => rfl
    have hV' : V = .type "range" := hV
    subst hV'
    refine callWith_type1 (args_cons (IH n (Nat.le_refl _) _ _ _ _ _ (asV_eq h2) c M z s _ C fr H fun V z1 e1 r1 H1 => args_nil ?_) (star_cons hst _ _)) (star_cons hst _ _) rfl
    rw [show v = SV.int (N' : Int) from vI_eq h4] at r1
    obtain ⟨tv, rfl⟩ := r1
    refine range1_rows H1.F H1.N fun h2 tk2 t₁ u₁ v₁ hR F2 N2 _ => ?_
    have hsz : Builtin.Range.rangeSize 0 (N' : Int) 1 = (N' : Int) := by unfold Builtin.Range.rangeSize; simp; omega
    have hsmall : Builtin.Range.small 0 (N' : Int) 1 = true := by
      unfold Builtin.Range.small
      rw [hsz]
      simp [Builtin.Range.rangeFitsLong]
      omega
    refine wpAny_pyIter_range hR hsmall ?_
    have hl : ((List.range N').map fun (i : Nat) => SV.int i).length = N' := by simp
    have W : Walks Γ.prog Γ.w c.A h2.objs.size [h2.objs.size] [h2.objs.size] ((List.range N').map fun (i : Nat) => SV.int i).length (fun i v => i < N' ∧ ∃ t, v = .int (0 + i * 1) t)
        (fun i h => IsRangeIter h h2.objs.size (0 + (i : Nat) * 1) ((N' : Int) - (i : Nat)) 1) := by rw [hl]; exact (Walks.range C.hand _ 0 1 N').bound
    refine for_own (z := ⟨z1.ρ, z1.nw, h2, tk2, z1.g⟩) IH W (fun i h hi => ⟨_, hi⟩) ?_ hr C hc hE (fr.mono e1.ext) (H1.same F2 N2) (by show IsRangeIter _ _ _ _ _; rw [hsz]; simpa using Heap.get?_push_size _ rfl) (GotF.after G e1.to)
    rintro i v ⟨hin, t, rfl⟩
    exact ⟨.int (i : Int), by rw [List.getElem?_map, List.getElem?_range hin]; rfl, t, by rw [show 0 + (i : Int) * 1 = (i : Int) by omega]⟩
  | none =>
    rw [hro] at h0
    refine guard_elim h0 fun hnt h1 => ?_
    refine bind_elim2 h1 fun u g1 h2 h3 => ?_
    refine map_elim h3 fun q' h4 hrfl => ?_
    subst hrfl
    clear h0 h1 h3
    have fs := (noTup_eq hnt).2.2 c.env
    refine wpAny_For (IH n (Nat.le_refl _) _ _ _ _ _ (asV_eq h2) c M z s _ C fr H fun V z1 e1 r1 H1 => ?_) fs
    have fr1 := fr.mono e1.ext
    have G1 := GotF.after G e1
    cases u with
    | bytes l =>
      refine guard_elim h4 fun hx h5 => ?_
      cases h5
      obtain ⟨x, xp, rfl⟩ := nameT_eq hx
      obtain ⟨bb, tb, rfl, rfl⟩ := r1
      refine KBw.pyIter_bytes ?_
      have hl : ((KBw.bInts bb).map SV.int).length = bb.size := by rw [List.length_map, KBw.ints_length]
      refine for_own (z := z1) IH (hl.symm ▸ KBw.walks (prog := Γ.prog) (w := Γ.w) C.hand z1.h.objs.size bb tb) (fun i h ⟨o, ho, _⟩ => ⟨o, ho⟩) ?_ hr C hc hE fr1 H1 ⟨_, Heap.get?_push_size _ rfl, rfl, rfl⟩ G1
      rintro i v ⟨u, tt', hu, rfl⟩
      exact ⟨.int (u.toNat : Int), by rw [List.getElem?_map, KBw.ints_get hu]; rfl, tt', rfl⟩
    | str x' =>
      refine guard_elim h4 fun hx h5 => ?_
      cases h5
      obtain ⟨x, xp, rfl⟩ := nameT_eq hx
      obtain ⟨tb, rfl⟩ := r1
      have hl : (x'.cps.toList.map fun n => SV.str ⟨#[n]⟩).length = x'.cps.size := by simp
      have hP : ∀ i V, SignAt x' i V → ∃ u, (x'.cps.toList.map fun n => SV.str ⟨#[n]⟩)[i]? = some u ∧ RV z1.ρ u V := by
        rintro i v ⟨c', u, hu, rfl⟩
        have hu' : x'.cps.toList[i]? = some c' := by rw [Array.getElem?_toList]; exact hu
        exact ⟨.str ⟨#[c']⟩, by rw [List.getElem?_map, hu']; rfl, u, rfl⟩
      cases ha : x'.cps.all (· < 128) with
      | false => exact wpAny_pyIter_wide ha (for_own (z := z1) IH (hl.symm ▸ Walks.strWide (prog := Γ.prog) (w := Γ.w) C.hand z1.h.objs.size x' tb) (fun i h ⟨o, ho, _⟩ => ⟨o, ho⟩) hP hr C hc hE fr1 H1 ⟨_, Heap.get?_push_size _ rfl, rfl, rfl⟩ G1)
      | true => exact wpAny_pyIter_ascii ha (for_own (z := z1) IH (hl.symm ▸ Walks.strAscii (prog := Γ.prog) (w := Γ.w) C.hand z1.h.objs.size x' tb) (fun i h ⟨o, ho, _⟩ => ⟨o, ho⟩) hP hr C hc hE fr1 H1 ⟨_, Heap.get?_push_size _ rfl, rfl, rfl⟩ G1)
    | obj k =>
      refine bind_elim2 (show bind2 (oO g1.σ (.obj k)) (fun k o => (g1.τ[k]?).bind fun tt => iterO f.sc t k tt o) = some q' from h4) fun k' so ho h5 => ?_
      refine bind_elim h5 fun tt ht h6 => ?_
      clear h4 h5
      obtain ⟨hk', hs⟩ := oO_eq ho
      have hk'' : k = k' := by cases hk'; rfl
      subst hk''
      obtain ⟨D, o, rfl, hD, hkk, hm, hrr⟩ := H1.ob r1 ⟨rfl, hs⟩
      have hDI : D ≠ z1.h.objs.size := Nat.ne_of_lt (Heap.lt_size (H1.N _ hm).1)
      have H1p : ∀ o', Cor Γ c M g1 ⟨z1.ρ, z1.nw, z1.h.push o', z1.tk, z1.g⟩ := fun o' => ⟨H1.F.push _, fun q hq => ⟨Heap.get?_push_of_some _ (H1.N q hq).1, (H1.N q hq).2⟩, H1.led⟩
      have hin : ∀ p ∈ z1.nw ++ c.rest, p.1 ≠ z1.h.objs.size := fun q hq => Nat.ne_of_lt (Heap.lt_size (H1.N q hq).1)
      cases so with
      | list l =>
        cases h6
        obtain ⟨vs, nn, rfl, hrr⟩ := hrr
        have hls : z1.h.IsList D vs.toArray := ⟨_, (H1.N _ hm).1, rfl, nn, rfl⟩
        refine wpAny_pyIter_list hls ?_
        have hl : l.length = vs.toArray.size := by rw [List.size_toArray, hrr.length]
        refine for_run (z := ⟨z1.ρ, z1.nw, z1.h.push _, z1.tk, z1.g⟩) (S := LCg.SrcAt c.h₀ D vs.toArray) IH (hl ▸ Walks.list (prog := Γ.prog) (w := Γ.w) C.hand z1.h.objs.size D hDI vs.toArray) (fun i h st => by obtain ⟨o, e, _⟩ := st.1; exact ⟨o, e⟩) LCg.list_st
          (fun z' g' e' hh' => .inr ⟨_, List.mem_append.mpr (.inl (held_at (z1 := z1) ht hkk (Ex.same.trans e') hh')), rfl, nn, rfl⟩) (fun i V hV => ?_) (fun i V s Q E st hq => letGo_listiter st.1 hq) hr C hc hE fr1 (H1p _) ⟨⟨_, Heap.get?_push_size _ rfl, rfl, rfl⟩, hls.at fun o e => Heap.get?_push_of_some _ e⟩ (next_is_new H1.F) (Nat.ne_of_lt H1.F.ns.lt) hin (G1.after Ex.same)
        have hV' : vs[i]? = some V := by simpa using hV
        have hil : i < l.length := by rw [← hrr.length]; exact (List.getElem?_eq_some_iff.mp hV').1
        obtain ⟨V', h7, h8⟩ := hrr.get (List.getElem?_eq_getElem hil)
        rw [hV'] at h7
        cases h7
        exact ⟨_, List.getElem?_eq_getElem hil, h8⟩
      | dict l =>
        refine guard_elim h6 fun hx h7 => ?_
        cases h7
        obtain ⟨x, xp, rfl⟩ := nameT_eq hx
        obtain ⟨kvs, hd, hrr⟩ := hrr
        obtain ⟨ep, hka⟩ := KdkAt.of hd
        have hat := hka.dictAt (H1.N _ hm).1
        have lo := H1.led.lo _ _ D hs rfl hD
        refine wpAny_pyIter_dict lo hat ?_
        have hl : (l.map fun p => SV.int p.1).length = kvs.length := by rw [List.length_map, hrr.length]
        refine for_run (z := ⟨z1.ρ, z1.nw, z1.h.push _, z1.tk, z1.g⟩) (S := fun nw => (D, o) ∈ nw) IH (hl.symm ▸ Walks.dictKeys (prog := Γ.prog) (w := Γ.w) (knd := PySem.intKind Γ.prog Γ.w) C.hand z1.h.objs.size D hDI kvs ep) (fun i h st => by obtain ⟨o, e, _⟩ := st.1; exact ⟨o, e⟩)
          (fun i h h' o nw st e e' k N S => ⟨by obtain ⟨o', q, r⟩ := st.1; obtain rfl := Option.some.inj (e.symm.trans q); exact ⟨_, e', r⟩, hka.dictAt (N _ S).1⟩)
          (fun z' g' e' hh' => List.mem_append.mpr (.inl (held_at (z1 := z1) ht hkk (Ex.same.trans e') hh'))) (fun i V hV => ?_) (fun i V s Q E st hq => go_name hq) hr C hc hE fr1 (H1p _) ⟨⟨_, Heap.get?_push_size _ rfl, rfl, by rw [hl]; rfl⟩, hat.push _⟩ (next_is_new H1.F) (Nat.ne_of_lt H1.F.ns.lt) hin (G1.after Ex.same)
        obtain ⟨key, y, h8, h9⟩ := hV
        obtain ⟨tk, rfl⟩ := isInt_shape h9
        exact ⟨.int key, keys_atI hrr h8, tk, rfl⟩
      | sdict l =>
        refine guard_elim h6 fun hx h7 => ?_
        cases h7
        obtain ⟨x, xp, rfl⟩ := nameT_eq hx
        obtain ⟨kvs, hd, hrr⟩ := hrr
        obtain ⟨ep, hka⟩ := KdkAt.of hd
        have hat := hka.dictAt (H1.N _ hm).1
        have lo := H1.led.lo _ _ D hs rfl hD
        refine wpAny_pyIter_dict lo hat ?_
        have hl : (l.map fun p => SV.str p.1).length = kvs.length := by rw [List.length_map, hrr.length]
        refine for_run (z := ⟨z1.ρ, z1.nw, z1.h.push _, z1.tk, z1.g⟩) (S := fun nw => (D, o) ∈ nw) IH (hl.symm ▸ Walks.dictKeys (prog := Γ.prog) (w := Γ.w) (knd := PySem.strKind Γ.prog Γ.w) C.hand z1.h.objs.size D hDI kvs ep) (fun i h st => by obtain ⟨o, e, _⟩ := st.1; exact ⟨o, e⟩)
          (fun i h h' o nw st e e' k N S => ⟨by obtain ⟨o', q, r⟩ := st.1; obtain rfl := Option.some.inj (e.symm.trans q); exact ⟨_, e', r⟩, hka.dictAt (N _ S).1⟩)
          (fun z' g' e' hh' => List.mem_append.mpr (.inl (held_at (z1 := z1) ht hkk (Ex.same.trans e') hh'))) (fun i V hV => ?_) (fun i V s Q E st hq => go_name hq) hr C hc hE fr1 (H1p _) ⟨⟨_, Heap.get?_push_size _ rfl, rfl, by rw [hl]; rfl⟩, hat.push _⟩ (next_is_new H1.F) (Nat.ne_of_lt H1.F.ns.lt) hin (G1.after Ex.same)
        obtain ⟨key, y, h8, h9⟩ := hV
        obtain ⟨tk, rfl⟩ := Value.isStrOf_shape h9
        exact ⟨.str key, keys_at hrr h8, tk, rfl⟩
      | _ => cases h6
    | _ => cases h4
end
theorem swaps_cell {e : Expr} {f : Fi} {x : Str} {p : Pos} {c : Cx} {M : Str → Option Value} {ρ : List Addr} (hl : isLc e = true) (hq : cellQ (.Name x p) f = true) (fr : Frm c f M ρ) (n : Nat) : swapsWith e (some (.Name x p)) n c.env = pure false := by
  have hk : c.env.kindOf x = some .cell := (fr.kind x).trans (kindC_at hq)
  cases e with
  | ListComp elt gs scope ps =>
    show (pure (_ && _ && _ && _) : Sem Bool) = _
    rw [hk]
    have : (some NameKind.cell == some NameKind.local) = false := rfl
    rw [this]
    simp
  | _ => cases hl
section
variable {Γ : Gm} {orc : Orc} {kf : Nat} {c : Cx} {M : Str → Option Value} {z : Zs} {s : Shared} {f f' : Fi} {g g' : Sg} {v : SV} {n : Nat} {p : Fl × Fi} {Q : Flow → Shared → Prop}
theorem asgs_ok {t e : Expr} {g1 : Sg} {pos : Pos} (IH : ∀ j f g out g', run Γ.K Γ.gd orc n j f g = some (out, g') → JobOK Γ kf j f g out g') (h1 : asV (run Γ.K Γ.gd orc n (.ev e) f g) = some (v, g1)) (h : asgS Γ.K (run Γ.K Γ.gd orc n) t e v f g1 = some (f', g'))
    (C : RCx Γ kf c) (hc : c.cmp = none) (fr : Frm c f M z.ρ) (H : Cor Γ c M g z) (G : GotF Γ c g z s Q (.next, f') g') : wpAny (model Γ.prog Γ.w) c.A (exec (.Assign [t] e pos) c.env) Q c.E (z.sh s) := by
  have go := fun (Q : Value → Shared → Prop) => IH _ _ _ _ _ (asV_eq h1) c M z s Q C fr H
  cases t with
  | Name x xp =>
    refine guard_elim h fun hg h => ?_
    have hs : swapsWith e (some (.Name x xp)) pos.line c.env = pure false := by
      rcases Bool.or_eq_true_iff.mp hg with hp | hp
      · exact swaps_plain hp _ _ _
      · exact and_elim hp fun a b => swaps_cell a b fr _
    refine wpAny_Assign_Name (go _ fun V z1 e1 r1 H1 => ?_) hs
    exact asgn_ok h C hc (fr.mono e1.ext) H1 r1 fun M' z2 e2 fr2 H2 => G .next M' z2 (e1.trans e2) rfl fr2 H2
  | Attribute b x ap =>
    refine guard_elim h fun hp h => ?_
    refine bind_elim h fun y h2 h => ?_
    refine bind_elim h fun u hn h => ?_
    refine map_elim h fun g2 h9 hrfl => ?_
    cases hrfl
    obtain ⟨bp, rfl⟩ := nameOf_eq h2
    refine plainObj_wpAny_Assign_Attribute (go _ fun V z1 e1 r1 H1 => ?_) (swaps_plain hp _ _ _)
    refine name_ok hn C (fr.mono e1.ext) H1 fun U hU => seta_ok h9 C.toOrx H1 hU r1 fun z2 e2 H2 => ?_
    exact G .next M z2 (e1.trans e2) rfl (fr.mono (e1.ext.trans e2.ext)) H2
  | Tuple es k ps =>
    refine guard_elim h fun hp h => ?_
    obtain ⟨hs1, hs2, _⟩ := noTup_eq hp
    refine Assign_Tuple (go _ fun V z1 e1 r1 H1 => ?_) (hs1 _ _ _) (hs2 _ _ _ _)
    exact asg_ok h C hc (fr.mono e1.ext) H1 r1 fun M' z2 e2 fr2 H2 => G .next M' z2 (e1.trans e2) rfl fr2 H2
  | Subscript b i ps =>
    refine guard_elim h fun hg h => ?_
    refine and_elim hg fun hp hx => ?_
    refine bind_elim2 h fun a g2 h2 h => ?_
    refine bind_elim2 h fun i' g3 h3 h => ?_
    refine map_elim h fun g4 h4 hrfl => ?_
    cases hrfl
    refine wpAny_Assign_Subscript (go _ fun V z1 e1 r1 H1 =>
      IH _ _ _ _ _ (asV_eq h2) c M z1 s _ C (fr.mono e1.ext) H1 fun U z2 e2 r2 H2 =>
      IH _ _ _ _ _ (asV_eq h3) c M z2 s _ C (fr.mono (e1.ext.trans e2.ext)) H2 fun X z3 e3 r3 H3 => ?_) (swaps_plain hp _ _ _)
    exact stor_ok h4 H3 (r2.mono e3.ext) r3 (r1.mono (e2.ext.trans e3.ext)) fun z4 e4 H4 => G .next M z4 (((e1.trans e2).trans e3).trans e4) rfl (fr.mono (((e1.trans e2).trans e3).trans e4).ext) H4
  | _ => cases h
end
section
variable {Γ : Gm} {orc : Orc} {kf : Nat} {c : Cx} {M : Str → Option Value} {z : Zs} {s : Shared} {f f' : Fi} {g g' : Sg} {v : SV} {n : Nat} {p : Fl × Fi} {Q : Flow → Shared → Prop}
theorem st_ok {x : Stmt} (IH : ∀ m, m ≤ n → ∀ j f g out g', run Γ.K Γ.gd orc m j f g = some (out, g') → JobOK Γ (kf + 1) j f g out g') (h : exS Γ.K (run Γ.K Γ.gd orc n) x f g = some (p, g'))
    (C : RCx Γ (kf + 1) c) (hc : c.cmp = none) (hE : PassesOwn (model Γ.prog Γ.w) c.A c.env c.E) (fr : Frm c f M z.ρ) (H : Cor Γ c M g z) (G : GotF Γ c g z s Q p g') : wpAny (model Γ.prog Γ.w) c.A (exec x c.env) Q c.E (z.sh s) := by
  have IHn := IH n (Nat.le_refl _)
  cases x with
  | Assign ts e pos =>
    refine bind_elim h fun t h1 h => ?_
    refine map_elim2 h fun f1 g1 h2 h => ?_
    cases h
    rw [one_eq h1]
    unfold asgC at h2
    cases hk : lcOf e with
    | none =>
      rw [hk] at h2
      refine bind_elim2 h2 fun v g1 h3 h4 => ?_
      exact asgs_ok IHn h3 h4 C hc fr H G
    | some k =>
      rw [hk] at h2
      have h2' : (match swapQ t k f with | true => (nameOf t).bind fun y => bind2 (lcS Γ.K (run Γ.K Γ.gd orc n) k f g) fun l g1 => some (setM f y (mkO (.list l) g1).1, (mkO (.list l) g1).2) | false => bind2 (asV (run Γ.K Γ.gd orc n (.ev e) f g)) fun v g1 => asgS Γ.K (run Γ.K Γ.gd orc n) t e v f g1) = some (f1, _) := h2
      cases hs : swapQ t k f with
      | true =>
        rw [hs] at h2'
        refine bind_elim h2' fun y h3 h4 => ?_
        refine bind_elim2 h4 fun l g1 h5 h6 => ?_
        cases h6
        obtain ⟨py, rfl⟩ := nameOf_eq h3
        exact lca_ok IHn hk h5 hs C hc fr H G
      | false =>
        rw [hs] at h2'
        refine bind_elim2 h2' fun v g1 h3 h4 => ?_
        exact asgs_ok IHn h3 h4 C hc fr H G
  | Expr e pos =>
    refine guard_elim h fun hp h => ?_
    refine bind_elim2 h fun v g1 h1 h => ?_
    cases h
    exact wpAny_Expr_any (IHn _ _ _ _ _ (asV_eq h1) c M z s _ C fr H fun V z1 e1 r1 H1 => G .next M z1 e1 rfl (fr.mono e1.ext) H1) C.inter (swaps_plain hp _ _ _)
  | If t b o pos =>
    refine bind_elim2 h fun b0 g1 h1 h => ?_
    refine wpAny_If (IHn _ _ _ _ _ (asB_eq h1) c M z s _ C fr H fun z1 e1 H1 => ?_)
    cases b0 with
    | true => exact IHn _ _ _ _ _ (asF_eq h) c M z1 s _ C hc hE (fr.mono e1.ext) H1 (G.after e1)
    | false => exact IHn _ _ _ _ _ (asF_eq h) c M z1 s _ C hc hE (fr.mono e1.ext) H1 (G.after e1)
  | While t b o pos =>
    refine guard_elim h fun ho h => ?_
    rw [List.isEmpty_iff.mp ho]
    exact whl_start 0 (IHn _ _ _ _ _ (asF_eq h) 0 c M z s Q C hc hE fr H G)
  | For t it b o pos =>
    refine guard_elim h fun ho h => ?_
    refine bind_elim h fun q h1 h => ?_
    rw [List.isEmpty_iff.mp ho]
    exact for_ok IH h1 (asF_eq h) C hc hE fr H G
  | Return e pos =>
    cases e with
    | some e =>
      refine bind_elim2 h fun v g1 h1 h => ?_
      cases h
      exact wpAny_Return_some (IHn _ _ _ _ _ (asV_eq h1) c M z s _ C fr H fun V z1 e1 r1 H1 => G (.ret V) M z1 e1 ⟨V, rfl, r1⟩ (fr.mono e1.ext) H1)
    | none =>
      cases h
      exact wpAny_Return_none (G (.ret .none) M z Ex.refl ⟨_, rfl, rfl⟩ fr H)
  | Break pos =>
    cases h
    exact wpAny_Break (G .brk M z Ex.refl rfl fr H)
  | _ => cases h
/-- what the reckoner gives, the machine gives -/
theorem run_ok (O : OrcOK Γ orc kf) : ∀ (n m : Nat), m ≤ n → ∀ j f g out g', run Γ.K Γ.gd orc m j f g = some (out, g') → JobOK Γ (kf + 1) j f g out g'
  | _, 0, _, j, f, g, out, g', h => by cases h
  | 0, m + 1, hm, _, _, _, _, _, _ => absurd hm (by omega)
  | n + 1, m + 1, hm, j, f, g, out, g', h => by
    have IH : ∀ k, k ≤ m → ∀ j f g out g', run Γ.K Γ.gd orc k j f g = some (out, g') → JobOK Γ (kf + 1) j f g out g' := fun k hk => run_ok O n k (by omega)
    have IHm := IH m (Nat.le_refl _)
    have h' : step Γ.K Γ.gd orc (run Γ.K Γ.gd orc m) j f g = some (out, g') := h
    cases j with
    | ev e =>
      refine bind_elim2 (show bind2 (evS Γ.K Γ.gd orc (run Γ.K Γ.gd orc m) e f g) (fun v g1 => some (Out.v v, g1)) = some (out, g') from h') fun v g1 h1 h2 => ?_
      cases h2
      exact ev_ok IHm O h1
    | evs es =>
      cases es with
      | nil =>
        cases h'
        intro c M z s Q pos C fr H G
        exact args_nil (G [] z Ex.refl .nil H)
      | cons e r =>
        refine guard_elim h' fun hst h2 => ?_
        refine bind_elim2 h2 fun v g1 h3 h4 => ?_
        refine bind_elim2 h4 fun l g2 h5 h6 => ?_
        cases h6
        intro c M z s Q pos C fr H G
        exact args_cons (IHm _ _ _ _ _ (asV_eq h3) c M z s _ C fr H fun V z1 e1 r1 H1 =>
          IHm _ _ _ _ _ (asVs_eq h5) c M z1 s _ pos C (fr.mono e1.ext) H1 fun Vs z2 e2 r2 H2 => G (V :: Vs) z2 (e1.trans e2) (.cons (r1.mono e2.ext) r2) H2) (star_cons hst _ _)
    | test e =>
      refine bind_elim2 (show bind2 (testS Γ.K Γ.gd (run Γ.K Γ.gd orc m) e f g) (fun v g1 => some (Out.b v, g1)) = some (out, g') from h') fun v g1 h1 h2 => ?_
      cases h2
      exact test_ok IHm h1
    | ex b =>
      cases b with
      | nil =>
        cases h'
        intro c M z s Q C hc hE fr H G
        exact wpAny_execs_nil (G .next M z Ex.refl rfl fr H)
      | cons x r =>
        refine bind_elim2 h' fun p g1 h1 h2 => ?_
        obtain ⟨fl, f1⟩ := p
        cases fl with
        | next =>
          have hJ := IHm _ _ _ _ _ h2
          cases out with
          | f fl' =>
            intro c M z s Q C hc hE fr H G
            refine wpAny_execs_cons (st_ok IH h1 C hc hE fr H fun FL M1 z1 e1 r1 fr1 H1 => ?_)
            have r1' : FL = .next := r1
            subst r1'
            exact hJ c M1 z1 s _ C hc hE fr1 H1 (G.after e1)
          | _ => trivial
        | brk =>
          cases h2
          intro c M z s Q C hc hE fr H G
          refine wpAny_execs_cons (st_ok IH h1 C hc hE fr H fun FL M1 z1 e1 r1 fr1 H1 => ?_)
          have r1' : FL = .brk := r1
          subst r1'
          exact G .brk M1 z1 e1 rfl fr1 H1
        | ret v =>
          cases h2
          intro c M z s Q C hc hE fr H G
          refine wpAny_execs_cons (st_ok IH h1 C hc hE fr H fun FL M1 z1 e1 r1 fr1 H1 => ?_)
          obtain ⟨V, rfl, hV⟩ := r1
          exact G (.ret V) M1 z1 e1 ⟨V, rfl, hV⟩ fr1 H1
    | whl t b =>
      refine bind_elim2 h' fun b0 g1 h1 h2 => ?_
      cases b0 with
      | false =>
        cases h2
        intro k c M z s Q C hc hE fr H G
        refine whl_turn (k := 0) hE (IHm _ _ _ _ _ (asB_eq h1) c M z s _ C fr H fun z1 e1 H1 => ?_)
        exact WhlIf.no rfl (wpAny_execs_nil (G .next M z1 e1 rfl (fr.mono e1.ext) H1))
      | true =>
        refine bind_elim2 h2 fun p1 g2 h3 h4 => ?_
        have hb := IHm _ _ _ _ _ (asF_eq h3)
        obtain ⟨fl1, f1⟩ := p1
        cases fl1 with
        | next =>
          have hJ := IHm _ _ _ _ _ (show run Γ.K Γ.gd orc m (.whl t b) f1 g2 = some (out, g') from h4)
          cases out with
          | f fl' =>
            intro k c M z s Q C hc hE fr H G
            refine whl_turn (k := 0) hE (IHm _ _ _ _ _ (asB_eq h1) c M z s _ C fr H fun z1 e1 H1 => WhlIf.yes rfl ?_)
            refine hb c M z1 s _ C hc hE (fr.mono e1.ext) H1 fun FL M2 z2 e2 r2 fr2 H2 => ?_
            have r2' : FL = .next := r2
            subst r2'
            exact hJ 0 c M2 z2 s Q C hc hE fr2 H2 ((G.after e1).after e2)
          | _ => trivial
        | brk =>
          cases h4
          intro k c M z s Q C hc hE fr H G
          refine whl_turn (k := 0) hE (IHm _ _ _ _ _ (asB_eq h1) c M z s _ C fr H fun z1 e1 H1 => WhlIf.yes rfl ?_)
          refine hb c M z1 s _ C hc hE (fr.mono e1.ext) H1 fun FL M2 z2 e2 r2 fr2 H2 => ?_
          have r2' : FL = .brk := r2
          subst r2'
          exact G .next M2 z2 (e1.trans e2) rfl fr2 H2
        | ret v =>
          cases h4
          intro k c M z s Q C hc hE fr H G
          refine whl_turn (k := 0) hE (IHm _ _ _ _ _ (asB_eq h1) c M z s _ C fr H fun z1 e1 H1 => WhlIf.yes rfl ?_)
          refine hb c M z1 s _ C hc hE (fr.mono e1.ext) H1 fun FL M2 z2 e2 r2 fr2 H2 => ?_
          obtain ⟨V, rfl, hV⟩ := r2
          exact G (.ret V) M2 z2 (e1.trans e2) ⟨V, rfl, hV⟩ fr2 H2
    | loop c t l b =>
      show JobOK Γ (kf + 1) (.loop c t l b) f g out g'
      cases out <;> trivial
    | cmp hh x ct elt l =>
      cases ct with
      | none => cases out <;> trivial
      | some t =>
        refine guard_elim h' fun h0 h1 => ?_
        cases l with
        | nil =>
          cases h1
          intro c M z s scope cl S P i acc ys Fin C hk hf led hg hys hP hS hF
          exact LCt.CompRestT.zero (hF z ys Ex.refl led hg (by rw [List.append_nil]; exact hys))
        | cons v r =>
          refine bind_elim2 h1 fun o g1 h2 h3 => ?_
          refine guard_elim h3 fun h4 h5 => ?_
          refine bind_elim2 h5 fun l' g2 h6 h7 => ?_
          cases h7
          refine and_elim h4 fun h8 h9 => ?_
          exact cmp_turn IHm h2 h8 (Nat.eq_of_beq_eq_true h9) h6
end
/-- the defs that the reckoner may call: address, number of arguments, what the defaults add -/
structure FnE where
  f : Addr
  n : Nat
  ex : List (Str × SV)
def findE : List FnE → Addr → Nat → Option FnE
  | [], _, _ => none
  | e :: r, f, n => match Nat.beq e.f f && Nat.beq e.n n with
    | true => some e
    | false => findE r f n
def zipM : List Str → List SV → List (Str × SV)
  | x :: r, v :: l => (x, v) :: zipM r l
  | _, _ => []
def notKey (x : Str) : List (Str × SV) → Bool
  | [] => true
  | p :: r => match sq p.1 x with
    | true => false
    | false => notKey x r
def nodupK : List (Str × SV) → Bool
  | [] => true
  | p :: r => notKey p.1 r && nodupK r
def fdOf (o : Obj) : Option FuncData := match o.data with
  | .func fd => some fd
  | _ => none
def bodyOf (b : FuncBody) : Option (List Stmt) := match b with
  | .stmts b => some b
  | _ => none
def isCel (sc : List (Str × NameKind)) (x : Str) : Bool := match look sc x with
  | some k => kindC k
  | none => false
/-- the names that have a cell, in the order of the cells -/
def celN (sc : List (Str × NameKind)) : List Str := (cellsFrom 0 sc []).map (·.1)
def mkOs : List SO → Sg → Sg
  | [], g => g
  | so :: r, g => mkOs r (mkO so g).2
def cmOf : Nat → List Str → List (Str × Nat)
  | _, [] => []
  | k, x :: r => (x, k) :: cmOf (k + 1) r
def locB (sc : List (Str × NameKind)) : List (Str × SV) → List (Str × SV)
  | [] => []
  | p :: r => match isLoc sc p.1 with
    | true => p :: locB sc r
    | false => locB sc r
def fnGood (K : Frag) (fd : FuncData) (m : List (Str × SV)) : Bool :=
  decide (fd.globals = mainGlobals) && (decide (fd.builtins = builtinsNs) && (fd.closure.isEmpty && (codeIn K fd.code fd.qualname && (m.all (fun p => isLoc fd.scope.names p.1 || isCel fd.scope.names p.1) && (nodupK m && (!fd.scope.isCoroutine && (!fd.scope.isGenerator && (scopeK fd.scope && (nodupK ((celN fd.scope.names).map fun x => (x, SV.none)) && (celN fd.scope.names).all (isCel fd.scope.names))))))))))
def fnIn (e : FnE) (fd : FuncData) (vs : List SV) : List (Str × SV) := zipM (fd.params.args.map (·.arg)) vs ++ e.ex
def outS (p : Fl × Fi) (g : Sg) : Option (SV × Sg) := match p.1 with
  | .ret v => some (v, g)
  | .next => some (.none, g)
  | .brk => none
/-- a def's start: its frame and its cells -/
def fiOf (sc : List (Str × NameKind)) (b : List (Str × SV)) (g : Sg) : Fi := ⟨locB sc b, sc, cmOf g.σ.length (celN sc)⟩
def sgOf (sc : List (Str × NameKind)) (b : List (Str × SV)) (g : Sg) : Sg := mkOs ((celN sc).map fun x => .cell (look b x)) g
def fnRun (K : Frag) (gd : List Addr) (T : List FnE) (N : Nat) (orc : Orc) : Orc := fun f vs g => (findE T f vs.length).bind fun e => (K.lookup f).bind fun o => (fdOf o).bind fun fd => (bodyOf fd.body).bind fun body =>
  guardS (fnGood K fd (fnIn e fd vs)) (bind2 (asF (run K gd orc N (.ex body) (fiOf fd.scope.names (fnIn e fd vs) g) (sgOf fd.scope.names (fnIn e fd vs) g))) outS)
inductive RBs (ρ : List Addr) : List (Str × SV) → List (Str × Value) → Prop
  | nil : RBs ρ [] []
  | cons {x : Str} {v : SV} {V : Value} {l : List (Str × SV)} {L : List (Str × Value)} : RV ρ v V → RBs ρ l L → RBs ρ ((x, v) :: l) ((x, V) :: L)
theorem RBs.append {ρ : List Addr} {l l' : List (Str × SV)} {L L' : List (Str × Value)} (r : RBs ρ l L) (r' : RBs ρ l' L') : RBs ρ (l ++ l') (L ++ L') := by
  induction r with
  | nil => exact r'
  | cons a _ ih => exact .cons a ih
theorem RBs.zip {ρ : List Addr} {vs : List SV} {Vs : List Value} (r : RVs ρ vs Vs) : ∀ ns : List Str, RBs ρ (zipM ns vs) (ns.zip Vs) := by
  induction r with
  | nil => intro ns; cases ns <;> exact .nil
  | cons a _ ih =>
    intro ns
    cases ns with
    | nil => exact .nil
    | cons x ns => exact .cons a (ih ns)
theorem notKey_cons {x : Str} {p : Str × SV} {l : List (Str × SV)} (h : notKey x (p :: l) = true) : p.1 ≠ x ∧ notKey x l = true := by
  have h' : (match sq p.1 x with | true => false | false => notKey x l) = true := h
  cases hq : sq p.1 x with
  | true => rw [hq] at h'; cases h'
  | false =>
    rw [hq] at h'
    exact ⟨fun e => (by rw [sq_eq.mpr e] at hq; cases hq), h'⟩
section
variable {ρ : List Addr} {kd : Str → Option NameKind} {x : Str}
theorem RBs.keep {l : List (Str × SV)} {L : List (Str × Value)} (r : RBs ρ l L) : ∀ {m : Str → Option Value}, notKey x l = true → bindL kd L m x = m x ∧ bindC kd L m x = m x := by
  induction r with
  | nil => intro m _; exact ⟨rfl, rfl⟩
  | @cons y u U l L a _ ih =>
    intro m h
    have ⟨h1, h2⟩ := notKey_cons h
    unfold bindL bindC
    have e0 : (fun z => if z = y then some U else m z) x = m x := if_neg fun e => h1 e.symm
    constructor
    · refine (ih h2).1.trans ?_
      split
      · exact e0
      · rfl
    · refine (ih h2).2.trans ?_
      split
      · rfl
      · exact e0
theorem RBs.locals {l : List (Str × SV)} {L : List (Str × Value)} (r : RBs ρ l L) (hk : kd x = some .local) : ∀ {m : Str → Option Value} {v : SV}, nodupK l = true → look l x = some v → ∃ V, bindL kd L m x = some V ∧ RV ρ v V := by
  induction r with
  | nil => intro m v _ h; cases h
  | @cons y u U l L a r ih =>
    intro m v hn h
    refine and_elim (show (notKey y l && nodupK l) = true from hn) fun h1 h2 => ?_
    rw [look_cons] at h
    unfold bindL
    by_cases e : y = x
    · subst e
      rw [if_pos rfl] at h
      cases h
      exact ⟨U, by rw [(r.keep h1).1, if_pos hk]; exact if_pos rfl, a⟩
    · rw [if_neg e] at h
      exact ih h2 h
theorem RBs.cells {l : List (Str × SV)} {L : List (Str × Value)} (r : RBs ρ l L) (hk : kd x = some .cell) : ∀ {m : Str → Option Value}, nodupK l = true → m x = none → RC ρ (look l x) (bindC kd L m x) := by
  induction r with
  | nil => intro m _ h; exact h
  | @cons y u U l L a r ih =>
    intro m hn hm
    refine and_elim (show (notKey y l && nodupK l) = true from hn) fun h1 h2 => ?_
    rw [look_cons]
    unfold bindC
    by_cases e : y = x
    · subst e
      rw [if_pos rfl, (r.keep h1).2, if_neg (by rw [hk]; decide)]
      exact ⟨U, if_pos rfl, a⟩
    · rw [if_neg e]
      refine ih h2 ?_
      split
      · exact hm
      · exact (if_neg fun q => e q.symm).trans hm
theorem RBs.keys {q : Str → Prop} {l : List (Str × SV)} {L : List (Str × Value)} (r : RBs ρ l L) (h : ∀ p ∈ l, q p.1) : ∀ p ∈ L, q p.1 := by
  induction r with
  | nil => exact fun _ h => (nomatch h)
  | cons a _ ih =>
    intro p hp
    rcases List.mem_cons.mp hp with rfl | hp
    · exact h _ (.head _)
    · exact ih (fun p hp => h p (.tail _ hp)) p hp
end
theorem locB_look {sc : List (Str × NameKind)} {x : Str} {v : SV} : ∀ {l : List (Str × SV)}, look (locB sc l) x = some v → isLoc sc x = true ∧ look l x = some v
  | [], h => by cases h
  | p :: r, h => by
    have h' : look (match isLoc sc p.1 with | true => p :: locB sc r | false => locB sc r) x = some v := h
    rw [look_cons]
    cases hp : isLoc sc p.1 with
    | true =>
      rw [hp] at h'
      rw [show look (p :: locB sc r) x = _ from look_cons] at h'
      by_cases e : p.1 = x
      · rw [if_pos e] at h' ⊢
        exact ⟨e ▸ hp, h'⟩
      · rw [if_neg e] at h' ⊢
        exact locB_look h'
    | false =>
      rw [hp] at h'
      obtain ⟨h1, h2⟩ := locB_look h'
      rw [if_neg fun e => by rw [e, h1] at hp; cases hp]
      exact ⟨h1, h2⟩
def fdAt (K : Frag) (f : Addr) : FuncData := match (K.lookup f).bind fdOf with
  | some fd => fd
  | none => default
def BindOK (K : Frag) (e : FnE) : Prop := ∀ (s : Shared) (Vs : List Value), K.In s.heap → Vs.length = e.n → ∃ exV, (∀ ρ, RBs ρ e.ex exV) ∧ BindsTo s (fdAt K e.f) ⟨Vs, []⟩ (((fdAt K e.f).params.args.map (·.arg)).zip Vs ++ exV)
theorem findE_mem : ∀ {T : List FnE} {f : Addr} {n : Nat} {e : FnE}, findE T f n = some e → e ∈ T ∧ e.f = f ∧ e.n = n
  | [], _, _, _, h => by cases h
  | x :: r, f, n, e, h => by
    have h' : (match Nat.beq x.f f && Nat.beq x.n n with | true => some x | false => findE r f n) = some e := h
    cases hq : Nat.beq x.f f && Nat.beq x.n n with
    | true =>
      rw [hq] at h'
      cases h'
      exact and_elim hq fun a b => ⟨.head _, Nat.eq_of_beq_eq_true a, Nat.eq_of_beq_eq_true b⟩
    | false =>
      rw [hq] at h'
      obtain ⟨a, b⟩ := findE_mem h'
      exact ⟨.tail _ a, b⟩
theorem fdOf_eq {o : Obj} {fd : FuncData} (h : fdOf o = some fd) : o = ⟨o.cls, o.dict, .func fd, o.slots⟩ := by
  obtain ⟨c, d, da, sl⟩ := o
  cases da <;> cases h <;> rfl
theorem bodyOf_eq {b : FuncBody} {l : List Stmt} (h : bodyOf b = some l) : b = .stmts l := by cases b <;> cases h <;> rfl
theorem fd_fn {fd : FuncData} {body : List Stmt} (h1 : fd.globals = mainGlobals) (h2 : fd.builtins = builtinsNs) (h3 : fd.closure = []) (h4 : fd.body = .stmts body) : fd = fnOf fd.name fd.qualname fd.params body fd.scope fd.defaults fd.kwdefaults fd.doc fd.pyModule fd.annotations fd.code fd.closureTuple := by
  obtain ⟨a1, a2, a3, a4, a5, a6, a7, a8, a9, a10, a11, a12, a13, a14, a15⟩ := fd
  subst h1 h2 h3 h4
  rfl
theorem nodupN_eq : ∀ {l : List Str}, nodupK (l.map fun x => (x, SV.none)) = true → l.Nodup
  | [], _ => List.nodup_nil
  | x :: r, h => by
    refine and_elim (show (notKey x (r.map fun x => (x, SV.none)) && nodupK (r.map fun x => (x, SV.none))) = true from h) fun h1 h2 => ?_
    refine List.nodup_cons.mpr ⟨?_, nodupN_eq h2⟩
    clear h h2
    induction r with
    | nil => exact List.not_mem_nil
    | cons y r ih =>
      obtain ⟨h3, h4⟩ := notKey_cons h1
      intro hm
      rcases List.mem_cons.mp hm with e | hm
      · exact h3 e.symm
      · exact ih h4 hm
theorem cells_at : ∀ (names : List (Str × NameKind)) (n lo : Nat) (acc : List (Str × Addr)), lo ≤ n → (∀ p ∈ acc, lo ≤ p.2 ∧ p.2 < n) → (acc.map (·.2)).Nodup → (∀ p ∈ cellsFrom n names acc, lo ≤ p.2) ∧ ((cellsFrom n names acc).map (·.2)).Nodup
  | [], n, lo, acc, _, h, hn => ⟨fun p hp => (h p hp).1, hn⟩
  | (x, k) :: r, n, lo, acc, hl, h, hn => by
    unfold cellsFrom
    cases hk : k == NameKind.cell with
    | false => rw [if_neg Bool.false_ne_true]; exact cells_at r n lo acc hl h hn
    | true =>
      rw [if_pos rfl]
      refine cells_at r (n + 1) lo _ (Nat.le_succ_of_le hl) (fun p hp => ?_) (List.nodup_cons.mpr ⟨fun hm => ?_, hn⟩)
      · rcases List.mem_cons.mp hp with rfl | hp
        · exact ⟨hl, Nat.lt_succ_self _⟩
        · exact ⟨(h p hp).1, Nat.lt_succ_of_lt (h p hp).2⟩
      · obtain ⟨p, hp, e⟩ := List.mem_map.mp hm
        exact absurd (h p hp).2 (by rw [e]; exact Nat.lt_irrefl _)
theorem cm_at {x : Str} : ∀ {cs : List (Str × Addr)} {j k : Nat} {ρ : List Addr}, ρ.length = j → look (cmOf j (cs.map (·.1))) x = some k → ∃ a, cs.lookup x = some a ∧ (ρ ++ cs.map (·.2))[k]? = some a
  | [], _, _, _, _, h => by cases h
  | (y, a) :: r, j, k, ρ, hl, h => by
    rw [show look (cmOf j (((y, a) :: r).map (·.1))) x = _ from look_cons] at h
    rw [List.lookup_cons]
    by_cases e : y = x
    · rw [if_pos e] at h
      cases h
      rw [show (x == y) = true by simpa using e.symm]
      exact ⟨a, rfl, by rw [List.map_cons, List.getElem?_append_right (by omega), hl, Nat.sub_self]; rfl⟩
    · rw [if_neg e] at h
      rw [show (x == y) = false by simpa using fun q => e q.symm]
      obtain ⟨b, h1, h2⟩ := cm_at (ρ := ρ ++ [a]) (by rw [List.length_append, hl]; rfl) h
      exact ⟨b, h1, by rw [List.append_assoc] at h2; exact h2⟩
section
variable {Γ : Gm} {R : List (Addr × Obj)}
/-- a def's cells are put into the ledger -/
theorem Led.pushs {cm : Str → Option Value} : ∀ {cs : List (Str × Addr)} {cells : List (Addr × Obj)} {b : List (Str × SV)} {g : Sg} {z : Zs}, CellsAre cm cs cells → Led Γ R g z.ρ z.nw → (∀ p ∈ cs, RC z.ρ (look b p.1) (cm p.1)) → (cs.map (·.2)).Nodup → (∀ p ∈ cs, (∀ q ∈ z.nw, q.1 ≠ p.2) ∧ ∀ q ∈ R, q.1 ≠ p.2) →
    Led Γ R (mkOs ((cs.map (·.1)).map fun x => .cell (look b x)) g) (z.ρ ++ cs.map (·.2)) (z.nw ++ cells) ∧ ∀ h' tk, Ex z g ⟨z.ρ ++ cs.map (·.2), z.nw ++ cells, h', tk, z.g⟩ (mkOs ((cs.map (·.1)).map fun x => .cell (look b x)) g)
  | _, _, b, g, z, .nil, led, _, _, _ => by
    refine ⟨?_, fun h' tk => ?_⟩
    · show Led Γ R g (z.ρ ++ []) (z.nw ++ [])
      rw [List.append_nil, List.append_nil]
      exact led
    · show Ex z g ⟨z.ρ ++ [], z.nw ++ [], h', tk, z.g⟩ g
      rw [List.append_nil, List.append_nil]
      exact Ex.same
  | _, _, b, g, z, @CellsAre.cons _ n a o cs cells hd r, led, hc, hn, hf => by
    have hn' := List.nodup_cons.mp hn
    have f0 := hf (n, a) (.head _)
    have led1 : Led Γ R (mkO (.cell (look b n)) g).2 (z.ρ ++ [a]) (z.nw ++ [(a, o)]) := led.push f0.1 f0.2 (fun e => nomatch e) ⟨_, hd, (hc (n, a) (.head _)).mono Ext.snoc⟩
    obtain ⟨h1, h2⟩ := Led.pushs (z := ⟨z.ρ ++ [a], z.nw ++ [(a, o)], z.h, z.tk, z.g⟩) (b := b) r led1 (fun p hp => (hc p (.tail _ hp)).mono Ext.snoc) hn'.2 (fun p hp => ⟨fun q hq => (List.mem_append.mp hq).elim ((hf p (.tail _ hp)).1 q) fun hq => by
      rw [List.mem_singleton.mp hq]
      exact fun e => hn'.1 (List.mem_map.mpr ⟨p, hp, e.symm⟩), (hf p (.tail _ hp)).2⟩)
    · refine ⟨?_, fun h' tk => ?_⟩
      · have := h1
        dsimp only at this
        rw [List.append_assoc, List.append_assoc] at this
        exact this
      · have := (Led.exNew (so := .cell (look b n)) (D := a) (o := o) (h' := z.h) (tk := z.tk) led).trans (h2 h' tk)
        dsimp only at this
        rw [List.append_assoc, List.append_assoc] at this
        exact this
end
theorem kind_loc {sc : List (Str × NameKind)} {x : Str} (h : (isLoc sc x || isCel sc x) = true) : sc.lookup x = some .local ∨ sc.lookup x = some .cell := by
  rcases Bool.or_eq_true_iff.mp h with h | h
  · exact .inl (isLoc_eq h).1
  · exact .inr (kindC_at h)
section
variable {Γ : Gm} {orc : Orc} {kf N : Nat} {T : List FnE}
theorem fnRun_ok (HB : ∀ e ∈ T, BindOK Γ.K e) (O : OrcOK Γ orc kf) : OrcOK Γ (fnRun Γ.K Γ.gd T N orc) (kf + 2) := by
  intro f vs g v g' c M z Vs s R h H hv C G
  refine bind_elim h fun e he h => ?_
  refine bind_elim h fun o hK h => ?_
  refine bind_elim h fun fd hfd h => ?_
  refine bind_elim h fun body hbody h => ?_
  refine guard_elim h fun hg h => ?_
  refine bind_elim2 h fun p1 g1 h1 h2 => ?_
  obtain ⟨hem, rfl, hn⟩ := findE_mem he
  refine and_elim (show (decide (fd.globals = mainGlobals) && _) = true from hg) fun g1 hg => ?_
  refine and_elim hg fun g2 hg => ?_
  refine and_elim hg fun g3 hg => ?_
  refine and_elim hg fun g4 hg => ?_
  refine and_elim hg fun g5 hg => ?_
  refine and_elim hg fun g6 hg => ?_
  refine and_elim hg fun g7 hg => ?_
  refine and_elim hg fun g8 hg => ?_
  refine and_elim hg fun g9 hg => ?_
  refine and_elim hg fun g10 g11 => ?_
  have hkf : fd.scope.kind = .function := by
    unfold scopeK at g9
    cases hk : fd.scope.kind <;> rw [hk] at g9 <;> first | rfl | cases g9
  have hat : fdAt Γ.K e.f = fd := by unfold fdAt; rw [hK]; show (match fdOf o with | some fd => fd | none => default) = fd; rw [hfd]
  rw [fdOf_eq hfd] at hK
  obtain ⟨exV, hex, hbind⟩ := HB e hem (z.sh s) Vs (C.X.keeps H.F.keep) (by rw [hv.length]; exact hn.symm)
  rw [hat] at hbind
  have hrb : RBs z.ρ (fnIn e fd vs) ((fd.params.args.map (·.arg)).zip Vs ++ exV) := (RBs.zip hv _).append (hex z.ρ)
  have hfn := fd_fn (of_decide_eq_true g1) (of_decide_eq_true g2) (List.isEmpty_iff.mp g3) (bodyOf_eq hbody)
  rw [hfn] at hK
  obtain ⟨outer, A₀, base, hfr, B⟩ := C.stk
  have hd := C.dep
  have hu := C.uni
  refine code_defC (p := Γ.p) (loose := Γ.loose) (mean := Γ.mean) (mg := Γ.mg) (mb := Γ.mb) B H.F C.X H.N C.T hfr C.fr C.fk hK g4 (by omega) (hfn ▸ hbind) (List.all_eq_true.mpr fun q hq => ?_) (nodupN_eq g10) (fun G' L' hh1 tk1 cells FG F1 N1 Y1 B1 X1 T1 l1 => ?_) (by simpa using g7) (by simpa using g8) hkf
  · rcases kind_loc (hrb.keys (q := fun x => (isLoc fd.scope.names x || isCel fd.scope.names x) = true) (fun q hq => List.all_eq_true.mp g5 q hq) q hq) with e | e <;> rw [e] <;> rfl
  obtain ⟨ca1, ca2⟩ := cells_at fd.scope.names (L' + 1) (L' + 1) [] (Nat.le_refl _) (fun _ h => nomatch h) List.nodup_nil
  have hcn : (cellsFrom (L' + 1) fd.scope.names []).map (·.1) = celN fd.scope.names := cellsFrom_names _ _ _ _ _ rfl
  have hab : ∀ q ∈ cellsFrom (L' + 1) fd.scope.names [], ∀ r ∈ z.nw ++ c.rest, r.1 ≠ q.2 := fun q hq r hr => Nat.ne_of_lt (Nat.lt_of_lt_of_le (l1 r hr) (Nat.le_of_succ_le (ca1 q hq)))
  obtain ⟨led1, ex1⟩ := Led.pushs (b := fnIn e fd vs) Y1 H.led (fun q hq => hrb.cells (show (envOfC fd.qualname fd.scope L' e.f fd.code).kindOf q.1 = some .cell from kindC_at (List.all_eq_true.mp g11 q.1 (hcn ▸ List.mem_map_of_mem hq))) g6 rfl) ca2 (fun q hq => ⟨fun r hr => hab q hq r (List.mem_append.mpr (.inl hr)), fun r hr => hab q hq r (List.mem_append.mpr (.inr hr))⟩)
  rw [hcn] at led1 ex1
  refine run_ok O N N (Nat.le_refl _) _ _ _ _ _ (asF_eq h1) ⟨c.A.deeper (envOfC fd.qualname fd.scope L' e.f fd.code), envOfC fd.qualname fd.scope L' e.f fd.code, envOfC fd.qualname fd.scope L' e.f fd.code, G', L', c.rest, _, none⟩ _ ⟨z.ρ ++ (cellsFrom (L' + 1) fd.scope.names []).map (·.2), z.nw ++ cells, hh1, tk1, z.g⟩ s _
    ⟨⟨C.hand, ⟨c.fenv :: outer, c.A, base, Around.frames_deeper hfr, B1⟩, rfl, hkf, by show (c.A.deeper _).depth + _ < _; rw [depth_deeper]; omega, by show (c.A.deeper _).units + _ < _; rw [units_deeper]; omega, X1, T1, C.gd⟩, hkf, rfl, rfl, fun _ => rfl, fun _ e => nomatch e⟩ rfl (by passes_own)
    ⟨fun x u hx => ?_, rfl, fun x k hx => ?_⟩ ⟨F1, fun q hq => N1 q ?_, led1⟩ fun FL M2 z2 e2 r2 fr2 H2 => ?_
  · obtain ⟨h3, h4⟩ := locB_look (show look (locB fd.scope.names (fnIn e fd vs)) x = some u from hx)
    obtain ⟨V, h5, h6⟩ := hrb.locals (kd := (envOfC fd.qualname fd.scope L' e.f fd.code).kindOf) (m := fun _ => none) (isLoc_eq h3).1 g6 h4
    exact ⟨h3, V, h5, h6.mono Ext.app⟩
  · have hx' : look (cmOf g.σ.length (celN fd.scope.names)) x = some k := hx
    rw [← H.led.size] at hx'
    exact cm_at (cs := cellsFrom (L' + 1) fd.scope.names []) rfl (by rw [hcn]; exact hx')
  · rcases List.mem_append.mp hq with hq | hq
    · exact (List.mem_append.mp hq).elim (fun h => List.mem_append.mpr (.inr (List.mem_append.mpr (.inl h)))) fun h => List.mem_append.mpr (.inl h)
    · exact List.mem_append.mpr (.inr (List.mem_append.mpr (.inr hq)))
  · have ex := (ex1 hh1 tk1).trans e2
    refine leaveK_ H2.F H2.N fun F3 N3 => ?_
    obtain ⟨fl, f1⟩ := p1
    cases fl with
    | next =>
      cases h2
      have r2' : FL = .next := r2
      subst r2'
      exact G .none z2 ex rfl ⟨F3, N3, H2.led⟩
    | brk => cases h2
    | ret u =>
      cases h2
      obtain ⟨V, rfl, hV⟩ := r2
      exact G V z2 ex hV ⟨F3, N3, H2.led⟩
def orcT (K : Frag) (gd : List Addr) (T : List FnE) (N : Nat) (o0 : Orc) : Nat → Orc
  | 0 => o0
  | d + 1 => fnRun K gd T N (orcT K gd T N o0 d)
theorem orcT_ok {o0 : Orc} {k0 : Nat} (HB : ∀ e ∈ T, BindOK Γ.K e) (O0 : OrcOK Γ o0 k0) : ∀ d, OrcOK Γ (orcT Γ.K Γ.gd T N o0 d) (k0 + 2 * d)
  | 0 => O0
  | d + 1 => fnRun_ok HB (orcT_ok HB O0 d)
def noOrc : Orc := fun _ _ _ => none
theorem noOrc_ok : OrcOK Γ noOrc 0 := fun _ _ _ _ _ _ _ _ _ _ _ h => by cases h
end
/-- an instance of C at X, its attributes at D -/
def BlkOK (P : Params) (C : Addr) (at0 : List (Str × SV)) (X D : Addr) (o od : Obj) : Prop := o = { cls := .ref C, dict := some D, data := .plain } ∧ ∃ es n, od = { cls := .type "dict", data := .dict (List.toArray es) n } ∧ RAs P [] at0 es
def Off2 (X D : Addr) (news : List (Addr × Obj)) : Prop := (∀ p ∈ news, p.1 ≠ X) ∧ (∀ p ∈ news, p.1 ≠ D) ∧ X ≠ D
theorem Off2.less {X D : Addr} {news news' : List (Addr × Obj)} (h : Off2 X D news) (hs : ∀ p ∈ news', p ∈ news) : Off2 X D news' := ⟨fun p hp => h.1 p (hs p hp), fun p hp => h.2.1 p (hs p hp), h.2.2⟩
def Off3R (R X D : Addr) (news : List (Addr × Obj)) : Prop := R ≠ X ∧ R ≠ D ∧ ∀ p ∈ news, p.1 ≠ R
def MbO2 (P : Params) (C : Addr) (at0 : List (Str × SV)) (news : List (Addr × Obj)) (r : Value) (news' : List (Addr × Obj)) : Prop := ∃ (X D : Addr) (o od : Obj), r = .ref X ∧ news' = (X, o) :: (D, od) :: news ∧ BlkOK P C at0 X D o od ∧ Off2 X D news
def MbC2 (f C : Addr) (at0 : UInt8 → List (Str × SV)) (prog : Program) (w : World) (K : Frag) (p : Program) (loose : List Str) (mean : ExcName → Option Value) (mg mb : Str → Option Value) : Prop :=
  ∀ (x : UInt8) (tb tm tk : Tok) (news : List (Addr × Obj)), Bx x → Fun prog w K p loose mean mg mb 80 f [.bytes #[x] tb, .str (Str.ofString "best") tm, .str (Str.ofString "crc32") tk] news (MbO2 w.params C (at0 x) news)
/-- one block of one byte, in a list -/
def MsO2 (P : Params) (C : Addr) (at0 : List (Str × SV)) (news : List (Addr × Obj)) (r : Value) (news' : List (Addr × Obj)) : Prop := ∃ (R X D : Addr) (o od : Obj), r = .ref R ∧ news' = (R, listOf #[.ref X] 1) :: (X, o) :: (D, od) :: news ∧ BlkOK P C at0 X D o od ∧ Off2 X D news ∧ Off3R R X D news
/-- a call of make_blocks, wherever it stands -/
def MsC2 (f C : Addr) (at0 : UInt8 → List (Str × SV)) (prog : Program) (w : World) (K : Frag) (p : Program) (loose : List Str) (mean : ExcName → Option Value) (mg mb : Str → Option Value) : Prop :=
  ∀ (x : UInt8) (tb ts tm tk : Tok) (news : List (Addr × Obj)), Bx x → ∀ (dp un : Nat) (gd : Option (List Code)) (fenv : Env) (outer : List Env) (A₀ : Around) (base h₀ : Heap) (L : Addr) (m : Str → Option Value) (s : Shared) (R : Result → Shared → Prop),
    fenv.frame = some L → fenv.scope.kind = .function → Below A₀ base outer h₀ → Fr h₀ L s.heap m → K.In h₀ → News h₀ L s.heap news → Top p loose mean mg mb h₀ → dp + 90 < recursionLimit → un + 8 * 90 < cLine →
    (∀ r news' h' tk' g', GRow s.gens g' → MsO2 w.params C (at0 x) news r news' → Fr h₀ L h' m → News h₀ L h' news' → R (.ok (.ret r)) { s with heap := h', gens := g', toks := tk' }) →
    codeAny (model prog w) { handled := none, depth := dp, frames := some (fenv :: outer), guards := gd, units := un } (.call (.ref f) ⟨[.bytes #[x] tb, .int 4096 ts, .str (Str.ofString "best") tm, .str (Str.ofString "crc32") tk], []⟩) R s
def CutF2 (P : Params) (Cb : Addr) (at0 : List (Str × SV)) (news : List (Addr × Obj)) (D : Addr) (y : Value) (newsF : List (Addr × Obj)) : Prop := ∃ (X D' : Addr) (o od : Obj), y = .ref X ∧ newsF = (X, o) :: (D', od) :: news ∧ BlkOK P Cb at0 X D' o od ∧ Off2 X D' news ∧ Off3R D X D' news
section
open LCg
variable {prog : Program} {w : World} {A : Around} {E : Value → Shared → Prop} {s : Shared} {h₀ : Heap} {L : Addr} {m : Str → Option Value} {news : List (Addr × Obj)} {env : Env}
theorem cut_src2 {P : Params} {Cb : Addr} {at0 : List (Str × SV)} {x0 : UInt8} {elt : Expr} {x : Str} {scope : Scope} {cl : List (Str × Addr)} {st1 st2 st3 : Stmt} {test e : Expr} {yp ep wp : Pos} {genv : Env} {L' G : Addr} {oG : Obj} {h₂ : Heap} {tk : Nat} {m1 : Str → Option Value} {Q : Value → Shared → Prop}
    (F : Fr h₀ L h₂ m) (N : News h₀ L h₂ ((G, oG) :: news)) (FL : Fr h₀ L' h₂ m1) (l0 : ∀ p ∈ news, p.1 < L') (lL : L < L') (lG : L' < G) (hGG : ∀ h' : Heap, h'.get? G = some oG → h'.IsGen G s.gens.size) (hL0 : h₀.get? L' = none)
    (hh : A.handled = none) (hl : h₀.NoLimit) (hroom : A.depth < recursionLimit) (hco : genv.scope.isCoroutine = false) (hi : interactive genv = false)
    (t1 : ∀ A' E' s, Fr h₀ L' s.heap m1 → wpAny (model prog w) A' (exec st1 genv) (GnF h₀ L' (CutM1 m1) s) E' s)
    (t2 : ∀ A' E' s₀ s, GnB h₀ L' (CutM1 m1) s₀ s → wpAny (model prog w) A' (exec st2 genv) (GnF h₀ L' (CutM2 m1) s₀) E' s)
    (tyes : ∀ A' E' s₀ s, GnB h₀ L' (CutM2 m1) s₀ s → wpAny (model prog w) A' (isTrue test genv (eval test genv)) (GnT h₀ L' (CutM2 m1) s₀ true) E' s)
    (ty : ∀ A' E' s₀ s, GnB h₀ L' (CutM2 m1) s₀ s → wpAny (model prog w) A' (eval e genv) (GnV h₀ L' (CutM2 m1) s₀ (CutV x0)) E' s)
    (t3 : ∀ A' E' s, GnC h₀ L' (CutM2 m1) s → wpAny (model prog w) A' (exec st3 genv) (GnF h₀ L' (CutM3 m1) s) E' s)
    (tno : ∀ A' E' s₀ s, GnB h₀ L' (CutM3 m1) s₀ s → wpAny (model prog w) A' (isTrue test genv (eval test genv)) (GnT h₀ L' (CutM3 m1) s₀ false) E' s)
    (helt : ∀ C D v h tk gens' oC oL m₂ (E' : Value → Shared → Prop), (∀ p ∈ news, p.1 < L') → L' < G → G < D → D < C → CutV x0 v → NsObj oC m₂ → m₂ x = some v → Fr h₀ L h m → News h₀ L h ((C, oC) :: (D, lst []) :: (L', oL) :: (G, oG) :: news) →
      wpAny (model prog w) A (eval elt (compEnvC scope cl C env)) (CgEnd h₀ L m { s with heap := h, gens := gens', toks := tk } C D L' G oC oL oG (CutF2 P Cb at0 news D)) E' { s with heap := h, gens := gens', toks := tk })
    (hdone : ∀ D X D' o od h tk gens', GRow s.gens gens' → BlkOK P Cb at0 X D' o od → Off2 X D' news → Off3R D X D' news → Fr h₀ L h m → News h₀ L h ((D, listOf #[.ref X] 1) :: (X, o) :: (D', od) :: news) → Q (.ref D) { s with heap := h, gens := gens', toks := tk }) :
    wpAny (model prog w) A (pyIter (.ref G)) (fun it s₂ => ∃ news, Fr h₀ L s₂.heap m ∧ News h₀ L s₂.heap news ∧
      (∀ (s : Shared) (Q : Value → Shared → Prop) (E : Value → Shared → Prop), (∀ b o, s₂.heap.get? b = some o → s.heap.get? b = some o) → Q it s → wpAny (model prog w) A (pyIter it) Q E s) ∧
      ∀ C D, (∀ p ∈ news, p.1 < D) → D < C → L < D → ∃ (J : Nat → List Value → List (Addr × Obj) → Shared → Prop) (Fin : List Value → List (Addr × Obj) → Shared → Prop) (n : Nat),
        (∀ h tk, (∀ b o, s₂.heap.get? b = some o → h.get? b = some o) → J n [] news { s₂ with heap := h, toks := tk }) ∧ CgTurn prog w A h₀ L m env it elt x scope cl C D J Fin ∧
        ∀ ys news₁ s' h'', Fr h₀ L h'' m → News h₀ L h'' ((D, lst ys) :: news₁) → Fin ys news₁ s' → Q (.ref D) { s' with heap := h'' }) E { s with heap := h₂, gens := s.gens.push (.fresh (.func (cutBody st1 st2 st3 test e yp ep wp) genv)), toks := tk } := by
  refine cut_src (Fin := CutF2 P Cb at0 news) F N FL l0 lL lG hGG hL0 hh hl hroom hco hi t1 t2 tyes ty t3 tno helt ?_
  rintro D y newsF h tk g' hg ⟨X, D', o, od, rfl, rfl, b1, b2, b3⟩ F' N'
  exact hdone D X D' o od h tk g' hg b1 b2 b3 F' N'
theorem ms_ret2 {P : Params} {Cb : Addr} {at0 : List (Str × SV)} {R : Result → Shared → Prop} {h : Heap} {R' X D : Addr} {o od : Obj} {led news' : List (Addr × Obj)} {tk : Nat} {g : Array GenState}
    (hret : ∀ r news' h' tk' g', GRow s.gens g' → MsO2 P Cb at0 news r news' → Fr h₀ L h' m → News h₀ L h' news' → R (.ok (.ret r)) { s with heap := h', gens := g', toks := tk' }) (hG : GRow s.gens g) (F : Fr h₀ L h m) (N : News h₀ L h led) (hs : ∀ p ∈ (R', listOf #[.ref X] 1) :: (X, o) :: (D, od) :: news, p ∈ led) (hn : ∀ p ∈ news, p ∈ news') (l : BlkOK P Cb at0 X D o od) (l1 : Off2 X D news') (l2 : Off3R R' X D news') :
    R (.ok (.ret (.ref R'))) { s with heap := h, gens := g, toks := tk } := hret _ _ _ _ _ hG ⟨R', X, D, o, od, rfl, rfl, l, l1.less hn, l2.1, l2.2.1, fun p hp => l2.2.2 p (hn p hp)⟩ F fun p hp => N p (hs p hp)
theorem cg_end2 {P : Params} {Cb : Addr} {at0 : List (Str × SV)} {h : Heap} {C D L' G X D' : Addr} {oC oL oG o od : Obj} {led : List (Addr × Obj)} {tk : Nat} (F : Fr h₀ L h m) (N : News h₀ L h ((X, o) :: (D', od) :: (C, oC) :: (D, lst []) :: (L', oL) :: (G, oG) :: led)) (hs : ∀ p ∈ news, p ∈ led)
    (l1 : BlkOK P Cb at0 X D' o od) (l2 : Off2 X D' ((C, oC) :: (D, lst []) :: (L', oL) :: (G, oG) :: led)) (l0 : ∀ p ∈ led, p.1 < L') (lG : L' < G) (lD : G < D) (lC : D < C) :
    CgEnd h₀ L m s C D L' G oC oL oG (CutF2 P Cb at0 news D) (.ref X) { s with heap := h, toks := tk } := by
  have k1 : ∀ p ∈ news, p.1 < L' := fun p hp => l0 p (hs p hp)
  have kL : L' < D := Nat.lt_trans lG lD
  obtain ⟨x1, x2, x3⟩ := l2
  refine ⟨h, tk, (X, o) :: (D', od) :: news, rfl, F, fun p hp => N p ?_, fun p hp => ?_, fun p hp => ?_, ⟨X, D', o, od, rfl, rfl, l1, ⟨fun p hp => x1 p (.tail _ (.tail _ (.tail _ (.tail _ (hs p hp))))), fun p hp => x2 p (.tail _ (.tail _ (.tail _ (.tail _ (hs p hp))))), x3⟩, x1 _ (.tail _ (.head _)), x2 _ (.tail _ (.head _)), fun p hp => Nat.ne_of_lt (Nat.lt_trans (k1 p hp) kL)⟩⟩
  · simp only [List.mem_cons] at hp ⊢
    rcases hp with h | h | h | h | h | h | h
    · simp [h]
    · simp [h]
    · simp [h]
    · simp [h]
    · simp [h]
    · simp [h]
    · simp [hs p h]
  · rcases List.mem_cons.mp hp with rfl | hp
    · exact ⟨Ne.symm (x1 _ (.head _)), Ne.symm (x1 _ (.tail _ (.head _)))⟩
    · rcases List.mem_cons.mp hp with rfl | hp
      · exact ⟨Ne.symm (x2 _ (.head _)), Ne.symm (x2 _ (.tail _ (.head _)))⟩
      · have := k1 p hp
        exact ⟨Nat.ne_of_lt (Nat.lt_trans this (Nat.lt_trans kL lC)), Nat.ne_of_lt (Nat.lt_trans this kL)⟩
  · rcases List.mem_cons.mp hp with rfl | hp
    · exact Ne.symm (x1 _ (.tail _ (.tail _ (.head _))))
    · rcases List.mem_cons.mp hp with rfl | hp
      · exact Ne.symm (x2 _ (.tail _ (.tail _ (.head _))))
      · exact Nat.ne_of_lt (k1 p hp)
end
theorem len1 {α : Type} : ∀ {l : List α}, l.length = 1 → ∃ a, l = [a]
  | [a], _ => ⟨a, rfl⟩
theorem len2 {α : Type} : ∀ {l : List α}, l.length = 2 → ∃ a b, l = [a, b]
  | [a, b], _ => ⟨a, b, rfl⟩
theorem len3 {α : Type} : ∀ {l : List α}, l.length = 3 → ∃ a b c, l = [a, b, c]
  | [a, b, c], _ => ⟨a, b, c, rfl⟩
theorem len4 {α : Type} : ∀ {l : List α}, l.length = 4 → ∃ a b c d, l = [a, b, c, d]
  | [a, b, c, d], _ => ⟨a, b, c, d, rfl⟩
theorem len6 {α : Type} : ∀ {l : List α}, l.length = 6 → ∃ a b c d e f, l = [a, b, c, d, e, f]
  | [a, b, c, d, e, f], _ => ⟨a, b, c, d, e, f, rfl⟩
section
variable {K : Frag} {f : Addr}
theorem bd1 (h : ∀ a, bindArgs (fdAt K f) ⟨[a], []⟩ = pure (((fdAt K f).params.args.map (·.arg)).zip [a] ++ [])) : BindOK K ⟨f, 1, []⟩ := fun s Vs X hl => by
  obtain ⟨a, rfl⟩ := len1 hl
  exact ⟨[], fun _ => .nil, BindsTo.of_eq (h a)⟩
theorem bd2 (h : ∀ a b, bindArgs (fdAt K f) ⟨[a, b], []⟩ = pure (((fdAt K f).params.args.map (·.arg)).zip [a, b] ++ [])) : BindOK K ⟨f, 2, []⟩ := fun s Vs X hl => by
  obtain ⟨a, b, rfl⟩ := len2 hl
  exact ⟨[], fun _ => .nil, BindsTo.of_eq (h a b)⟩
theorem bd3 (h : ∀ a b c, bindArgs (fdAt K f) ⟨[a, b, c], []⟩ = pure (((fdAt K f).params.args.map (·.arg)).zip [a, b, c] ++ [])) : BindOK K ⟨f, 3, []⟩ := fun s Vs X hl => by
  obtain ⟨a, b, c, rfl⟩ := len3 hl
  exact ⟨[], fun _ => .nil, BindsTo.of_eq (h a b c)⟩
theorem bd4 (h : ∀ a b c d, bindArgs (fdAt K f) ⟨[a, b, c, d], []⟩ = pure (((fdAt K f).params.args.map (·.arg)).zip [a, b, c, d] ++ [])) : BindOK K ⟨f, 4, []⟩ := fun s Vs X hl => by
  obtain ⟨a, b, c, d, rfl⟩ := len4 hl
  exact ⟨[], fun _ => .nil, BindsTo.of_eq (h a b c d)⟩
theorem bd6 (h : ∀ a b c d e g, bindArgs (fdAt K f) ⟨[a, b, c, d, e, g], []⟩ = pure (((fdAt K f).params.args.map (·.arg)).zip [a, b, c, d, e, g] ++ [])) : BindOK K ⟨f, 6, []⟩ := fun s Vs X hl => by
  obtain ⟨a, b, c, d, e, g, rfl⟩ := len6 hl
  exact ⟨[], fun _ => .nil, BindsTo.of_eq (h a b c d e g)⟩
theorem fdAt_of {c : Value} {d : Option Addr} {fd : FuncData} {sl : Array (Option Value)} (h : K.lookup f = some ⟨c, d, .func fd, sl⟩) : fdAt K f = fd := by
  unfold fdAt
  rw [h]
  rfl
/-- one argument, the rest by the defaults -/
theorem bdX1 {ex : List (Str × SV)} {exV : List (Str × Value)} {c : Value} {d : Option Addr} {fd : FuncData} {sl : Array (Option Value)} (h : K.lookup f = some ⟨c, d, .func fd, sl⟩) (r : ∀ ρ, RBs ρ ex exV) (hb : ∀ (s : Shared) (a : Value), K.In s.heap → BindsTo s fd ⟨[a], []⟩ ((fd.params.args.map (·.arg)).zip [a] ++ exV)) : BindOK K ⟨f, 1, ex⟩ := by
  intro s Vs X hl
  obtain ⟨a, rfl⟩ := len1 hl
  rw [fdAt_of h]
  exact ⟨exV, r, hb s a X⟩
theorem bdX2 {ex : List (Str × SV)} {exV : List (Str × Value)} {c : Value} {d : Option Addr} {fd : FuncData} {sl : Array (Option Value)} (h : K.lookup f = some ⟨c, d, .func fd, sl⟩) (r : ∀ ρ, RBs ρ ex exV) (hb : ∀ (s : Shared) (a b : Value), K.In s.heap → BindsTo s fd ⟨[a, b], []⟩ ((fd.params.args.map (·.arg)).zip [a, b] ++ exV)) : BindOK K ⟨f, 2, ex⟩ := by
  intro s Vs X hl
  obtain ⟨a, b, rfl⟩ := len2 hl
  rw [fdAt_of h]
  exact ⟨exV, r, hb s a b X⟩
theorem bdX3 {ex : List (Str × SV)} {exV : List (Str × Value)} {c : Value} {d : Option Addr} {fd : FuncData} {sl : Array (Option Value)} (h : K.lookup f = some ⟨c, d, .func fd, sl⟩) (r : ∀ ρ, RBs ρ ex exV) (hb : ∀ (s : Shared) (a b e : Value), K.In s.heap → BindsTo s fd ⟨[a, b, e], []⟩ ((fd.params.args.map (·.arg)).zip [a, b, e] ++ exV)) : BindOK K ⟨f, 3, ex⟩ := by
  intro s Vs X hl
  obtain ⟨a, b, e, rfl⟩ := len3 hl
  rw [fdAt_of h]
  exact ⟨exV, r, hb s a b e X⟩
end
def atomS : SV → Bool
  | .obj _ => false
  | _ => true
/-- an instance of C whose attributes are no objects -/
def instS (C : Addr) (v : SV) (g : Sg) : Option (List (Str × SV)) := (oI g.σ v).bind fun q => guardS (Nat.beq q.2.1 C && q.2.2.2.all (fun p => atomS p.2) && Nat.beq g.γ 0) (some q.2.2.2)
theorem RV.atom {ρ : List Addr} : ∀ {v : SV} {V : Value}, atomS v = true → RV ρ v V → RV [] v V
  | .none, _, _, e => e
  | .bool _, _, _, e => e
  | .int _, _, _, e => e
  | .val _, _, _, e => e
  | .bytes _, _, _, e => e
  | .str _, _, _, e => e
theorem RAs.atoms {P : Params} {ρ : List Addr} {l : List (Str × SV)} {es : List DictEntry} (r : RAs P ρ l es) (h : l.all (fun p => atomS p.2) = true) : RAs P [] l es := by
  induction r with
  | nil => exact .nil
  | cons a _ ih =>
    refine and_elim h fun h1 h2 => ?_
    exact .cons (a.atom h1) (ih h2)
theorem RAs.any {P : Params} {ρ : List Addr} {l : List (Str × SV)} {es : List DictEntry} (r : RAs P [] l es) : RAs P ρ l es := r.mono fun k a e => by cases e
theorem bInts1 {b : Array UInt8} {x : UInt8} (h : KBw.bInts b = [(x.toNat : Int)]) : b = #[x] := by
  have hl : b.toList.length = 1 := by
    have := congrArg List.length h
    simpa [KBw.bInts] using this
  obtain ⟨y, hy⟩ := len1 hl
  have hb : b = #[y] := Array.toList_inj.mp hy
  subst hb
  have h2 : [(y.toNat : Int)] = [(x.toNat : Int)] := h
  have h3 : (y.toNat : Int) = (x.toNat : Int) := (List.cons.inj h2).1
  have h4 : y.toNat = x.toNat := by omega
  rw [UInt8.toNat_inj.mp h4]
theorem Led.bare {Γ : Gm} {R : List (Addr × Obj)} : Led Γ R ⟨[], [], 0⟩ [] [] := ⟨rfl, List.nodup_nil, (fun _ _ _ h => by cases h), rfl, (fun _ _ _ h => by cases h), (fun _ _ _ h => by cases h), rfl⟩
section
variable {Γ : Gm} {orc : Orc} {kf : Nat}
/-- make_block, reckoned on one byte -/
theorem mb_of (O : OrcOK Γ orc kf) (hk : kf ≤ 40) (hgd : ∀ a, memA a Γ.gd = true → (∃ es n, Γ.K.lookup a = some ⟨.type "dict", none, .dict es n, #[]⟩ ∧ KeysLit Γ.w.params es.toList) ∧ (a == sysModules) = false) {f C : Addr} {x : UInt8} {at0 : List (Str × SV)} {tb tm tk : Tok} {news : List (Addr × Obj)}
    (h : ((orc f [.bytes [(x.toNat : Int)], .str (Str.ofString "best"), .str (Str.ofString "crc32")] ⟨[], [], 0⟩).bind fun p => instS C p.1 p.2) = some at0) : Fun Γ.prog Γ.w Γ.K Γ.p Γ.loose Γ.mean Γ.mg Γ.mb 80 f [.bytes #[x] tb, .str (Str.ofString "best") tm, .str (Str.ofString "crc32") tk] news (MbO2 Γ.w.params C at0 news) := by
  intro dp un gd cn cs a ccd cl outer A₀ base h₀ L m s Q E B F X N T hkd hd hu hret
  refine bind_elim h fun p h1 h2 => ?_
  clear h
  obtain ⟨v, g'⟩ := p
  refine bind_elim h2 fun q h3 h4 => ?_
  clear h2
  refine guard_elim h4 fun h5 h6 => ?_
  clear h4
  have hat : q.2.2.2 = at0 := Option.some.inj h6
  clear h6
  refine and_elim h5 fun h8 h7 => ?_
  clear h5
  refine and_elim h8 fun h9 h6 => ?_
  clear h8
  have hC : q.2.1 = C := Nat.eq_of_beq_eq_true h9
  clear h9
  refine wpAny_call (O f _ _ v g' ⟨ktrTop dp un gd cn cs L a ccd cl outer, envX cn cs L a ccd cl, envX cn cs L a ccd cl, h₀, L, news, E, none⟩ m ⟨[], [], s.heap, s.toks, s.gens⟩ [.bytes #[x] tb, .str (Str.ofString "best") tm, .str (Str.ofString "crc32") tk] s _ h1 ⟨F, N, Led.bare⟩ (.cons ⟨_, _, rfl, rfl⟩ (.cons ⟨_, rfl⟩ (.cons ⟨_, rfl⟩ .nil)))
    ⟨rfl, ⟨outer, A₀, base, rfl, B⟩, rfl, hkd, by show dp + _ < _; omega, by show un + _ < _; omega, X, T, hgd⟩ fun r z' e1 r1 H1 => ?_)
  have hgen : z'.g = s.gens := e1.gq.2 (Nat.eq_of_beq_eq_true h7)
  have e0 : z'.sh s = { s with heap := z'.h, toks := z'.tk } := by unfold Zs.sh; rw [hgen]
  show Q r (z'.sh s)
  rw [e0]
  refine bind_elim2 h3 fun k so i1 ia => ?_
  refine bind_elim2 ia fun Cl d i2 ib => ?_
  refine bind_elim ib fun so' i3 ic => ?_
  refine map_elim ic fun l i4 hq => ?_
  clear h3 ia ib ic
  subst hq
  have hC' : Cl = C := hC
  clear hC
  subst hC'
  have hat' : l = at0 := hat
  clear hat
  subst hat'
  obtain ⟨j1, j2⟩ := oO_eq i1
  rw [soI_eq i2] at j2
  rw [soA_eq i4] at i3
  obtain ⟨X', o, rfl, hx, hkk, hm, D, hD, rfl⟩ := H1.ob r1 ⟨j1, j2⟩
  obtain ⟨D', od, e, hD', hkD, hmD, es, n, rfl, hr⟩ := H1.obj (V := .ref D) ⟨D, hD, rfl⟩ i3
  cases e
  have hne : k ≠ d := fun e => by rw [e, i3] at j2; cases j2
  have hN : ∀ p ∈ (X', ({ cls := .ref Cl, dict := some D, data := .plain } : Obj)) :: (D, ({ cls := .type "dict", data := .dict es.toArray n } : Obj)) :: news, p ∈ z'.nw ++ news := fun p hp => by
    rcases List.mem_cons.mp hp with rfl | hp
    · exact hm
    · rcases List.mem_cons.mp hp with rfl | hp
      · exact hmD
      · exact List.mem_append.mpr (.inr hp)
  exact hret _ _ _ _ ⟨X', D, _, _, rfl, rfl, ⟨rfl, es, n, rfl, hr.atoms h6⟩, fun p hp => H1.led.sep p hp _ (List.mem_of_getElem? hkk), fun p hp => H1.led.sep p hp _ (List.mem_of_getElem? hkD), H1.led.ne hne hkk hkD⟩ H1.F fun p hp => H1.N p (hN p hp)
/-- make_blocks on one byte: a list of one block -/
def msO (f0 C : Addr) (MT : List (Int × List (Str × SV))) : Orc := fun f vs g => guardS (Nat.beq f f0) (match vs with
  | v :: n :: r => (two r).bind fun q => (vB v).bind fun l => (one l).bind fun x => (vI n).bind fun n => (vS q.1).bind fun m => (vS q.2).bind fun k => guardS (decide (n = 4096) && sq m "best" && sq k "crc32") ((lookK iq MT x).map fun at0 =>
    (SV.obj (g.σ.length + 2), ⟨g.σ ++ [.att at0] ++ [.inst C g.σ.length] ++ [.list [.obj (g.σ.length + 1)]], g.τ ++ [0] ++ [0] ++ [0], g.γ + 1⟩))
  | _ => none)
theorem msO_ok {f0 C : Addr} {MT : List (Int × List (Str × SV))} {at0 : UInt8 → List (Str × SV)} (hms : MsC2 f0 C at0 Γ.prog Γ.w Γ.K Γ.p Γ.loose Γ.mean Γ.mg Γ.mb) (hMT : ∀ i a, lookK iq MT i = some a → ∃ x : UInt8, Bx x ∧ (x.toNat : Int) = i ∧ a = at0 x) : OrcOK Γ (msO f0 C MT) 144 := by
  intro f vs g v g' c M z Vs s R h H hv Cc G
  refine guard_elim h fun hf hx0 => ?_
  clear h
  have hf' := Nat.eq_of_beq_eq_true hf
  clear hf
  subst hf'
  cases hv with
  | nil => cases hx0
  | cons r1 hv =>
    cases hv with
    | nil => cases hx0
    | cons r2 hv =>
      refine bind_elim hx0 fun q h1 hx1 => ?_
      refine bind_elim hx1 fun l h2 hx2 => ?_
      refine bind_elim hx2 fun x h3 hx3 => ?_
      refine bind_elim hx3 fun n h4 hx4 => ?_
      refine bind_elim hx4 fun m5 h5 hx5 => ?_
      refine bind_elim hx5 fun k6 h6 hx6 => ?_
      refine guard_elim hx6 fun h7 hx7 => ?_
      refine map_elim hx7 fun a h8 h9 => ?_
      clear hx0 hx1 hx2 hx3 hx4 hx5 hx6 hx7
      cases h9
      refine and_elim h7 fun h7a h10 => ?_
      clear h7
      refine and_elim h7a fun h7b h11 => ?_
      clear h7a
      obtain rfl := of_decide_eq_true h7b
      rw [vB_eq h2, one_eq h3] at r1
      rw [vI_eq h4] at r2
      rw [two_eq h1, vS_eq h5, vS_eq h6, sq_eq.mp h10, sq_eq.mp h11] at hv
      obtain ⟨x', hBx, hx, rfl⟩ := hMT x a h8
      obtain ⟨b, tb, rfl, hb⟩ := r1
      obtain ⟨ts, rfl⟩ := r2
      rcases hv with _ | ⟨⟨tm, rfl⟩, hv⟩
      rcases hv with _ | ⟨⟨tk, rfl⟩, hv⟩
      cases hv
      have hb' : b = #[x'] := bInts1 (hb.trans (by rw [hx]))
      subst hb'
      obtain ⟨outer, A₀, base, hfr, B⟩ := Cc.stk
      have hd := Cc.dep
      have hu := Cc.uni
      have hA : c.A = { handled := none, depth := c.A.depth, frames := some (c.fenv :: outer), guards := c.A.guards, units := c.A.units } := by
        have h1 := Cc.hand
        rcases hA : c.A with ⟨a1, a2, a3, a4, a5⟩
        rw [hA] at h1 hfr
        have h1' : _ = none := h1
        have hfr' : _ = some (c.fenv :: outer) := hfr
        simp only at h1 hfr
        rw [h1, hfr]
      rw [hA]
      refine hms x' tb ts tm tk (z.nw ++ c.rest) hBx c.A.depth c.A.units c.A.guards c.fenv outer A₀ base c.h₀ c.L M (z.sh s) R Cc.fr Cc.fk B H.F Cc.X H.N Cc.T (by omega) (by omega) fun r news' h' tk' gg hg hout F' N' => ?_
      obtain ⟨R', X, D, o, od, rfl, rfl, ⟨rfl, es, nn, rfl, hr⟩, ho2, ho3⟩ := hout
      have led1 : Led Γ c.rest (mkO (.att (at0 x')) g).2 (z.ρ ++ [D]) (z.nw ++ [(D, _)]) := H.led.push (fun p hp => ho2.2.1 p (List.mem_append.mpr (.inl hp))) (fun p hp => ho2.2.1 p (List.mem_append.mpr (.inr hp))) (fun e => nomatch e) ⟨es, nn, rfl, hr.any⟩
      have led2 : Led Γ c.rest (mkO (.inst C g.σ.length) (mkO (.att (at0 x')) g).2).2 (z.ρ ++ [D] ++ [X]) (z.nw ++ [(D, _)] ++ [(X, _)]) := led1.push (fun p hp => by
        rcases List.mem_append.mp hp with hp | hp
        · exact ho2.1 p (List.mem_append.mpr (.inl hp))
        · rw [List.mem_singleton.mp hp]; exact Ne.symm ho2.2.2) (fun p hp => ho2.1 p (List.mem_append.mpr (.inr hp))) (fun e => nomatch e) ⟨D, by rw [← H.led.size]; simp, rfl⟩
      have led3 : Led Γ c.rest (mkO (.list [.obj (g.σ.length + 1)]) (mkO (.inst C g.σ.length) (mkO (.att (at0 x')) g).2).2).2 (z.ρ ++ [D] ++ [X] ++ [R']) (z.nw ++ [(D, _)] ++ [(X, _)] ++ [(R', listOf #[.ref X] 1)]) := led2.push (fun p hp => by
        rcases List.mem_append.mp hp with hp | hp
        · rcases List.mem_append.mp hp with hp | hp
          · exact ho3.2.2 p (List.mem_append.mpr (.inl hp))
          · rw [List.mem_singleton.mp hp]; exact Ne.symm ho3.2.1
        · rw [List.mem_singleton.mp hp]; exact Ne.symm ho3.1) (fun p hp => ho3.2.2 p (List.mem_append.mpr (.inr hp))) (fun e => nomatch e) ⟨[.ref X], 1, rfl, .cons ⟨X, by rw [← H.led.size]; simp, rfl⟩ .nil⟩
      have ex := ((H.led.exNew (so := .att (at0 x')) (D := D) (o := { cls := .type "dict", data := .dict es.toArray nn }) (h' := h') (tk := tk')).trans (led1.exNew (z := ⟨z.ρ ++ [D], _, h', tk', z.g⟩) (so := .inst C g.σ.length) (D := X) (o := { cls := .ref C, dict := some D, data := .plain }) (h' := h') (tk := tk'))).trans (led2.exNew (z := ⟨z.ρ ++ [D] ++ [X], _, h', tk', z.g⟩) (so := .list [.obj (g.σ.length + 1)]) (D := R') (o := listOf #[.ref X] 1) (h' := h') (tk := tk'))
      refine G (.ref R') ⟨z.ρ ++ [D] ++ [X] ++ [R'], _, h', tk', gg⟩ ⟨ex.ext, ex.stp, hg, Nat.le_succ _, fun e => absurd e (Nat.succ_ne_self _)⟩ ⟨R', by rw [← H.led.size]; simp, rfl⟩ ⟨F', fun p hp => N' p ?_, ⟨led3.map, led3.nd, led3.lo, led3.len, led3.obj, led3.sep, led3.tl⟩⟩
      rcases List.mem_append.mp hp with hp | hp
      · rcases List.mem_append.mp hp with hp | hp
        · rcases List.mem_append.mp hp with hp | hp
          · rcases List.mem_append.mp hp with hp | hp
            · exact .tail _ (.tail _ (.tail _ (List.mem_append.mpr (.inl hp))))
            · rw [List.mem_singleton.mp hp]; exact .tail _ (.tail _ (.head _))
          · rw [List.mem_singleton.mp hp]; exact .tail _ (.head _)
        · rw [List.mem_singleton.mp hp]; exact .head _
      · exact .tail _ (.tail _ (.tail _ (List.mem_append.mpr (.inr hp))))
end
/-- the defs, and ahead of them what another reckoner knows -/
def orcL (K : Frag) (gd : List Addr) (T : List FnE) (N : Nat) (o0 : Orc) : Nat → Orc
  | 0 => o0
  | d + 1 => fun f vs g => match o0 f vs g with
    | some r => some r
    | none => fnRun K gd T N (orcL K gd T N o0 d) f vs g
section
variable {Γ : Gm} {N : Nat} {T : List FnE}
theorem Orx.less {c : Cx} {a b : Nat} (C : Orx Γ b c) (h : a ≤ b) : Orx Γ a c := ⟨C.hand, C.stk, C.fr, C.fk, by have := C.dep; omega, by have := C.uni; omega, C.X, C.T, C.gd⟩
theorem orcL_ok {o0 : Orc} {k0 : Nat} (HB : ∀ e ∈ T, BindOK Γ.K e) (O0 : OrcOK Γ o0 k0) : ∀ d, OrcOK Γ (orcL Γ.K Γ.gd T N o0 d) (k0 + 2 * d)
  | 0 => O0
  | d + 1 => by
    intro f vs g v g' c M z Vs s R h H hv C G
    have h' : (match o0 f vs g with
      | some r => some r
      | none => fnRun Γ.K Γ.gd T N (orcL Γ.K Γ.gd T N o0 d) f vs g) = some (v, g') := h
    cases e : o0 f vs g with
    | some r =>
      rw [e] at h'
      cases h'
      exact O0 f vs g v g' c M z Vs s R e H hv (C.less (by omega)) G
    | none =>
      rw [e] at h'
      exact fnRun_ok HB (orcL_ok HB O0 d) f vs g v g' c M z Vs s R h' H hv C G
end
/-- the objects at some addresses, looked up in one walk (both ascending) -/
def pickS (K : Frag) : List Addr → Frag := List.rec (motive := fun _ => List Addr → Frag) (fun _ => []) (fun p _ ih need => List.rec (motive := fun _ => Frag) [] (fun a r _ => Bool.rec (motive := fun _ => Frag) (ih (a :: r)) (p :: ih r) (Nat.beq p.1 a)) need) K
def ascK (K : Frag) : Nat → Bool := List.rec (motive := fun _ => Nat → Bool) (fun _ => true) (fun p _ ih n => Nat.ble n p.1 && ih (p.1 + 1)) K
/-- the same fragment with some objects ahead -/
def frontK (need : List Addr) (K : Frag) : Frag := pickS K need ++ K
theorem pick_mem : ∀ {K : Frag} {need : List Addr} {p : Addr × Obj}, p ∈ pickS K need → p ∈ K
  | [], _, _, h => h
  | q :: K, [], _, h => by cases h
  | q :: K, a :: r, p, h => by
    have h' : p ∈ (Bool.rec (motive := fun _ => Frag) (pickS K (a :: r)) (q :: pickS K r) (Nat.beq q.1 a) : Frag) := h
    cases e : Nat.beq q.1 a with
    | false =>
      rw [e] at h'
      exact .tail _ (pick_mem h')
    | true =>
      rw [e] at h'
      rcases List.mem_cons.mp h' with rfl | h'
      · exact .head _
      · exact .tail _ (pick_mem h')
theorem asc_look : ∀ {K : Frag} {n : Nat} {p : Addr × Obj}, ascK K n = true → p ∈ K → n ≤ p.1 ∧ K.lookup p.1 = some p.2
  | [], _, _, _, h => by cases h
  | q :: K, n, p, ha, h => by
    refine and_elim (show (Nat.ble n q.1 && ascK K (q.1 + 1)) = true from ha) fun h1 h2 => ?_
    rcases List.mem_cons.mp h with rfl | h
    · exact ⟨Nat.le_of_ble_eq_true h1, by obtain ⟨a, o⟩ := p; rw [List.lookup_cons]; simp⟩
    · obtain ⟨h3, h4⟩ := asc_look h2 h
      have h5 := Nat.le_of_ble_eq_true h1
      refine ⟨by omega, ?_⟩
      obtain ⟨a, o⟩ := q
      rw [List.lookup_cons, show (p.1 == a) = false from beq_eq_false_iff_ne.mpr (Nat.ne_of_gt (show a < p.1 from h3))]
      exact h4
theorem lookup_app {A K : Frag} {a : Addr} (h : ∀ p ∈ A, K.lookup p.1 = some p.2) : (A ++ K).lookup a = K.lookup a := by
  induction A with
  | nil => rfl
  | cons p A ih =>
    obtain ⟨b, u⟩ := p
    rw [List.cons_append, List.lookup_cons]
    cases e : a == b with
    | true => rw [eq_of_beq e]; exact (h _ (.head _)).symm
    | false => exact ih fun p hp => h p (.tail _ hp)
theorem front_eq {need : List Addr} {K : Frag} (hK : ascK K 0 = true) (a : Addr) : (frontK need K).lookup a = K.lookup a := lookup_app fun _ hp => (asc_look hK (pick_mem hp)).2
theorem front_in {need : List Addr} {K : Frag} (hK : ascK K 0 = true) {h : Heap} : (frontK need K).In h ↔ K.In h := ⟨fun X a o e => X a o ((front_eq hK a).trans e), fun X a o e => X a o ((front_eq hK a).symm.trans e)⟩
theorem BindOK.front {need : List Addr} {K : Frag} {e : FnE} (hK : ascK K 0 = true) (h : BindOK K e) : BindOK (frontK need K) e := by
  intro s Vs X hl
  have e1 : fdAt (frontK need K) e.f = fdAt K e.f := by unfold fdAt; rw [front_eq hK]
  rw [e1]
  exact h s Vs ((front_in hK).mp X) hl
end
end Mine
local macro_rules | `(tactic| o_head $H) => `(tactic| refine holds_open (q := Mine.q6) (loose := Mine.loose6) (Xt := Mine.Xt6) (XP := XL Mine.q6 []) (Yf := Hook.obs $H) (Ya := Hook.val $H) (YP := Hook.says $H) (N := 400000) (Mine.left6 (by intro w os; refine (Mine.obs_map _ _ _).trans ?_; kernel_rfl)) (Hook.of $H) (Hook.keeps $H) (fun s e => xl_of s (Bool.and_eq_true_iff.mp e).1) XL.keeps (by rfl) (by rfl) (by rfl) (fun s e => recFacts_of (Bool.and_eq_true_iff.mp e).2) (by rfl) (by first | assumption | decide +kernel) (by decide +kernel) ⟨rfl, rfl, rfl, rfl, rfl, by decide +kernel⟩ ?hw ?hc)
local macro_rules | `(tactic| o_law) => `(tactic| refine holds_law Mine.said fun said => ?_)
namespace Mine
set_option maxRecDepth 100000 in
set_option maxHeartbeats 0 in
open_top hd for PySem.Challenge.rw_ui0507_20
end Mine
namespace Mine
noncomputable section
/-- the defs that the law reaches, make_blocks left out -/
def FT : List FnE := [⟨110, 1, []⟩, ⟨117, 3, []⟩, ⟨124, 3, []⟩, ⟨138, 2, []⟩, ⟨159, 1, []⟩, ⟨250, 1, []⟩,
  ⟨1302, 2, []⟩, ⟨1342, 1, []⟩, ⟨1349, 1, []⟩, ⟨1356, 3, []⟩, ⟨1363, 2, []⟩,
  ⟨1370, 1, []⟩, ⟨1377, 2, []⟩, ⟨1384, 1, []⟩,
  ⟨1398, 1, []⟩, ⟨1405, 1, []⟩, ⟨1411, 1, [(Str.ofString "limit", .int 15)]⟩, ⟨1425, 1, []⟩, ⟨1460, 2, []⟩, ⟨1474, 1, []⟩,
  ⟨1502, 3, []⟩, ⟨1509, 2, []⟩, ⟨1516, 2, []⟩, ⟨1531, 2, []⟩, ⟨1545, 1, []⟩, ⟨1560, 1, [(Str.ofString "window", .int 4096)]⟩,
  ⟨1574, 1, []⟩, ⟨1581, 1, []⟩, ⟨1603, 1, [(Str.ofString "rounds", .int 64)]⟩, ⟨1622, 1, []⟩,
  ⟨1650, 1, []⟩, ⟨1657, 1, []⟩, ⟨1674, 2, []⟩, ⟨1693, 1, []⟩, ⟨1700, 1, []⟩,
  ⟨1714, 6, []⟩, ⟨1749, 3, []⟩,
  ⟨1917, 1, [(Str.ofString "filters", .none)]⟩, ⟨1924, 2, []⟩, ⟨1962, 1, []⟩,
  ⟨1969, 1, []⟩, ⟨1976, 1, []⟩, ⟨1983, 1, []⟩, ⟨1990, 2, []⟩, ⟨1997, 3, []⟩,
  ⟨2012, 1, [(Str.ofString "method", .str (Str.ofString "best")), (Str.ofString "chain", .str (Str.ofString "-")), (Str.ofString "kind", .str (Str.ofString "crc32")), (Str.ofString "size", .int 4096)]⟩,
  ⟨2040, 4, []⟩, ⟨2075, 2, []⟩, ⟨2104, 3, []⟩,
  ⟨2119, 1, [(Str.ofString "settings", .none)]⟩, ⟨2154, 3, []⟩, ⟨2162, 3, [(Str.ofString "settings", .none)]⟩, ⟨2189, 3, []⟩, ⟨2229, 2, []⟩, ⟨2271, 1, []⟩, ⟨2306, 2, []⟩]
def gd20 : List Addr := [1335, 1666]
set_option maxRecDepth 100000 in
theorem gd20_ok {P : Params} {a : Addr} (h : memA a gd20 = true) : (∃ es n, (hd.heap_1 P).lookup a = some ⟨.type "dict", none, .dict es n, #[]⟩ ∧ KeysLit P es.toList) ∧ (a == sysModules) = false := by
  unfold gd20 at h
  have h2 : a = 1335 ∨ a = 1666 := by
    have h3 : (match Nat.beq 1335 a with | true => true | false => (match Nat.beq 1666 a with | true => true | false => false)) = true := h
    cases e1 : Nat.beq 1335 a with
    | true => exact .inl (Nat.eq_of_beq_eq_true e1).symm
    | false =>
      rw [e1] at h3
      cases e2 : Nat.beq 1666 a with
      | true => exact .inr (Nat.eq_of_beq_eq_true e2).symm
      | false => rw [e2] at h3; cases h3
  rcases h2 with rfl | rfl
  · exact ⟨⟨_, _, rfl, by k_keys⟩, by decide⟩
  · exact ⟨⟨_, _, rfl, by k_keys⟩, by decide⟩
/-- the objects that are looked up, ahead of all -/
def need20 : List Addr := [3, 109, 110, 116, 117, 123, 124, 137, 138, 158, 159, 161, 162, 249, 250, 1301, 1302, 1303, 1335, 1341, 1342, 1348, 1349, 1355, 1356, 1362, 1363, 1369, 1370, 1376, 1377, 1383, 1384, 1397, 1398, 1404, 1405, 1410, 1411, 1424, 1425, 1459, 1460, 1473, 1474, 1501, 1502, 1508, 1509, 1515, 1516, 1518, 1519, 1530, 1531, 1544, 1545, 1559, 1560, 1573, 1574, 1580, 1581, 1602, 1603, 1621, 1622, 1649, 1650, 1656, 1657, 1665, 1666, 1673, 1674, 1692, 1693, 1699, 1700, 1713, 1714, 1737, 1738, 1748, 1749, 1755, 1756, 1760, 1761, 1916, 1917, 1923, 1924, 1952, 1953, 1961, 1962, 1968, 1969, 1975, 1976, 1982, 1983, 1989, 1990, 1996, 1997, 2011, 2012, 2021, 2022, 2039, 2040, 2074, 2075, 2091, 2092, 2103, 2104, 2118, 2119, 2153, 2154, 2161, 2162, 2188, 2189, 2228, 2229, 2270, 2271, 2294, 2295, 2305, 2306]
def K20 (P : Params) : Frag := frontK need20 (hd.heap_1 P)
set_option maxRecDepth 100000 in
theorem asc20 (P : Params) : ascK (hd.heap_1 P) 0 = true := by kernel_rfl
theorem k20_in {P : Params} {h : Heap} : (K20 P).In h ↔ (hd.heap_1 P).In h := front_in (asc20 P)
theorem gd20_K {P : Params} {a : Addr} (h : memA a gd20 = true) : (∃ es n, (K20 P).lookup a = some ⟨.type "dict", none, .dict es n, #[]⟩ ∧ KeysLit P es.toList) ∧ (a == sysModules) = false := by
  obtain ⟨⟨es, n, h1, h2⟩, h3⟩ := gd20_ok (P := P) h
  exact ⟨⟨es, n, (front_eq (asc20 P) a).trans h1, h2⟩, h3⟩
theorem RBs.one {ρ : List Addr} {x : Str} {v : SV} {V : Value} (h : RV ρ v V) : RBs ρ [(x, v)] [(x, V)] := .cons h .nil
set_option maxRecDepth 100000 in
set_option maxHeartbeats 0 in
theorem ft_bind (P : Params) : ∀ e ∈ FT, BindOK (hd.heap_1 P) e := by
  unfold FT
  simp only [List.forall_mem_cons]
  exact ⟨bd1 fun a => by kernel_rfl, bd3 fun a b c => by kernel_rfl, bd3 fun a b c => by kernel_rfl, bd2 fun a b => by kernel_rfl, bd1 fun a => by kernel_rfl, bd1 fun a => by kernel_rfl,
    bdX2 (fd := fnOf _ _ _ _ _ _ _ _ _ _ _ _) rfl (fun ρ => .nil) fun s a b X => binds_K X rfl rfl rfl rfl rfl, bd1 fun a => by kernel_rfl, bd1 fun a => by kernel_rfl, bd3 fun a b c => by kernel_rfl, bd2 fun a b => by kernel_rfl,
    bd1 fun a => by kernel_rfl, bd2 fun a b => by kernel_rfl, bd1 fun a => by kernel_rfl,
    bd1 fun a => by kernel_rfl, bd1 fun a => by kernel_rfl, bdX1 (fd := fnOf _ _ _ _ _ _ _ _ _ _ _ _) rfl (fun ρ => .one ⟨_, rfl⟩) fun s a X => binds_K X rfl rfl rfl rfl rfl, bd1 fun a => by kernel_rfl, bd2 fun a b => by kernel_rfl, bd1 fun a => by kernel_rfl,
    bd3 fun a b c => by kernel_rfl, bd2 fun a b => by kernel_rfl, bd2 fun a b => by kernel_rfl, bdX2 (fd := fnOf _ _ _ _ _ _ _ _ _ _ _ _) rfl (fun ρ => .nil) fun s a b X => binds_K X rfl rfl rfl rfl rfl, bd1 fun a => by kernel_rfl, bdX1 (fd := fnOf _ _ _ _ _ _ _ _ _ _ _ _) rfl (fun ρ => .one ⟨_, rfl⟩) fun s a X => binds_K X rfl rfl rfl rfl rfl,
    bd1 fun a => by kernel_rfl, bd1 fun a => by kernel_rfl, bdX1 (fd := fnOf _ _ _ _ _ _ _ _ _ _ _ _) rfl (fun ρ => .one ⟨_, rfl⟩) fun s a X => binds_K X rfl rfl rfl rfl rfl, bd1 fun a => by kernel_rfl,
    bd1 fun a => by kernel_rfl, bd1 fun a => by kernel_rfl, bd2 fun a b => by kernel_rfl, bd1 fun a => by kernel_rfl, bd1 fun a => by kernel_rfl,
    bd6 fun a b c d e g => by kernel_rfl, bd3 fun a b c => by kernel_rfl,
    bdX1 (fd := fnOf _ _ _ _ _ _ _ _ _ _ _ _) rfl (fun ρ => .one rfl) fun s a X => binds_K X rfl rfl rfl rfl rfl, bd2 fun a b => by kernel_rfl, bd1 fun a => by kernel_rfl,
    bd1 fun a => by kernel_rfl, bd1 fun a => by kernel_rfl, bd1 fun a => by kernel_rfl, bd2 fun a b => by kernel_rfl, bd3 fun a b c => by kernel_rfl,
    bdX1 (fd := fnOf _ _ _ _ _ _ _ _ _ _ _ _) rfl (fun ρ => .cons ⟨_, rfl⟩ (.cons ⟨_, rfl⟩ (.cons ⟨_, rfl⟩ (.one ⟨_, rfl⟩)))) fun s a X => binds_K X rfl rfl rfl rfl rfl,
    bd4 fun a b c d => by kernel_rfl, bd2 fun a b => by kernel_rfl, bdX3 (fd := fnOf _ _ _ _ _ _ _ _ _ _ _ _) rfl (fun ρ => .nil) fun s a b c X => binds_K X rfl rfl rfl rfl rfl,
    bdX1 (fd := fnOf _ _ _ _ _ _ _ _ _ _ _ _) rfl (fun ρ => .one rfl) fun s a X => binds_K X rfl rfl rfl rfl rfl, bd3 fun a b c => by kernel_rfl, bdX3 (fd := fnOf _ _ _ _ _ _ _ _ _ _ _ _) rfl (fun ρ => .one rfl) fun s a b c X => binds_K X rfl rfl rfl rfl rfl, bd3 fun a b c => by kernel_rfl, bd2 fun a b => by kernel_rfl, bd1 fun a => by kernel_rfl, bd2 fun a b => by kernel_rfl, fun _ h => (nomatch h)⟩
theorem ft_bind20 (P : Params) : ∀ e ∈ FT, BindOK (K20 P) e := fun e he => (ft_bind P e he).front (asc20 P)
def blkA (x crc : Int) : List (Str × SV) := [(Str.ofString "method", .str (Str.ofString "store")), (Str.ofString "kind", .str (Str.ofString "crc32")), (Str.ofString "size", .int 1), (Str.ofString "value", .int crc), (Str.ofString "body", .bytes [x])]
def crcX (x : UInt8) : Int := match Nat.beq x.toNat 120 with
  | true => 2363233923
  | false => 4225443349
/-- the block of one byte, as make_block gives it -/
def at20 (x : UInt8) : List (Str × SV) := blkA (x.toNat : Int) (crcX x)
def o20 (P : Params) : Orc := orcT (K20 P) gd20 FT 2000 noOrc 12
def mb20 (P : Params) (x : Int) : Option (List (Str × SV)) := ((o20 P) 1749 [.bytes [x], .str (Str.ofString "best"), .str (Str.ofString "crc32")] ⟨[], [], 0⟩).bind fun p => instS 1738 p.1 p.2
set_option maxRecDepth 100000 in
theorem mb120 (P : Params) : mb20 P 120 = some (blkA 120 2363233923) := by kernel_rfl
set_option maxRecDepth 100000 in
theorem mb121 (P : Params) : mb20 P 121 = some (blkA 121 4225443349) := by kernel_rfl
def G20 (w : World) (p : Program) (loose : List Str) (mean : ExcName → Option Value) (mg mb : Str → Option Value) : Gm := ⟨PySem.Challenge.rw_ui0507_20.row.prog, w, K20 w.params, p, loose, mean, mg, mb, gd20⟩
section
variable {w : World} {p : Program} {loose : List Str} {mean : ExcName → Option Value} {mg mb : Str → Option Value}
theorem mb_ctr : MbC2 1749 1738 at20 PySem.Challenge.rw_ui0507_20.row.prog w (hd.heap_1 w.params) p loose mean mg mb := by
  intro x tb tm tk news hx
  have O := orcT_ok (Γ := G20 w p loose mean mg mb) (N := 2000) (ft_bind20 w.params) noOrc_ok 12
  refine fun dp un gd cn cs a ccd cl outer A₀ base h₀ L m s Q E B F X => mb_of (Γ := G20 w p loose mean mg mb) O (by decide) (fun a h => gd20_K h) ?_ dp un gd cn cs a ccd cl outer A₀ base h₀ L m s Q E B F (k20_in.mpr X)
  rcases hx with rfl | rfl
  · exact mb120 w.params
  · exact mb121 w.params
end
end
end Mine
local macro_rules | `(tactic| walk_at $s:str) => `(tactic| k_extra $s)
local macro_rules | `(tactic| k_mem) => `(tactic| kcf_m)
set_option maxRecDepth 100000 in
set_option maxHeartbeats 1600000 in
theorem Mine.ms_ctr2 {w : World} {p : Program} {loose : List Str} {mean : ExcName → Option Value} {mg mb : Str → Option Value} {at0 : UInt8 → List (Str × Mine.SV)} (cMB : Mine.MbC2 1749 1738 at0 PySem.Challenge.rw_ui0507_20.row.prog w (Mine.hd.heap_1 w.params) p loose mean mg mb) : Mine.MsC2 1761 1738 at0 PySem.Challenge.rw_ui0507_20.row.prog w (Mine.hd.heap_1 w.params) p loose mean mg mb := by
  k_with_none
  k_with "mine nd" => (first | assumption | exact Nat.ne_of_lt (by with_reducible assumption) | exact Nat.ne_of_gt (by with_reducible assumption) | exact Nat.ne_of_lt (And.left (by with_reducible assumption)) | exact Nat.ne_of_gt (And.left (by with_reducible assumption)) | exact Nat.ne_of_lt (And.left (And.right (by with_reducible assumption))) | exact Nat.ne_of_gt (And.left (And.right (by with_reducible assumption))) | exact Nat.ne_of_lt (And.left (And.right (And.right (by with_reducible assumption)))) | exact Nat.ne_of_gt (And.left (And.right (And.right (by with_reducible assumption)))) | exact Nat.ne_of_lt (And.left (And.right (And.right (And.right (by with_reducible assumption))))) | exact Nat.ne_of_gt (And.left (And.right (And.right (And.right (by with_reducible assumption))))) | exact Nat.ne_of_lt (And.left (And.right (And.right (And.right (And.right (by with_reducible assumption)))))) | exact Nat.ne_of_gt (And.left (And.right (And.right (And.right (And.right (by with_reducible assumption)))))) | exact Nat.ne_of_lt (And.left (And.right (And.right (And.right (And.right (And.right (by with_reducible assumption))))))) | exact Nat.ne_of_gt (And.left (And.right (And.right (And.right (And.right (And.right (by with_reducible assumption))))))) | exact Nat.ne_of_lt (And.left (And.right (And.right (And.right (And.right (And.right (And.right (by with_reducible assumption)))))))) | exact Nat.ne_of_gt (And.left (And.right (And.right (And.right (And.right (And.right (And.right (by with_reducible assumption)))))))) | exact Nat.ne_of_lt (And.left (And.right (And.right (And.right (And.right (And.right (And.right (And.right (by with_reducible assumption))))))))) | exact Nat.ne_of_gt (And.left (And.right (And.right (And.right (And.right (And.right (And.right (And.right (by with_reducible assumption))))))))) | exact Nat.ne_of_lt (And.left (And.right (And.right (And.right (And.right (And.right (And.right (And.right (And.right (by with_reducible assumption)))))))))) | exact Nat.ne_of_gt (And.left (And.right (And.right (And.right (And.right (And.right (And.right (And.right (And.right (by with_reducible assumption)))))))))) | k_ne)
  k_with "mine rm" => (first | with_reducible assumption | (refine' Mine.rmN ?rh_zs1 ?re_zs1; (case rh_zs1 => with_reducible assumption); (case re_zs1 => decide)) | (refine Mine.rm0 ?_; with_reducible assumption) | ((simp only [units_in1, units_deeper, units_under_make, Around.mark_units, units_caller, depth_in1, depth_deeper, depth_under_make, depth_caller, Nat.add_assoc]); first | with_reducible assumption | (refine' Mine.rmN ?rg_zs1 ?rf_zs1; (case rg_zs1 => with_reducible assumption); (case rf_zs1 => decide)) | (refine Mine.rm0 ?_; with_reducible assumption)) | ktr_room | ktr_units)
  k_with "mine om" => (first | with_reducible assumption | (refine' Mine.leN ?oh_zs2 ?oe_zs2; (case oh_zs2 => with_reducible assumption); (case oe_zs2 => decide)) | omega)
  k_with "mine ne" => ((try dsimp only); first | (walk_at "mine nd") | (refine Ne.symm ?_; assumption))
  k_with "mine off" => first | exact List.forall_mem_nil _ | assumption | exact Mine.off_lt (by assumption) | exact Mine.off_gt (by assumption) | (refine' List.forall_mem_cons.mpr ⟨?a_z1, ?b_z1⟩; (case a_z1 => walk_at "mine ne"); (case b_z1 => walk_at "mine off")) | (refine' List.forall_mem_append.mpr ⟨?a_z1, ?b_z1⟩; (case a_z1 => walk_at "mine off"); (case b_z1 => walk_at "mine off"))
  k_with "mine upd" => first | (refine' Upd.head ?a_z2; (case a_z2 => walk_at "mine off")) | (refine' Upd.tail ?a_z2 ?b_z2; (case a_z2 => walk_at "mine ne"); (case b_z2 => walk_at "mine upd"))
  k_with "mine size" => ((try law_lens); (simp only [List.size_toArray, Array.size_push, Array.size_append, List.length_append, List.length_cons, List.length_nil, List.length_take, List.length_drop, List.length_replicate, sizeLine_eq]); omega)
  k_with "call builtin:list.append" => (k_here; (with_reducible show wpAny _ _ (call (Value.builtin "list.append") [Value.ref _, _]) _ _ _); k_dflt (refine' append_K ?k1_z4 ?k2_z4 ?k3_z4 ?_ ?z_z4; (case k1_z4 => k_asm); (case k2_z4 => k_asm); (case k3_z4 => walk_at "mine upd"); (case z_z4 => walk_at "mine size"); k_whole); intro h' F' N'; (try k_sweep))
  k_with "mine updF" => first | (refine' UpdF.head ?a_z5; (case a_z5 => walk_at "mine off")) | (refine' UpdF.tail ?a_z5 ?b_z5; (case a_z5 => walk_at "mine ne"); (case b_z5 => walk_at "mine updF"))
  k_with "call builtin:list.extend" => (k_here; (with_reducible show wpAny _ _ (call (Value.builtin "list.extend") [Value.ref _, Value.ref _]) _ _ _); k_dflt (refine' Mine.extend_U ?k1_z6 ?k2_z6 ?kb_z6 ?k3_z6 ?z_z6 ?_; (case k1_z6 => k_asm); (case k2_z6 => k_asm); (case kb_z6 => k_mem); (case k3_z6 => walk_at "mine updF"); (case z_z6 => walk_at "mine size"); k_whole); intro h' n' F' N'; (try dsimp only at N'); (try k_sweep))
  k_with "mine upd" => first | (refine' Upd.head ?a_z7; (case a_z7 => walk_at "mine off")) | (refine' Upd.tail ?a_z7 ?b_z7; (case a_z7 => walk_at "mine ne"); (case b_z7 => walk_at "mine upd")) | (refine' Mine.upd_app ?a_z7 ?b_z7; (case a_z7 => first | with_reducible assumption | exact Mine.off_kL (by with_reducible assumption)); (case b_z7 => walk_at "mine upd"))
  k_with "mine off" => first | exact List.forall_mem_nil _ | assumption | exact Mine.off_lt (by assumption) | exact Mine.off_gt (by assumption) | exact Mine.off_allLt (And.right (by assumption)) | (refine' List.forall_mem_cons.mpr ⟨?a_z8, ?b_z8⟩; (case a_z8 => walk_at "mine ne"); (case b_z8 => walk_at "mine off")) | (refine' List.forall_mem_append.mpr ⟨?a_z8, ?b_z8⟩; (case a_z8 => walk_at "mine off"); (case b_z8 => walk_at "mine off"))
  k_with "mine enterC" => (refine' code_defC ?k1_z9 ?k2_z9 ?k3_z9 ?k4_z9 ?k5_z9 ?kA_z9 ?kF_z9 ?kK_z9 ?k6_z9 ?k7_z9 ?k8_z9 ?k9_z9 ?kB_z9 ?kD_z9 ?_ ?c2_z9 ?c3_z9 ?c4_z9; (case kA_z9 => exact rfl); (case kF_z9 => exact rfl); (case kK_z9 => first | assumption | exact rfl); (case k1_z9 => k_asm); (case k2_z9 => k_asm); (case k3_z9 => k_asm); (case k4_z9 => k_asm); (case k5_z9 => k_asm); (case k6_z9 => k_is); (case k7_z9 => k_is); (case k8_z9 => walk_at "mine rm"); (case k9_z9 => first | exact Mine.bz (BindsTo.of_eq rfl) (by with_unfolding_all rfl) | exact BindsTo.of_eq rfl | exact binds_K (by k_in) rfl (by k_is) rfl rfl rfl); (case kB_z9 => exact rfl); (case kD_z9 => decide +kernel); (case c2_z9 => exact rfl); (case c3_z9 => exact rfl); (case c4_z9 => exact rfl); k_whole; intro g' L' h' tk' cells' FG' F' N' Y' B' X' T' l1; (try k_lt l1); k_cells Y'; (try simp only [List.cons_append, List.nil_append] at N'); (try dsimp only); (try k_lift B'); (try k_fold))
  k_with "mine bnd" => first | with_reducible assumption | omega
  k_with "call builtin:len" => (k_here; (with_reducible show wpAny _ _ (call (Value.builtin "len") [Value.ref _]) _ _ _); k_dflt (refine' Mine.len_at ?N_z11 ?m_z11 ?v_z11 ?z_z11 ?_; (case N_z11 => k_asm); (case m_z11 => kcf_m); (case v_z11 => with_reducible assumption); (case z_z11 => walk_at "mine om"); k_whole); intro t9 k9)
  k_with "subscriptTail" => (k_here; (with_reducible show wpAny _ _ (subscriptTail _ _ (Value.ref _) (Value.int _ _)) _ _ _); k_dflt (refine' Mine.item_at ?N_z12 ?m_z12 ?v_z12 ?h0_z12 ?h1_z12 ?h2_z12 ?_; (case N_z12 => k_asm); (case m_z12 => kcf_m); (case v_z12 => with_reducible assumption); (case h0_z12 => walk_at "mine om"); (case h1_z12 => walk_at "mine om"); (case h2_z12 => walk_at "mine om"); k_whole); intro t9)
  k_with "mine room" => first | (walk_at "mine rm") | ((simp only [units_in1, units_deeper, units_under_make, Around.mark_units, units_caller]); first | decide | omega)
  k_with "newTuple" => (k_here; k_dflt (refine' kup_newTuple ?F_z14 ?N_z14 ?_ ?z_z14; (case F_z14 => k_asm); (case N_z14 => k_asm); (case z_z14 => kmk_size)); intro D' h' F' N' l1; (try k_lt l1); (try k_sweep))
  k_with "call type:list" => (k_here; (with_reducible show wpAny _ _ (call (Value.type "list") [Value.bytes _ _]) _ _ _); k_dflt (refine' Mine.list_B ?hh_z15 ?F_z15 ?N_z15 ?b_z15 ?z_z15 ?_; (case hh_z15 => exact rfl); (case F_z15 => k_asm); (case N_z15 => k_asm); (case b_z15 => with_reducible assumption); (case z_z15 => walk_at "mine om"); k_whole); intro D' c9 h' tk9 vs9 F' N' l1 i1; (try k_lt l1))
  k_with "eval ListComp" => (k_here; k_dflt (refine Mine.ListComp_G (by k_asm) (by with_unfolding_all rfl) (by decide) (by rfl) (by decide) (by rfl) ?_))
  k_with "call ref" => (k_here; (with_reducible show wpAny _ _ (call (Value.ref 1749) _) _ _ _); (k_dflt ((rename Mine.MbC2 1749 _ _ _ _ _ _ _ _ _ _ => cMB9); refine' Mine.Fun.use ?kC_z17 ?k1_z17 ?k2_z17 ?k3_z17 ?k4_z17 ?k5_z17 ?kK_z17 ?kd_z17 ?ku_z17 ?_; (case k2_z17 => k_asm); (case k4_z17 => k_asm); (case kC_z17 => (refine' cMB9 _ _ _ _ _ ?l0_z17; (case l0_z17 => with_reducible assumption))); ((case k1_z17 => k_asm); (case k3_z17 => k_asm); (case k5_z17 => k_asm); (case kK_z17 => first | exact rfl | assumption); (case kd_z17 => first | (walk_at "mine rm") | (simp only [depth_in1, depth_deeper, depth_under_make, Around.mark_depth, depth_caller]; omega)); (case ku_z17 => walk_at "mine room")); k_whole); intro r9 news9 h9 tk9 hR F9 N9; (unfold Mine.MbO2 at hR); (obtain ⟨X9, D9, o9, od9, e1, e2, lD9, lX9⟩ := hR); (subst e1); (subst e2); (try k_sweep)))
  k_with "call ref" => (k_here; (with_reducible show wpAny _ _ (call (Value.ref 1756) _) _ _ _); (k_dflt (refine' Mine.gen_call ?F_z18 ?X_z18 ?N_z18 ?T_z18 ?ho_z18 ?hcd_z18 ?hr_z18 ?hb_z18 ?hl_z18 ?g1_z18 ?g2_z18 ?g3_z18 ?g4_z18 ?_; (case F_z18 => k_asm); (case X_z18 => k_asm); (case N_z18 => k_asm); (case T_z18 => k_asm); (case ho_z18 => k_is); (case hcd_z18 => k_is); (case hr_z18 => walk_at "mine rm"); (case hb_z18 => exact BindsTo.of_eq rfl); (case hl_z18 => exact locs rfl); (case g1_z18 => exact rfl); (case g2_z18 => exact rfl); (case g3_z18 => exact rfl); (case g4_z18 => decide); k_whole)); intro L7 G7 oG7 h7 tk7 F7 N7 FL7 l7 lL7 lG7 hGG7 hL07; (refine' Mine.cut_src2 (P := w.params) (Cb := 1738) (at0 := at0 x) (x0 := x) F7 N7 FL7 l7 lL7 lG7 hGG7 hL07 ?hh_z18 ?hl2_z18 ?hr2_z18 ?hco_z18 ?hi_z18 ?t1_z18 ?t2_z18 ?tyes_z18 ?ty_z18 ?t3_z18 ?tno_z18 ?helt_z18 ?hdone_z18); (case hh_z18 => exact rfl); (case hl2_z18 => (rename Top _ _ _ _ _ _ => T9; exact T9.nolimit)); (case hr2_z18 => walk_at "mine rm"); (case hco_z18 => exact rfl); (case hi_z18 => exact rfl); (case' t1_z18 => (intro A7 E7 s7 FLg; (have kpg : Mine.KpL L7 s7.heap s7.heap := Mine.KpL.refl); (have FLh := Mine.HidF.of FLg); (have NLg := Mine.allOf_of FLg); clear F7 N7 FL7)); (case' t2_z18 => (intro A7 E7 s6 s7 hB; (obtain ⟨hg9, tkg, mg9, rfl, hM, FLg, kpg⟩ := hB); (unfold Mine.CutM1 at hM); (subst hM); (have FLh := Mine.HidF.of FLg); (have NLg := Mine.allOf_of FLg); clear F7 N7 FL7)); (case' tyes_z18 => (intro A7 E7 s6 s7 hB; (obtain ⟨hg9, tkg, mg9, rfl, ⟨t9, hM⟩, FLg, kpg⟩ := hB); (subst hM); (have FLh := Mine.HidF.of FLg); (have NLg := Mine.allOf_of FLg); clear F7 N7 FL7)); (case' ty_z18 => (intro A7 E7 s6 s7 hB; (obtain ⟨hg9, tkg, mg9, rfl, ⟨t9, hM⟩, FLg, kpg⟩ := hB); (subst hM); (have FLh := Mine.HidF.of FLg); (have NLg := Mine.allOf_of FLg); clear F7 N7 FL7)); (case' t3_z18 => (intro A7 E7 s7 hB; (obtain ⟨mg9, ⟨t9, hM⟩, FLg⟩ := hB); (subst hM); (have kpg : Mine.KpL L7 s7.heap s7.heap := Mine.KpL.refl); (have FLh := Mine.HidF.of FLg); (have NLg := Mine.allOf_of FLg); clear F7 N7 FL7)); (case' tno_z18 => (intro A7 E7 s6 s7 hB; (obtain ⟨hg9, tkg, mg9, rfl, ⟨t9, t8, hM⟩, FLg, kpg⟩ := hB); (subst hM); (have FLh := Mine.HidF.of FLg); (have NLg := Mine.allOf_of FLg); clear F7 N7 FL7)); (case' helt_z18 => (intro C7 D7 v7 h8 tk8 g8 oC7 oL7 m7 E7 a1 a2 a3 a4 hV hC7 hmx7 F8 N8; (obtain ⟨t7, rfl⟩ := hV); clear F7 N7 FL7)); (case' hdone_z18 => (intro D7 X7 E7 o7 od7 h8 tk8 g8 hGR7 b1 b2 b3 F8 N8; clear F7 N7 FL7; (try k_unfold); (try dsimp only))))
  k_with "CgEnd" => (k_here; refine' Mine.cg_end2 ?F_z19 ?N_z19 ?hs_z19 ?l1_z19 ?l2_z19 ?l0_z19 ?lG_z19 ?lD_z19 ?lC_z19; (case F_z19 => k_asm); (case N_z19 => k_asm); (case hs_z19 => exact fun _ h => h); (case l1_z19 => with_reducible assumption); (case l2_z19 => with_reducible assumption); (case l0_z19 => with_reducible assumption); (case lG_z19 => with_reducible assumption); (case lD_z19 => with_reducible assumption); (case lC_z19 => with_reducible assumption))
  k_with "GnF" => (k_here; refine' Mine.gnF_end FLh kpg ?F_z20 ?N_z20 ?M_z20 ?s_z20; (case F_z20 => k_asm); (case N_z20 => k_asm); (case M_z20 => first | exact rfl | exact ⟨_, rfl⟩ | exact ⟨_, _, rfl⟩); (case s_z20 => exact ⟨_, _, rfl⟩))
  k_with "GnT" => (k_here; refine' Mine.gnT_end FLh kpg ?F_z21 ?N_z21 ?M_z21 ?s_z21 ?b_z21; (case F_z21 => k_asm); (case N_z21 => k_asm); (case M_z21 => first | exact rfl | exact ⟨_, rfl⟩ | exact ⟨_, _, rfl⟩); (case s_z21 => exact ⟨_, _, rfl⟩); (case b_z21 => exact rfl))
  k_with "GnV" => (k_here; refine' Mine.gnV_end FLh kpg ?F_z22 ?N_z22 ?M_z22 ?s_z22 ?v_z22; (case F_z22 => k_asm); (case N_z22 => k_asm); (case M_z22 => first | exact rfl | exact ⟨_, rfl⟩ | exact ⟨_, _, rfl⟩); (case s_z22 => exact ⟨_, _, rfl⟩); (case v_z22 => exact Mine.cutV_one))
  k_fill
  w_top off
  (
  unfold Mine.MsC2
  intro x tb ts tm tk news hBx dp un gd fenv outer A₀ base h₀ L m s R hfr hfk B F X N T hd hu hret
  have hb : KBw.bInts #[x] = [(x.toNat : Int)] := rfl
  k_dflt (refine' code_defC ?k1_z23 ?k2_z23 ?k3_z23 ?k4_z23 ?k5_z23 ?kA_z23 ?kF_z23 ?kK_z23 ?k6_z23 ?k7_z23 ?k8_z23 ?k9_z23 ?kB_z23 ?kD_z23 ?_ ?c2_z23 ?c3_z23 ?c4_z23; (case kA_z23 => exact rfl); (case kF_z23 => assumption); (case kK_z23 => first | assumption | exact rfl); (case k1_z23 => k_asm); (case k2_z23 => k_asm); (case k3_z23 => k_asm); (case k4_z23 => k_asm); (case k5_z23 => k_asm); (case k6_z23 => k_is); (case k7_z23 => k_is); (case k8_z23 => walk_at "mine rm"); (case k9_z23 => first | exact Mine.bz (BindsTo.of_eq rfl) (by with_unfolding_all rfl) | exact BindsTo.of_eq rfl | exact binds_K (by k_in) rfl (by k_is) rfl rfl rfl); (case kB_z23 => exact rfl); (case kD_z23 => decide +kernel); (case c2_z23 => exact rfl); (case c3_z23 => exact rfl); (case c4_z23 => exact rfl); k_whole; intro g' L' h' tk' cells' FG' F' N' Y' B' X' T' l1; (try k_lt l1); k_cells Y'; (try simp only [List.cons_append, List.nil_append] at N'); (try dsimp only); (try k_lift B'); (try k_fold)))
  all_goals (repeat' (first | (k_unfold; (try dsimp only)) | (k_end; wrow_close) | (walk1; (all_goals (try dsimp only))) | (dsimp only; walk1) | (leave1; (try dsimp only)) | fail "no step"))
  all_goals first | exact Mine.ms_ret2 hret (by assumption) (by assumption) (by assumption) (by kcf_all) (by kcf_all) b1 b2 b3
namespace Mine
noncomputable section
def MT20 : List (Int × List (Str × SV)) := [(120, blkA 120 2363233923), (121, blkA 121 4225443349)]
def oL20 (P : Params) : Orc := orcL (K20 P) gd20 FT 2000 (msO 1761 1738 MT20) 8
def fd20 (P : Params) : FuncData := fdAt (hd.heap_1 P) 2313
def rest20 (P : Params) : List Stmt := match bodyOf (fd20 P).body with
  | some b => b.drop 2
  | none => []
/-- the law's rest, reckoned for i and j -/
def lw20 (P : Params) (i j : Int) : Option (Out × Sg) := run (K20 P) gd20 (oL20 P) 2000 (.ex (rest20 P)) ⟨[(Str.ofString "i", .int i), (Str.ofString "j", .int j)], (fd20 P).scope.names, []⟩ ⟨[], [], 0⟩
def isT (o : Option (Out × Sg)) : Bool := match o with
  | some (.f (.ret (.bool b), _), _) => b
  | _ => false
theorem isT_eq : ∀ {o : Option (Out × Sg)}, isT o = true → ∃ f g, o = some (.f (.ret (.bool true), f), g)
  | some (.f (.ret (.bool true), f), g), _ => ⟨f, g, rfl⟩
set_option maxRecDepth 100000 in
theorem ev00 (P : Params) : isT (lw20 P 0 0) = true := by kernel_rfl
set_option maxRecDepth 100000 in
theorem ev01 (P : Params) : isT (lw20 P 0 1) = true := by kernel_rfl
set_option maxRecDepth 100000 in
theorem ev02 (P : Params) : isT (lw20 P 0 2) = true := by kernel_rfl
set_option maxRecDepth 100000 in
theorem ev03 (P : Params) : isT (lw20 P 0 3) = true := by kernel_rfl
set_option maxRecDepth 100000 in
theorem ev04 (P : Params) : isT (lw20 P 0 4) = true := by kernel_rfl
set_option maxRecDepth 100000 in
theorem ev10 (P : Params) : isT (lw20 P 1 0) = true := by kernel_rfl
set_option maxRecDepth 100000 in
theorem ev11 (P : Params) : isT (lw20 P 1 1) = true := by kernel_rfl
set_option maxRecDepth 100000 in
theorem ev12 (P : Params) : isT (lw20 P 1 2) = true := by kernel_rfl
set_option maxRecDepth 100000 in
theorem ev13 (P : Params) : isT (lw20 P 1 3) = true := by kernel_rfl
set_option maxRecDepth 100000 in
theorem ev14 (P : Params) : isT (lw20 P 1 4) = true := by kernel_rfl
set_option maxRecDepth 100000 in
theorem ev20 (P : Params) : isT (lw20 P 2 0) = true := by kernel_rfl
set_option maxRecDepth 100000 in
theorem ev21 (P : Params) : isT (lw20 P 2 1) = true := by kernel_rfl
set_option maxRecDepth 100000 in
theorem ev22 (P : Params) : isT (lw20 P 2 2) = true := by kernel_rfl
set_option maxRecDepth 100000 in
theorem ev23 (P : Params) : isT (lw20 P 2 3) = true := by kernel_rfl
set_option maxRecDepth 100000 in
theorem ev24 (P : Params) : isT (lw20 P 2 4) = true := by kernel_rfl
set_option maxRecDepth 100000 in
theorem ev30 (P : Params) : isT (lw20 P 3 0) = true := by kernel_rfl
set_option maxRecDepth 100000 in
theorem ev31 (P : Params) : isT (lw20 P 3 1) = true := by kernel_rfl
set_option maxRecDepth 100000 in
theorem ev32 (P : Params) : isT (lw20 P 3 2) = true := by kernel_rfl
set_option maxRecDepth 100000 in
theorem ev33 (P : Params) : isT (lw20 P 3 3) = true := by kernel_rfl
set_option maxRecDepth 100000 in
theorem ev34 (P : Params) : isT (lw20 P 3 4) = true := by kernel_rfl
set_option maxRecDepth 100000 in
theorem ev40 (P : Params) : isT (lw20 P 4 0) = true := by kernel_rfl
set_option maxRecDepth 100000 in
theorem ev41 (P : Params) : isT (lw20 P 4 1) = true := by kernel_rfl
set_option maxRecDepth 100000 in
theorem ev42 (P : Params) : isT (lw20 P 4 2) = true := by kernel_rfl
set_option maxRecDepth 100000 in
theorem ev43 (P : Params) : isT (lw20 P 4 3) = true := by kernel_rfl
set_option maxRecDepth 100000 in
theorem ev44 (P : Params) : isT (lw20 P 4 4) = true := by kernel_rfl
theorem all5 {p : Int → Bool} (h0 : p 0 = true) (h1 : p 1 = true) (h2 : p 2 = true) (h3 : p 3 = true) (h4 : p 4 = true) {j : Int} (hj : 0 ≤ j ∧ j < 5) : p j = true := by
  have : j = 0 ∨ j = 1 ∨ j = 2 ∨ j = 3 ∨ j = 4 := by omega
  rcases this with rfl | rfl | rfl | rfl | rfl <;> assumption
theorem lw_all (P : Params) {i j : Int} (hi : 0 ≤ i ∧ i < 5) (hj : 0 ≤ j ∧ j < 5) : isT (lw20 P i j) = true := by
  have : i = 0 ∨ i = 1 ∨ i = 2 ∨ i = 3 ∨ i = 4 := by omega
  rcases this with rfl | rfl | rfl | rfl | rfl
  · exact all5 (p := fun j => isT (lw20 P 0 j)) (ev00 P) (ev01 P) (ev02 P) (ev03 P) (ev04 P) hj
  · exact all5 (p := fun j => isT (lw20 P 1 j)) (ev10 P) (ev11 P) (ev12 P) (ev13 P) (ev14 P) hj
  · exact all5 (p := fun j => isT (lw20 P 2 j)) (ev20 P) (ev21 P) (ev22 P) (ev23 P) (ev24 P) hj
  · exact all5 (p := fun j => isT (lw20 P 3 j)) (ev30 P) (ev31 P) (ev32 P) (ev33 P) (ev34 P) hj
  · exact all5 (p := fun j => isT (lw20 P 4 j)) (ev40 P) (ev41 P) (ev42 P) (ev43 P) (ev44 P) hj
section
variable {w : World} {p : Program} {loose : List Str} {mean : ExcName → Option Value} {mg mb : Str → Option Value}
set_option maxRecDepth 100000 in
theorem o20_ok : OrcOK (G20 w p loose mean mg mb) (oL20 w.params) 160 := by
  refine orcL_ok (Γ := G20 w p loose mean mg mb) (ft_bind20 w.params) (msO_ok (Γ := G20 w p loose mean mg mb) (at0 := at20) (fun x tb ts tm tk news hx dp un gd fenv outer A₀ base h₀ L m s R f1 f2 B F X => ms_ctr2 mb_ctr x tb ts tm tk news hx dp un gd fenv outer A₀ base h₀ L m s R f1 f2 B F (k20_in.mp X)) fun i a h => ?_) 8
  have h' : (match iq 120 i with | true => some (blkA 120 2363233923) | false => (match iq 121 i with | true => some (blkA 121 4225443349) | false => none)) = some a := h
  cases e1 : iq 120 i with
  | true =>
    rw [e1] at h'
    cases h'
    exact ⟨120, .inl rfl, of_decide_eq_true e1, rfl⟩
  | false =>
    rw [e1] at h'
    cases e2 : iq 121 i with
    | true =>
      rw [e2] at h'
      cases h'
      exact ⟨121, .inr rfl, of_decide_eq_true e2, rfl⟩
    | false => rw [e2] at h'; cases h'
set_option maxRecDepth 100000 in
theorem law_rest {A : Around} {env : Env} {h₀ : Heap} {L : Addr} {h : Heap} {tk : Nat} {m : Str → Option Value} {s : Shared} {Q : Flow → Shared → Prop} {E : Value → Shared → Prop} {b : List Stmt} {i j : Int} {ti tj : Tok}
    (F : Fr h₀ L h m) (N : News h₀ L h []) (C : RCx (G20 w p loose mean mg mb) 161 ⟨A, env, env, h₀, L, [], E, none⟩) (hE : PassesOwn (model PySem.Challenge.rw_ui0507_20.row.prog w) A env E)
    (hb : b = rest20 w.params) (hs : env.scope.names = (fd20 w.params).scope.names) (hli : isLoc (fd20 w.params).scope.names (Str.ofString "i") = true) (hlj : isLoc (fd20 w.params).scope.names (Str.ofString "j") = true)
    (mi : m (Str.ofString "i") = some (.int i ti)) (mj : m (Str.ofString "j") = some (.int j tj)) (hi : 0 ≤ i ∧ i < 5) (hj : 0 ≤ j ∧ j < 5)
    (ok : ∀ m' h' tk' g', Fr h₀ L h' m' → GRow s.gens g' → Q (.ret (.bool true)) { s with heap := h', gens := g', toks := tk' }) :
    wpAny (model PySem.Challenge.rw_ui0507_20.row.prog w) A (execs b env) Q E { s with heap := h, toks := tk } := by
  subst hb
  obtain ⟨f', g', e⟩ := isT_eq (lw_all w.params hi hj)
  refine run_ok (Γ := G20 w p loose mean mg mb) o20_ok 2000 2000 (Nat.le_refl _) _ _ _ _ _ e ⟨A, env, env, h₀, L, [], E, none⟩ m ⟨[], [], h, tk, s.gens⟩ s Q C rfl hE ⟨fun x v hx => ?_, hs, fun x k hx => by cases hx⟩ ⟨F, N, Led.bare⟩ fun FL M' z' ex r _ H => ?_
  · have hx' : look [(Str.ofString "i", SV.int i), (Str.ofString "j", .int j)] x = some v := hx
    rw [look_cons] at hx'
    by_cases q : Str.ofString "i" = x
    · rw [if_pos q] at hx'
      cases hx'
      subst q
      exact ⟨hli, _, mi, _, rfl⟩
    · rw [if_neg q, look_cons] at hx'
      by_cases q : Str.ofString "j" = x
      · rw [if_pos q] at hx'
        cases hx'
        subst q
        exact ⟨hlj, _, mj, _, rfl⟩
      · rw [if_neg q] at hx'; cases hx'
  · obtain ⟨V, rfl, hV⟩ := r
    have hV' : V = .bool true := hV
    subst hV'
    exact ok M' z'.h z'.tk z'.g H.F ex.gr
end
theorem fm5 (x : Int) : 0 ≤ x.fmod 5 ∧ x.fmod 5 < 5 := by
  have h := Int.fmod_nonneg_of_pos x (b := 5) (by decide)
  have h2 := Int.fmod_lt_of_pos x (b := 5) (by decide)
  exact ⟨h, h2⟩
set_option maxRecDepth 100000 in
theorem law_rest20 {w : World} {p : Program} {loose : List Str} {mean : ExcName → Option Value} {mg mb : Str → Option Value} {nm : Str} {sc : Scope} {f : Addr} {cd : Value} {h₀ : Heap} {L : Addr} {h : Heap} {tk : Nat} {m : Str → Option Value} {s : Shared} {Q : Flow → Shared → Prop} {E : Value → Shared → Prop} {b : List Stmt} {i j : Int} {ti tj : Tok}
    (F : Fr h₀ L h fun y => if y = Str.ofString "j" then some (.int (j.fmod 5) tj) else if y = Str.ofString "i" then some (.int (i.fmod 5) ti) else m y) (N : News h₀ L h []) (B : Below callerA h₀ [] h₀) (X : (hd.heap_1 w.params).In h₀) (T : Top p loose mean mg mb h₀) (hk : sc.kind = .function) (hE : PassesOwn (model PySem.Challenge.rw_ui0507_20.row.prog w) (callerA.deeper (envOf nm sc L f cd)) (envOf nm sc L f cd) E)
    (hb : b = rest20 w.params) (hs : sc.names = (fd20 w.params).scope.names) (hli : isLoc (fd20 w.params).scope.names (Str.ofString "i") = true) (hlj : isLoc (fd20 w.params).scope.names (Str.ofString "j") = true)
    (ok : ∀ m' h' tk' g', Fr h₀ L h' m' → GRow s.gens g' → Q (.ret (.bool true)) { s with heap := h', gens := g', toks := tk' }) :
    wpAny (model PySem.Challenge.rw_ui0507_20.row.prog w) (callerA.deeper (envOf nm sc L f cd)) (execs b (envOf nm sc L f cd)) Q E { s with heap := h, toks := tk } :=
  law_rest F N ⟨⟨rfl, ⟨[], callerA, h₀, rfl, B⟩, rfl, hk, (by show (callerA.deeper _).depth + _ < _; rw [depth_deeper]; decide), (by show (callerA.deeper _).units + _ < _; rw [units_deeper]; decide), k20_in.mpr X, T, fun a h => gd20_K h⟩, hk, rfl, rfl, fun _ => rfl, fun _ e => nomatch e⟩ hE hb hs hli hlj ((if_neg (by decide +kernel)).trans (if_pos rfl)) (if_pos rfl) (fm5 i) (fm5 j) ok
end
end Mine
set_option maxRecDepth 100000 in
set_option maxHeartbeats 8000000 in
theorem PySem.Challenge.cw_ui0507_20_holds : PySem.Challenge.rw_ui0507_20.Holds :=
  Mine.hd (by
  k_with_none
  k_with "mine nd" => (first | assumption | exact Nat.ne_of_lt (by with_reducible assumption) | exact Nat.ne_of_gt (by with_reducible assumption) | exact Nat.ne_of_lt (And.left (by with_reducible assumption)) | exact Nat.ne_of_gt (And.left (by with_reducible assumption)) | exact Nat.ne_of_lt (And.left (And.right (by with_reducible assumption))) | exact Nat.ne_of_gt (And.left (And.right (by with_reducible assumption))) | exact Nat.ne_of_lt (And.left (And.right (And.right (by with_reducible assumption)))) | exact Nat.ne_of_gt (And.left (And.right (And.right (by with_reducible assumption)))) | exact Nat.ne_of_lt (And.left (And.right (And.right (And.right (by with_reducible assumption))))) | exact Nat.ne_of_gt (And.left (And.right (And.right (And.right (by with_reducible assumption))))) | exact Nat.ne_of_lt (And.left (And.right (And.right (And.right (And.right (by with_reducible assumption)))))) | exact Nat.ne_of_gt (And.left (And.right (And.right (And.right (And.right (by with_reducible assumption)))))) | exact Nat.ne_of_lt (And.left (And.right (And.right (And.right (And.right (And.right (by with_reducible assumption))))))) | exact Nat.ne_of_gt (And.left (And.right (And.right (And.right (And.right (And.right (by with_reducible assumption))))))) | exact Nat.ne_of_lt (And.left (And.right (And.right (And.right (And.right (And.right (And.right (by with_reducible assumption)))))))) | exact Nat.ne_of_gt (And.left (And.right (And.right (And.right (And.right (And.right (And.right (by with_reducible assumption)))))))) | exact Nat.ne_of_lt (And.left (And.right (And.right (And.right (And.right (And.right (And.right (And.right (by with_reducible assumption))))))))) | exact Nat.ne_of_gt (And.left (And.right (And.right (And.right (And.right (And.right (And.right (And.right (by with_reducible assumption))))))))) | exact Nat.ne_of_lt (And.left (And.right (And.right (And.right (And.right (And.right (And.right (And.right (And.right (by with_reducible assumption)))))))))) | exact Nat.ne_of_gt (And.left (And.right (And.right (And.right (And.right (And.right (And.right (And.right (And.right (by with_reducible assumption)))))))))) | k_ne)
  k_with "mine rm" => (first | with_reducible assumption | (refine' Mine.rmN ?rh_zs1 ?re_zs1; (case rh_zs1 => with_reducible assumption); (case re_zs1 => decide)) | (refine Mine.rm0 ?_; with_reducible assumption) | ((simp only [units_in1, units_deeper, units_under_make, Around.mark_units, units_caller, depth_in1, depth_deeper, depth_under_make, depth_caller, Nat.add_assoc]); first | with_reducible assumption | (refine' Mine.rmN ?rg_zs1 ?rf_zs1; (case rg_zs1 => with_reducible assumption); (case rf_zs1 => decide)) | (refine Mine.rm0 ?_; with_reducible assumption)) | ktr_room | ktr_units)
  k_with "mine om" => (first | with_reducible assumption | (refine' Mine.leN ?oh_zs2 ?oe_zs2; (case oh_zs2 => with_reducible assumption); (case oe_zs2 => decide)) | omega)
  k_with "mine ne" => ((try dsimp only); first | (walk_at "mine nd") | (refine Ne.symm ?_; assumption))
  k_with "mine off" => first | exact List.forall_mem_nil _ | assumption | exact Mine.off_lt (by assumption) | exact Mine.off_gt (by assumption) | (refine' List.forall_mem_cons.mpr ⟨?a_z1, ?b_z1⟩; (case a_z1 => walk_at "mine ne"); (case b_z1 => walk_at "mine off")) | (refine' List.forall_mem_append.mpr ⟨?a_z1, ?b_z1⟩; (case a_z1 => walk_at "mine off"); (case b_z1 => walk_at "mine off"))
  k_with "mine upd" => first | (refine' Upd.head ?a_z2; (case a_z2 => walk_at "mine off")) | (refine' Upd.tail ?a_z2 ?b_z2; (case a_z2 => walk_at "mine ne"); (case b_z2 => walk_at "mine upd"))
  k_with "mine size" => ((try law_lens); (simp only [List.size_toArray, Array.size_push, Array.size_append, List.length_append, List.length_cons, List.length_nil, List.length_take, List.length_drop, List.length_replicate, sizeLine_eq]); omega)
  k_with "call builtin:list.append" => (k_here; (with_reducible show wpAny _ _ (call (Value.builtin "list.append") [Value.ref _, _]) _ _ _); k_dflt (refine' append_K ?k1_z4 ?k2_z4 ?k3_z4 ?_ ?z_z4; (case k1_z4 => k_asm); (case k2_z4 => k_asm); (case k3_z4 => walk_at "mine upd"); (case z_z4 => walk_at "mine size"); k_whole); intro h' F' N'; (try k_sweep))
  k_with "mine updF" => first | (refine' UpdF.head ?a_z5; (case a_z5 => walk_at "mine off")) | (refine' UpdF.tail ?a_z5 ?b_z5; (case a_z5 => walk_at "mine ne"); (case b_z5 => walk_at "mine updF"))
  k_with "call builtin:list.extend" => (k_here; (with_reducible show wpAny _ _ (call (Value.builtin "list.extend") [Value.ref _, Value.ref _]) _ _ _); k_dflt (refine' Mine.extend_U ?k1_z6 ?k2_z6 ?kb_z6 ?k3_z6 ?z_z6 ?_; (case k1_z6 => k_asm); (case k2_z6 => k_asm); (case kb_z6 => k_mem); (case k3_z6 => walk_at "mine updF"); (case z_z6 => walk_at "mine size"); k_whole); intro h' n' F' N'; (try dsimp only at N'); (try k_sweep))
  k_with "mine upd" => first | (refine' Upd.head ?a_z7; (case a_z7 => walk_at "mine off")) | (refine' Upd.tail ?a_z7 ?b_z7; (case a_z7 => walk_at "mine ne"); (case b_z7 => walk_at "mine upd")) | (refine' Mine.upd_app ?a_z7 ?b_z7; (case a_z7 => first | with_reducible assumption | exact Mine.off_kL (by with_reducible assumption)); (case b_z7 => walk_at "mine upd"))
  k_with "mine off" => first | exact List.forall_mem_nil _ | assumption | exact Mine.off_lt (by assumption) | exact Mine.off_gt (by assumption) | exact Mine.off_allLt (And.right (by assumption)) | (refine' List.forall_mem_cons.mpr ⟨?a_z8, ?b_z8⟩; (case a_z8 => walk_at "mine ne"); (case b_z8 => walk_at "mine off")) | (refine' List.forall_mem_append.mpr ⟨?a_z8, ?b_z8⟩; (case a_z8 => walk_at "mine off"); (case b_z8 => walk_at "mine off"))
  k_with "mine enter" => (refine' code_def ?k1_z9 ?k2_z9 ?k3_z9 ?k4_z9 ?k5_z9 ?kA_z9 ?kF_z9 ?kK_z9 ?k6_z9 ?k7_z9 ?k8_z9 ?k9_z9 ?kB_z9 ?_ ?c2_z9 ?c3_z9 ?c4_z9 ?c5_z9; (case kA_z9 => exact rfl); (case kF_z9 => exact rfl); (case kK_z9 => first | assumption | exact rfl); (case k1_z9 => k_asm); (case k2_z9 => k_asm); (case k3_z9 => k_asm); (case k4_z9 => k_asm); (case k5_z9 => k_asm); (case k6_z9 => k_is); (case k7_z9 => k_is); (case k8_z9 => walk_at "mine rm"); (case k9_z9 => first | exact Mine.bz (BindsTo.of_eq rfl) (by with_unfolding_all rfl) | exact BindsTo.of_eq rfl | exact binds_K (by k_in) rfl (by k_is) rfl rfl rfl); (case c5_z9 => decide); (case kB_z9 => exact locs rfl); (case c2_z9 => exact rfl); (case c3_z9 => exact rfl); (case c4_z9 => exact rfl); k_whole; intro g' L' h' FG' F' N' B' X' T'; (try dsimp only); (try k_lift B'); (try k_fold))
  k_with "mine bnd" => first | with_reducible assumption | omega
  k_with "call builtin:len" => (k_here; (with_reducible show wpAny _ _ (call (Value.builtin "len") [Value.ref _]) _ _ _); k_dflt (refine' Mine.len_at ?N_z11 ?m_z11 ?v_z11 ?z_z11 ?_; (case N_z11 => k_asm); (case m_z11 => kcf_m); (case v_z11 => with_reducible assumption); (case z_z11 => walk_at "mine om"); k_whole); intro t9 k9)
  k_with "subscriptTail" => (k_here; (with_reducible show wpAny _ _ (subscriptTail _ _ (Value.ref _) (Value.int _ _)) _ _ _); k_dflt (refine' Mine.item_at ?N_z12 ?m_z12 ?v_z12 ?h0_z12 ?h1_z12 ?h2_z12 ?_; (case N_z12 => k_asm); (case m_z12 => kcf_m); (case v_z12 => with_reducible assumption); (case h0_z12 => walk_at "mine om"); (case h1_z12 => walk_at "mine om"); (case h2_z12 => walk_at "mine om"); k_whole); intro t9)
  k_with "mine room" => first | (walk_at "mine rm") | ((simp only [units_in1, units_deeper, units_under_make, Around.mark_units, units_caller]); first | decide | omega)
  k_with "newTuple" => (k_here; k_dflt (refine' kup_newTuple ?F_z14 ?N_z14 ?_ ?z_z14; (case F_z14 => k_asm); (case N_z14 => k_asm); (case z_z14 => kmk_size)); intro D' h' F' N' l1; (try k_lt l1); (try k_sweep))
  k_with "call type:list" => (k_here; (with_reducible show wpAny _ _ (call (Value.type "list") [Value.bytes _ _]) _ _ _); k_dflt (refine' Mine.list_B ?hh_z15 ?F_z15 ?N_z15 ?b_z15 ?z_z15 ?_; (case hh_z15 => exact rfl); (case F_z15 => k_asm); (case N_z15 => k_asm); (case b_z15 => with_reducible assumption); (case z_z15 => walk_at "mine om"); k_whole); intro D' c9 h' tk9 vs9 F' N' l1 i1; (try k_lt l1))
  k_with "execs cons Assign cons" => (k_here; (with_reducible show wpAny _ _ (execs (Stmt.Assign _ (Expr.Call _ _ _ _) _ :: Stmt.For _ _ _ _ _ :: _) _) _ _ _); ((with_unfolding_all refine' Mine.law_rest20 ?F_z16 ?N_z16 ?B_z16 ?X_z16 ?T_z16 ?hk_z16 ?hE_z16 ?hb_z16 ?hs_z16 ?hli_z16 ?hlj_z16 ?ok_z16)); (case F_z16 => assumption); (case T_z16 => exact T); (case N_z16 => assumption); (case B_z16 => exact K0); (case X_z16 => exact KX); (case hk_z16 => exact rfl); (case hE_z16 => passes_own); (case hb_z16 => kernel_rfl); (case hs_z16 => kernel_rfl); (case hli_z16 => kernel_rfl); (case hlj_z16 => kernel_rfl); (case' ok_z16 => (intro m9 h9 t9 g9 F9 hG9; (try k_unfold); (try dsimp only))))
  w_strict (k_fill; (intro w s₀ s₁ mg mb G Y fa o pm cd doc dV kV ho hd hcd hD hmg hg args vals as hpre hlay hrd hwl hlo); (have KX := kIn_of Y); (have X := (Ground.X G).1); (have V := (Ground.X G).2); (try w_nolog (have GL := glob_more (Ground.glob G (by decide +kernel) (by decide +kernel)) V)); (refine Ground.open G ?_); (intro T B D TE TW); (try (refine guard_noD D (by decide +kernel) ?_; clear D)); (obtain ⟨_, _, M⟩ := bmod_of_top T); (have TA := at_of_top T); (try (obtain ⟨_, _, he, B0⟩ := based_of_top T rfl hmg ho hd; have he' : cd = _ := he; subst he'; clear he)); clear hmg; (wrow_args hpre hlay hrd hwl hlo); (all_goals ((first | refine callC_kw (enter_call ?_) | refine enter_call ?_ | refine callC_kw (enter_callW ?_) | refine enter_callW ?_ | w_how); w_top on; (have K0 := below_caller (Top.heap T)); w_call any ho hd hcd hD T F; clear hd TA; k_drop; skip)); (all_goals try k_fold); (repeat' (first | (k_unfold; (try dsimp only)) | (k_end; wrow_close) | (walk1; (all_goals (try dsimp only))) | (dsimp only; walk1) | (leave1; (try dsimp only)) | fail "no step")); (all_goals (first | exact absurd rfl (by with_reducible assumption) | exact Mine.l_close (by with_reducible assumption) rfl hg hG9 (Mine.GRow.refl _) rfl (fun _ => rfl) (by first | rfl | wrow_post)))))
