import PyProof.Rows.All
import Wide.All
import OpenK.AllK
import Wide.FinOn
import Open.Tops
import PySem.Challenge.RW_ui0507_15
open PySem PySem.W PyProof.Rows PySem.Spec PySem.Calls
set_option Elab.async false
set_option compiler.extract_closed false
set_option maxRecDepth 100000
namespace Mine
set_option maxHeartbeats 0 in
open_shared Pre for PySem.Challenge.rw_ui0507_15.row.prog leaving 16
def entS (P : Params) (x : String) (t : Nat) (v : Value) : DictEntry := ⟨PyData.keyHash P (Str.ofString x), .str (Str.ofString x) t, v⟩
def tup0 : Obj := ⟨.type "tuple", none, .seq #[] 0, #[]⟩
def insL : BT → Nat → List Obj → BT
  | T, _, [] => T
  | T, n, o :: r => insL (T.ins n o) (n + 1) r
def shr (T : BT) (n tok : Nat) (os : OsState) : SharedT := { tree := T, n := n, life := { }, gens := { toList := [] }, drawn := { }, toks := tok, os := os }
noncomputable def st3 : List Stmt := [(PySem.Challenge.pw_ui0507_15.main.body)[11]!]
noncomputable def st0 (P : Params) (os : OsState) : SharedT := shr (Pre.tree_88 P) 85 292 os
noncomputable def thr0 (b : List Stmt) : Thread := piecesOf st3 Pre.env_1 (Code.body b Pre.env_1) { line := 27, col := 0, endLine := 37, endCol := 16 } [topFrame { line := 0, col := 0, endLine := 0, endCol := 0 }]
noncomputable def goW (p : Program) (w : World) (n : Nat) (s : SharedT) (t : Thread) : Option (SharedT × Thread) := PySem.W.Fast.tw10295753902157049106 PySem.W.Fast.tw14364793385576792824 p w 11 (some (Value.ref 6)) 1 n s t
theorem goW_eq {p : Program} {w : World} {n : Nat} {s : SharedT} {t : Thread} : segGoT treeTable p w 11 (some (Value.ref 6)) 1 n s t = goW p w n s t := by
  unfold goW
  rw [← PySem.W.Fast.te10295753902157049106, ← PySem.W.Fast.te14364793385576792824]
noncomputable def wF (w : World) : World := w.withFollow "special-get-raises" false
noncomputable def wT (w : World) : World := w.withFollow "special-get-raises" true
noncomputable def shV (v : Int) : Int := if (1 : Int) ≥ (Builtin.Int.intBits v : Int) then (if v < 0 then -1 else 0) else v.fdiv (2 ^ (1 : Int).toNat)
noncomputable def puV (v : Int) : Int := if Builtin.bitAnd v 1 = 1 then Builtin.bitXor (shV v) 3988292384 else shV v
noncomputable def puK (v : Int) (k : Nat) : Nat := if Builtin.bitAnd v 1 = 1 then k + 8 else k + 7
noncomputable def it : Nat → Int → Nat → Value → Int → Nat → Int × Nat × Value × Nat
  | 0, v, t, kv, _, k => (v, t, kv, k)
  | n + 1, v, _, _, j, k => it n (puV v) (puK v k - 2) (.int j k) (j + 1) (puK v k)
noncomputable def tkV (v : Value) : Nat := match v with | .int _ t => t | _ => 0
noncomputable def sq : Nat → Nat × Nat
  | 0 => (299, 0)
  | b + 1 => ((it 8 b 0 .none 0 ((sq b).1 + 3)).2.2.2 + 3, tkV (it 8 b 0 .none 0 ((sq b).1 + 3)).2.2.1)
noncomputable def tk (b : Nat) : Nat := (sq b).1
noncomputable def rw8 (b : Nat) : Int × Nat × Value × Nat := it 8 b 0 .none 0 (tk b + 3)
noncomputable def rwV (b : Nat) : Value := .int (rw8 b).1 (rw8 b).2.1
noncomputable def rwL : Nat → List Value
  | 0 => []
  | b + 1 => rwL b ++ [rwV b]
noncomputable def lc0 (P : Params) : Obj := ⟨.type "frame", none, .dict #[entS P "table" 292 (.ref 86), entS P "byte" 297 (.int 0 296), entS P "value" 298 (.int 0 296)] 3, #[]⟩
noncomputable def ls (b : Nat) : Obj := ⟨.type "list", none, .seq (rwL b).toArray b, #[]⟩
noncomputable def rng (a e s : Nat) (x : Int) : Obj := ⟨.type "range", none, .fields #[.int 0 a, .int x e, .int 1 s], #[]⟩
noncomputable def rg (r : Nat) : Obj := rng r (r - 1) (r + 1) 8
noncomputable def r256 : Obj := rng 294 293 295 256
noncomputable def rit (x y : Int) : Obj := ⟨.type "range_iterator", none, .fields #[.int x 0, .int y 0, .int 1 0], #[]⟩
noncomputable def oi (b : Nat) : Obj := rit ((b : Int) + 1) (255 - (b : Int))
noncomputable def se (a : Nat) : Obj := ⟨.type "StopIteration", none, .fields #[.ref a, .none, .none, .none, .bool false, .none], #[]⟩
noncomputable def gO (x r : Nat) : Obj := bif Nat.beq r 0 then rg (tk x + 1) else bif Nat.beq r 1 then rit 8 0 else bif Nat.beq r 2 then tup0 else se (91 + 4 * x)
noncomputable def fF (k : Nat) : Obj := gO (k / 4) (k % 4)
noncomputable def cF (i : Nat) : Obj := if i < 89 then default else fF (i - 89)
noncomputable def thrA (p : Program) (w : World) (b : List Stmt) (os : OsState) : Thread := match goW p (wF w) 92 (st0 w.params os) (thr0 b) with | some r => r.2 | none => thr0 b
noncomputable def lcE (P : Params) : Obj := ⟨.type "frame", none, .dict #[entS P "table" 292 (.ref 86), entS P "byte" 297 (.int 255 17124), entS P "value" 298 (.int 755167117 17190), entS P "k" 303 (.int 7 17185)] 4, #[]⟩
noncomputable def cztF (f : Nat → Obj) : Nat → BT
  | 0 => .nil
  | d + 1 => .node (f 0) (cztF (fun i => f (2 * i + 1)) d) (cztF (fun i => f (2 * i + 2)) d)
noncomputable def bnd : BT → Nat → Bool
  | .nil, _ => true
  | .node _ l r, n => Nat.blt 0 n && (bnd l (n / 2) && bnd r ((n - 1) / 2))
noncomputable def rowL : List Value := rwL 256
def addEnt (o : Obj) (e : DictEntry) : Obj := match o with
  | ⟨c, d, .dict es n, sl⟩ => ⟨c, d, .dict (es.push e) (n + 1), sl⟩
  | o => o
noncomputable def gE (P : Params) : Obj := addEnt (Pre.o_53 P) (entS P "_TABLE" 17192 (.ref 86))
noncomputable def tz (P : Params) : BT := insL (Pre.tree_88 P) 85 [tup0, tup0, r256, tup0]
noncomputable def tb3 (P : Params) (x y z : Obj) : BT := (((tz P).set 85 fun _ => x).set 86 fun _ => y).set 88 fun _ => z
noncomputable def hotc (A : Nat) (h : List Obj) (c : Nat → Obj) : Nat → Obj := fun i => if A ≤ i then h.getD (i - A) default else c i
noncomputable def tE (P : Params) : BT := cztF (fun i => (((tb3 P (lcE P) (ls 256) (rit 256 0)).set 3 fun _ => gE P).get i).getD (hotc (4 * 255 + 89) [rg (tk 255 + 1), rit 8 0, tup0, se (4 * 255 + 91), tup0, se 1113] cF i)) 11
noncomputable def sE (P : Params) (os : OsState) : SharedT := shr (tE P) 1115 17193 os
noncomputable def st4 : List Stmt := (PySem.Challenge.pw_ui0507_15.main.body).drop 12
noncomputable def runW (p : Program) (w : World) (n : Nat) (s : SharedT) (t : Thread) : Option (Flow × SharedT × Code × Pos) := PySem.W.Fast.tw10110043849684766642 PySem.W.Fast.tw14364793385576792824 p w 11 (some (Value.ref 6)) 1 n s t
theorem runW_eq {p : Program} {w : World} {n : Nat} {s : SharedT} {t : Thread} : segRunT treeTable p w 11 (some (Value.ref 6)) 1 n s t = runW p w n s t := by
  unfold runW
  rw [← PySem.W.Fast.te10110043849684766642, ← PySem.W.Fast.te14364793385576792824]
noncomputable def thr4 (b : List Stmt) : Thread := piecesOf st4 Pre.env_1 (Code.body b Pre.env_1) { line := 38, col := 0, endLine := 38, endCol := 6 } [topFrame { line := 0, col := 0, endLine := 0, endCol := 0 }]
def wP (P : Params) : World := { draws := fun _ _ => 0, params := P }
noncomputable def tF (P : Params) : BT := match runW PySem.Challenge.pw_ui0507_15 (wF (wP P)) 513 (sE P {}) (thr4 []) with | some r => r.2.1.tree | none => tE P
noncomputable def sF (P : Params) (os : OsState) : SharedT := shr (tF P) 1206 17339 os
theorem rest (p : Program) (w : World) (b : List Stmt) (os : OsState) : runW p (wF w) 513 (sE w.params os) (thr4 b) = some (.next, sF w.params os, Code.body b Pre.env_1, { line := 106, col := 0, endLine := 114, endCol := 38 }) ∧ runW p (wT w) 513 (sE w.params os) (thr4 b) = some (.next, sF w.params os, Code.body b Pre.env_1, { line := 106, col := 0, endLine := 114, endCol := 38 }) := ⟨by kernel_rfl, by kernel_rfl⟩
theorem run1 {p : Program} {w : World} {n : Nat} {s s' : SharedT} {t : Thread} {f : Flow} {c : Code} {q : Pos} (h : runW p w n s t = some (f, s', c, q)) : segRun treeTable p w 11 (some (Value.ref 6)) 1 n s.abs t = some (f, s'.abs, c, q) := segRun_of (runW_eq.trans h)
theorem run2 {p : Program} {w : World} {n : Nat} {s s' : SharedT} {t : Thread} {f : Flow} {c : Code} {q : Pos} (hF : runW p (wF w) n s t = some (f, s', c, q)) (hT : runW p (wT w) n s t = some (f, s', c, q)) : segRun treeTable p w 11 (some (Value.ref 6)) 1 n s.abs t = some (f, s'.abs, c, q) := by
  refine run1 ?_
  have e := World.withFollow_self w "special-get-raises"
  cases h : w.params.followText "special-get-raises" with
  | false => rw [h] at e; unfold wF at hF; rw [e] at hF; exact hF
  | true => rw [h] at e; unfold wT at hT; rw [e] at hT; exact hT
noncomputable def fh (f : Nat → Obj) (n : Nat) : Heap := ⟨((List.range n).map f).toArray, {}⟩
theorem fh_at (f : Nat → Obj) (n a : Nat) : (fh f n).objs[a]? = if a < n then some (f a) else none := by
  unfold fh
  rw [List.getElem?_toArray, List.getElem?_map]
  by_cases h : a < n
  · rw [List.getElem?_range h, if_pos h]; rfl
  · rw [List.getElem?_eq_none (by rw [List.length_range]; exact Nat.le_of_not_lt h), if_neg h]; rfl
theorem fh_size (f : Nat → Obj) (n : Nat) : (fh f n).objs.size = n := by
  unfold fh
  rw [List.size_toArray, List.length_map, List.length_range]
theorem alive_q (o : Option Obj) : (match o with | some ⟨_, _, .freed, _⟩ => none | o => o) = o.bind alive := by
  cases o with
  | none => rfl
  | some o => obtain ⟨c, d, dt, sl⟩ := o; cases dt <;> rfl
theorem fh_get {f : Nat → Obj} {n a : Nat} (h : a < n) : (fh f n).get? a = alive (f a) := by
  refine (alive_q _).trans ?_
  rw [fh_at, if_pos h]; rfl
theorem fh_none {f : Nat → Obj} {n a : Nat} (h : n ≤ a) : (fh f n).get? a = none := by
  refine (alive_q _).trans ?_
  rw [fh_at, if_neg (Nat.not_lt.mpr h)]; rfl
theorem fh_ext {f g : Nat → Obj} {n : Nat} (h : ∀ i, i < n → f i = g i) : fh f n = fh g n := by
  unfold fh
  rw [List.map_congr_left (fun i hi => h i (List.mem_range.mp hi))]
noncomputable def up (f : Nat → Obj) (a : Nat) (o : Obj) : Nat → Obj := fun i => if i = a then o else f i
theorem up_self {f : Nat → Obj} {a : Nat} {o : Obj} : up f a o a = o := if_pos rfl
theorem up_ne {f : Nat → Obj} {a i : Nat} {o : Obj} (h : i ≠ a) : up f a o i = f i := if_neg h
theorem fh_set {f : Nat → Obj} {n a : Nat} {g : Obj → Obj} : (fh f n).update a g = fh (up f a (g (f a))) n := by
  refine congrArg (Heap.mk · {}) (Array.ext_getElem? fun i => ?_)
  show ((fh f n).objs.modify a g)[i]? = (fh _ n).objs[i]?
  rw [Array.getElem?_modify, fh_at, fh_at]
  by_cases e : a = i
  · subst e
    rw [if_pos rfl, up_self]
    by_cases h : a < n
    · rw [if_pos h, if_pos h]; rfl
    · rw [if_neg h, if_neg h]; rfl
  · rw [if_neg e, up_ne (Ne.symm e)]
theorem fh_push {f : Nat → Obj} {n : Nat} {o : Obj} : (fh f n).push o = fh (up f n o) (n + 1) := by
  refine congrArg (Heap.mk · {}) ?_
  show (((List.range n).map f).toArray.push o) = ((List.range (n + 1)).map (up f n o)).toArray
  rw [List.push_toArray, List.range_succ, List.map_append, List.map_congr_left (fun i hi => (up_ne (Nat.ne_of_lt (List.mem_range.mp hi))).symm)]
  show (_ ++ [o]).toArray = (_ ++ [up f n o n]).toArray
  rw [up_self]
noncomputable def hp (T : BT) (c : Nat → Obj) (n : Nat) : Heap := fh (fun i => (T.get i).getD (c i)) n
theorem hp_get {T : BT} {c : Nat → Obj} {n a : Nat} {o : Obj} (h : a < n) (g : T.get a = some o) : (hp T c n).get? a = alive o := by
  refine (fh_get h).trans ?_
  rw [g]; rfl
theorem hp_set {T : BT} {c : Nat → Obj} {n a : Nat} {o : Obj} {f : Obj → Obj} (g : T.get a = some o) : (hp T c n).update a f = hp (T.set a f) c n := by
  refine fh_set.trans (fh_ext fun i _ => ?_)
  rw [BT.get_set, g]
  by_cases e : i = a
  · subst e; rw [up_self, if_pos rfl]; rfl
  · rw [up_ne e, if_neg e]
def DomB (T : BT) (n : Nat) : Prop := ∀ a o, T.get a = some o → a < n
theorem DomB.set {T : BT} {n a : Nat} {f : Obj → Obj} (D : DomB T n) : DomB (T.set a f) n := by
  intro b o h
  rw [BT.get_set] at h
  by_cases e : b = a
  · subst e
    rw [if_pos rfl] at h
    cases g : T.get b with
    | none => rw [g] at h; cases h
    | some o' => exact D _ _ g
  · rw [if_neg e] at h; exact D _ _ h
noncomputable def heapy : Sem Fin → Bool
  | .load .. | .update .. | .alloc .. | .loadIfAlive .. => true
  | _ => false
theorem heapy_of {cur : Sem Fin} (h : heapy cur = true) : (∃ a q k, cur = .load a q k) ∨ (∃ a q f k, cur = .update a q f k) ∨ (∃ o k, cur = .alloc o k) ∨ ∃ a k, cur = .loadIfAlive a k := by
  cases cur with
  | load a q k => exact .inl ⟨a, q, k, rfl⟩
  | update a q f k => exact .inr (.inl ⟨a, q, f, k, rfl⟩)
  | alloc o k => exact .inr (.inr (.inl ⟨o, k, rfl⟩))
  | loadIfAlive a k => exact .inr (.inr (.inr ⟨a, k, rfl⟩))
  | _ => exact nomatch h
section
variable {den : Code → Sem Fin} {p : Program} {w : World} {H : Heap} {gens : Array GenState} {drawn : Drawn} {k : Nat} {os : OsState} {code : Code} {pos : Pos} {st : List Frame}
theorem step_load {a : Addr} {q : Option Value} {kk : Obj → Sem Fin} {o : Obj} (e : H.get? a = some o) : step den p w ⟨H, gens, drawn, k, os⟩ ⟨.load a q kk, code, pos, st⟩ = .go ⟨H, gens, drawn, k, os⟩ ⟨kk o, code, pos, st⟩ := by
  delta step; dsimp only; rw [e]
theorem step_update {a : Addr} {q : Option Value} {f : Obj → Obj} {kk : Unit → Sem Fin} {o : Obj} (e : H.get? a = some o) : step den p w ⟨H, gens, drawn, k, os⟩ ⟨.update a q f kk, code, pos, st⟩ = .go ⟨H.update a f, gens, drawn, k, os⟩ ⟨kk (), code, pos, st⟩ := by
  delta step; dsimp only; rw [e]; rfl
theorem stepT_else {T : BT} {n : Nat} {life : Life} {cur : Sem Fin} (h : heapy cur = false) : stepT den p w ⟨T, n, life, gens, drawn, k, os⟩ ⟨cur, code, pos, st⟩ = (match step den p w ⟨{}, gens, drawn, k, os⟩ ⟨cur, code, pos, st⟩ with
    | .go s' t' => some (⟨T, n, life, s'.gens, s'.drawn, s'.toks, s'.os⟩, t')
    | .halt _ _ => none) := by
  cases cur <;> first | rfl | cases h
theorem stepT_hp {T : BT} {c : Nat → Obj} {B n N : Nat} {life : Life} {cur : Sem Fin} {r : SharedT × Thread}
    (h : stepT den p w ⟨T, N, life, gens, drawn, k, os⟩ ⟨cur, code, pos, st⟩ = some r) (hn : n ≤ N) (hB : B ≤ n) :
    N ≤ r.1.n ∧ (r.1.n = N → DomB T B → step den p w ⟨hp T c n, gens, drawn, k, os⟩ ⟨cur, code, pos, st⟩ = .go ⟨hp r.1.tree c n, r.1.gens, r.1.drawn, r.1.toks, r.1.os⟩ r.2 ∧ DomB r.1.tree B) := by
  cases hh : heapy cur with
  | false =>
    rw [stepT_else hh] at h
    cases q : step den p w ⟨{}, gens, drawn, k, os⟩ ⟨cur, code, pos, st⟩ with
    | halt o s => rw [q] at h; cases h
    | go s₀ t₀ =>
      rw [q] at h; cases h
      exact ⟨Nat.le_refl _, fun _ D => ⟨step_heap (fun _ _ _ e => by rw [e] at hh; cases hh) (fun _ _ _ _ e => by rw [e] at hh; cases hh) (fun _ _ e => by rw [e] at hh; cases hh) (fun _ _ e => by rw [e] at hh; cases hh) q, D⟩⟩
  | true =>
    revert h
    rcases heapy_of hh with ⟨a, q, kk, rfl⟩ | ⟨a, q, f, kk, rfl⟩ | ⟨o, kk, rfl⟩ | ⟨a, kk, rfl⟩
    · delta stepT; dsimp only
      cases Nat.blt a N with
      | false => intro h; cases h
      | true =>
        dsimp only
        cases g : T.get a with
        | none => intro h; cases h
        | some o =>
          dsimp only
          cases al : alive o with
          | none => intro h; cases h
          | some o' =>
            intro h; cases h
            exact ⟨Nat.le_refl _, fun _ D => ⟨step_load ((hp_get (Nat.lt_of_lt_of_le (D a o g) hB) g).trans al), D⟩⟩
    · delta stepT; dsimp only
      cases Nat.blt a N with
      | false => intro h; cases h
      | true =>
        dsimp only
        cases g : T.get a with
        | none => intro h; cases h
        | some o =>
          dsimp only
          cases al : alive o with
          | none => intro h; cases h
          | some o' =>
            intro h; cases h
            exact ⟨Nat.le_refl _, fun _ D => ⟨hp_set (c := c) g ▸ step_update ((hp_get (Nat.lt_of_lt_of_le (D a o g) hB) g).trans al), D.set⟩⟩
    · delta stepT; dsimp only
      cases ((T.ins N o).get N).isSome with
      | false => intro h; cases h
      | true => intro h; cases h; exact ⟨Nat.le_succ _, fun e => absurd e (Nat.succ_ne_self _)⟩
    · delta stepT; dsimp only
      cases e1 : Nat.blt a N with
      | false =>
        intro h; cases h
        have lt : n ≤ a := Nat.le_trans hn (Nat.le_of_not_lt fun q => by rw [show Nat.blt a N = true from Nat.ble_eq_true_of_le q] at e1; cases e1)
        exact ⟨Nat.le_refl _, fun _ D => ⟨congrArg (fun x => Step.go _ ⟨kk x, code, pos, st⟩) (fh_none lt), D⟩⟩
      | true =>
        dsimp only
        cases g : T.get a with
        | none => intro h; cases h
        | some o =>
          intro h; cases h
          exact ⟨Nat.le_refl _, fun _ D => ⟨congrArg (fun x => Step.go _ ⟨kk x, code, pos, st⟩) (hp_get (Nat.lt_of_lt_of_le (D a o g) hB) g), D⟩⟩
end
section
variable {tb : String → Option Builtin} {p : Program} {w : World} {n₀ : Nat} {ann : Option Value} {b : Nat}
theorem sg_one {s s' : Shared} {t t' : Thread} {m : Nat} {r : Shared × Thread} (he : endAt b t = none) (hk : stepOk n₀ ann t = true) (hs : step (denote tb) p w s t = .go s' t') (h : segGo tb p w n₀ ann b m s' t' = some r) : segGo tb p w n₀ ann b (m + 1) s t = some r := by
  unfold segGo
  rw [he, hk, hs]; exact h
theorem segT_hp {c : Nat → Obj} {B n : Nat} (hB : B ≤ n) : ∀ {m : Nat} {T : BT} {N : Nat} {life : Life} {gens : Array GenState} {drawn : Drawn} {k : Nat} {os : OsState} {t : Thread} {s' : SharedT} {t' : Thread}, segGoT tb p w n₀ ann b m ⟨T, N, life, gens, drawn, k, os⟩ t = some (s', t') → n ≤ N →
    N ≤ s'.n ∧ (s'.n = N → DomB T B → segGo tb p w n₀ ann b m ⟨hp T c n, gens, drawn, k, os⟩ t = some (⟨hp s'.tree c n, s'.gens, s'.drawn, s'.toks, s'.os⟩, t') ∧ DomB s'.tree B)
  | 0, T, N, life, gens, drawn, k, os, t, s', t', h, hn => by cases h; exact ⟨Nat.le_refl _, fun _ D => ⟨rfl, D⟩⟩
  | m + 1, T, N, life, gens, drawn, k, os, ⟨cur, code, pos, st⟩, s', t', h, hn => by
    unfold segGoT at h
    cases he : endAt b ⟨cur, code, pos, st⟩ with
    | some x => rw [he] at h; cases h
    | none =>
      rw [he] at h
      cases hk : stepOk n₀ ann ⟨cur, code, pos, st⟩ with
      | false => rw [hk] at h; cases h
      | true =>
        rw [hk] at h
        cases hs : stepT (denote tb) p w ⟨T, N, life, gens, drawn, k, os⟩ ⟨cur, code, pos, st⟩ with
        | none => rw [hs] at h; cases h
        | some r =>
          rw [hs] at h
          have g1 := stepT_hp (c := c) hs hn hB
          have g2 := segT_hp (c := c) (T := r.1.tree) hB h (Nat.le_trans hn g1.1)
          exact ⟨Nat.le_trans g1.1 g2.1, fun e D => have l3 := Nat.le_antisymm (e ▸ g2.1) g1.1
            have q := g1.2 l3 D
            have q3 := g2.2 (e.trans l3.symm) q.2
            ⟨sg_one he hk q.1 q3.1, q3.2⟩⟩
theorem sg_app : ∀ {n m : Nat} {s s' : Shared} {t t' : Thread} {r : Shared × Thread}, segGo tb p w n₀ ann b n s t = some (s', t') → segGo tb p w n₀ ann b m s' t' = some r → segGo tb p w n₀ ann b (m + n) s t = some r
  | 0, m, s, s', t, t', r, h, k => by cases h; exact k
  | n + 1, m, s, s', t, t', r, h, k => by
    unfold segGo at h
    cases he : endAt b t with
    | some f => rw [he] at h; cases h
    | none =>
      rw [he] at h
      cases hk : stepOk n₀ ann t with
      | false => rw [hk] at h; cases h
      | true =>
        rw [hk] at h
        cases hs : step (denote tb) p w s t with
        | halt o s₂ => rw [hs] at h; cases h
        | go s₂ t₂ => rw [hs] at h; exact sg_one he hk hs (sg_app h k)
end
theorem end_no {b : Nat} {cur : Sem Fin} {c : Code} {p : Pos} {st : List Frame} (h : ∀ f, cur ≠ .pure f) : endAt b ⟨cur, c, p, st⟩ = none := by
  unfold endAt; dsimp only
  cases st.length == b
  · rfl
  · cases cur with
    | pure f => exact absurd rfl (h f)
    | _ => rfl
noncomputable def calmW (t : Thread) : Bool := PySem.W.Fast.tw2348191978395082540 t
theorem calmW_eq {t : Thread} : t.calm = calmW t := by
  unfold calmW
  rw [← PySem.W.Fast.te2348191978395082540]
noncomputable def hotS (A i : Nat) (h : List Obj) (t : Thread) : Option (List Obj × Thread × Nat) := match t.cur with
  | .load a _ k => h[i]?.bind fun o => (alive o).map fun o' => (h, ⟨k o', t.code, t.pos, t.stack⟩, a)
  | .update a _ f k => h[i]?.bind fun o => (alive o).map fun _ => (h.set i (f o), ⟨k (), t.code, t.pos, t.stack⟩, a)
  | .alloc o k => bif Nat.beq i h.length then some (h ++ [o], ⟨k (A + i), t.code, t.pos, t.stack⟩, A + i) else none
  | _ => none
noncomputable def runC (p : Program) (w : World) (A : Nat) : List Nat → List Obj → SharedT → Thread → Option (List Obj × SharedT × Thread × List (Nat × Nat))
  | [], h, s, t => some (h, s, t, [])
  | i :: r, h, s, t => bif Nat.ble 100 i then
      (goW p w (i - 100) s t).bind fun x => bif Nat.ble h.length 100 then bif Nat.beq x.1.n 1000000 then runC p w A r h x.1 x.2 else none else none
    else bif calmW t then
      (hotS A i h t).bind fun x => (runC p w A r x.1 s x.2.1).map fun y => (y.1, y.2.1, y.2.2.1, (x.2.2, A + i) :: y.2.2.2)
    else none
noncomputable def hots (A : Nat) : List Nat → List (Nat × Nat)
  | [] => []
  | i :: r => bif Nat.ble 100 i then hots A r else (A + i, A + i) :: hots A r
theorem hots_ok {A : Nat} : ∀ {l : List Nat} {e : Nat × Nat}, e ∈ hots A l → e.1 = e.2
  | i :: r, e, h => by
    unfold hots at h
    cases q : Nat.ble 100 i with
    | true => rw [q] at h; exact hots_ok h
    | false =>
      rw [q] at h
      rcases List.mem_cons.mp h with rfl | h
      · rfl
      · exact hots_ok h
noncomputable def cost : List Nat → Nat
  | [] => 0
  | i :: r => cost r + (bif Nat.ble 100 i then i - 100 else 1)
theorem hot_at {A : Nat} {h : List Obj} {c : Nat → Obj} {i : Nat} : hotc A h c (A + i) = (h[i]?).getD default := by
  unfold hotc
  rw [if_pos (Nat.le_add_right A i), Nat.add_sub_cancel_left, List.getD_eq_getElem?_getD]
theorem dom_no {T : BT} {A B i : Nat} (hB : B ≤ A) (D : DomB T B) : T.get (A + i) = none := by
  cases g : T.get (A + i) with
  | none => rfl
  | some x => exact absurd (Nat.lt_of_lt_of_le (D _ _ g) (Nat.le_trans hB (Nat.le_add_right A i))) (Nat.lt_irrefl _)
theorem hot_ext {T : BT} {A B i : Nat} {h h' : List Obj} {c : Nat → Obj} {o : Obj} {n : Nat} (hB : B ≤ A) (D : DomB T B) (e : h'[i]? = some o) (f : ∀ j, j ≠ i → h'[j]? = h[j]?) :
    fh (up (fun j => (T.get j).getD (hotc A h c j)) (A + i) o) n = hp T (hotc A h' c) n := by
  refine fh_ext fun j _ => ?_
  by_cases q : j = A + i
  · subst q
    rw [up_self, dom_no hB D, Option.getD_none, hot_at, e]; rfl
  · rw [up_ne q]
    refine congrArg ((T.get j).getD ·) ?_
    unfold hotc
    by_cases u : A ≤ j
    · rw [if_pos u, if_pos u, List.getD_eq_getElem?_getD, List.getD_eq_getElem?_getD, f _ (fun e => q (by rw [← e, Nat.add_sub_cancel' u]))]
    · rw [if_neg u, if_neg u]
theorem hot_get {T : BT} {A B : Nat} {h : List Obj} {c : Nat → Obj} {i : Nat} {o : Obj} (hB : B ≤ A) (D : DomB T B) (e : h[i]? = some o) : (hp T (hotc A h c) (A + h.length)).get? (A + i) = alive o := by
  refine (fh_get (Nat.add_lt_add_left (List.getElem?_eq_some_iff.mp e).1 A)).trans ?_
  rw [dom_no hB D, Option.getD_none, hot_at, e]; rfl
theorem hot_set {T : BT} {A B : Nat} {h : List Obj} {c : Nat → Obj} {i : Nat} {o : Obj} {f : Obj → Obj} (hB : B ≤ A) (D : DomB T B) (e : h[i]? = some o) : (hp T (hotc A h c) (A + h.length)).update (A + i) f = hp T (hotc A (h.set i (f o)) c) (A + (h.set i (f o)).length) := by
  refine fh_set.trans ?_
  rw [dom_no hB D, Option.getD_none, hot_at, e, List.length_set]
  exact hot_ext hB D (List.getElem?_set_self (List.getElem?_eq_some_iff.mp e).1) fun j q => List.getElem?_set_ne (Ne.symm q)
theorem hot_new {T : BT} {A B : Nat} {h : List Obj} {c : Nat → Obj} {o : Obj} (hB : B ≤ A) (D : DomB T B) : (hp T (hotc A h c) (A + h.length)).push o = hp T (hotc A (h ++ [o]) c) (A + (h ++ [o]).length) := by
  refine fh_push.trans ?_
  rw [List.length_append]
  refine hot_ext hB D (List.getElem?_concat_length) fun j q => ?_
  by_cases u : j < h.length
  · rw [List.getElem?_append_left u]
  · rw [List.getElem?_eq_none (Nat.le_of_not_lt u), List.getElem?_eq_none]
    rw [List.length_append]
    exact Nat.lt_of_le_of_ne (Nat.le_of_not_lt u) (Ne.symm q)
theorem bif_t {α : Type} {b : Bool} {x : Option α} {y : α} (h : (bif b then x else none) = some y) : b = true ∧ x = some y := by
  cases b with
  | false => cases h
  | true => exact ⟨rfl, h⟩
theorem bind_t {α β : Type} {x : Option α} {f : α → Option β} {y : β} (h : x.bind f = some y) : ∃ a, x = some a ∧ f a = some y := by
  cases x with
  | none => cases h
  | some a => exact ⟨a, rfl, h⟩
theorem hotS_no {A i : Nat} {h : List Obj} {cur : Sem Fin} {c : Code} {p : Pos} {st : List Frame} (hh : heapy cur = false) : hotS A i h ⟨cur, c, p, st⟩ = none := by
  cases cur <;> first | rfl | exact nomatch hh
theorem hotS_ok {p : Program} {w : World} {A B i : Nat} {c : Nat → Obj} {h : List Obj} {T : BT} {gens : Array GenState} {drawn : Drawn} {k : Nat} {os : OsState} {t : Thread} {x : List Obj × Thread × Nat} (hB : B ≤ A) (hA : 11 ≤ A) (D : DomB T B) (hc : calmW t = true) (e : hotS A i h t = some x) (ea : x.2.2 = A + i) :
    endAt 1 t = none ∧ stepOk 11 (some (Value.ref 6)) t = true ∧ step (denote treeTable) p w ⟨hp T (hotc A h c) (A + h.length), gens, drawn, k, os⟩ t = .go ⟨hp T (hotc A x.1 c) (A + x.1.length), gens, drawn, k, os⟩ x.2.1 := by
  obtain ⟨cur, code, pos, st⟩ := t
  cases hh : heapy cur with
  | false =>
    rw [hotS_no hh] at e; cases e
  | true =>
    rcases heapy_of hh with ⟨a, q, kk, rfl⟩ | ⟨a, q, f, kk, rfl⟩ | ⟨o, kk, rfl⟩ | ⟨a, kk, rfl⟩
    · obtain ⟨o, e1, e⟩ := bind_t e
      obtain ⟨o', e2, rfl⟩ := Option.map_eq_some_iff.mp e
      obtain rfl : a = A + i := ea
      exact ⟨end_no fun _ => nofun, by unfold stepOk; rw [calmW_eq, hc]; rfl, step_load ((hot_get hB D e1).trans e2)⟩
    · obtain ⟨o, e1, e⟩ := bind_t e
      obtain ⟨o', e2, rfl⟩ := Option.map_eq_some_iff.mp e
      obtain rfl : a = A + i := ea
      exact ⟨end_no fun _ => nofun, by
        unfold stepOk; rw [calmW_eq, hc]
        show (true && (Nat.ble 11 (A + i) || _ || _ || _)) = true
        rw [Nat.ble_eq_true_of_le (Nat.le_trans hA (Nat.le_add_right A i))]; rfl, hot_set (c := c) (f := f) hB D e1 ▸ step_update ((hot_get hB D e1).trans e2)⟩
    · obtain ⟨e1, e⟩ := bif_t e
      obtain rfl := Nat.eq_of_beq_eq_true e1
      cases e
      refine ⟨end_no fun _ => nofun, by unfold stepOk; rw [calmW_eq, hc]; rfl, ?_⟩
      show Step.go ⟨(hp T (hotc A h c) (A + h.length)).push o, _, _, _, _⟩ ⟨kk (hp T (hotc A h c) (A + h.length)).objs.size, _, _, _⟩ = _
      rw [hot_new hB D, show (hp T (hotc A h c) (A + h.length)).objs.size = A + h.length from fh_size _ _]
    · cases e
theorem runC_ok {p : Program} {w : World} {A B : Nat} {c : Nat → Obj} (hB : B ≤ A) (hA : 11 ≤ A) (hN : A ≤ 900000) : ∀ {cs : List Nat} {h : List Obj} {s : SharedT} {t : Thread} {r : List Obj × SharedT × Thread × List (Nat × Nat)}, runC p w A cs h s t = some r → (∀ e ∈ r.2.2.2, e.1 = e.2) → s.n = 1000000 → DomB s.tree B →
    segGo treeTable p w 11 (some (Value.ref 6)) 1 (cost cs) ⟨hp s.tree (hotc A h c) (A + h.length), s.gens, s.drawn, s.toks, s.os⟩ t = some (⟨hp r.2.1.tree (hotc A r.1 c) (A + r.1.length), r.2.1.gens, r.2.1.drawn, r.2.1.toks, r.2.1.os⟩, r.2.2.1)
  | [], h, s, t, r, hr, hl, hs, D => by
    cases hr
    rfl
  | i :: cs, h, s, t, r, hr, hl, hs, D => by
    unfold runC at hr
    unfold cost
    cases hi : Nat.ble 100 i with
    | true =>
      rw [hi] at hr
      obtain ⟨x, hg, hr⟩ := bind_t hr
      obtain ⟨hz, hr⟩ := bif_t hr
      obtain ⟨hb, hr⟩ := bif_t hr
      have e1 := Nat.eq_of_beq_eq_true hb
      have g := (segT_hp (c := hotc A h c) (n := A + h.length) (Nat.le_trans hB (Nat.le_add_right _ _)) (goW_eq.trans hg) (hs ▸ Nat.le_trans (Nat.add_le_add hN (Nat.le_of_ble_eq_true hz)) (by decide))).2 (e1.trans hs.symm) D
      exact sg_app g.1 (runC_ok hB hA hN hr hl e1 g.2)
    | false =>
      rw [hi] at hr
      obtain ⟨hc, hr⟩ := bif_t hr
      obtain ⟨x, hx, hr⟩ := bind_t hr
      obtain ⟨y, hy, rfl⟩ := Option.map_eq_some_iff.mp hr
      obtain ⟨q1, q2, q3⟩ := hotS_ok (p := p) (w := w) (c := c) (gens := s.gens) (drawn := s.drawn) (k := s.toks) (os := s.os) hB hA D hc hx (hl _ List.mem_cons_self)
      exact sg_one q1 q2 q3 (runC_ok (r := y) hB hA hN hy (fun e (he : e ∈ y.2.2.2) => hl e (List.mem_cons_of_mem _ he)) hs D)
noncomputable def pX (x : Option (List Obj × SharedT × Thread × List (Nat × Nat))) (t : Thread) : Thread := match x with | some r => r.2.2.1 | none => t
noncomputable def sT (P : Params) (x y z : Obj) (k : Nat) (os : OsState) : SharedT := shr (tb3 P x y z) 1000000 k os
noncomputable def lo (P : Params) (b v k : Value) : Obj := ⟨.type "frame", none, .dict #[entS P "table" 292 (.ref 86), entS P "byte" 297 b, entS P "value" 298 v, entS P "k" 303 k] 4, #[]⟩
noncomputable def lsO (a : Array Value) (n : Nat) : Obj := ⟨.type "list", none, .seq a n, #[]⟩
noncomputable def cm1 : List Nat := [113, 0, 101, 0, 0, 101, 0, 101, 0, 104, 0, 0, 102, 0, 101, 0, 0, 0, 1, 101, 1, 101]
noncomputable def cm2 : List Nat := [101, 1, 101, 1, 101, 1, 1, 1, 1, 1, 1, 1, 117]
noncomputable def cm4 : List Nat := [101, 1, 101, 1, 101, 1, 1, 1, 101, 2, 3, 102, 3, 120]
noncomputable def cm7 : List Nat := [112, 4, 5, 102, 5, 114]
noncomputable def at_ (t : Thread) (q : Pos) : Thread := ⟨t.cur, t.code, q, t.stack⟩
noncomputable def has (t : Thread) (c : Sem Fin) : Thread := ⟨c, t.code, t.pos, t.stack⟩
noncomputable def retv (v : Value) : Sem Fin := .pure (.done (.ret v))
noncomputable def shS (v : Int) : Sem Fin := if (1 : Int) ≥ (Builtin.Int.intBits v : Int) then .rule "int.rshift.all-bits" (fun _ => .fresh fun t => retv (.int (if v < 0 then -1 else 0) t)) else .fresh fun t => retv (.int (v.fdiv (2 ^ (1 : Int).toNat)) t)
noncomputable def pushW (a : Array Value) (x : Value) : Array Value := PySem.W.Fast.tw2398297429280069960 a x
theorem pushW_eq {a : Array Value} {x : Value} : pushW a x = a.push x := by
  unfold pushW
  rw [← PySem.W.Fast.te2398297429280069960]
noncomputable def apO (a : Array Value) (n : Nat) (x : Value) : Obj := lsO (pushW a x) (if (pushW a x).size == a.size then n else n + 1)
noncomputable def apS (o : Obj) : Sem Fin := PySem.W.R.bindR (match o.data.pastItsLine with | some what => (Sem.unsupported what : Sem Unit) | _ => .pure ()) fun _ => retv .none
section
variable (p : Program) (w : World) (b : List Stmt) (os : OsState)
noncomputable def thI (A : Nat) : Thread := pX (runC p (wF w) A cm1 [] (sT w.params tup0 tup0 tup0 0 os) (thrA p w b os)) (thrA p w b os)
noncomputable def thX (A : Nat) (v : Value) (k : Nat) (q : Pos) : Thread := pX (runC p w A cm2 [tup0, rit 0 8] (sT w.params (lo w.params .none v .none) tup0 tup0 k os) (at_ (thI p w b os A) q)) (thrA p w b os)
noncomputable def thY (A : Nat) (v : Value) (k : Nat) (q : Pos) (i : Int) : Thread := pX (runC p w A [112] [] (sT w.params (lo w.params .none v .none) tup0 tup0 (k + 4) os) (has (thX p w b os A v k q) (retv (.int i (k + 3))))) (thrA p w b os)
noncomputable def thP (A : Nat) (v : Value) (q : Pos) : Thread := pX (runC p w A cm4 [tup0, rit 8 0] (sT w.params (lo w.params .none v .none) (lsO #[] 0) tup0 0 os) (at_ (thI p w b os A) q)) (thrA p w b os)
variable (A k m : Nat) (g x y z : Obj) (v u j : Int) (t : Tok) (bv kv v2 : Value) (q : Pos)
theorem e1 : runC p (wF w) (A + 89) cm1 [] (sT w.params x y z k os) (thrA p w b os) = some ([rg (k + 1), rit 0 8], sT w.params x y z (k + 3) os, thI p w b os (A + 89), hots (A + 89) cm1) := by kernel_rfl
theorem e1' : runC p (wT w) (A + 89) cm1 [] (sT w.params x y z k os) (thrA p w b os) = some ([rg (k + 1), rit 0 8], sT w.params x y z (k + 3) os, thI p w b os (A + 89), hots (A + 89) cm1) := by kernel_rfl
theorem e2 : runC p w (A + 89) cm2 [g, rit j (.ofNat (m + 1))] (sT w.params (lo w.params bv (.int v t) kv) y z k os) (at_ (thI p w b os (A + 89)) q) =
    some ([g, rit (j + 1) (.ofNat (m + 1) - 1)], sT w.params (lo w.params bv (.int v t) (.int j k)) y z (k + 4) os, has (thX p w b os (A + 89) (.int v t) k q) (retv (.int (Builtin.bitAnd v 1) (k + 3))), hots (A + 89) cm2) := by kernel_rfl
theorem e3 : (runC p w (A + 89) [112] [g, x] (sT w.params (lo w.params bv (.int v t) kv) y z (k + 4) os) (has (thX p w b os (A + 89) (.int v t) k q) (retv (.int 1 (k + 3)))), runC p w (A + 89) [112] [g, x] (sT w.params (lo w.params bv (.int v t) kv) y z (k + 4) os) (has (thX p w b os (A + 89) (.int v t) k q) (retv (.int 0 (k + 3))))) =
    (some ([g, x], sT w.params (lo w.params bv (.int v t) kv) y z (k + 5) os, has (thY p w b os (A + 89) (.int v t) k q 1) (shS v), []), some ([g, x], sT w.params (lo w.params bv (.int v t) kv) y z (k + 5) os, has (thY p w b os (A + 89) (.int v t) k q 0) (shS v), [])) := by kernel_rfl
theorem e4 : (runC p w (A + 89) [116] [g, x] (sT w.params (lo w.params bv (.int v t) kv) y z (k + 6) os) (has (thY p w b os (A + 89) (.int v t) k q 1) (retv (.int u (k + 5)))), runC p w (A + 89) [109] [g, x] (sT w.params (lo w.params bv (.int v t) kv) y z (k + 6) os) (has (thY p w b os (A + 89) (.int v t) k q 0) (retv (.int u (k + 5))))) =
    (some ([g, x], sT w.params (lo w.params bv (.int (Builtin.bitXor u 3988292384) (k + 6)) kv) y z (k + 8) os, at_ (thI p w b os (A + 89)) { line := 33, col := 16, endLine := 33, endCol := 21 }, []), some ([g, x], sT w.params (lo w.params bv (.int u (k + 5)) kv) y z (k + 7) os, at_ (thI p w b os (A + 89)) { line := 35, col := 16, endLine := 35, endCol := 21 }, [])) := by kernel_rfl
theorem calmY (f : Tok → Sem Fin) (g : Unit → Sem Fin) : ((calmW (has (thY p w b os (A + 89) (.int v t) k q 1) (.fresh f)), calmW (has (thY p w b os (A + 89) (.int v t) k q 1) (.rule "int.rshift.all-bits" g))), calmW (has (thY p w b os (A + 89) (.int v t) k q 0) (.fresh f)), calmW (has (thY p w b os (A + 89) (.int v t) k q 0) (.rule "int.rshift.all-bits" g))) = ((true, true), true, true) := by kernel_rfl
theorem e5 (a : Array Value) (n : Nat) : runC p w (A + 89) cm4 [g, rit j 0] (sT w.params (lo w.params bv (.int v t) kv) (lsO a n) z k os) (at_ (thI p w b os (A + 89)) q) =
    some ([g, rit j 0, tup0, se (A + 91)], sT w.params (lo w.params bv (.int v t) kv) (apO a n (.int v t)) z k os, has (thP p w b os (A + 89) (.int v t) q) (apS (apO a n (.int v t))), hots (A + 89) cm4) := by kernel_rfl
theorem e6 : runC p w (A + 89) [134] [g, x, tup0, z] (sT w.params (lo w.params bv v2 kv) y (rit j (.ofNat (m + 1))) k os) (has (thP p w b os (A + 89) (.int v t) q) (retv .none)) =
    some ([g, x, tup0, z], sT w.params (lo w.params (.int j k) (.int j k) kv) y (rit (j + 1) (.ofNat (m + 1) - 1)) (k + 3) os, thrA p w b os, []) := by kernel_rfl
theorem e2z : runC p w (4 * 0 + 89) cm2 [g, rit 0 (.ofNat (7 + 1))] (sT w.params (lc0 w.params) y z (tk 0 + 3) os) (at_ (thI p w b os (4 * 0 + 89)) q) =
    some ([g, rit (0 + 1) (.ofNat (7 + 1) - 1)], sT w.params (lo w.params (.int 0 296) (.int 0 296) (.int 0 (tk 0 + 3))) y z (tk 0 + 3 + 4) os, has (thX p w b os (4 * 0 + 89) (.int 0 296) (tk 0 + 3) q) (retv (.int (Builtin.bitAnd 0 1) (tk 0 + 3 + 3))), hots (4 * 0 + 89) cm2) := by kernel_rfl
theorem e0 : (goW p (wF w) 92 (st0 w.params os) (thr0 b), goW p (wT w) 92 (st0 w.params os) (thr0 b)) = (some (shr (insL (Pre.tree_88 w.params) 85 [lc0 w.params, ls 0, r256, oi 0]) 89 (tk 0) os, thrA p w b os), some (shr (insL (Pre.tree_88 w.params) 85 [lc0 w.params, ls 0, r256, oi 0]) 89 (tk 0) os, thrA p w b os)) := by kernel_rfl
noncomputable def fin6 : Thread := ⟨doneF .next, Code.body b Pre.env_1, { line := 38, col := 0, endLine := 38, endCol := 6 }, [topFrame { line := 0, col := 0, endLine := 0, endCol := 0 }]⟩
theorem e7 : runC p w (4 * 255 + 89) cm7 [g, rit 8 0, tup0, se (4 * 255 + 91)] (sT w.params (lcE w.params) y (oi 255) 17192 os) (has (thP p w b os (4 * 255 + 89) (.int 755167117 17190) q) (retv .none)) =
    some ([g, rit 8 0, tup0, se (4 * 255 + 91), tup0, se 1113], shr ((tb3 w.params (lcE w.params) y (rit 256 0)).set 3 fun _ => gE w.params) 1000000 17193 os, fin6 b, hots (4 * 255 + 89) cm7) := by kernel_rfl
end
theorem bnd_l {i n : Nat} (h : i / 2 < n / 2) : i < n := by omega
theorem bnd_r {i n : Nat} (z : i ≠ 0) (o : i % 2 ≠ 1) (h : i / 2 - 1 < (n - 1) / 2) : i < n := by omega
theorem bnd_ok : ∀ (T : BT) (n i : Nat) (o : Obj), bnd T n = true → T.get i = some o → i < n
  | .nil, _, _, _, _, h => by cases h
  | .node v l r, n, i, o, d, h => by
    unfold bnd at d
    have d := Bool.and_eq_true_iff.mp d
    have d2 := Bool.and_eq_true_iff.mp d.2
    rw [BT.get_node] at h
    by_cases z : i = 0
    · subst z; exact Nat.le_of_ble_eq_true d.1
    · rw [if_neg z] at h
      by_cases odd : i % 2 = 1
      · rw [if_pos odd] at h
        exact bnd_l (bnd_ok l _ _ o d2.1 h)
      · rw [if_neg odd] at h
        exact bnd_r z odd (bnd_ok r _ _ o d2.2 h)
theorem tF_get : ∀ {d : Nat} {f : Nat → Obj} {i : Nat}, i + 1 < 2 ^ d → (cztF f d).get i = some (f i)
  | 0, f, i, h => absurd h (by simp)
  | d + 1, f, i, h => by
    rw [Nat.pow_succ] at h
    unfold cztF
    rw [BT.get_node]
    by_cases z : i = 0
    · subst z; rfl
    · rw [if_neg z]
      by_cases odd : i % 2 = 1
      · rw [if_pos odd, tF_get (by omega), show 2 * (i / 2) + 1 = i by omega]
      · rw [if_neg odd, tF_get (by omega), show 2 * (i / 2 - 1) + 2 = i by omega]
theorem tb3_dom (P : Params) (x y z : Obj) : DomB (tb3 P x y z) 89 := DomB.set (DomB.set (DomB.set fun _ _ h => bnd_ok _ _ _ _ (show bnd (tz P) 89 = true by kernel_rfl) h))
noncomputable def SS (P : Params) (A : Nat) (x y z : Obj) (h : List Obj) (k : Nat) (os : OsState) : Shared := ⟨hp (tb3 P x y z) (hotc A h cF) (A + h.length), { toList := [] }, { }, k, os⟩
def Go (p : Program) (w : World) (N : Nat) (s : Shared) (t : Thread) (s' : Shared) (t' : Thread) : Prop := ∃ m, m ≤ N ∧ segGo treeTable p w 11 (some (Value.ref 6)) 1 m s t = some (s', t')
section
variable {p : Program} {w : World} {b : List Stmt} {os : OsState}
theorem Go.trans {N M : Nat} {s s' s'' : Shared} {t t' t'' : Thread} (h : Go p w N s t s' t') (k : Go p w M s' t' s'' t'') : Go p w (N + M) s t s'' t'' := by
  obtain ⟨m, l, e⟩ := h
  obtain ⟨m', l', e'⟩ := k
  exact ⟨m' + m, Nat.add_comm m m' ▸ Nat.add_le_add l l', sg_app e e'⟩
theorem Go.le {N M : Nat} {s s' : Shared} {t t' : Thread} (h : Go p w N s t s' t') (l : N ≤ M) : Go p w M s t s' t' := h.elim fun m e => ⟨m, Nat.le_trans e.1 l, e.2⟩
theorem two_run {α : Type} {f : World → Option α} {r : α} (hF : f (wF w) = some r) (hT : f (wT w) = some r) : f w = some r := by
  have e := World.withFollow_self w "special-get-raises"
  cases hh : w.params.followText "special-get-raises" with
  | false => rw [hh] at e; unfold wF at hF; rw [e] at hF; exact hF
  | true => rw [hh] at e; unfold wT at hT; rw [e] at hT; exact hT
theorem run_go {P : Params} {A k k' : Nat} {cs : List Nat} {h h' : List Obj} {x y z x' y' z' : Obj} {t t' : Thread} {l : List Nat} (hN : A ≤ 2000) (e : runC p w (A + 89) cs h (sT P x y z k os) t = some (h', sT P x' y' z' k' os, t', hots (A + 89) l)) :
    Go p w (cost cs) (SS P (A + 89) x y z h k os) t (SS P (A + 89) x' y' z' h' k' os) t' :=
  ⟨_, Nat.le_refl _, runC_ok (r := (h', sT P x' y' z' k' os, t', hots (A + 89) l)) (Nat.le_add_left 89 A) (Nat.le_trans (by decide) (Nat.le_add_left 89 A)) (Nat.le_trans (Nat.add_le_add_right hN 89) (by decide)) e (fun _ he => hots_ok he) rfl (tb3_dom P x y z)⟩
theorem one_bit (v : Int) : Builtin.bitAnd v 1 = 0 ∨ Builtin.bitAnd v 1 = 1 := by
  have key : ∀ n : Nat, n &&& 1 = 0 ∨ n &&& 1 = 1 := fun n => by rw [Nat.and_one_is_mod]; exact Nat.mod_two_eq_zero_or_one n
  unfold Builtin.bitAnd
  cases decide (0 ≤ v) with
  | true => exact (key v.toNat).imp (congrArg Int.ofNat) (congrArg Int.ofNat)
  | false =>
    have h := key (Builtin.bitNot v).toNat
    rw [Nat.and_comm] at h
    exact (h.imp (fun e => congrArg (fun n : Nat => (1 : Int) - (n : Int)) e) (fun e => congrArg (fun n : Nat => (1 : Int) - (n : Int)) e)).symm
theorem sh_go {P : Params} {A k : Nat} {x y z : Obj} {h : List Obj} {t : Thread} (v : Int) (c1 : ∀ f, calmW (has t (.fresh f)) = true) (c2 : ∀ g, calmW (has t (.rule "int.rshift.all-bits" g)) = true) :
    Go p w 2 (SS P A x y z h k os) (has t (shS v)) (SS P A x y z h (k + 1) os) (has t (retv (.int (shV v) k))) := by
  have f1 : ∀ i : Tok → Value, segGo treeTable p w 11 (some (Value.ref 6)) 1 1 (SS P A x y z h k os) (has t (.fresh fun t => retv (i t))) = some (SS P A x y z h (k + 1) os, has t (retv (i k))) := fun i =>
    sg_one (end_no fun _ => nofun) (by unfold stepOk; rw [calmW_eq, c1]; rfl) rfl rfl
  unfold shS shV
  by_cases e : (1 : Int) ≥ (Builtin.Int.intBits v : Int)
  · rw [if_pos e, if_pos e]
    exact ⟨2, Nat.le_refl _, sg_one (end_no fun _ => nofun) (by unfold stepOk; rw [calmW_eq, c2]; rfl) rfl (f1 _)⟩
  · rw [if_neg e, if_neg e]
    exact ⟨1, by decide, f1 _⟩
theorem turnG {A k N : Nat} (hA : A ≤ 2000) {g x y z : Obj} {v : Int} {t : Tok} {bv kv : Value} {q : Pos} {s : Shared} {th : Thread}
    (a1 : Go p w N s th (SS w.params (A + 89) (lo w.params bv (.int v t) kv) y z [g, x] (k + 4) os) (has (thX p w b os (A + 89) (.int v t) k q) (retv (.int (Builtin.bitAnd v 1) (k + 3))))) :
    ∃ q', Go p w (N + 30) s th (SS w.params (A + 89) (lo w.params bv (.int (puV v) (puK v k - 2)) kv) y z [g, x] (puK v k) os) (at_ (thI p w b os (A + 89)) q') := by
  have e3 := e3 p w b os A k g x y z v t bv kv q
  have e4 := e4 p w b os A k g x y z v (shV v) t bv kv q
  have c := fun f g => calmY p w b os A k v t q f g
  unfold puV puK
  rcases one_bit v with e | e
  · rw [e] at a1
    rw [if_neg (by rw [e]; decide), if_neg (by rw [e]; decide)]
    exact ⟨_, (((a1.trans (run_go (l := []) hA (Prod.mk.inj e3).2)).trans (sh_go v (fun f => (Prod.mk.inj (Prod.mk.inj (c f fun _ => retv .none)).2).1) (fun g => (Prod.mk.inj (Prod.mk.inj (c (fun _ => retv .none) g)).2).2))).trans (run_go (l := []) hA (Prod.mk.inj e4).2)).le (Nat.add_le_add_left (by decide : 12 + 2 + 9 ≤ 30) N)⟩
  · rw [e] at a1
    rw [if_pos e, if_pos e]
    exact ⟨_, (((a1.trans (run_go (l := []) hA (Prod.mk.inj e3).1)).trans (sh_go v (fun f => (Prod.mk.inj (Prod.mk.inj (c f fun _ => retv .none)).1).1) (fun g => (Prod.mk.inj (Prod.mk.inj (c (fun _ => retv .none) g)).1).2))).trans (run_go (l := []) hA (Prod.mk.inj e4).1)).le (Nat.add_le_add_left (by decide : 12 + 2 + 16 ≤ 30) N)⟩
theorem turns {A : Nat} (hA : A ≤ 2000) {g y z : Obj} {bv : Value} : ∀ {n m : Nat} {v j : Int} {t k : Nat} {kv : Value} {q : Pos},
    ∃ q', Go p w (60 * n) (SS w.params (A + 89) (lo w.params bv (.int v t) kv) y z [g, rit j (.ofNat (m + n))] k os) (at_ (thI p w b os (A + 89)) q)
      (SS w.params (A + 89) (lo w.params bv (.int (it n v t kv j k).1 (it n v t kv j k).2.1) (it n v t kv j k).2.2.1) y z [g, rit (j + n) (.ofNat m)] (it n v t kv j k).2.2.2 os) (at_ (thI p w b os (A + 89)) q')
  | 0, m, v, j, t, k, kv, q => by
    rw [show j + ((0 : Nat) : Int) = j from Int.add_zero j]
    exact ⟨q, 0, Nat.le_refl _, rfl⟩
  | n + 1, m, v, j, t, k, kv, q => by
    have a1 := run_go hA (e2 p w b os A k (m + n) g y z v j t bv kv q)
    rw [show (Int.ofNat (m + n + 1) - 1 : Int) = Int.ofNat (m + n) from Int.add_sub_cancel (m + n : Nat) 1] at a1
    obtain ⟨q1, h1⟩ := turnG hA a1
    obtain ⟨q2, h2⟩ := turns (n := n) (m := m) (v := puV v) (j := j + 1) (t := puK v k - 2) (k := puK v k) (kv := .int j k) (q := q1) hA
    rw [show j + 1 + (n : Int) = j + ((n + 1 : Nat) : Int) by rw [Int.add_assoc, Int.add_comm 1]; rfl] at h2
    exact ⟨q2, (h1.trans h2).le (Nat.le_trans (Nat.add_le_add_right (by decide : cost cm2 + 30 ≤ 60) (60 * n)) (Nat.le_of_eq (Nat.add_comm 60 (60 * n))))⟩
theorem ss_next (P : Params) (x : Nat) (X Y Z : Obj) (k : Nat) : SS P (4 * x + 89) X Y Z [rg (tk x + 1), rit 8 0, tup0, se (4 * x + 91)] k os = SS P (4 * (x + 1) + 89) X Y Z [] k os := by
  refine congrArg (fun H => (⟨H, { toList := [] }, { }, k, os⟩ : Shared)) (?_ : hp _ _ (4 * x + 89 + 4) = hp _ _ (4 * (x + 1) + 89 + 0))
  rw [show 4 * x + 89 + 4 = 4 * (x + 1) + 89 + 0 from (Nat.add_right_comm (4 * x) 89 4)]
  refine fh_ext fun i hi => congrArg (((tb3 P X Y Z).get i).getD ·) ?_
  unfold hotc
  rw [if_neg (Nat.not_le.mpr hi)]
  by_cases u : 4 * x + 89 ≤ i
  · rw [if_pos u]
    obtain ⟨r, rfl⟩ := Nat.le.dest u
    have hr : r < 4 := Nat.lt_of_add_lt_add_left (n := 4 * x + 89) (Nat.add_right_comm (4 * x) 89 4 ▸ hi)
    unfold cF fF
    rw [if_neg (Nat.not_lt.mpr (Nat.le_trans (Nat.le_add_left 89 (4 * x)) (Nat.le_add_right _ r))), Nat.add_sub_cancel_left, Nat.add_right_comm, Nat.add_sub_cancel, Nat.mul_add_div (by decide), Nat.mul_add_mod, Nat.div_eq_of_lt hr, Nat.mod_eq_of_lt hr]
    match r, hr with
    | 0, _ => rfl
    | 1, _ => rfl
    | 2, _ => rfl
    | 3, _ => exact congrArg se (Nat.add_comm _ _)
  · rw [if_neg u]
theorem ap_ls (x : Nat) (hx : x < 256) : apO (rwL x).toArray x (rwV x) = ls (x + 1) ∧ apS (apO (rwL x).toArray x (rwV x)) = retv .none := by
  have hl : ∀ n, (rwL n).length = n := fun n => by
    induction n with
    | zero => rfl
    | succ n ih => exact List.length_append.trans (congrArg (· + 1) ih)
  have e : apO (rwL x).toArray x (rwV x) = ls (x + 1) := by
    unfold apO ls lsO
    rw [pushW_eq, if_neg (by simp), List.push_toArray]; rfl
  refine ⟨e, ?_⟩
  rw [e]
  have e2 : (ls (x + 1)).data.pastItsLine = none := if_neg (by
    rw [List.size_toArray, hl]
    exact Nat.not_lt.mpr (Nat.le_trans hx (by decide)))
  unfold apS
  rw [e2]; rfl
noncomputable def St (P : Params) (x : Nat) (os : OsState) : Shared := SS P (4 * x + 89) (lo P (.int x (tk x - 3)) (.int x (tk x - 3)) (.int 7 (sq x).2)) (ls x) (oi x) [] (tk x) os
theorem byteG {x N : Nat} (h : x < 255) {s : Shared} {th : Thread} {q1 : Pos} {bv : Value}
    (a2 : Go p w N s th (SS w.params (4 * x + 89) (lo w.params bv (rwV x) (.int 7 (sq (x + 1)).2)) (ls x) (oi x) [rg (tk x + 1), rit 8 0] (rw8 x).2.2.2 os) (at_ (thI p w b os (4 * x + 89)) q1)) :
    Go p w (N + 100) s th (St w.params (x + 1) os) (thrA p w b os) := by
  have hA : 4 * x ≤ 2000 := Nat.le_trans (Nat.mul_le_mul_left 4 (Nat.le_of_lt h)) (by decide)
  obtain ⟨g1, g2⟩ := ap_ls x (Nat.lt_succ_of_lt h)
  have a3 := run_go hA (e5 p w b os (4 * x) (rw8 x).2.2.2 (rg (tk x + 1)) (oi x) (rw8 x).1 8 (rw8 x).2.1 bv (.int 7 (sq (x + 1)).2) q1 (rwL x).toArray x)
  rw [show Value.int (rw8 x).1 (rw8 x).2.1 = rwV x from rfl, g2, g1] at a3
  have ez : oi x = rit ((x : Int) + 1) (.ofNat (254 - x + 1)) := congrArg (rit _) (by show (255 : Int) - (x : Int) = ((254 - x + 1 : Nat) : Int); omega)
  have ez' : rit ((x : Int) + 1 + 1) (.ofNat (254 - x + 1) - 1) = oi (x + 1) := congrArg (rit _) (by show ((254 - x + 1 : Nat) : Int) - 1 = (255 : Int) - ((x + 1 : Nat) : Int); omega)
  have a4 := run_go (l := []) hA (e6 p w b os (4 * x) (rw8 x).2.2.2 (254 - x) (rg (tk x + 1)) (rit 8 0) (ls (x + 1)) (se (4 * x + 91)) (rw8 x).1 ((x : Int) + 1) (rw8 x).2.1 bv (.int 7 (sq (x + 1)).2) (rwV x) q1)
  rw [← ez, ez', ss_next (os := os) w.params x (lo w.params (.int ((x : Int) + 1) (rw8 x).2.2.2) (.int ((x : Int) + 1) (rw8 x).2.2.2) (.int 7 (sq (x + 1)).2)) (ls (x + 1)) (oi (x + 1)) ((rw8 x).2.2.2 + 3)] at a4
  exact ((a2.trans a3).trans a4).le (Nat.le_trans (Nat.le_of_eq (Nat.add_assoc N _ _)) (Nat.add_le_add_left (by decide : cost cm4 + cost [134] ≤ 100) N))
theorem at_pos (t : Thread) : at_ t t.pos = t := by cases t; rfl
theorem start_b (x : Nat) (hx : 4 * x ≤ 2000) (X Y Z : Obj) : Go p w 40 (SS w.params (4 * x + 89) X Y Z [] (tk x) os) (thrA p w b os) (SS w.params (4 * x + 89) X Y Z [rg (tk x + 1), rit 0 (.ofNat (0 + 8))] (tk x + 3) os) (at_ (thI p w b os (4 * x + 89)) (thI p w b os (4 * x + 89)).pos) := by
  rw [at_pos]
  exact (run_go hx (two_run (f := fun w' => runC p w' (4 * x + 89) cm1 [] (sT w.params X Y Z (tk x) os) (thrA p w b os)) (e1 p w b os (4 * x) (tk x) X Y Z) (e1' p w b os (4 * x) (tk x) X Y Z))).le (by decide)
theorem it_any (n : Nat) (v j : Int) (t k : Nat) (kv : Value) : it (n + 1) v t kv j k = it (n + 1) v 0 .none j k := rfl
theorem eight (x : Nat) (hx : 4 * x ≤ 2000) : ∃ q1, Go p w 520 (St w.params x os) (thrA p w b os) (SS w.params (4 * x + 89) (lo w.params (.int x (tk x - 3)) (rwV x) (.int 7 (sq (x + 1)).2)) (ls x) (oi x) [rg (tk x + 1), rit 8 0] (rw8 x).2.2.2 os) (at_ (thI p w b os (4 * x + 89)) q1) := by
  obtain ⟨q1, a2⟩ := turns (p := p) (w := w) (b := b) (os := os) (g := rg (tk x + 1)) (y := ls x) (z := oi x) (bv := .int x (tk x - 3)) (n := 8) (m := 0) (v := x) (j := 0) (t := tk x - 3) (k := tk x + 3) (kv := .int 7 (sq x).2) (q := (thI p w b os (4 * x + 89)).pos) hx
  rw [it_any 7] at a2
  exact ⟨q1, ((start_b x hx _ (ls x) (oi x)).trans a2).le (by decide)⟩
theorem byte0 : Go p w 620 (SS w.params (4 * 0 + 89) (lc0 w.params) (ls 0) (oi 0) [] (tk 0) os) (thrA p w b os) (St w.params 1 os) (thrA p w b os) := by
  have a2 := run_go (by decide) (e2z p w b os (rg (tk 0 + 1)) (ls 0) (oi 0) (thI p w b os (4 * 0 + 89)).pos)
  rw [show (Int.ofNat (7 + 1) - 1 : Int) = Int.ofNat (0 + 7) from rfl] at a2
  obtain ⟨q1, a3⟩ := turnG (by decide) ((start_b 0 (by decide) (lc0 w.params) (ls 0) (oi 0)).trans a2)
  obtain ⟨q2, a4⟩ := turns (p := p) (w := w) (b := b) (os := os) (g := rg (tk 0 + 1)) (y := ls 0) (z := oi 0) (bv := .int 0 296) (A := 4 * 0) (n := 7) (m := 0) (v := puV 0) (j := 0 + 1) (t := puK 0 (tk 0 + 3) - 2) (k := puK 0 (tk 0 + 3)) (kv := .int 0 (tk 0 + 3)) (q := q1) (by decide)
  exact (byteG (x := 0) (N := 520) (by decide) ((a3.trans a4).le (by decide))).le (by decide)
theorem bytes_ : ∀ {n : Nat}, n < 255 → Go p w (620 * n) (St w.params 1 os) (thrA p w b os) (St w.params (n + 1) os) (thrA p w b os)
  | 0, _ => ⟨0, Nat.le_refl _, rfl⟩
  | n + 1, h => by
    obtain ⟨q1, a⟩ := eight (p := p) (w := w) (b := b) (os := os) (n + 1) (Nat.le_trans (Nat.mul_le_mul_left 4 (Nat.le_of_lt h)) (by decide))
    exact (bytes_ (Nat.lt_of_succ_lt h)).trans (byteG (N := 520) h a)
end
theorem table_ (p : Program) (w : World) (b : List Stmt) (os : OsState) : ∃ M, M ≤ 200000 ∧ segRun treeTable p w 11 (some (Value.ref 6)) 1 M (st0 w.params os).abs (thr0 b) = some (.next, (sE w.params os).abs, Code.body b Pre.env_1, { line := 38, col := 0, endLine := 38, endCol := 6 }) := by
  have a0 : Go p w 92 (st0 w.params os).abs (thr0 b) (SS w.params (4 * 0 + 89) (lc0 w.params) (ls 0) (oi 0) [] (tk 0) os) (thrA p w b os) := by
    refine ⟨92, Nat.le_refl _, (segGo_of (goW_eq.trans (two_run (f := fun w' => goW p w' 92 (st0 w.params os) (thr0 b)) (Prod.mk.inj (e0 p w b os)).1 (Prod.mk.inj (e0 p w b os)).2))).trans (congrArg (fun H => some ((⟨H, { toList := [] }, { }, tk 0, os⟩ : Shared), thrA p w b os)) ?_)⟩
    rw [show insL (Pre.tree_88 w.params) 85 [lc0 w.params, ls 0, r256, oi 0] = tb3 w.params (lc0 w.params) (ls 0) (oi 0) by kernel_rfl]
    refine fh_ext (n := 89) fun i hi => congrArg (((tb3 w.params (lc0 w.params) (ls 0) (oi 0)).get i).getD ·) ?_
    unfold hotc cF
    rw [if_neg (Nat.not_le.mpr hi), if_pos hi]
  obtain ⟨q1, a1⟩ := eight (p := p) (w := w) (b := b) (os := os) 255 (by decide)
  rw [show rwV 255 = .int 755167117 17190 by kernel_rfl, show (rw8 255).2.2.2 = 17192 by kernel_rfl, show lo w.params (.int ((255 : Nat) : Int) (tk 255 - 3)) (.int 755167117 17190) (.int 7 (sq (255 + 1)).2) = lcE w.params by kernel_rfl] at a1
  have a2 := run_go (by decide) (e5 p w b os (4 * 255) 17192 (rg (tk 255 + 1)) (oi 255) 755167117 8 17190 (.int 255 17124) (.int 7 17185) q1 (rwL 255).toArray 255)
  obtain ⟨g1, g2⟩ := ap_ls 255 (by decide)
  rw [show rwV 255 = .int 755167117 17190 by kernel_rfl] at g1 g2
  rw [g2, g1] at a2
  have a3 := runC_ok (c := cF) (B := 89) (by decide) (by decide) (by decide) (e7 p w b os (rg (tk 255 + 1)) (ls 256) q1) (fun _ he => hots_ok he) rfl (tb3_dom _ _ _ _)
  obtain ⟨M, l, h⟩ := ((((a0.trans byte0).trans (bytes_ (n := 254) (by decide))).trans a1).trans a2).trans ⟨_, Nat.le_refl _, a3⟩
  refine ⟨1 + M, Nat.le_trans (Nat.add_le_add_left l 1) (by decide), ?_⟩
  rw [Nat.add_comm]
  refine seg_go h (congrArg (fun H => some (Flow.next, (⟨H, { toList := [] }, { }, 17193, os⟩ : Shared), Code.body b Pre.env_1, _)) ?_)
  exact fh_ext (n := 1115) fun i hi => (show _ = ((tE w.params).get i).getD default by unfold tE; rw [tF_get (Nat.lt_of_lt_of_le (Nat.succ_lt_succ hi) (by decide))]; rfl)
theorem run_mono {tb : String → Option Builtin} {p : Program} {w : World} {n₀ : Nat} {ann : Option Value} {n m : Nat} {s r : Shared} {t : Thread} (h : topRun tb p w n₀ ann n s t = some r) (l : n ≤ m) : topRun tb p w n₀ ann m s t = some r := by
  obtain ⟨k, rfl⟩ := Nat.le.dest l
  exact topRun_mono k _ _ _ _ h
theorem piece_le {tb : String → Option Builtin} {p : Program} {w : World} {n₀ : Nat} {ann : Option Value} {env : Env} {q : Pos} {K N : Nat} {s s' r : Shared} {l rest : List Stmt} {c : Code} {pos p' : Pos} (h : ∃ M, M ≤ K ∧ segRun tb p w n₀ ann 1 M s (piecesOf l env c pos [topFrame q]) = some (.next, s', c, p'))
    (k : topRun tb p w n₀ ann N s' (restOf rest env c p' [topFrame q]) = some r) : topRun tb p w n₀ ann (K + N) s (restOf (l ++ rest) env c pos [topFrame q]) = some r := by
  obtain ⟨M, hM, e⟩ := h
  exact run_mono (piece_app e k) (Nat.add_le_add_right hM N)
noncomputable def P6 : Program := PySem.Challenge.rw_ui0507_15.row.prog
noncomputable def H1 (P : Params) : Heap := absHeap (tF P) 1206 { }
theorem body_ : behindTheImports P6 = Pre.sts_4 ++ (Pre.sts_21 ++ (Pre.sts_37 ++ (Pre.sts_53 ++ (st3 ++ (st4 ++ []))))) := by kernel_rfl
theorem pre_ (w : World) (os : OsState) : topGo treeTable P6 w 11 (some (Value.ref 6)) 12 ⟨boot_heap w.params, { toList := [] }, boot_drawn, boot_toks, os⟩ (topStub P6) =
    some ((shr (Pre.tree_4 w.params) 15 187 os).abs, ⟨denote treeTable (.body (behindTheImports P6) Pre.env_1), .body (behindTheImports P6) Pre.env_1, { line := 0, col := 0, endLine := 0, endCol := 0 }, [topFrame { line := 0, col := 0, endLine := 0, endCol := 0 }]⟩) := by kernel_rfl
theorem block_ (w : World) (b : List Stmt) (os : OsState) : segRun treeTable P6 w 11 (some (Value.ref 6)) 1 1 (shr (Pre.tree_4 w.params) 15 187 os).abs (blockOf (behindTheImports P6) Pre.env_1 (.body b Pre.env_1) { line := 0, col := 0, endLine := 0, endCol := 0 } [topFrame { line := 0, col := 0, endLine := 0, endCol := 0 }]) =
    some (.next, (shr (Pre.tree_4 w.params) 15 187 os).abs, .body b Pre.env_1, { line := 0, col := 0, endLine := 0, endCol := 0 }) := by kernel_rfl
theorem fin_ (w : World) (c : Code) (os : OsState) (q : Pos) : topRun treeTable P6 w 11 (some (Value.ref 6)) 2 (sF w.params os).abs ⟨doneF .next, c, q, [topFrame { line := 0, col := 0, endLine := 0, endCol := 0 }]⟩ = some (sF w.params os).abs := by kernel_rfl
theorem run_ (w : World) (os : OsState) : topRun treeTable P6 w 11 (some (Value.ref 6)) (12 + (1 + (196 + (214 + (214 + (338 + (200000 + (513 + 2)))))))) ⟨boot_heap w.params, { toList := [] }, boot_drawn, boot_toks, os⟩ (topStub P6) = some ⟨H1 w.params, { toList := [] }, { }, 17339, os⟩ := by
  refine go_top (pre_ w os) (piece_block (block_ w _ os) ?_)
  rw [body_]
  refine Pre.chain P6 _ w os (st3 ++ (st4 ++ [])) _ _ ?_
  refine piece_le (table_ P6 w _ os) ?_
  obtain ⟨r1, r2⟩ := rest P6 w (Pre.sts_4 ++ (Pre.sts_21 ++ (Pre.sts_37 ++ (Pre.sts_53 ++ (st3 ++ (st4 ++ [])))))) os
  refine piece_app (run2 r1 r2) ?_
  exact piece_nil (fin_ w _ os _)

noncomputable def q6 : Program := { P6 with main := { P6.main with body := [1, 2, 3, 4, 6, 7, 9, 10, 11, 17, 18, 19, 20, 21, 22, 23, 24, 26].filterMap fun i => P6.main.body[i]? } }
def loose6 : List Str := [Str.ofString "_TABLE", Str.ofString "crc32", Str.ofString "adler32", Str.ofString "fletcher16", Str.ofString "xor8", Str.ofString "sum8", Str.ofString "KINDS", Str.ofString "_WIDTHS"]
theorem open6 : ∀ w : World, (fencedOpening treeTable P6 w 300000).map (fun s => (s.heap, s.gens, s.drawn, s.toks)) = some (boot_heap w.params, { toList := [] }, boot_drawn, boot_toks) := boot_open (by kernel_rfl) (by decide) (fun s => by kernel_rfl)
theorem size6 : ∀ w : World, ((boot_heap w.params).isNs mainGlobals && ({ toList := [] } : Array GenState).size == 0, (boot_heap w.params).objs.size, (boot_heap w.params).nsMap mainGlobals (Str.ofString "__annotations__")) = (true, 11, some (.ref 6)) := fun w => by kernel_rfl
noncomputable def S6 (P : Params) (os : OsState) : Shared := ⟨H1 P, { toList := [] }, { }, 17339, os⟩
theorem look1a (w : World) : staticsOk (importedModules P6.main.body) (boot_heap w.params) (H1 w.params) = true := by kernel_rfl
theorem look1b (w : World) : namesBound P6 (H1 w.params) = true := by kernel_rfl
theorem look1c (w : World) (os : OsState) : gensDone (S6 w.params os) = true := by kernel_rfl
theorem look1d (w : World) : laidKept (boot_heap w.params) (H1 w.params) = true := by kernel_rfl
noncomputable def Xt6 (s : Shared) : Bool := xlAt q6 [] s && recOk (RowW.records PySem.Challenge.rw_ui0507_15.row.toRowW) s
theorem look2 (w : World) (os : OsState) : openSeen q6 loose6 (importedModules P6.main.body) Xt6 true (S6 w.params os) = openGood q6 loose6 := by
  rw [PySem.W.Fast.te4187177175401517315]
  kernel_rfl
theorem left6 {α : Type} {Yf : Shared → α} {Ya : World → α} (hY : ∀ (w : World) (os : OsState), Yf (S6 w.params os) = Ya w) : LeftO P6 q6 loose6 Xt6 Yf Ya 300000 true :=
  LeftO.of_pieces (H₀ := boot_heap) (H₁ := H1) open6 size6 run_ (by decide) (fun w => funext fun os => looks_pair (by
    show (staticsOk _ _ _ && namesBound _ _ && gensDone _ && laidKept _ _) = true
    rw [look1a, look1b, look1d]
    exact look1c w os) (looks_pair (look2 w os) (hY w os)))
end Mine
local macro_rules | `(tactic| o_head $H) => `(tactic| refine holds_open (q := Mine.q6) (loose := Mine.loose6) (Xt := Mine.Xt6) (XP := XL Mine.q6 []) (Yf := Hook.obs $H) (Ya := Hook.val $H) (YP := Hook.says $H) (N := 300000) (Mine.left6 (by intro w os; kernel_rfl)) (Hook.of $H) (Hook.keeps $H) (fun s e => xl_of s (Bool.and_eq_true_iff.mp e).1) XL.keeps (by rfl) (by rfl) (by rfl) (fun s e => recFacts_of (Bool.and_eq_true_iff.mp e).2) (by rfl) (by first | assumption | decide +kernel) (by decide +kernel) ⟨rfl, rfl, rfl, rfl, rfl, by decide +kernel⟩ ?hw ?hc)
namespace Mine
set_option maxHeartbeats 0 in
open_top hd for PySem.Challenge.rw_ui0507_15
/-- what a def does, wherever it is called: from the ledger news and the arguments vs it comes back with r and the ledger news' that R tells -/
def Fun (prog : Program) (w : World) (K : Frag) (p : Program) (loose : List Str) (mean : ExcName → Option Value) (mg mb : Str → Option Value) (k : Nat) (f : Addr) (vs : List Value) (news : List (Addr × Obj)) (R : Value → List (Addr × Obj) → Prop) : Prop :=
  ∀ (dp un : Nat) (gd : Option (List Code)) (cn : Str) (cs : Scope) (a : Addr) (ccd : Value) (cl : List (Str × Addr)) (outer : List Env) (A₀ : Around) (base h₀ : Heap) (L : Addr) (m : Str → Option Value) (s : Shared) (Q E : Value → Shared → Prop),
    Below A₀ base outer h₀ → Fr h₀ L s.heap m → K.In h₀ → News h₀ L s.heap news → Top p loose mean mg mb h₀ → cs.kind = .function → dp + k < recursionLimit → un + 8 * k < cLine →
    (∀ r news' h' tk', R r news' → Fr h₀ L h' m → News h₀ L h' news' → Q r { s with heap := h', toks := tk' }) →
    wpAny (model prog w) (ktrTop dp un gd cn cs L a ccd cl outer) (call (.ref f) vs) Q E s
theorem bring {α : Type} {prog : Program} {w : World} {A : Around} {tree : Sem α} {Q : α → Shared → Prop} {E : Value → Shared → Prop} {s : Shared} {K : Frag} {h₀ : Heap} {p : Program} {loose : List Str} {mean : ExcName → Option Value} {mg mb : Str → Option Value}
    (C : Program → World → Frag → Program → List Str → (ExcName → Option Value) → (Str → Option Value) → (Str → Option Value) → Prop) (_X : K.In h₀) (_T : Top p loose mean mg mb h₀) (ctr : C prog w K p loose mean mg mb) (h : C prog w K p loose mean mg mb → wpAny (model prog w) A tree Q E s) : wpAny (model prog w) A tree Q E s := h ctr
section
variable {prog : Program} {w : World} {A : Around} {E : Value → Shared → Prop} {s : Shared} {env : Env} {h₀ : Heap} {target : Expr} {body : List Stmt} {Q : Flow → Shared → Prop}
/-- a for over a list of the ledger's, its target whatever it is -/
theorem turns_list {l : Addr} {vs : List Value} {nn : Nat} {m₀ : Str → Option Value} {news : List (Addr × Obj)} (J : Nat → (Str → Option Value) → List (Addr × Obj) → Prop)
    (hh : A.handled = none) (hl : (l, listOf vs.toArray nn) ∈ news) (F : Fr h₀ env.locals s.heap m₀) (N : News h₀ env.locals s.heap news) (hj : J 0 m₀ news) (hJl : ∀ i m nx, J i m nx → (l, listOf vs.toArray nn) ∈ nx)
    (turn : ∀ i v m₁ news₁ h tk own, vs[i]? = some v → OwnOff own (news₁.map (·.1)) → J i m₁ news₁ → Fr h₀ env.locals h m₁ → News h₀ env.locals h (news₁ ++ own) →
      wpAny (model prog w) A (assign target env v) (fun _ s₃ => wpAny (model prog w) A (execs body env) (InvPostG h₀ env.locals (J (i + 1)) own { s with heap := h, toks := tk } Q) E s₃) E { s with heap := h, toks := tk })
    (done : ∀ m₁ news₁ h tk, J vs.length m₁ news₁ → Fr h₀ env.locals h m₁ → News h₀ env.locals h news₁ → Q .next { s with heap := h, toks := tk }) :
    wpAny (model prog w) A (pyIter (.ref l)) (fun it s₂ => TurnsAt prog w A h₀ env target body Q E it s₂) E s := by
  have hol : s.heap.get? l = some (listOf vs.toArray nn) := (N _ hl).1
  have hls : s.heap.IsList l vs.toArray := ⟨_, hol, rfl, nn, rfl⟩
  have hne : l ≠ s.heap.objs.size := Nat.ne_of_lt (Heap.lt_size hol)
  refine wpAny_pyIter_list hls ?_
  have W := Walks.list (prog := prog) (w := w) hh s.heap.objs.size l hne vs.toArray
  have hlen : vs.toArray.size = vs.length := by simp
  rw [hlen] at W
  refine ⟨_, _, _, vs.length, _, _, _, m₀, news, J, rfl, KTurns.ofWalks W fun i v s Q E st q => letGo_listiter st.1 q, ?_, ?_, ?_, ⟨⟨_, Heap.get?_push_size _ rfl, rfl, rfl⟩, hls.at fun o e => Heap.get?_push_of_some _ e⟩, F.push _, (fun p hp => ⟨Heap.get?_push_of_some _ (N p hp).1, (N p hp).2⟩), hj, ?_, ?_⟩
  · intro hm
    rcases List.mem_cons.mp hm with e | hm
    · exact absurd F.ns.lt (e ▸ Nat.lt_irrefl _)
    · exact (N _ hl).2.1 ((List.mem_singleton.mp hm).symm)
  · intro b hb
    rw [List.mem_singleton.mp hb]
    exact next_is_new F
  · intro p hp hI
    exact absurd (Heap.lt_size (N p hp).1) ((List.mem_singleton.mp hI) ▸ Nat.lt_irrefl _)
  · intro i v m₁ news₁ hh' tk' own hin hP hJ hoff hown hget hfp hst F₁ N₁
    have hl₁ := hJl _ _ _ hJ
    have hP' : vs[i]? = some v := by simpa using hP
    have hI0 : h₀.get? s.heap.objs.size = none := next_is_new F
    obtain ⟨⟨oI, hoI, _⟩, _⟩ := id hst
    have hIown : (s.heap.objs.size, oI) ∈ own.filter fun p => decide (p.1 = s.heap.objs.size) := List.mem_filter.mpr ⟨hfp _ (List.mem_cons.mpr (.inl rfl)) hI0 _ hoI, by simp⟩
    have hsep : OwnOff (own.filter fun p => decide (p.1 = s.heap.objs.size)) (news₁.map (·.1)) := by
      intro p hp b hb e
      obtain ⟨q, hq, rfl⟩ := List.mem_map.mp hb
      have h1 : p.1 = s.heap.objs.size := by simpa using (List.mem_filter.mp hp).2
      exact hoff q hq (List.mem_singleton.mpr (e ▸ h1))
    have N₂ : News h₀ env.locals hh' (news₁ ++ own.filter fun p => decide (p.1 = s.heap.objs.size)) := fun p hp => N₁ p ((List.mem_append.mp hp).elim (fun h => List.mem_append.mpr (.inr h)) fun h => List.mem_append.mpr (.inl ((List.mem_filter.mp h).1)))
    have hlo : hh'.get? l = some (listOf vs.toArray nn) := (N₁ _ (List.mem_append.mpr (.inr hl₁))).1
    refine wpAny_mono (turn i v m₁ news₁ hh' tk' _ hP' hsep hJ F₁ N₂) (fun _ s₃ p3 => wpAny_mono p3 (fun f s₂ p => ?_) fun _ _ e => e) fun _ _ e => e
    have fin : InvEndG h₀ env.locals (J (i + 1)) (own.filter fun p => decide (p.1 = s.heap.objs.size)) { s with heap := hh', toks := tk' } s₂ →
        LoopStepU h₀ env.locals [s.heap.objs.size] own (J (i + 1)) { s with heap := hh', toks := tk' } .next s₂ := by
      rintro ⟨h', tk, m', news', nx, e, F', N', hn, ho, ha, hm⟩
      refine ⟨rfl, h', tk, m', nx, e, F', fun p hp => ?_, fun p hp hq => ?_, hm⟩
      · rcases List.mem_append.mp hp with h | h
        · by_cases hI : p.1 = s.heap.objs.size
          · exact N' p (ho p (List.mem_filter.mpr ⟨h, by simpa using hI⟩))
          · have h1 : p.1 = l := by
              rcases List.mem_cons.mp (hown p h) with h2 | h2
              · exact absurd h2 hI
              · exact List.mem_singleton.mp h2
            have h2 : hh'.get? p.1 = some p.2 := hget p h
            rw [h1, hlo] at h2
            have h3 : p = (l, listOf vs.toArray nn) := Prod.ext h1 (Option.some.inj h2).symm
            rw [h3]
            exact N' _ (hn _ (hJl _ _ _ hm))
        · exact N' p (hn p h)
      · exact ha _ hIown p.1 (List.mem_map.mpr ⟨p, hp, rfl⟩) (List.mem_singleton.mp hq).symm
    cases f with
    | ret v => exact p
    | brk => exact p
    | next => exact fin p
    | cont => exact fin p
  · rintro h' tk m' news' F' N' _ hJ
    exact done m' news' h' tk hJ F' N'
end
section
variable {prog : Program} {w : World} {K : Frag} {p : Program} {loose : List Str} {mean : ExcName → Option Value} {mg mb : Str → Option Value} {k : Nat} {f : Addr} {vs : List Value} {news : List (Addr × Obj)} {R : Value → List (Addr × Obj) → Prop}
theorem Fun.use {dp un : Nat} {gd : Option (List Code)} {cn : Str} {cs : Scope} {a : Addr} {ccd : Value} {cl : List (Str × Addr)} {outer : List Env} {A₀ : Around} {base h₀ : Heap} {L : Addr} {m : Str → Option Value} {s : Shared} {Q E : Value → Shared → Prop}
    (C : Fun prog w K p loose mean mg mb k f vs news R) (B : Below A₀ base outer h₀) (F : Fr h₀ L s.heap m) (X : K.In h₀) (N : News h₀ L s.heap news) (T : Top p loose mean mg mb h₀) (hk : cs.kind = .function) (hd : dp + k < recursionLimit) (hu : un + 8 * k < cLine)
    (ret : ∀ r news' h' tk', R r news' → Fr h₀ L h' m → News h₀ L h' news' → Q r { s with heap := h', toks := tk' }) :
    wpAny (model prog w) (ktrTop dp un gd cn cs L a ccd cl outer) (call (.ref f) vs) Q E s := C _ _ _ _ _ _ _ _ _ _ _ _ _ _ _ _ _ B F X N T hk hd hu ret
end
/-- the ledger with o at O -/
def put (O : Addr) (o : Obj) (news : List (Addr × Obj)) : List (Addr × Obj) := news.map fun p => if p.1 = O then (O, o) else p
theorem put_nil {O : Addr} {o : Obj} : put O o [] = [] := rfl
theorem put_hit {O : Addr} {o o' : Obj} {r : List (Addr × Obj)} : put O o ((O, o') :: r) = (O, o) :: put O o r := by simp [put]
theorem put_miss {O : Addr} {o : Obj} {q : Addr × Obj} {r : List (Addr × Obj)} (h : q.1 ≠ O) : put O o (q :: r) = q :: put O o r := by simp [put, h]
theorem put_off {O : Addr} {o : Obj} {r : List (Addr × Obj)} (h : ∀ q ∈ r, q.1 ≠ O) : put O o r = r := by
  induction r with
  | nil => rfl
  | cons q r ih => rw [put_miss (h q (.head _)), ih fun x hx => h x (.tail _ hx)]
theorem mem_put {O : Addr} {o : Obj} {news : List (Addr × Obj)} {q : Addr × Obj} (h : q ∈ put O o news) : q = (O, o) ∨ (q.1 ≠ O ∧ q ∈ news) := by
  obtain ⟨x, hx, rfl⟩ := List.mem_map.mp h
  by_cases e : x.1 = O
  · rw [if_pos e]; exact .inl rfl
  · rw [if_neg e]; exact .inr ⟨e, hx⟩
section
variable {prog : Program} {w : World} {A : Around} {E : Value → Shared → Prop} {s : Shared} {h₀ : Heap} {L D b : Addr} {m : Str → Option Value} {news : List (Addr × Obj)} {its its2 : Array Value} {n n2 : Nat}
/-- extend by a list of the ledger's -/
theorem extend_U {g : Obj → List (Addr × Obj)} {Q : Value → Shared → Prop} (F : Fr h₀ L s.heap m) (N : News h₀ L s.heap news) (hb : (b, listOf its2 n2) ∈ news) (U : UpdF D (listOf its n) news g) (hz : its.size + its2.size ≤ sizeLine)
    (h : ∀ h' n', Fr h₀ L h' m → News h₀ L h' (g (listOf (its ++ its2) n')) → Q .none { s with heap := h' }) : wpAny (model prog w) A (call (.builtin "list.extend") [.ref D, .ref b]) Q E s := by
  obtain ⟨pre, post, rfl, hg, a, c⟩ := U.split
  obtain ⟨ys, rfl⟩ : ∃ ys : List Value, its = ys.toArray := ⟨its.toList, by rw [Array.toArray_toList]⟩
  refine extend_in F N a c (N _ hb).1 (fun h' n' F' N' => h h' n' F' ?_) (by rw [List.size_toArray] at hz; exact hz)
  rw [hg]
  have e : ys.toArray ++ its2 = (ys ++ its2.toList).toArray := by simp
  rw [e]
  exact N'
end
theorem off_lt {l : List (Addr × Obj)} {D : Addr} (h : ∀ p ∈ l, p.1 < D) : ∀ p ∈ l, p.1 ≠ D := fun p hp => Nat.ne_of_lt (h p hp)
theorem off_gt {l : List (Addr × Obj)} {D : Addr} (h : ∀ p ∈ l, D < p.1) : ∀ p ∈ l, p.1 ≠ D := fun p hp => Nat.ne_of_gt (h p hp)
/-- what holds ahead of turn i of a for -/
def RgJ {σ : Type} (Led : σ → List (Addr × Obj)) (ps : σ → List (Str × Value)) (x : Str) (stored : List Str) (m₀ : Str → Option Value) (P : Nat → σ → Prop) (i : Nat) (m : Str → Option Value) (nx : List (Addr × Obj)) : Prop :=
  ∃ c, nx = Led c ∧ P i c ∧ (∀ p ∈ ps c, m p.1 = some p.2) ∧ (∀ z, z ≠ x → (∀ p ∈ ps c, z ≠ p.1) → stored.contains z = false → m z = m₀ z)
theorem rg_end {σ : Type} {Led : σ → List (Addr × Obj)} {ps : σ → List (Str × Value)} {x : Str} {stored : List Str} {m₀ m' : Str → Option Value} {P : Nat → σ → Prop} {i : Nat} {h₀ h' : Heap} {L : Addr} {own news' : List (Addr × Obj)} {s₁ : Shared} {tk : Nat} (c' : σ)
    (F : Fr h₀ L h' m') (N : News h₀ L h' news') (hn : ∀ p ∈ Led c', p ∈ news') (ho : ∀ p ∈ own, p ∈ news') (ha : ∀ p ∈ own, ∀ q ∈ Led c', p.1 ≠ q.1) (hk : ∀ p ∈ ps c', m' p.1 = some p.2) (hr : ∀ z, z ≠ x → (∀ p ∈ ps c', z ≠ p.1) → stored.contains z = false → m' z = m₀ z) (hp : P i c') :
    InvEndG h₀ L (RgJ Led ps x stored m₀ P i) own s₁ { s₁ with heap := h', toks := tk } :=
  InvEndG.intro F N ⟨c', rfl, hp, hk, hr⟩ (fun p hp b hb => by obtain ⟨q, hq, rfl⟩ := List.mem_map.mp hb; exact ha p hp q hq) hn ho
section
variable {prog : Program} {w : World} {A : Around} {E : Value → Shared → Prop} {s : Shared} {env : Env} {h₀ : Heap} {x : Str} {body : List Stmt} {Q : Flow → Shared → Prop}
/-- a for over a range -/
theorem rg_for {σ : Type} {r : Addr} {a₀ b₀ : Int} {t₀ u₀ v₀ : Tok} {n : Nat} {m₀ : Str → Option Value} {news : List (Addr × Obj)} (Led : σ → List (Addr × Obj)) (ps : σ → List (Str × Value)) (stored : List Str) (P : Nat → σ → Prop) (c₀ : σ)
    (hh : A.handled = none) (hr : IsRange s.heap r a₀ b₀ 1 t₀ u₀ v₀) (hsmall : Builtin.Range.small a₀ b₀ 1 = true) (hsz : Builtin.Range.rangeSize a₀ b₀ 1 = (n : Int)) (F : Fr h₀ env.locals s.heap m₀) (N : News h₀ env.locals s.heap news) (hn : ∀ p ∈ Led c₀, p ∈ news) (hk : ∀ p ∈ ps c₀, m₀ p.1 = some p.2) (hp : P 0 c₀)
    (turn : ∀ (c : σ) (i : Nat) t (u : Str → Option Value) h tk own, i < n → P i c → (∀ p ∈ own, ∀ q ∈ Led c, p.1 ≠ q.1) →
      Fr h₀ env.locals h (fun y => if y = x then some (.int (a₀ + i) t) else kstB (fun z => if stored.contains z then u z else m₀ z) (ps c) y) → News h₀ env.locals h (Led c ++ own) →
      wpAny (model prog w) A (execs body env) (InvPostG h₀ env.locals (RgJ Led ps x stored m₀ P (i + 1)) own { s with heap := h, toks := tk } Q) E { s with heap := h, toks := tk })
    (done : ∀ (c : σ) (u : Str → Option Value) h tk, P n c → Fr h₀ env.locals h (fun y => if y = x then u y else kstB (fun z => if stored.contains z then u z else m₀ z) (ps c) y) → News h₀ env.locals h (Led c) → Q .next { s with heap := h, toks := tk }) :
    wpAny (model prog w) A (pyIter (.ref r)) (fun it s₂ => LoopAtV prog w A h₀ env x body Q E it s₂) E s := by
  refine wpAny_pyIter_range hr hsmall ?_
  have W : Walks prog w A s.heap.objs.size [s.heap.objs.size] [s.heap.objs.size] n (fun i v => i < n ∧ ∃ t, v = .int (a₀ + i * 1) t)
      (fun i h => IsRangeIter h s.heap.objs.size (a₀ + (i : Nat) * 1) ((n : Int) - (i : Nat)) 1) := (Walks.range hh _ a₀ 1 n).bound
  refine kdr_loop (RgJ Led ps x stored m₀ P) W (fun _ h => h) (fun _ h => h) ?_ ?_ ?_ ?_ (by show IsRangeIter _ _ _ _ _; rw [hsz]; simpa using Heap.get?_push_size _ rfl) (F.push _) (fun p hp => ⟨Heap.get?_push_of_some _ (N p (hn p hp)).1, (N p (hn p hp)).2⟩) ⟨c₀, rfl, hp, hk, fun _ _ _ _ => rfl⟩ ?_ ?_
  · intro i h hi b hb
    rw [List.mem_singleton.mp hb]
    exact ⟨_, hi⟩
  · intro hm
    exact absurd F.ns.lt ((List.mem_singleton.mp hm) ▸ Nat.lt_irrefl _)
  · intro b hb
    rw [List.mem_singleton.mp hb]
    exact next_is_new F
  · intro p hp hI
    exact absurd (Heap.lt_size (N p (hn p hp)).1) ((List.mem_singleton.mp hI) ▸ Nat.lt_irrefl _)
  · rintro i v m₁ nx h tk own hi ⟨_, t, rfl⟩ hoff ⟨c, rfl, hp', h1, h2⟩ F₁ N₁
    have e1 : a₀ + (i : Int) * 1 = a₀ + (i : Int) := by omega
    rw [e1] at F₁
    exact turn c i t m₁ h tk own hi hp' (fun p hp q hq => hoff p hp q.1 (List.mem_map.mpr ⟨q, hq, rfl⟩)) (kst_fr h1 h2 F₁) N₁
  · rintro m₁ nx h tk ⟨c, rfl, hp', h1, h2⟩ F₁ N₁
    exact done c m₁ h tk hp' (kst_frOut h1 h2 F₁) N₁
/-- a for over a list of the ledger's, by a name -/
theorem ls_for {σ : Type} {l : Addr} {vs : List Value} {nn : Nat} {m₀ : Str → Option Value} {news : List (Addr × Obj)} (Led : σ → List (Addr × Obj)) (ps : σ → List (Str × Value)) (stored : List Str) (P : Nat → σ → Prop) (c₀ : σ)
    (hh : A.handled = none) (hl : (l, listOf vs.toArray nn) ∈ news) (hlL : ∀ c, (l, listOf vs.toArray nn) ∈ Led c) (F : Fr h₀ env.locals s.heap m₀) (N : News h₀ env.locals s.heap news) (hn : ∀ p ∈ Led c₀, p ∈ news) (hk : ∀ p ∈ ps c₀, m₀ p.1 = some p.2) (hp : P 0 c₀)
    (turn : ∀ (c : σ) (i : Nat) v (u : Str → Option Value) h tk own, vs[i]? = some v → P i c → (∀ p ∈ own, ∀ q ∈ Led c, p.1 ≠ q.1) →
      Fr h₀ env.locals h (fun y => if y = x then some v else kstB (fun z => if stored.contains z then u z else m₀ z) (ps c) y) → News h₀ env.locals h (Led c ++ own) →
      wpAny (model prog w) A (execs body env) (InvPostG h₀ env.locals (fun m' nx => (l, listOf vs.toArray nn) ∈ nx ∧ RgJ Led ps x stored m₀ P (i + 1) m' nx) own { s with heap := h, toks := tk } Q) E { s with heap := h, toks := tk })
    (done : ∀ (c : σ) (u : Str → Option Value) h tk, P vs.length c → Fr h₀ env.locals h (fun y => if y = x then u y else kstB (fun z => if stored.contains z then u z else m₀ z) (ps c) y) → News h₀ env.locals h (Led c) → Q .next { s with heap := h, toks := tk }) :
    wpAny (model prog w) A (pyIter (.ref l)) (fun it s₂ => LoopAtV prog w A h₀ env x body Q E it s₂) E s := by
  refine kdl_iter (RgJ Led ps x stored m₀ P) hh (hlL c₀) F (fun p hp => N p (hn p hp)) ⟨c₀, rfl, hp, hk, fun _ _ _ _ => rfl⟩ ?_ ?_
  · rintro i v m₁ nx h tk own hi hoff hm ⟨c, rfl, hp', h1, h2⟩ F₁ N₁
    exact turn c i v m₁ h tk own hi hp' (fun p hp q hq => hoff p hp q.1 (List.mem_map.mpr ⟨q, hq, rfl⟩)) (kst_fr h1 h2 F₁) N₁
  · rintro m₁ nx h tk ⟨c, rfl, hp', h1, h2⟩ F₁ N₁
    exact done c m₁ h tk hp' (kst_frOut h1 h2 F₁) N₁
theorem ls_end {σ : Type} {Led : σ → List (Addr × Obj)} {ps : σ → List (Str × Value)} {x : Str} {stored : List Str} {m₀ m' : Str → Option Value} {P : Nat → σ → Prop} {i : Nat} {h' : Heap} {L l : Addr} {ol : Obj} {own news' : List (Addr × Obj)} {s₁ : Shared} {tk : Nat} (c' : σ)
    (F : Fr h₀ L h' m') (N : News h₀ L h' news') (hn : ∀ p ∈ Led c', p ∈ news') (ho : ∀ p ∈ own, p ∈ news') (hl : (l, ol) ∈ Led c') (ha : ∀ p ∈ own, ∀ q ∈ Led c', p.1 ≠ q.1) (hk : ∀ p ∈ ps c', m' p.1 = some p.2) (hr : ∀ z, z ≠ x → (∀ p ∈ ps c', z ≠ p.1) → stored.contains z = false → m' z = m₀ z) (hp : P i c') :
    InvEndG h₀ L (fun m' nx => (l, ol) ∈ nx ∧ RgJ Led ps x stored m₀ P i m' nx) own s₁ { s₁ with heap := h', toks := tk } :=
  InvEndG.intro F N ⟨hl, c', rfl, hp, hk, hr⟩ (fun p hp b hb => by obtain ⟨q, hq, rfl⟩ := List.mem_map.mp hb; exact ha p hp q hq) hn ho
end
/-- an object of the ledger's is set anew -/
theorem news_put {h₀ h h' : Heap} {L D : Addr} {o o' : Obj} {news : List (Addr × Obj)} (N : News h₀ L h news) (hm : (D, o) ∈ news) (hs : Heap.SameBut D h h') (ho : h'.get? D = some o') : News h₀ L h' (put D o' news) := by
  intro q hq
  rcases mem_put hq with rfl | ⟨hne, hq⟩
  · exact ⟨ho, (N _ hm).2.1, (N _ hm).2.2⟩
  · exact ⟨(hs.2 _ hne).trans (N q hq).1, (N q hq).2⟩
theorem flat_one (n : Nat) (v : Int) : (List.replicate n [v]).flatten = List.replicate n v := by
  induction n with
  | zero => rfl
  | succ k ih => rw [List.replicate_succ, List.flatten_cons, ih]; rfl
theorem in_app {a b : List Int} (ha : KBa.In a) (hb : KBa.In b) : KBa.In (a ++ b) := fun n hn => (List.mem_append.mp hn).elim (ha n) (hb n)
theorem in_rep {n : Nat} {v : Int} (h0 : 0 ≤ v) (h1 : v < 256) : KBa.In (List.replicate n v) := fun k hk => by rw [List.eq_of_mem_replicate hk]; exact ⟨h0, h1⟩
/-- a number in groups of seven bits, the lowest first -/
def vint (n : Nat) : List Int := if n < 128 then [(n : Int)] else (128 + (n % 128 : Nat) : Int) :: vint (n / 128)
termination_by n
decreasing_by omega
theorem vint_small {n : Nat} (h : n < 128) : vint n = [(n : Int)] := by rw [vint, if_pos h]
theorem vint_big {n : Nat} (h : ¬ n < 128) : vint n = (128 + (n % 128 : Nat) : Int) :: vint (n / 128) := by rw [vint, if_neg h]
theorem vint_len : ∀ n : Nat, 0 < (vint n).length ∧ (vint n).length ≤ n + 1 := by
  intro n
  induction n using Nat.strongRecOn with
  | ind n ih =>
    by_cases h : n < 128
    · rw [vint_small h]; simp
    · rw [vint_big h, List.length_cons]
      have := ih (n / 128) (by omega)
      omega
/-- two numbers whose bits do not meet -/
theorem or_apart {a : Int} {b : Int} {k : Nat} (h0 : 0 ≤ a) (h1 : a < 2 ^ k) (hb : 0 ≤ b) : Builtin.bitOr a (b * 2 ^ k) = a + b * 2 ^ k := by
  obtain ⟨x, rfl⟩ := Int.eq_ofNat_of_zero_le h0
  obtain ⟨y, rfl⟩ := Int.eq_ofNat_of_zero_le hb
  have e : ((y : Int) * 2 ^ k) = ((y * 2 ^ k : Nat) : Int) := by simp
  have hx : x < 2 ^ k := by
    have e2 : ((2 ^ k : Nat) : Int) = (2 : Int) ^ k := by simp
    rw [← e2] at h1
    exact Int.ofNat_lt.mp h1
  rw [e, bitOr_and, bitAnd_pp (Int.natCast_nonneg _) (Int.natCast_nonneg _)]
  have z : x &&& y * 2 ^ k = 0 := by
    refine Nat.eq_of_testBit_eq fun i => ?_
    rw [Nat.testBit_and, Nat.zero_testBit]
    by_cases hi : i < k
    · rw [← Nat.shiftLeft_eq, Nat.testBit_shiftLeft]
      simp [Nat.not_le.mpr hi]
    · have hxi : x.testBit i = false := Nat.testBit_lt_two_pow (Nat.lt_of_lt_of_le hx (Nat.pow_le_pow_right (by decide) (by omega)))
      rw [hxi]; rfl
  rw [Int.toNat_natCast, Int.toNat_natCast, z]
  simp
theorem or_128 {x : Int} (h0 : 0 ≤ x) (h1 : x < 128) : Builtin.bitOr 128 x = 128 + x := by
  rw [bitOr_comm]
  have := or_apart (a := x) (b := 1) (k := 7) h0 (by simpa using h1) (by decide)
  simp at this
  rw [this]; omega
theorem vint_one {n : Nat} (h : n < 128) : (vint n).length = 1 := by rw [vint_small h]; rfl
/-- a number's bytes, the low ones first -/
def fixL (N size : Nat) : List Int := (List.range size).map fun k => ((N / 256 ^ k % 256 : Nat) : Int)
theorem fixL_len (N size : Nat) : (fixL N size).length = size := by simp [fixL]
theorem fixL_in (N size : Nat) : KBa.In (fixL N size) := fun n hn => by
  obtain ⟨k, _, rfl⟩ := List.mem_map.mp hn
  exact ⟨by omega, by omega⟩
theorem fx_item {N e k : Nat} {a : Int} (h : a = Builtin.bitAnd ((N : Int).fdiv (2 ^ e)) 255) (g : e = 8 * k) : a = ((N / 256 ^ k % 256 : Nat) : Int) := by
  have e2 : ((2 : Int) ^ (8 * k)) = ((256 ^ k : Nat) : Int) := by rw [Int.natCast_pow, Int.pow_mul]; rfl
  rw [h, bitAnd_m8, g, e2, Int.fdiv_eq_ediv_of_nonneg _ (Int.natCast_nonneg _)]
  omega
theorem fixL_snoc (N i : Nat) : fixL N (i + 1) = fixL N i ++ [((N / 256 ^ i % 256 : Nat) : Int)] := by simp [fixL, List.range_succ]
theorem fixL_get {N size i : Nat} {ks : List Int} {a : Nat} {z : Int} (h : ks.drop a = fixL N size) (hi : i < size) (hz : z = (a : Int) + (0 + (i : Int))) : ks.getD z.toNat 0 = ((N / 256 ^ i % 256 : Nat) : Int) := by
  have e : z.toNat = a + i := by omega
  have h1 : (ks.drop a).getD i 0 = ks.getD (a + i) 0 := by simp [List.getD]
  rw [e, ← h1, h]
  simp [fixL, List.getD, hi]
theorem or_step {N i : Nat} {a y : Int} {e : Nat} (ha : a = ((N % 256 ^ i : Nat) : Int)) (hy : y = ((N / 256 ^ i % 256 : Nat) : Int)) (he : e = 8 * i) : Builtin.bitOr a (y * 2 ^ e) = ((N % 256 ^ (i + 1) : Nat) : Int) := by
  subst ha
  subst hy
  subst he
  have e1 : (2 : Nat) ^ (8 * i) = 256 ^ i := by rw [Nat.pow_mul]
  have e2 : ((2 : Int) ^ (8 * i)) = ((256 ^ i : Nat) : Int) := by rw [Int.natCast_pow, Int.pow_mul]; rfl
  have hlt : N % 256 ^ i < 256 ^ i := Nat.mod_lt _ (Nat.pow_pos (by decide))
  have h := or_apart (a := ((N % 256 ^ i : Nat) : Int)) (b := ((N / 256 ^ i % 256 : Nat) : Int)) (k := 8 * i) (Int.natCast_nonneg _) (by rw [e2]; exact Int.ofNat_lt.mpr hlt) (Int.natCast_nonneg _)
  rw [h, e2]
  have h3 : N % 256 ^ (i + 1) = N % 256 ^ i + 256 ^ i * (N / 256 ^ i % 256) := by rw [Nat.pow_succ, Nat.mod_mul]
  rw [h3, Nat.mul_comm (256 ^ i)]
  rw [Int.natCast_add, Int.natCast_mul]
section
variable {prog : Program} {w : World} {A : Around} {E : Value → Shared → Prop} {s : Shared} {t u : Tok} {n : Int} {N M : Nat}
theorem rsh_zero {Q : Value → Shared → Prop} (hN : N < M) (hn : 0 ≤ n) (hM : 2 ^ n.toNat = M) (h : Q (.int 0 s.toks) { s with toks := s.toks + 1 }) : wpAny (model prog w) A (binaryOp .RShift (.int (N : Int) t) (.int n u)) Q E s := by
  refine rshift_int hn ?_
  have e : (N : Int).fdiv (2 ^ n.toNat) = 0 := by
    rw [Int.fdiv_eq_ediv_of_nonneg _ (Int.le_of_lt (Int.pow_pos (by decide)))]
    exact Int.ediv_eq_zero_of_lt (Int.natCast_nonneg _) (by rw [show (2 : Int) = ((2 : Nat) : Int) from rfl, ← Int.natCast_pow, hM]; omega)
  rw [e]
  exact h
theorem fxb_len {N i : Nat} {vs : List Value} (hp : IntsAre vs (fixL N i)) (hi : i < 1000) : vs.length < 1000 := by
  have h := IntsAre.length hp
  rw [fixL_len] at h
  omega
/-- fixed_bytes' loop -/
theorem fxb_for {h₀ : Heap} {env : Env} {body : List Stmt} {Q : Flow → Shared → Prop} {r O : Addr} {b₀ : Int} {t₀ u₀ v₀ : Tok} {size : Nat} {m₀ : Str → Option Value} {news : List (Addr × Obj)} {N : Nat} (_hN : N < 256 ^ size)
    (hh : A.handled = none) (hr : IsRange s.heap r 0 b₀ 1 t₀ u₀ v₀) (hb : b₀ = (size : Int)) (hsize : size ≤ 4) (F : Fr h₀ env.locals s.heap m₀) (Nw : News h₀ env.locals s.heap ((O, listOf #[] 0) :: news))
    (turn : ∀ (vs : List Value) (cn i : Nat) t (u : Str → Option Value) h tk own, i < size → IntsAre vs (fixL N i) → vs.length < 1000 → (∀ p ∈ own, p.1 ≠ O) → (∀ p ∈ own, ∀ q ∈ news, p.1 ≠ q.1) →
      Fr h₀ env.locals h (fun y => if y = Str.ofString "k" then some (.int (0 + (i : Int)) t) else m₀ y) → News h₀ env.locals h ((O, listOf vs.toArray cn) :: news ++ own) →
      wpAny (model prog w) A (execs body env) (InvPostG h₀ env.locals (RgJ (fun c : List Value × Nat => (O, listOf c.1.toArray c.2) :: news) (fun _ => []) (Str.ofString "k") [] m₀ (fun i c => IntsAre c.1 (fixL N i)) (i + 1)) own { s with heap := h, toks := tk } Q) E { s with heap := h, toks := tk })
    (done : ∀ (vs : List Value) (cn : Nat) (u : Str → Option Value) h tk, IntsAre vs (fixL N size) → Fr h₀ env.locals h (fun y => if y = Str.ofString "k" then u y else m₀ y) → News h₀ env.locals h ((O, listOf vs.toArray cn) :: news) → Q .next { s with heap := h, toks := tk }) :
    wpAny (model prog w) A (pyIter (.ref r)) (fun it s₂ => LoopAtV prog w A h₀ env (Str.ofString "k") body Q E it s₂) E s := by
  subst hb
  have hz : Builtin.Range.rangeSize 0 (size : Int) 1 = (size : Int) := by
    have : size = 0 ∨ size = 1 ∨ size = 2 ∨ size = 3 ∨ size = 4 := by omega
    rcases this with rfl | rfl | rfl | rfl | rfl <;> decide
  have hsm : Builtin.Range.small 0 (size : Int) 1 = true := by
    have : size = 0 ∨ size = 1 ∨ size = 2 ∨ size = 3 ∨ size = 4 := by omega
    rcases this with rfl | rfl | rfl | rfl | rfl <;> decide
  refine rg_for (fun c : List Value × Nat => (O, listOf c.1.toArray c.2) :: news) (fun _ => []) [] (fun i c => IntsAre c.1 (fixL N i)) ([], 0) hh hr hsm hz F Nw (fun _ h => h) (fun _ h => nomatch h) .nil ?_ ?_
  · rintro ⟨vs, cn⟩ i t u h tk own hi hp hoff F₁ N₁
    exact turn vs cn i t u h tk own hi hp (fxb_len hp (by omega)) (fun p hp => hoff p hp _ (.head _)) (fun p hp q hq => hoff p hp q (.tail _ hq)) F₁ N₁
  · rintro ⟨vs, cn⟩ u h tk hp F₁ N₁
    exact done vs cn u h tk hp F₁ N₁
/-- read_fixed's loop -/
theorem fxr_for {h₀ : Heap} {env : Env} {body : List Stmt} {Q : Flow → Shared → Prop} {r : Addr} {b₀ x₀ : Int} {t₀ u₀ v₀ tv : Tok} {size : Nat} {m₀ : Str → Option Value} {news : List (Addr × Obj)} {N : Nat} (_hN : N < 256 ^ size)
    (hh : A.handled = none) (hr : IsRange s.heap r 0 b₀ 1 t₀ u₀ v₀) (hb : b₀ = (size : Int)) (hsize : size ≤ 4) (F : Fr h₀ env.locals s.heap m₀) (Nw : News h₀ env.locals s.heap news) (hv : m₀ (Str.ofString "value") = some (.int x₀ tv)) (hx : x₀ = 0)
    (turn : ∀ (v : Int) (i : Nat) (tv t : Tok) (u : Str → Option Value) h tk own, i < size → v = ((N % 256 ^ i : Nat) : Int) → (∀ p ∈ own, ∀ q ∈ news, p.1 ≠ q.1) →
      Fr h₀ env.locals h (fun y => if y = Str.ofString "k" then some (.int (0 + (i : Int)) t) else if y = Str.ofString "value" then some (.int v tv) else m₀ y) → News h₀ env.locals h (news ++ own) →
      wpAny (model prog w) A (execs body env) (InvPostG h₀ env.locals (RgJ (fun _ : Int × Tok => news) (fun c => [(Str.ofString "value", .int c.1 c.2)]) (Str.ofString "k") [] m₀ (fun i c => c.1 = ((N % 256 ^ i : Nat) : Int)) (i + 1)) own { s with heap := h, toks := tk } Q) E { s with heap := h, toks := tk })
    (done : ∀ (v : Int) (tv : Tok) (u : Str → Option Value) h tk, v = (N : Int) → Fr h₀ env.locals h (fun y => if y = Str.ofString "k" then u y else if y = Str.ofString "value" then some (.int v tv) else m₀ y) → News h₀ env.locals h news → Q .next { s with heap := h, toks := tk }) :
    wpAny (model prog w) A (pyIter (.ref r)) (fun it s₂ => LoopAtV prog w A h₀ env (Str.ofString "k") body Q E it s₂) E s := by
  subst hb
  subst hx
  have hz : Builtin.Range.rangeSize 0 (size : Int) 1 = (size : Int) := by
    have : size = 0 ∨ size = 1 ∨ size = 2 ∨ size = 3 ∨ size = 4 := by omega
    rcases this with rfl | rfl | rfl | rfl | rfl <;> decide
  have hsm : Builtin.Range.small 0 (size : Int) 1 = true := by
    have : size = 0 ∨ size = 1 ∨ size = 2 ∨ size = 3 ∨ size = 4 := by omega
    rcases this with rfl | rfl | rfl | rfl | rfl <;> decide
  refine rg_for (fun _ : Int × Tok => news) (fun c => [(Str.ofString "value", .int c.1 c.2)]) [] (fun i c => c.1 = ((N % 256 ^ i : Nat) : Int)) (0, tv) hh hr hsm hz F Nw (fun _ h => h) ?_ (by show (0 : Int) = ((N % 256 ^ 0 : Nat) : Int); rw [Nat.pow_zero, Nat.mod_one]; rfl) ?_ ?_
  · intro p hp
    rw [List.mem_singleton.mp hp]
    exact hv
  · rintro ⟨v, tv⟩ i t u h tk own hi hp hoff F₁ N₁
    exact turn v i tv t u h tk own hi hp hoff F₁ N₁
  · rintro ⟨v, tv⟩ u h tk hp F₁ N₁
    exact done v tv u h tk (by rw [show v = ((N % 256 ^ size : Nat) : Int) from hp, Nat.mod_eq_of_lt _hN]) F₁ N₁
theorem fxr_end {h₀ : Heap} {L : Addr} {N i size a e : Nat} {v z : Int} {tX : Tok} {ks : List Int} {m₀ m' : Str → Option Value} {news own : List (Addr × Obj)} {s₁ : Shared} {h' : Heap} {tk : Nat}
    (F : Fr h₀ L h' m') (Nw : News h₀ L h' (news ++ own)) (hm : m' (Str.ofString "value") = some (.int (Builtin.bitOr v (ks.getD z.toNat 0 * 2 ^ e)) tX)) (hk : ks.drop a = fixL N size) (hi : i < size) (hv : v = ((N % 256 ^ i : Nat) : Int)) (hz : z = (a : Int) + (0 + (i : Int))) (he : e = 8 * i) (ho2 : ∀ p ∈ own, ∀ q ∈ news, p.1 ≠ q.1)
    (hr : ∀ z, z ≠ Str.ofString "k" → z ≠ Str.ofString "value" → m' z = m₀ z) :
    InvEndG h₀ L (RgJ (fun _ : Int × Tok => news) (fun c => [(Str.ofString "value", .int c.1 c.2)]) (Str.ofString "k") [] m₀ (fun i c => c.1 = ((N % 256 ^ i : Nat) : Int)) (i + 1)) own s₁ { s₁ with heap := h', toks := tk } := by
  refine rg_end (c' := (Builtin.bitOr v (ks.getD z.toNat 0 * 2 ^ e), tX)) F Nw (fun p hp => List.mem_append.mpr (.inl hp)) (fun p hp => List.mem_append.mpr (.inr hp)) ho2 ?_ (fun z h1 h2 _ => hr z h1 (h2 _ (.head _))) ?_
  · intro p hp
    rw [List.mem_singleton.mp hp]
    exact hm
  · exact or_step hv (fixL_get hk hi hz) he
theorem fxb_end {h₀ : Heap} {L : Addr} {O : Addr} {N i n' : Nat} {X : Int} {tX : Tok} {m₀ m' : Str → Option Value} {news own : List (Addr × Obj)} {vs : List Value} {s₁ : Shared} {h' : Heap} {tk : Nat}
    (F : Fr h₀ L h' m') (Nw : News h₀ L h' ((O, listOf (vs.toArray.push (.int X tX)) n') :: news ++ own)) (hp : IntsAre vs (fixL N i)) (ho : ∀ p ∈ own, p.1 ≠ O) (ho2 : ∀ p ∈ own, ∀ q ∈ news, p.1 ≠ q.1) (hX : X = ((N / 256 ^ i % 256 : Nat) : Int))
    (hr : ∀ z, z ≠ Str.ofString "k" → m' z = m₀ z) :
    InvEndG h₀ L (RgJ (fun c : List Value × Nat => (O, listOf c.1.toArray c.2) :: news) (fun _ => []) (Str.ofString "k") [] m₀ (fun i c => IntsAre c.1 (fixL N i)) (i + 1)) own s₁ { s₁ with heap := h', toks := tk } := by
  have ea : vs.toArray.push (.int X tX) = (vs ++ [Value.int X tX]).toArray := by simp
  rw [ea] at Nw
  refine rg_end (c' := (vs ++ [Value.int X tX], n')) F Nw (fun p hp => List.mem_append.mpr (.inl hp)) (fun p hp => List.mem_append.mpr (.inr hp)) ?_ (fun _ h => nomatch h) (fun z h1 _ _ => hr z h1) ?_
  · intro p hp q hq
    rcases List.mem_cons.mp hq with rfl | hq
    · exact ho p hp
    · exact ho2 p hp q hq
  · show IntsAre (vs ++ [Value.int X tX]) (fixL N (i + 1))
    rw [fixL_snoc, hX]
    exact hp.append (.cons _ _ .nil)
end
theorem pow_sh (size : Nat) : 2 ^ (8 * (size : Int)).toNat = 256 ^ size := by
  have : (8 * (size : Int)).toNat = 8 * size := by omega
  rw [this, Nat.pow_mul]
def FbOut (ns : List Int) (news : List (Addr × Obj)) (r : Value) (news' : List (Addr × Obj)) : Prop := ∃ b t, r = .bytes b t ∧ news' = news ∧ KBw.bInts b = ns
def FbC (f : Addr) (prog : Program) (w : World) (K : Frag) (p : Program) (loose : List Str) (mean : ExcName → Option Value) (mg mb : Str → Option Value) : Prop :=
  ∀ (N size : Nat) (x y : Int) (t u : Tok) (news : List (Addr × Obj)), x = (N : Int) → y = (size : Int) → size ≤ 4 → N < 256 ^ size → Fun prog w K p loose mean mg mb 20 f [.int x t, .int y u] news (FbOut (fixL N size) news)
def RfOut (n e : Int) (news : List (Addr × Obj)) (r : Value) (news' : List (Addr × Obj)) : Prop := ∃ T x y t1 t2, r = .ref T ∧ news' = (T, { cls := .type "tuple", data := .seq #[.int x t1, .int y t2] }) :: news ∧ (∀ q ∈ news, q.1 < T) ∧ x = n ∧ y = e
def RfC (f : Addr) (prog : Program) (w : World) (K : Frag) (p : Program) (loose : List Str) (mean : ExcName → Option Value) (mg mb : Str → Option Value) : Prop :=
  ∀ (b : Array UInt8) (ks : List Int) (N size a : Nat) (x y : Int) (tb t u : Tok) (news : List (Addr × Obj)), KBw.bInts b = ks → x = (a : Int) → y = (size : Int) → size ≤ 4 → N < 256 ^ size → ks.drop a = fixL N size → a + size = ks.length → ks.length ≤ 1000000 →
    Fun prog w K p loose mean mg mb 20 f [.bytes b tb, .int x t, .int y u] news (RfOut N (a + size : Nat) news)
theorem rf_ret {h₀ h : Heap} {L T : Addr} {m : Str → Option Value} {s : Shared} {Q : Value → Shared → Prop} {n e x y : Int} {t1 t2 : Tok} {news : List (Addr × Obj)} {tk : Nat}
    (hret : ∀ r news' h' tk', RfOut n e news r news' → Fr h₀ L h' m → News h₀ L h' news' → Q r { s with heap := h', toks := tk' })
    (N : News h₀ L h ((T, { cls := .type "tuple", data := .seq #[.int x t1, .int y t2] }) :: news)) (F : Fr h₀ L h m) (l1 : ∀ q ∈ news, q.1 < T) (hx : x = n) (hy : y = e) : Q (.ref T) { s with heap := h, toks := tk } :=
  hret _ _ _ _ ⟨_, _, _, _, _, rfl, rfl, l1, hx, hy⟩ F N
def crcBit (v : Nat) : Nat := if v % 2 = 1 then (v / 2) ^^^ 3988292384 else v / 2
def crcTab (b : Nat) : Nat := crcBit (crcBit (crcBit (crcBit (crcBit (crcBit (crcBit (crcBit b)))))))
def crcInv : List Nat := [0, 65, 195, 130, 134, 199, 69, 4, 77, 12, 142, 207, 203, 138, 8, 73, 154, 219, 89, 24, 28, 93, 223, 158, 215, 150, 20, 85, 81, 16, 146, 211, 117, 52, 182, 247, 243, 178, 48, 113, 56, 121, 251, 186, 190, 255, 125, 60, 239, 174, 44, 109, 105, 40, 170, 235, 162, 227, 97, 32, 36, 101, 231, 166, 234, 171, 41, 104, 108, 45, 175, 238, 167, 230, 100, 37, 33, 96, 226, 163, 112, 49, 179, 242, 246, 183, 53, 116, 61, 124, 254, 191, 187, 250, 120, 57, 159, 222, 92, 29, 25, 88, 218, 155, 210, 147, 17, 80, 84, 21, 151, 214, 5, 68, 198, 135, 131, 194, 64, 1, 72, 9, 139, 202, 206, 143, 13, 76, 149, 212, 86, 23, 19, 82, 208, 145, 216, 153, 27, 90, 94, 31, 157, 220, 15, 78, 204, 141, 137, 200, 74, 11, 66, 3, 129, 192, 196, 133, 7, 70, 224, 161, 35, 98, 102, 39, 165, 228, 173, 236, 110, 47, 43, 106, 232, 169, 122, 59, 185, 248, 252, 189, 63, 126, 55, 118, 244, 181, 177, 240, 114, 51, 127, 62, 188, 253, 249, 184, 58, 123, 50, 115, 241, 176, 180, 245, 119, 54, 229, 164, 38, 103, 99, 34, 160, 225, 168, 233, 107, 42, 46, 111, 237, 172, 10, 75, 201, 136, 140, 205, 79, 14, 71, 6, 132, 197, 193, 128, 2, 67, 144, 209, 83, 18, 22, 87, 213, 148, 221, 156, 30, 95, 91, 26, 152, 217]
theorem crcTab_inv : ((List.range 256).all fun i => crcInv.getD (crcTab i / 2 ^ 24) 0 == i && decide (crcTab i < 2 ^ 32)) = true := by decide +kernel
theorem crcTab_at {i : Nat} (h : i < 256) : crcInv.getD (crcTab i / 2 ^ 24) 0 = i ∧ crcTab i < 2 ^ 32 := by
  have h1 := List.all_eq_true.mp crcTab_inv i (List.mem_range.mpr h)
  rw [Bool.and_eq_true] at h1
  exact ⟨by simpa using h1.1, of_decide_eq_true h1.2⟩
theorem crcTab_inj {i j : Nat} (hi : i < 256) (hj : j < 256) (h : crcTab i / 2 ^ 24 = crcTab j / 2 ^ 24) : i = j := by
  rw [← (crcTab_at hi).1, h, (crcTab_at hj).1]
/-- one byte more -/
def crcStep (v b : Nat) : Nat := (v / 256) ^^^ crcTab ((v ^^^ b) % 256)
theorem crcStep_lt {v b : Nat} (h : v < 2 ^ 32) : crcStep v b < 2 ^ 32 :=
  Nat.xor_lt_two_pow (by omega) (crcTab_at (Nat.mod_lt _ (by decide))).2
theorem crcStep_top {v b : Nat} (h : v < 2 ^ 32) : crcStep v b / 2 ^ 24 = crcTab ((v ^^^ b) % 256) / 2 ^ 24 := by
  rw [crcStep, ← Nat.shiftRight_eq_div_pow, Nat.shiftRight_xor_distrib, Nat.shiftRight_eq_div_pow, Nat.shiftRight_eq_div_pow, show v / 256 / 2 ^ 24 = 0 by omega, Nat.zero_xor]
theorem xor_mod (v b : Nat) : (v ^^^ b) % 256 = (v % 256) ^^^ (b % 256) := Nat.xor_mod_two_pow (n := 8)
theorem xor_can {a b c : Nat} (h : a ^^^ b = a ^^^ c) : b = c := by
  have h2 : a ^^^ (a ^^^ b) = a ^^^ (a ^^^ c) := by rw [h]
  rw [← Nat.xor_assoc, ← Nat.xor_assoc, Nat.xor_self, Nat.zero_xor, Nat.zero_xor] at h2
  exact h2
theorem crcStep_idx {v v' b b' : Nat} (h : v < 2 ^ 32) (h' : v' < 2 ^ 32) (e : crcStep v b = crcStep v' b') : (v ^^^ b) % 256 = (v' ^^^ b') % 256 ∧ v / 256 = v' / 256 := by
  have e1 : (v ^^^ b) % 256 = (v' ^^^ b') % 256 := crcTab_inj (Nat.mod_lt _ (by decide)) (Nat.mod_lt _ (by decide)) (by rw [← crcStep_top h, ← crcStep_top h', e])
  refine ⟨e1, ?_⟩
  rw [crcStep, crcStep, e1, Nat.xor_comm, Nat.xor_comm (v' / 256)] at e
  exact xor_can e
theorem crcStep_inj {v v' b : Nat} (h : v < 2 ^ 32) (h' : v' < 2 ^ 32) (e : crcStep v b = crcStep v' b) : v = v' := by
  obtain ⟨e1, e2⟩ := crcStep_idx h h' e
  rw [xor_mod, xor_mod, Nat.xor_comm, Nat.xor_comm (v' % 256)] at e1
  have := xor_can e1
  omega
theorem crcStep_byte {v b b' : Nat} (h : v < 2 ^ 32) (hb : b < 256) (hb' : b' < 256) (e : crcStep v b = crcStep v b') : b = b' := by
  obtain ⟨e1, _⟩ := crcStep_idx h h e
  rw [xor_mod, xor_mod] at e1
  have := xor_can e1
  omega
def crcAll (v : Nat) (l : List Nat) : Nat := l.foldl crcStep v
theorem crcAll_lt : ∀ (l : List Nat) {v : Nat}, v < 2 ^ 32 → crcAll v l < 2 ^ 32
  | [], _, h => h
  | _ :: r, _, h => crcAll_lt r (crcStep_lt h)
theorem crcAll_inj : ∀ (l : List Nat) {v v' : Nat}, v < 2 ^ 32 → v' < 2 ^ 32 → crcAll v l = crcAll v' l → v = v'
  | [], _, _, _, _, e => e
  | b :: r, _, _, h, h', e => crcStep_inj (b := b) h h' (crcAll_inj r (crcStep_lt h) (crcStep_lt h') e)
theorem crc_turned {p r : List Nat} {b b' v : Nat} (h : v < 2 ^ 32) (hb : b < 256) (hb' : b' < 256) (e : crcAll v (p ++ b :: r) = crcAll v (p ++ b' :: r)) : b = b' := by
  unfold crcAll at e
  rw [List.foldl_append, List.foldl_append, List.foldl_cons, List.foldl_cons] at e
  have h1 : crcAll v p < 2 ^ 32 := crcAll_lt p h
  exact crcStep_byte h1 hb hb' (crcAll_inj r (crcStep_lt h1) (crcStep_lt h1) e)
theorem xor_back (x m : Nat) : x ^^^ m ^^^ m = x := by rw [Nat.xor_assoc, Nat.xor_self, Nat.xor_zero]
theorem xor_and_add : ∀ (n a b : Nat), a < 2 ^ n → (a ^^^ b) + 2 * (a &&& b) = a + b
  | 0, a, b, h => by
    have : a = 0 := by simpa using h
    subst this; simp
  | n + 1, a, b, h => by
    have ih := xor_and_add n (a / 2) (b / 2) (by rw [Nat.pow_succ] at h; omega)
    have e1 : (a ^^^ b) / 2 = (a / 2) ^^^ (b / 2) := Nat.xor_div_two
    have e2 : (a &&& b) / 2 = (a / 2) &&& (b / 2) := Nat.and_div_two
    have e3 : (a ^^^ b) % 2 = (a % 2 + b % 2) % 2 := by
      have h1 := @Nat.xor_mod_two_eq_one a b
      have ha := Nat.mod_two_eq_zero_or_one a
      have hb := Nat.mod_two_eq_zero_or_one b
      have hx := Nat.mod_two_eq_zero_or_one (a ^^^ b)
      rcases ha with ha | ha <;> rcases hb with hb | hb <;> rcases hx with hx | hx <;> simp_all
    have e4 : (a &&& b) % 2 = (a % 2) * (b % 2) := by
      have h1 := @Nat.and_mod_two_eq_one a b
      have ha := Nat.mod_two_eq_zero_or_one a
      have hb := Nat.mod_two_eq_zero_or_one b
      have hx := Nat.mod_two_eq_zero_or_one (a &&& b)
      rcases ha with ha | ha <;> rcases hb with hb | hb <;> rcases hx with hx | hx <;> simp_all
    have ha := Nat.mod_two_eq_zero_or_one a
    have hb := Nat.mod_two_eq_zero_or_one b
    rcases ha with ha | ha <;> rcases hb with hb | hb <;> rw [ha, hb] at e3 e4 <;> omega
theorem xor_nn (a b : Nat) : Builtin.bitXor (a : Int) (b : Int) = ((a ^^^ b : Nat) : Int) := by
  rw [bitXor_and, bitAnd_pp (Int.natCast_nonneg _) (Int.natCast_nonneg _), Int.toNat_natCast, Int.toNat_natCast]
  have := xor_and_add a a b (Nat.lt_two_pow_self)
  omega
theorem and255 (a : Nat) : Builtin.bitAnd (a : Int) 255 = ((a % 256 : Nat) : Int) := by rw [bitAnd_m8]; omega
def crcZ (ks : List Int) (x : Nat) : Nat := crcAll (x ^^^ 4294967295) (ks.map Int.toNat) ^^^ 4294967295
theorem crcZ_lt (ks : List Int) {x : Nat} (h : x < 2 ^ 32) : crcZ ks x < 2 ^ 32 := Nat.xor_lt_two_pow (crcAll_lt _ (Nat.xor_lt_two_pow h (by decide))) (by decide)
structure CrS where
  c : Nat
  t : Tok
def crPs (c : CrS) : List (Str × Value) := [(Str.ofString "value", .int c.c c.t)]
def crP (v₀ : Nat) (pre : List Int) (c : CrS) : Prop := c.c = crcAll v₀ (pre.map Int.toNat) ∧ c.c < 2 ^ 32
section
variable {prog : Program} {w : World} {A : Around} {E : Value → Shared → Prop} {Q : Flow → Shared → Prop} {s : Shared} {env : Env} {h₀ : Heap} {L : Addr}
theorem cr_for {body : List Stmt} {m₀ : Str → Option Value} {ks : List Int} {news : List (Addr × Obj)} {b : Array UInt8} {tb t₀ : Tok} {v₀ : Int} {n₀ : Nat}
    (hb : KBw.bInts b = ks) (hh : A.handled = none) (F : Fr h₀ env.locals s.heap m₀) (N : News h₀ env.locals s.heap news) (hv : m₀ (Str.ofString "value") = some (.int v₀ t₀)) (h0 : v₀ = n₀) (h1 : n₀ < 2 ^ 32)
    (turn : ∀ (c : Nat) (t tn : Tok) (pre : List Int) (n : Nat) (u : Str → Option Value) h tk own, n < 256 → c < 2 ^ 32 → c = crcAll n₀ (pre.map Int.toNat) →
      Fr h₀ env.locals h (fun y => if y = Str.ofString "byte" then some (.int n tn) else if y = Str.ofString "value" then some (.int c t) else if ([] : List Str).contains y then u y else m₀ y) → News h₀ env.locals h (news ++ own) →
      wpAny (model prog w) A (execs body env) (InvPostN h₀ env.locals (KstS (fun _ => news) crPs (fun _ => True) (Str.ofString "byte") [] m₀ (crP n₀) (pre ++ [(n : Int)])) own (news.map (·.1)) { s with heap := h, toks := tk } Q) E { s with heap := h, toks := tk })
    (done : ∀ (c : Nat) (t : Tok) (u : Str → Option Value) h tk, c < 2 ^ 32 → c = crcAll n₀ (ks.map Int.toNat) → Fr h₀ env.locals h (fun y => if y = Str.ofString "byte" then u y else if y = Str.ofString "value" then some (.int c t) else if ([] : List Str).contains y then u y else m₀ y) → News h₀ env.locals h news → Q .next { s with heap := h, toks := tk }) :
    wpAny (model prog w) A (pyIter (.bytes b tb)) (fun it s₂ => LoopAtV prog w A h₀ env (Str.ofString "byte") body Q E it s₂) E s := by
  refine KStb.kst_bytes (fun _ => news) crPs (fun _ => True) [] (crP n₀) ⟨n₀, t₀⟩ hb rfl hh F N trivial ?_ ⟨rfl, h1⟩ ?_ ?_
  · intro p hp
    rw [List.mem_singleton.mp hp, ← h0]
    exact hv
  · rintro ⟨c, t⟩ pre post n tn u h tk own he hl hn0 hn1 _ _ ⟨p1, p2⟩ F₁ N₁
    obtain ⟨n, rfl⟩ := Int.eq_ofNat_of_zero_le hn0
    exact turn c t tn pre n u h tk own (by omega) p2 p1 F₁ N₁
  · rintro ⟨c, t⟩ u h tk _ _ ⟨p1, p2⟩ F₁ N₁
    exact done c t u h tk p2 p1 F₁ N₁
theorem cr_end {m₀ m' : Str → Option Value} {news own : List (Addr × Obj)} {pre : List Int} {n₀ n c : Nat} {x : Int} {t' : Tok} {h' : Heap} {tk : Nat} {s₁ : Shared}
    (F : Fr h₀ L h' m') (N : News h₀ L h' (news ++ own)) (hm : m' (Str.ofString "value") = some (.int x t')) (hx : x = (crcStep c n : Nat))
    (hr : ∀ z, z ≠ Str.ofString "byte" → z ≠ Str.ofString "value" → m' z = m₀ z) (hn : n < 256) (h1 : c < 2 ^ 32) (h2 : c = crcAll n₀ (pre.map Int.toNat)) :
    InvEndN h₀ L (KstS (fun _ => news) crPs (fun _ => True) (Str.ofString "byte") [] m₀ (crP n₀) (pre ++ [(n : Int)])) own (news.map (·.1)) s₁ { s₁ with heap := h', toks := tk } := by
  refine kst_end (⟨crcStep c n, t'⟩ : CrS) F N (fun p hp => List.mem_append.mpr (.inl hp)) (fun p hp => List.mem_append.mpr (.inr hp)) rfl trivial ?_ ?_ ⟨?_, crcStep_lt h1⟩
  · intro p hp
    rw [List.mem_singleton.mp hp]
    show m' _ = some (.int ((crcStep c n : Nat) : Int) t')
    rw [← hx]
    exact hm
  · intro z h3 h4 _
    exact hr z h3 (h4 _ (.head _))
  · show crcStep c n = _
    rw [h2, crcAll, crcAll, List.map_append, List.foldl_append]
    simp
end
theorem rowL_ok : ((List.range 256).all fun i => match rowL[i]? with | some (.int v _) => v == (crcTab i : Int) | _ => false) = true := by decide +kernel
theorem rowL_at {i : Nat} (h : i < 256) : ∃ t, rowL[i]? = some (.int (crcTab i : Nat) t) := by
  have h1 := List.all_eq_true.mp rowL_ok i (List.mem_range.mpr h)
  split at h1
  · rename_i v t e
    exact ⟨t, by rw [e, show v = (crcTab i : Int) by simpa using h1]⟩
  · cases h1
section
variable {prog : Program} {w : World} {A : Around} {E : Value → Shared → Prop} {s : Shared} {h₀ : Heap} {L : Addr} {K : Frag} {m : Str → Option Value}
theorem tab_item {a : Addr} {value slice : Expr} {k : Int} {u : Tok} {i : Nat} {Q : Value → Shared → Prop} (F : Fr h₀ L s.heap m) (X₀ : K.In h₀) (hl : K.lookup a = some ⟨.type "list", none, .seq rowL.toArray 256, #[]⟩)
    (hk : k = i) (hi : i < 256) (h : ∀ t, Q (.int (crcTab i : Nat) t) s)
    (hs : subscripted slice false (.ref a) (.int k u) = operate [.ref a, .int k u] (getItem (.ref a) (.int k u)) := by with_unfolding_all rfl) :
    wpAny (model prog w) A (subscriptTail value slice (.ref a) (.int k u)) Q E s := by
  obtain ⟨t, ht⟩ := rowL_at hi
  refine topList_K F X₀ hl (by omega) (by omega) (v := .int (crcTab i : Nat) t) ?_ (h t) hs
  rw [hk, Int.toNat_natCast]
  exact ht
end
def CrOut (z : Nat) (news : List (Addr × Obj)) (r : Value) (news' : List (Addr × Obj)) : Prop := ∃ x t, r = .int x t ∧ news' = news ∧ x = (z : Int)
def CrC (f : Addr) (prog : Program) (w : World) (K : Frag) (p : Program) (loose : List Str) (mean : ExcName → Option Value) (mg mb : Str → Option Value) : Prop :=
  ∀ (b : Array UInt8) (ks : List Int) (tb : Tok) (news : List (Addr × Obj)), KBw.bInts b = ks → ks.length ≤ 1000 →
    Fun prog w K p loose mean mg mb 20 f [.bytes b tb] news (CrOut (crcZ ks 0) news)
def CrD (f : Addr) (prog : Program) (w : World) (K : Frag) (p : Program) (loose : List Str) (mean : ExcName → Option Value) (mg mb : Str → Option Value) : Prop :=
  ∀ (b : Array UInt8) (ks : List Int) (tb : Tok) (news : List (Addr × Obj)) (x : Nat) (t : Tok), KBw.bInts b = ks → ks.length ≤ 1000 → x < 2 ^ 32 → Fun prog w K p loose mean mg mb 20 f [.bytes b tb, .int x t] news (CrOut (crcZ ks x) news)
theorem xor_M (x : Nat) : Builtin.bitXor (x : Int) 4294967295 = ((x ^^^ 4294967295 : Nat) : Int) := xor_nn x 4294967295
theorem step_x {c n : Nat} : Builtin.bitXor ((c : Int).fdiv (2 ^ (8 : Int).toNat)) ((crcTab ((c ^^^ n) % 256) : Nat) : Int) = (crcStep c n : Nat) := by
  have e : (c : Int).fdiv (2 ^ (8 : Int).toNat) = ((c / 256 : Nat) : Int) := by
    have : ((2 : Int) ^ (8 : Int).toNat) = 256 := by decide
    rw [this, Int.fdiv_eq_ediv_of_nonneg _ (by decide)]
    omega
  rw [e, xor_nn, crcStep]
theorem idx_x {c n : Nat} : Builtin.bitAnd (Builtin.bitXor (c : Int) (n : Int)) 255 = (((c ^^^ n) % 256 : Nat) : Int) := by rw [xor_nn, and255]
theorem xor_0 : Builtin.bitXor 0 4294967295 = ((0 ^^^ 4294967295 : Nat) : Int) := xor_nn 0 4294967295
theorem cr_val {c x : Nat} {ks : List Int} (h : c = crcAll (x ^^^ 4294967295) (ks.map Int.toNat)) : Builtin.bitXor (c : Int) 4294967295 = (crcZ ks x : Nat) := by rw [xor_M, crcZ, h]
/-- a fold over the bytes by one int -/
structure V1 where
  c : Nat
  t : Tok
def v1Ps (c : V1) : List (Str × Value) := [(Str.ofString "value", .int c.c c.t)]
def v1P (stp : Nat → Nat → Nat) (B v₀ : Nat) (pre : List Int) (c : V1) : Prop := c.c = (pre.map Int.toNat).foldl stp v₀ ∧ c.c < B
/-- and by two -/
structure V2 where
  l : Nat
  h : Nat
  tl : Tok
  th : Tok
def v2Ps (c : V2) : List (Str × Value) := [(Str.ofString "low", .int c.l c.tl), (Str.ofString "high", .int c.h c.th)]
def st2 (m : Nat) (x : Nat × Nat) (n : Nat) : Nat × Nat := ((x.1 + n) % m, (x.2 + (x.1 + n) % m) % m)
def v2P (m : Nat) (v₀ : Nat × Nat) (pre : List Int) (c : V2) : Prop := (c.l, c.h) = (pre.map Int.toNat).foldl (st2 m) v₀ ∧ c.l < m ∧ c.h < m
section
variable {prog : Program} {w : World} {A : Around} {E : Value → Shared → Prop} {Q : Flow → Shared → Prop} {s : Shared} {env : Env} {h₀ : Heap} {L : Addr}
theorem v1_for (stp : Nat → Nat → Nat) (B : Nat) {body : List Stmt} {m₀ : Str → Option Value} {ks : List Int} {news : List (Addr × Obj)} {b : Array UInt8} {tb t₀ : Tok} {v₀ : Int} {n₀ : Nat}
    (hb : KBw.bInts b = ks) (hh : A.handled = none) (F : Fr h₀ env.locals s.heap m₀) (N : News h₀ env.locals s.heap news) (hv : m₀ (Str.ofString "value") = some (.int v₀ t₀)) (h0 : v₀ = n₀) (h1 : n₀ < B)
    (turn : ∀ (c : Nat) (t tn : Tok) (pre : List Int) (n : Nat) (u : Str → Option Value) h tk own, n < 256 → c < B → c = (pre.map Int.toNat).foldl stp n₀ →
      Fr h₀ env.locals h (fun y => if y = Str.ofString "byte" then some (.int n tn) else if y = Str.ofString "value" then some (.int c t) else if ([] : List Str).contains y then u y else m₀ y) → News h₀ env.locals h (news ++ own) →
      wpAny (model prog w) A (execs body env) (InvPostN h₀ env.locals (KstS (fun _ => news) v1Ps (fun _ => True) (Str.ofString "byte") [] m₀ (v1P stp B n₀) (pre ++ [(n : Int)])) own (news.map (·.1)) { s with heap := h, toks := tk } Q) E { s with heap := h, toks := tk })
    (done : ∀ (c : Nat) (t : Tok) (u : Str → Option Value) h tk, c < B → c = (ks.map Int.toNat).foldl stp n₀ → Fr h₀ env.locals h (fun y => if y = Str.ofString "byte" then u y else if y = Str.ofString "value" then some (.int c t) else if ([] : List Str).contains y then u y else m₀ y) → News h₀ env.locals h news → Q .next { s with heap := h, toks := tk }) :
    wpAny (model prog w) A (pyIter (.bytes b tb)) (fun it s₂ => LoopAtV prog w A h₀ env (Str.ofString "byte") body Q E it s₂) E s := by
  refine KStb.kst_bytes (fun _ => news) v1Ps (fun _ => True) [] (v1P stp B n₀) ⟨n₀, t₀⟩ hb rfl hh F N trivial ?_ ⟨rfl, h1⟩ ?_ ?_
  · intro p hp
    rw [List.mem_singleton.mp hp, ← h0]
    exact hv
  · rintro ⟨c, t⟩ pre post n tn u h tk own he hl hn0 hn1 _ _ ⟨p1, p2⟩ F₁ N₁
    obtain ⟨n, rfl⟩ := Int.eq_ofNat_of_zero_le hn0
    exact turn c t tn pre n u h tk own (by omega) p2 p1 F₁ N₁
  · rintro ⟨c, t⟩ u h tk _ _ ⟨p1, p2⟩ F₁ N₁
    exact done c t u h tk p2 p1 F₁ N₁
theorem v1_end {stp : Nat → Nat → Nat} {B : Nat} {m₀ m' : Str → Option Value} {news own : List (Addr × Obj)} {pre : List Int} {n₀ n c : Nat} {x : Int} {t' : Tok} {h' : Heap} {tk : Nat} {s₁ : Shared}
    (F : Fr h₀ L h' m') (N : News h₀ L h' (news ++ own)) (hm : m' (Str.ofString "value") = some (.int x t')) (hx : x = (stp c n : Nat))
    (hr : ∀ z, z ≠ Str.ofString "byte" → z ≠ Str.ofString "value" → m' z = m₀ z) (h1 : stp c n < B) (h2 : c = (pre.map Int.toNat).foldl stp n₀) :
    InvEndN h₀ L (KstS (fun _ => news) v1Ps (fun _ => True) (Str.ofString "byte") [] m₀ (v1P stp B n₀) (pre ++ [(n : Int)])) own (news.map (·.1)) s₁ { s₁ with heap := h', toks := tk } := by
  refine kst_end (⟨stp c n, t'⟩ : V1) F N (fun p hp => List.mem_append.mpr (.inl hp)) (fun p hp => List.mem_append.mpr (.inr hp)) rfl trivial ?_ ?_ ⟨?_, h1⟩
  · intro p hp
    rw [List.mem_singleton.mp hp]
    show m' _ = some (.int ((stp c n : Nat) : Int) t')
    rw [← hx]
    exact hm
  · intro z h3 h4 _
    exact hr z h3 (h4 _ (.head _))
  · show stp c n = _
    rw [h2, List.map_append, List.foldl_append]
    simp
theorem v2_for (m : Nat) {body : List Stmt} {m₀ : Str → Option Value} {ks : List Int} {news : List (Addr × Obj)} {b : Array UInt8} {tb t₀ t₁ : Tok} {v₀ v₁ : Int} {n₀ n₁ : Nat}
    (hb : KBw.bInts b = ks) (hh : A.handled = none) (F : Fr h₀ env.locals s.heap m₀) (N : News h₀ env.locals s.heap news) (hv : m₀ (Str.ofString "low") = some (.int v₀ t₀)) (hw : m₀ (Str.ofString "high") = some (.int v₁ t₁)) (h0 : v₀ = n₀) (h0' : v₁ = n₁) (h1 : n₀ < m) (h1' : n₁ < m)
    (turn : ∀ (l h' : Nat) (tl th tn : Tok) (pre : List Int) (n : Nat) (u : Str → Option Value) h tk own, n < 256 → l < m → h' < m → (l, h') = (pre.map Int.toNat).foldl (st2 m) (n₀, n₁) →
      Fr h₀ env.locals h (fun y => if y = Str.ofString "byte" then some (.int n tn) else if y = Str.ofString "low" then some (.int l tl) else if y = Str.ofString "high" then some (.int h' th) else if ([] : List Str).contains y then u y else m₀ y) → News h₀ env.locals h (news ++ own) →
      wpAny (model prog w) A (execs body env) (InvPostN h₀ env.locals (KstS (fun _ => news) v2Ps (fun _ => True) (Str.ofString "byte") [] m₀ (v2P m (n₀, n₁)) (pre ++ [(n : Int)])) own (news.map (·.1)) { s with heap := h, toks := tk } Q) E { s with heap := h, toks := tk })
    (done : ∀ (l h' : Nat) (tl th : Tok) (u : Str → Option Value) h tk, l < m → h' < m → (l, h') = (ks.map Int.toNat).foldl (st2 m) (n₀, n₁) → Fr h₀ env.locals h (fun y => if y = Str.ofString "byte" then u y else if y = Str.ofString "low" then some (.int l tl) else if y = Str.ofString "high" then some (.int h' th) else if ([] : List Str).contains y then u y else m₀ y) → News h₀ env.locals h news → Q .next { s with heap := h, toks := tk }) :
    wpAny (model prog w) A (pyIter (.bytes b tb)) (fun it s₂ => LoopAtV prog w A h₀ env (Str.ofString "byte") body Q E it s₂) E s := by
  refine KStb.kst_bytes (fun _ => news) v2Ps (fun _ => True) [] (v2P m (n₀, n₁)) ⟨n₀, n₁, t₀, t₁⟩ hb rfl hh F N trivial ?_ ⟨rfl, h1, h1'⟩ ?_ ?_
  · intro p hp
    rcases List.mem_cons.mp hp with rfl | hp
    · exact h0 ▸ hv
    · rw [List.mem_singleton.mp hp]
      exact h0' ▸ hw
  · rintro ⟨l, h', tl, th⟩ pre post n tn u h tk own he hl hn0 hn1 _ _ ⟨p1, p2, p3⟩ F₁ N₁
    obtain ⟨n, rfl⟩ := Int.eq_ofNat_of_zero_le hn0
    exact turn l h' tl th tn pre n u h tk own (by omega) p2 p3 p1 F₁ N₁
  · rintro ⟨l, h', tl, th⟩ u h tk _ _ ⟨p1, p2, p3⟩ F₁ N₁
    exact done l h' tl th u h tk p2 p3 p1 F₁ N₁
theorem v2_end {m : Nat} {m₀ m' : Str → Option Value} {news own : List (Addr × Obj)} {pre : List Int} {v₀ : Nat × Nat} {n l hh : Nat} {x y : Int} {t' t'' : Tok} {h' : Heap} {tk : Nat} {s₁ : Shared}
    (F : Fr h₀ L h' m') (N : News h₀ L h' (news ++ own)) (hm : m' (Str.ofString "low") = some (.int x t')) (hm' : m' (Str.ofString "high") = some (.int y t'')) (hx : x = ((l + n : Nat) : Int) % (m : Int)) (hy : y = ((hh : Int) + ((l + n : Nat) : Int) % (m : Int)) % (m : Int))
    (hr : ∀ z, z ≠ Str.ofString "byte" → z ≠ Str.ofString "low" → z ≠ Str.ofString "high" → m' z = m₀ z) (hp : 0 < m) (h2 : (l, hh) = (pre.map Int.toNat).foldl (st2 m) v₀) :
    InvEndN h₀ L (KstS (fun _ => news) v2Ps (fun _ => True) (Str.ofString "byte") [] m₀ (v2P m v₀) (pre ++ [(n : Int)])) own (news.map (·.1)) s₁ { s₁ with heap := h', toks := tk } := by
  have ex : x = (((l + n) % m : Nat) : Int) := by rw [hx, Int.natCast_emod]
  have ey : y = (((hh + (l + n) % m) % m : Nat) : Int) := by rw [hy]; simp only [Int.natCast_add, Int.natCast_emod]
  refine kst_end (⟨(l + n) % m, (hh + (l + n) % m) % m, t', t''⟩ : V2) F N (fun p hp => List.mem_append.mpr (.inl hp)) (fun p hp => List.mem_append.mpr (.inr hp)) rfl trivial ?_ ?_ ⟨?_, Nat.mod_lt _ hp, Nat.mod_lt _ hp⟩
  · intro p hp
    rcases List.mem_cons.mp hp with rfl | hp
    · exact ex ▸ hm
    · rw [List.mem_singleton.mp hp]
      exact ey ▸ hm'
  · intro z h3 h4 _
    exact hr z h3 (h4 _ (.head _)) (h4 _ (.tail _ (.head _)))
  · show ((l + n) % m, (hh + (l + n) % m) % m) = _
    rw [List.map_append, List.foldl_append, ← h2]
    simp [st2]
end
structure MkX : Prop where
  one : True
structure MkS : Prop where
  one : True
def xorZ (ks : List Int) (x : Nat) : Nat := (ks.map Int.toNat).foldl (fun c n => c ^^^ n) x
def sumZ8 (ks : List Int) (x : Nat) : Nat := (ks.map Int.toNat).foldl (fun c n => (c + n) % 256) x
def twoZ (m b : Nat) (ks : List Int) (x : Nat) : Nat := ((ks.map Int.toNat).foldl (st2 m) (x % b, x / b)).2 * b + ((ks.map Int.toNat).foldl (st2 m) (x % b, x / b)).1
def bdT (m b : Nat) (x : Nat) : Prop := x % b < m ∧ x / b < m
/-- a check by a fold: two arguments -/
def FoldC (f : Addr) (Bd : Nat → Prop) (Z : List Int → Nat → Nat) (prog : Program) (w : World) (K : Frag) (p : Program) (loose : List Str) (mean : ExcName → Option Value) (mg mb : Str → Option Value) : Prop :=
  ∀ (b : Array UInt8) (ks : List Int) (tb : Tok) (news : List (Addr × Obj)) (y : Int) (x : Nat) (t : Tok), KBw.bInts b = ks → ks.length ≤ 1000 → y = x → Bd x → Fun prog w K p loose mean mg mb 20 f [.bytes b tb, .int y t] news (CrOut (Z ks x) news)
theorem add255 (c n : Nat) : Builtin.bitAnd ((c : Int) + (n : Int)) 255 = (((c + n) % 256 : Nat) : Int) := by rw [bitAnd_m8]; omega
theorem shr8 (x : Nat) : (x : Int).fdiv (2 ^ (8 : Int).toNat) = ((x / 256 : Nat) : Int) := by
  have : ((2 : Int) ^ (8 : Int).toNat) = 256 := by decide
  rw [this, Int.fdiv_eq_ediv_of_nonneg _ (by decide)]
  omega
theorem shr16 (x : Nat) : (x : Int).fdiv (2 ^ (16 : Int).toNat) = ((x / 65536 : Nat) : Int) := by
  have : ((2 : Int) ^ (16 : Int).toNat) = 65536 := by decide
  rw [this, Int.fdiv_eq_ediv_of_nonneg _ (by decide)]
  omega
theorem and16 (x : Nat) : Builtin.bitAnd (x : Int) 65535 = ((x % 65536 : Nat) : Int) := by rw [bitAnd_m16]; omega
theorem fm_low {l n m : Nat} : ((l : Int) + (n : Int)).fmod (m : Int) = ((l + n : Nat) : Int) % (m : Int) := by rw [Int.fmod_eq_emod_of_nonneg _ (by omega), Int.natCast_add]
theorem fm_high {l n hh m : Nat} : ((hh : Int) + ((l : Int) + (n : Int)).fmod (m : Int)).fmod (m : Int) = ((hh : Int) + ((l + n : Nat) : Int) % (m : Int)) % (m : Int) := by rw [fm_low, Int.fmod_eq_emod_of_nonneg _ (by omega)]
theorem two_val {m b l hh x : Nat} {ks : List Int} (h : (l, hh) = (ks.map Int.toNat).foldl (st2 m) (x % b, x / b)) : (hh : Int) * (b : Int) + (l : Int) = (twoZ m b ks x : Nat) := by
  unfold twoZ
  rw [← h, Int.natCast_add, Int.natCast_mul]
theorem two_fl {l hh x : Nat} {ks : List Int} (h : (l, hh) = (ks.map Int.toNat).foldl (st2 255) (x % 256, x / 256)) : (hh : Int) * 256 + (l : Int) = (twoZ 255 256 ks x : Nat) := two_val h
theorem two_ad {l hh x : Nat} {ks : List Int} (h : (l, hh) = (ks.map Int.toNat).foldl (st2 65521) (x % 65536, x / 65536)) : (hh : Int) * 65536 + (l : Int) = (twoZ 65521 65536 ks x : Nat) := two_val h
theorem fl_low {l n : Nat} : ((l : Int) + (n : Int)).fmod 255 = ((l + n : Nat) : Int) % ((255 : Nat) : Int) := fm_low (m := 255)
theorem fl_high {l n hh : Nat} : ((hh : Int) + ((l : Int) + (n : Int)).fmod 255).fmod 255 = ((hh : Int) + ((l + n : Nat) : Int) % ((255 : Nat) : Int)) % ((255 : Nat) : Int) := fm_high (m := 255)
theorem ad_low {l n : Nat} : ((l : Int) + (n : Int)).fmod 65521 = ((l + n : Nat) : Int) % ((65521 : Nat) : Int) := fm_low (m := 65521)
theorem ad_high {l n hh : Nat} : ((hh : Int) + ((l : Int) + (n : Int)).fmod 65521).fmod 65521 = ((hh : Int) + ((l + n : Nat) : Int) % ((65521 : Nat) : Int)) % ((65521 : Nat) : Int) := fm_high (m := 65521)
theorem z0 : (0 : Int) = ((0 : Nat) : Int) := rfl
theorem z1 : (1 : Int) = ((1 : Nat) : Int) := rfl
theorem fold_lt {stp : Nat → Nat → Nat} {B : Nat} (h : ∀ c n, c < B → n < 256 → stp c n < B) : ∀ (l : List Nat) (x : Nat), (∀ n ∈ l, n < 256) → x < B → l.foldl stp x < B
  | [], _, _, hx => hx
  | n :: r, x, hl, hx => fold_lt h r _ (fun k hk => hl k (.tail _ hk)) (h x n hx (hl n (.head _)))
theorem ints_nat {b : Array UInt8} {ks : List Int} (hb : KBw.bInts b = ks) : ∀ n ∈ ks.map Int.toNat, n < 256 := by
  intro n hn
  obtain ⟨k, hk, rfl⟩ := List.mem_map.mp hn
  have := KBw.ints_in (b := b) (hb ▸ hk)
  omega
theorem xorZ_lt {b : Array UInt8} {ks : List Int} {x : Nat} (hb : KBw.bInts b = ks) (hx : x < 256) : xorZ ks x < 256 := fold_lt (fun c n h1 h2 => Nat.xor_lt_two_pow (n := 8) h1 h2) _ _ (ints_nat hb) hx
theorem sumZ_lt {b : Array UInt8} {ks : List Int} {x : Nat} (hb : KBw.bInts b = ks) (hx : x < 256) : sumZ8 ks x < 256 := fold_lt (fun c n _ _ => Nat.mod_lt _ (by decide)) _ _ (ints_nat hb) hx
theorem st2_lt {m : Nat} (hm : 0 < m) : ∀ (l : List Nat) (x : Nat × Nat), x.1 < m → x.2 < m → (l.foldl (st2 m) x).1 < m ∧ (l.foldl (st2 m) x).2 < m
  | [], _, h1, h2 => ⟨h1, h2⟩
  | _ :: r, _, _, _ => st2_lt hm r _ (Nat.mod_lt _ hm) (Nat.mod_lt _ hm)
theorem twoZ_bd {m b : Nat} {ks : List Int} {x : Nat} (hm : 0 < m) (hb : m ≤ b) (hx : bdT m b x) : bdT m b (twoZ m b ks x) := by
  obtain ⟨h1, h2⟩ := st2_lt hm (ks.map Int.toNat) (x % b, x / b) hx.1 hx.2
  unfold bdT twoZ
  generalize (ks.map Int.toNat).foldl (st2 m) (x % b, x / b) = p at h1 h2
  rw [Nat.mul_comm, Nat.mul_add_mod, Nat.mod_eq_of_lt (by omega), Nat.mul_add_div (by omega), Nat.div_eq_of_lt (show p.1 < b by omega)]
  exact ⟨h1, by omega⟩
section
variable {prog : Program} {w : World} {A : Around} {E : Value → Shared → Prop} {s : Shared} {h₀ : Heap} {L a : Addr} {K : Frag} {m : Str → Option Value} {n : Nat} {x : Str} {t : Tok} {es : Array DictEntry}
theorem topNotIn {r : Option Value} {Q : Value → Shared → Prop} (F : Fr h₀ L s.heap m) (X₀ : K.In h₀) (hl : K.lookup a = some ⟨.type "dict", none, .dict es n, #[]⟩) (hk : KeysLit w.params es.toList) (e : nsIn K a x = some r) (lo : (a == sysModules) = false)
    (h : Q (.bool (!r.isSome)) { s with toks := s.toks + 1 }) : wpAny (model prog w) A (compareOp .NotIn (.str x t) (.ref a)) Q E s :=
  wpAny_notIn_of (strKind_is prog w x t) lo (mapOf_K (prog := prog) (X₀.keeps F.keep) hl hk) (by rw [find_K hl e]; exact h)
theorem kind_item {value slice : Expr} {l : List Value} {dd : Option Addr} {sl : Array (Option Value)} {k : Int} {u : Tok} {v0 v1 v2 v3 v4 v5 : Value} {Q : Value → Shared → Prop} (F : Fr h₀ L s.heap m) (X₀ : K.In h₀) (hl : K.lookup a = some ⟨.type "list", dd, .seq l.toArray n, sl⟩)
    (he : l = [v0, v1, v2, v3, v4, v5]) (h0 : 0 ≤ k) (h1 : k < 6) (q0 : Q v0 s) (q1 : Q v1 s) (q2 : Q v2 s) (q3 : Q v3 s) (q4 : Q v4 s) (q5 : Q v5 s)
    (hs : subscripted slice false (.ref a) (.int k u) = operate [.ref a, .int k u] (getItem (.ref a) (.int k u)) := by with_unfolding_all rfl) :
    wpAny (model prog w) A (subscriptTail value slice (.ref a) (.int k u)) Q E s := by
  subst he
  have hk : k = 0 ∨ k = 1 ∨ k = 2 ∨ k = 3 ∨ k = 4 ∨ k = 5 := by omega
  rcases hk with rfl | rfl | rfl | rfl | rfl | rfl
  · exact topList_K F X₀ hl h0 (by decide) rfl q0 hs
  · exact topList_K F X₀ hl h0 (by decide) rfl q1 hs
  · exact topList_K F X₀ hl h0 (by decide) rfl q2 hs
  · exact topList_K F X₀ hl h0 (by decide) rfl q3 hs
  · exact topList_K F X₀ hl h0 (by decide) rfl q4 hs
  · exact topList_K F X₀ hl h0 (by decide) rfl q5 hs
end
section
variable {prog : Program} {w : World} {A : Around} {E : Value → Shared → Prop} {s : Shared}
theorem mul_data {v n : Int} {t u : Tok} {Q : Value → Shared → Prop} (h0 : 0 ≤ n) (h1 : n < 10)
    (h : ∀ (b : Array UInt8) (ks : List Int) (t' : Tok) (k : Nat), KBw.bInts b = ks → ks.length ≤ 9 → Q (.bytes b t') { s with toks := k }) :
    wpAny (model prog w) A (binaryOp .Mult (.bytes (List.toArray [v.toNat.toUInt8]) t) (.int n u)) Q E s := by
  refine bytes_mul_any (List.cons_ne_nil _ _) (by omega) (by omega) (by simp) fun t' k => h _ _ t' k rfl ?_
  rw [KBw.ints_length]
  have e : (List.replicate n.toNat [v.toNat.toUInt8]).flatten = List.replicate n.toNat v.toNat.toUInt8 := by
    induction n.toNat with
    | zero => rfl
    | succ k ih => rw [List.replicate_succ, List.flatten_cons, ih]; rfl
  rw [e, List.size_toArray, List.length_replicate]
  omega
end
theorem xr_lt {b : Array UInt8} {ks : List Int} (hb : KBw.bInts b = ks) : xorZ ks 0 < 256 ^ 1 := xorZ_lt hb (by decide)
theorem sm_lt {b : Array UInt8} {ks : List Int} (hb : KBw.bInts b = ks) : sumZ8 ks 0 < 256 ^ 1 := sumZ_lt hb (by decide)
theorem fl_lt {ks : List Int} : twoZ 255 256 ks 0 < 256 ^ 2 := by
  have h := twoZ_bd (m := 255) (b := 256) (ks := ks) (x := 0) (by decide) (by decide) ⟨by decide, by decide⟩
  unfold bdT at h
  omega
theorem ad_lt {ks : List Int} : twoZ 65521 65536 ks 1 < 256 ^ 4 := by
  have h := twoZ_bd (m := 65521) (b := 65536) (ks := ks) (x := 1) (by decide) (by decide) ⟨by decide, by decide⟩
  unfold bdT at h
  omega
theorem cr_lt {ks : List Int} : crcZ ks 0 < 256 ^ 4 := crcZ_lt ks (x := 0) (by decide)
theorem fb_len {b : Array UInt8} {N size : Nat} (_h : KBw.bInts b = fixL N size) : (fixL N size).length = size := fixL_len _ _
theorem cut_head {b : Array UInt8} {ks fs : List Int} {x : Int} (h : KBw.bInts b = ((ks ++ fs).drop ((none : Option Int).elim 0 (clipAt (ks ++ fs).length))).take ((some x).elim (ks ++ fs).length (clipAt (ks ++ fs).length) - (none : Option Int).elim 0 (clipAt (ks ++ fs).length))) (hx : x = (ks.length : Int)) : KBw.bInts b = ks := by
  rw [h]
  simp only [Option.elim, List.drop_zero, Nat.sub_zero]
  rw [hx, clipAt_in (by omega) (by rw [List.length_append]; omega), Int.toNat_natCast, List.take_left']
  rfl
theorem bInts_inj {b c : Array UInt8} (h : KBw.bInts b = KBw.bInts c) : b.toList = c.toList := by
  unfold KBw.bInts at h
  have key : ∀ l1 l2 : List UInt8, l1.map (fun c => (c.toNat : Int)) = l2.map (fun c => (c.toNat : Int)) → l1 = l2 := by
    intro l1
    induction l1 with
    | nil => intro l2 h; cases l2 with
      | nil => rfl
      | cons _ _ => simp at h
    | cons x l1 ih => intro l2 h; cases l2 with
      | nil => simp at h
      | cons y l2 =>
        simp only [List.map_cons, List.cons.injEq] at h
        rw [ih l2 h.2, UInt8.toNat_inj.mp (Int.ofNat_inj.mp h.1)]
  exact key _ _ h
theorem eq_same {prog : Program} {w : World} {A : Around} {E : Value → Shared → Prop} {s : Shared} {b c : Array UInt8} {t u : Tok} {ks : List Int} {Q : Value → Shared → Prop} (hb : KBw.bInts b = ks) (hc : KBw.bInts c = ks) (h : Q (.bool true) s) : wpAny (model prog w) A (compareOp .Eq (.bytes b t) (.bytes c u)) Q E s := by
  refine eq_bytes ?_
  rw [bInts_inj (hb.trans hc.symm), beq_self_eq_true]
  exact h
theorem ne_no {prog : Program} {w : World} {A : Around} {E : Value → Shared → Prop} {s : Shared} {a b : Int} {t u : Tok} {Q : Value → Shared → Prop} (e : a = b) (h : Q (.bool false) s) : wpAny (model prog w) A (compareOp .NotEq (.int a t) (.int b u)) Q E s := by
  refine ne_int ?_
  rw [e, bne_self_eq_false]
  exact h
theorem z2 : (2 : Int) = ((2 : Nat) : Int) := rfl
theorem z4 : (4 : Int) = ((4 : Nat) : Int) := rfl
end Mine
local macro_rules | `(tactic| walk_at "mine ne") => `(tactic| ((try dsimp only); first | assumption | k_ne | (refine Ne.symm ?_; assumption)))
local macro_rules | `(tactic| walk_at "mine off") => `(tactic| first | exact List.forall_mem_nil _ | assumption | exact Mine.off_lt (by assumption) | exact Mine.off_gt (by assumption) | (refine' List.forall_mem_cons.mpr ⟨?a, ?b⟩; (case a => walk_at "mine ne"); (case b => walk_at "mine off")) | (refine' List.forall_mem_append.mpr ⟨?a, ?b⟩; (case a => walk_at "mine off"); (case b => walk_at "mine off")))
local macro_rules | `(tactic| walk_at "mine upd") => `(tactic| first | (refine' Upd.head ?a; (case a => walk_at "mine off")) | (refine' Upd.tail ?a ?b; (case a => walk_at "mine ne"); (case b => walk_at "mine upd")))
local macro_rules | `(tactic| walk_at "mine size") => `(tactic| ((try law_lens); (simp only [List.size_toArray, Array.size_push, Array.size_append, List.length_append, List.length_cons, List.length_nil, List.length_take, List.length_drop, List.length_replicate, sizeLine_eq]); omega))
local macro_rules | `(tactic| walk_at "call builtin:list.append") => `(tactic| (k_here; (with_reducible show wpAny _ _ (call (Value.builtin "list.append") [Value.ref _, _]) _ _ _); k_dflt (refine' append_K ?k1 ?k2 ?k3 ?_ ?z; (case k1 => k_asm); (case k2 => k_asm); (case k3 => walk_at "mine upd"); (case z => walk_at "mine size"); k_whole); intro h' F' N'; (try k_sweep)))
local macro_rules | `(tactic| walk_at "mine updF") => `(tactic| first | (refine' UpdF.head ?a; (case a => walk_at "mine off")) | (refine' UpdF.tail ?a ?b; (case a => walk_at "mine ne"); (case b => walk_at "mine updF")))
local macro_rules | `(tactic| walk_at "mine enter") => `(tactic| (refine' code_def ?k1 ?k2 ?k3 ?k4 ?k5 ?kA ?kF ?kK ?k6 ?k7 ?k8 ?k9 ?kB ?_ ?c2 ?c3 ?c4 ?c5; (case kA => exact rfl); (case kF => exact rfl); (case kK => assumption); (case k1 => k_asm); (case k2 => k_asm); (case k3 => k_asm); (case k4 => k_asm); (case k5 => k_asm); (case k6 => k_is); (case k7 => k_is); (case k8 => ktr_room); (case k9 => first | exact BindsTo.of_eq rfl | exact binds_K (by k_in) rfl (by k_is) rfl rfl rfl); (case c5 => decide); (case kB => exact locs rfl); (case c2 => exact rfl); (case c3 => exact rfl); (case c4 => exact rfl); k_whole; intro g' L' h' FG' F' N' B' X' T'; (try dsimp only); (try k_lift B'); (try k_fold)))
local macro_rules | `(tactic| walk_at "pyIter bytes") => `(tactic| (k_here; (with_reducible show wpAny _ _ (pyIter (Value.bytes _ _)) (fun it s₂ => LoopAtV _ _ _ _ _ _ _ _ _ it s₂) _ _); (rename Fr _ _ _ _ => lF'); (rename News _ _ _ _ => lN'); (with_unfolding_all refine' Mine.cr_for ?k1 ?k2 lF' lN' ?k3 ?k4 ?k5 ?_ ?_; (case k1 => assumption); (case k2 => exact rfl); (case k3 => exact rfl); (case k4 => with_reducible first | exact Mine.xor_0 | exact Mine.xor_M _); (case k5 => first | decide | exact Nat.xor_lt_two_pow (by assumption) (by decide))); (all_goals (try clear lF' lN')); (focus (intro c9 t9 tn9 pre9 n9 u9 h9 tk9 own9 kN9 kC9 kE9 kF kN; (try k_fold))); rotate_left; (focus (intro c9 t9 u9 h9 tk9 kC9 kE9 kF kN; (try k_unfold); (try dsimp only))); rotate_right))
local macro_rules | `(tactic| walk_at "subscriptTail Name BinOp ref int") => `(tactic| (k_here; (with_reducible show wpAny _ _ (subscriptTail _ _ (Value.ref _) (Value.int (Builtin.bitAnd (Builtin.bitXor _ _) _) _)) _ _ _); k_dflt (refine' Mine.tab_item ?F ?X ?l ?k ?i ?_; (case F => k_asm); (case X => k_asm); (case l => kernel_rfl); (case k => with_reducible exact Mine.idx_x); (case i => with_reducible exact Nat.mod_lt _ (by decide)); k_whole); intro t9))
local macro_rules | `(tactic| walk_at "InvEndN") => `(tactic| (k_here; (rename Fr _ _ _ _ => lF'); (rename News _ _ _ _ => lN'); with_unfolding_all (refine' Mine.cr_end lF' lN' ?k1 ?k2 ?k3 ?k4 ?k5 ?k6; (case k1 => exact rfl); (case k2 => exact Mine.step_x); (case k3 => (intro z h1 h2; simp only [h1, h2, if_false]; rfl)); (case k4 => assumption); (case k5 => assumption); (case k6 => assumption))))
local macro_rules | `(tactic| walk_at "mine two") => `(tactic| ((all_goals (try clear lF' lN')); (focus (intro l9 g9 tl9 tg9 tn9 pre9 n9 u9 h9 tk9 own9 kN9 kC9 kD9 kE9 kF kN; (try k_fold))); rotate_left; (focus (intro l9 g9 tl9 tg9 u9 h9 tk9 kC9 kD9 kE9 kF kN; (try k_unfold); (try dsimp only))); rotate_right))
local macro_rules | `(tactic| walk_at "pyIter bytes") => `(tactic| (k_here; (with_reducible show wpAny _ _ (pyIter (Value.bytes _ _)) (fun it s₂ => LoopAtV _ _ _ _ _ _ _ _ _ it s₂) _ _); (rename Fr _ _ _ _ => lF'); (rename News _ _ _ _ => lN'); (with_unfolding_all refine' Mine.v2_for 255 ?k1 ?k2 lF' lN' ?k3 ?k4 ?k5 ?k6 ?k7 ?k8 ?_ ?_; (case k1 => assumption); (case k2 => exact rfl); (case k3 => exact rfl); (case k4 => exact rfl); (case k5 => with_reducible exact Mine.and255 _); (case k6 => with_reducible exact Mine.shr8 _); (case k7 => exact And.left (by assumption)); (case k8 => exact And.right (by assumption))); walk_at "mine two"))
local macro_rules | `(tactic| walk_at "pyIter bytes") => `(tactic| (k_here; (with_reducible show wpAny _ _ (pyIter (Value.bytes _ _)) (fun it s₂ => LoopAtV _ _ _ _ _ _ _ _ _ it s₂) _ _); (rename Fr _ _ _ _ => lF'); (rename News _ _ _ _ => lN'); (with_unfolding_all refine' Mine.v2_for 65521 ?k1 ?k2 lF' lN' ?k3 ?k4 ?k5 ?k6 ?k7 ?k8 ?_ ?_; (case k1 => assumption); (case k2 => exact rfl); (case k3 => exact rfl); (case k4 => exact rfl); (case k5 => with_reducible exact Mine.and16 _); (case k6 => with_reducible exact Mine.shr16 _); (case k7 => exact And.left (by assumption)); (case k8 => exact And.right (by assumption))); walk_at "mine two"))
local macro_rules | `(tactic| walk_at "mine one") => `(tactic| ((all_goals (try clear lF' lN')); (focus (intro c9 t9 tn9 pre9 n9 u9 h9 tk9 own9 kN9 kC9 kE9 kF kN; (try k_fold))); rotate_left; (focus (intro c9 t9 u9 h9 tk9 kC9 kE9 kF kN; (try k_unfold); (try dsimp only))); rotate_right))
local macro_rules | `(tactic| walk_at "pyIter bytes") => `(tactic| (k_here; (with_reducible show wpAny _ _ (pyIter (Value.bytes _ _)) (fun it s₂ => LoopAtV _ _ _ _ _ _ _ _ _ it s₂) _ _); (rename Mine.MkX => mX'); (rename Fr _ _ _ _ => lF'); (rename News _ _ _ _ => lN'); (with_unfolding_all refine' Mine.v1_for (fun c n => c ^^^ n) 256 ?k1 ?k2 lF' lN' ?k3 ?k4 ?k5 ?_ ?_; (case k1 => assumption); (case k2 => exact rfl); (case k3 => exact rfl); (case k4 => with_reducible rfl); (case k5 => assumption)); walk_at "mine one"))
local macro_rules | `(tactic| walk_at "pyIter bytes") => `(tactic| (k_here; (with_reducible show wpAny _ _ (pyIter (Value.bytes _ _)) (fun it s₂ => LoopAtV _ _ _ _ _ _ _ _ _ it s₂) _ _); (rename Mine.MkS => mX'); (rename Fr _ _ _ _ => lF'); (rename News _ _ _ _ => lN'); (with_unfolding_all refine' Mine.v1_for (fun c n => (c + n) % 256) 256 ?k1 ?k2 lF' lN' ?k3 ?k4 ?k5 ?_ ?_; (case k1 => assumption); (case k2 => exact rfl); (case k3 => exact rfl); (case k4 => with_reducible rfl); (case k5 => assumption)); walk_at "mine one"))
local macro_rules | `(tactic| walk_at "InvEndN") => `(tactic| (k_here; (rename Fr _ _ _ _ => lF'); (rename News _ _ _ _ => lN'); with_unfolding_all (refine' Mine.v2_end lF' lN' ?k1 ?k2 ?k3 ?k4 ?k5 ?k6 ?k7; (case k1 => exact rfl); (case k2 => exact rfl); (case k3 => with_reducible first | exact Mine.fl_low | exact Mine.ad_low); (case k4 => with_reducible first | exact Mine.fl_high | exact Mine.ad_high); (case k5 => (intro z h1 h2 h3; simp only [h1, h2, h3, if_false]; rfl)); (case k6 => decide); (case k7 => assumption))))
local macro_rules | `(tactic| walk_at "InvEndN") => `(tactic| (k_here; (rename Mine.MkX => mX'); (rename Fr _ _ _ _ => lF'); (rename News _ _ _ _ => lN'); with_unfolding_all (refine' Mine.v1_end lF' lN' ?k1 ?k2 ?k3 ?k4 ?k5; (case k1 => exact rfl); (case k2 => exact Mine.xor_nn _ _); (case k3 => (intro z h1 h2; simp only [h1, h2, if_false]; rfl)); (case k4 => exact Nat.xor_lt_two_pow (n := 8) (by assumption) (by assumption)); (case k5 => assumption))))
local macro_rules | `(tactic| walk_at "InvEndN") => `(tactic| (k_here; (rename Mine.MkS => mX'); (rename Fr _ _ _ _ => lF'); (rename News _ _ _ _ => lN'); with_unfolding_all (refine' Mine.v1_end lF' lN' ?k1 ?k2 ?k3 ?k4 ?k5; (case k1 => exact rfl); (case k2 => exact Mine.add255 _ _); (case k3 => (intro z h1 h2; simp only [h1, h2, if_false]; rfl)); (case k4 => exact Nat.mod_lt _ (by decide)); (case k5 => assumption))))
set_option maxRecDepth 100000 in
set_option maxHeartbeats 8000000 in
theorem Mine.xr_ctr {w : World} {p : Program} {loose : List Str} {mean : ExcName → Option Value} {mg mb : Str → Option Value} : Mine.FoldC 1146 (fun x => x < 256) Mine.xorZ PySem.Challenge.rw_ui0507_15.row.prog w (Mine.hd.heap_39 w.params) p loose mean mg mb := by
  k_fill
  w_top off
  unfold Mine.FoldC
  intro b ks tb news y x t hb hl hy hx
  subst hy
  unfold Mine.Fun
  intro dp un gd cn cs a ccd cl outer A₀ base h₀ L m s Q E B F X N T hk hd hu hret
  refine wpAny_call ?_
  k_dflt (walk_at "mine enter")
  (have mX : Mine.MkX := ⟨trivial⟩)
  k_steps
  all_goals exact hret _ _ _ _ ⟨_, _, rfl, rfl, congrArg Nat.cast (by assumption)⟩ (by assumption) (by assumption)
set_option maxRecDepth 100000 in
set_option maxHeartbeats 8000000 in
theorem Mine.sm_ctr {w : World} {p : Program} {loose : List Str} {mean : ExcName → Option Value} {mg mb : Str → Option Value} : Mine.FoldC 1154 (fun x => x < 256) Mine.sumZ8 PySem.Challenge.rw_ui0507_15.row.prog w (Mine.hd.heap_39 w.params) p loose mean mg mb := by
  k_fill
  w_top off
  unfold Mine.FoldC
  intro b ks tb news y x t hb hl hy hx
  subst hy
  unfold Mine.Fun
  intro dp un gd cn cs a ccd cl outer A₀ base h₀ L m s Q E B F X N T hk hd hu hret
  refine wpAny_call ?_
  k_dflt (walk_at "mine enter")
  (have mX : Mine.MkS := ⟨trivial⟩)
  k_steps
  all_goals exact hret _ _ _ _ ⟨_, _, rfl, rfl, congrArg Nat.cast (by assumption)⟩ (by assumption) (by assumption)
set_option maxRecDepth 100000 in
set_option maxHeartbeats 8000000 in
theorem Mine.fl_ctr {w : World} {p : Program} {loose : List Str} {mean : ExcName → Option Value} {mg mb : Str → Option Value} : Mine.FoldC 1138 (Mine.bdT 255 256) (Mine.twoZ 255 256) PySem.Challenge.rw_ui0507_15.row.prog w (Mine.hd.heap_39 w.params) p loose mean mg mb := by
  k_fill
  w_top off
  unfold Mine.FoldC
  intro b ks tb news y x t hb hl hy hx
  subst hy
  unfold Mine.Fun
  intro dp un gd cn cs a ccd cl outer A₀ base h₀ L m s Q E B F X N T hk hd hu hret
  refine wpAny_call ?_
  k_dflt (walk_at "mine enter")
  (unfold Mine.bdT at hx)
  k_steps
  all_goals exact hret _ _ _ _ ⟨_, _, rfl, rfl, Mine.two_fl (by assumption)⟩ (by assumption) (by assumption)
set_option maxRecDepth 100000 in
set_option maxHeartbeats 8000000 in
theorem Mine.ad_ctr {w : World} {p : Program} {loose : List Str} {mean : ExcName → Option Value} {mg mb : Str → Option Value} : Mine.FoldC 1130 (Mine.bdT 65521 65536) (Mine.twoZ 65521 65536) PySem.Challenge.rw_ui0507_15.row.prog w (Mine.hd.heap_39 w.params) p loose mean mg mb := by
  k_fill
  w_top off
  unfold Mine.FoldC
  intro b ks tb news y x t hb hl hy hx
  subst hy
  unfold Mine.Fun
  intro dp un gd cn cs a ccd cl outer A₀ base h₀ L m s Q E B F X N T hk hd hu hret
  refine wpAny_call ?_
  k_dflt (walk_at "mine enter")
  (unfold Mine.bdT at hx)
  k_steps
  all_goals exact hret _ _ _ _ ⟨_, _, rfl, rfl, Mine.two_ad (by assumption)⟩ (by assumption) (by assumption)
set_option maxRecDepth 100000 in
set_option maxHeartbeats 8000000 in
theorem Mine.cc_ctr {w : World} {p : Program} {loose : List Str} {mean : ExcName → Option Value} {mg mb : Str → Option Value} : Mine.FoldC 1122 (fun x => x < 2 ^ 32) Mine.crcZ PySem.Challenge.rw_ui0507_15.row.prog w (Mine.hd.heap_39 w.params) p loose mean mg mb := by
  k_fill
  w_top off
  unfold Mine.FoldC
  intro b ks tb news y x t hb hl hy hx
  subst hy
  unfold Mine.Fun
  intro dp un gd cn cs a ccd cl outer A₀ base h₀ L m s Q E B F X N T hk hd hu hret
  refine wpAny_call ?_
  k_dflt (walk_at "mine enter")
  k_steps
  all_goals exact hret _ _ _ _ ⟨_, _, rfl, rfl, Mine.cr_val (by assumption)⟩ (by assumption) (by assumption)
local macro_rules | `(tactic| walk_at "binaryOp RShift int int") => `(tactic| (k_here; (with_reducible refine Mine.rsh_zero (by assumption) ?kn ?kM ?_); (case kn => omega); (case kM => exact Mine.pow_sh _)))
local macro_rules | `(tactic| walk_at "exec For Name Call cons nil") => `(tactic| (k_here; (rename Fr _ _ _ _ => lF'); (with_unfolding_all refine' For_invVF lF' ?k1 ?k2 ?_; (case k1 => exact rfl); (case k2 => exact rfl); k_whole)))
local macro_rules | `(tactic| walk_at "call type:range") => `(tactic| ((with_reducible show wpAny _ _ (call (Value.type "range") [Value.int _ _]) _ _ _); (rename Fr _ _ _ _ => F'); (rename News _ _ _ _ => N'); (with_unfolding_all refine range1_rows F' N' ?_; intro _ _ _ _ _ _ _ _ _)))
local macro_rules | `(tactic| walk_at "binaryOp LShift int int") => `(tactic| (k_here; (with_reducible refine lshift_int_small ?kb1 ?kb2 ?kb3 ?_); (case kb1 => omega); (case kb2 => omega); (case kb3 => omega)))
local macro_rules | `(tactic| walk_at "pyIter ref") => `(tactic| (k_here; (with_reducible show wpAny _ _ (pyIter (Value.ref _)) (fun it s₂ => LoopAtV _ _ _ _ _ _ _ _ _ it s₂) _ _); ((rename Fr _ _ _ _ => lF'); (rename News _ _ _ _ => lN'); (rename IsRange _ _ _ _ _ _ _ _ => rgX); (rename List.drop _ _ = Mine.fixL _ _ => kD9); (with_unfolding_all refine' Mine.fxr_for ?hN ?hh rgX ?hb ?hz lF' lN' ?hv ?hx ?tn ?dn); (case hb => exact rfl); (case hz => with_reducible assumption); (case hN => with_reducible assumption); (case hh => with_unfolding_all exact rfl); (case hv => with_unfolding_all exact rfl); (case hx => with_unfolding_all exact rfl)); (all_goals (try clear lF' lN')); (case' tn => (intro v9 i9 tv9 t9 u9 h9 tk9 own9 kI kP kO2 kF kN; (try k_fold))); (case' dn => (intro v9 tv9 u9 h9 tk9 kP kF kN; (try k_unfold); (try dsimp only)))))
local macro_rules | `(tactic| walk_at "InvEndG") => `(tactic| (k_here; (rename Fr _ _ _ _ => lF'); (rename News _ _ _ _ => lN'); with_unfolding_all (refine' Mine.fxr_end lF' lN' ?k1 ?k2 ?k3 ?k4 ?k5 ?k6 ?k7 ?k8; (case k1 => exact rfl); (case k2 => with_reducible assumption); (case k3 => with_reducible assumption); (case k4 => with_reducible assumption); (case k5 => first | exact rfl | omega); (case k6 => omega); (case k7 => with_reducible assumption); (case k8 => (intro q h1 h2; (simp [h1, h2]; done))))))
local macro_rules | `(tactic| walk_at "pyIter ref") => `(tactic| (k_here; (with_reducible show wpAny _ _ (pyIter (Value.ref _)) (fun it s₂ => LoopAtV _ _ _ _ _ _ _ _ _ it s₂) _ _); ((rename Fr _ _ _ _ => lF'); (rename News _ _ _ _ => lN'); (rename IsRange _ _ _ _ _ _ _ _ => rgX); (with_unfolding_all refine' Mine.fxb_for ?hN ?hh rgX ?hb ?hz lF' lN' ?tn ?dn); (case hb => exact rfl); (case hz => with_reducible assumption); (case hN => with_reducible assumption); (case hh => with_unfolding_all exact rfl); (all_goals (try clear lF' lN')); (case' tn => (intro vs9 cn9 i9 t9 u9 h9 tk9 own9 kI kP kL kO kO2 kF kN; (try k_fold))); (case' dn => (intro vs9 cn9 u9 h9 tk9 kP kF kN; (try k_unfold); (try dsimp only))))))
local macro_rules | `(tactic| walk_at "InvEndG") => `(tactic| (k_here; (rename Fr _ _ _ _ => lF'); (rename News _ _ _ _ => lN'); with_unfolding_all (refine' Mine.fxb_end lF' lN' ?k2 ?k3 ?k4 ?k5 ?k6; (case k2 => assumption); (case k3 => assumption); (case k4 => assumption); (case k5 => exact Mine.fx_item rfl (by omega)); (case k6 => (intro q h1; (simp [h1]; done))))))
local macro_rules | `(tactic| walk_at "call type:bytes") => `(tactic| (k_here; (with_reducible show wpAny _ _ (call (Value.type "bytes") [Value.ref _]) _ _ _); k_dflt (refine' KBa.make_K ?kbaF ?kbaN ?kbah ?kbal ?kbai ?kbar ?kban ?_; (case kbaF => k_asm); (case kbaN => k_asm); (case kbah => rfl); (case kbal => exact News.isList (by k_asm) (by k_mem)); (case kbai => assumption); (case kbar => exact Mine.fixL_in _ _); (case kban => (rw [Mine.fixL_len]; omega)); k_whole); intro h' t' k' F' N' kbaIn))
set_option maxRecDepth 100000 in
set_option maxHeartbeats 8000000 in
theorem Mine.fb_ctr {w : World} {p : Program} {loose : List Str} {mean : ExcName → Option Value} {mg mb : Str → Option Value} : Mine.FbC 70 PySem.Challenge.rw_ui0507_15.row.prog w (Mine.hd.heap_39 w.params) p loose mean mg mb := by
  k_fill
  w_top off
  unfold Mine.FbC
  intro N size x y t u news hx hy hz hN
  subst hx
  subst hy
  unfold Mine.Fun
  intro dp un gd cn cs a ccd cl outer A₀ base h₀ L m s Q E B F X Nw T hk hd hu hret
  refine wpAny_call ?_
  k_dflt cell_enter
  k_steps
  all_goals exact hret _ _ _ _ ⟨_, _, rfl, rfl, KBa.ints_make (Mine.fixL_in _ _)⟩ (by assumption) (fun q hq => by first | exact (by assumption : News _ _ _ (_ :: _)) q (.tail _ hq))
set_option maxRecDepth 100000 in
set_option maxHeartbeats 8000000 in
theorem Mine.rf_ctr {w : World} {p : Program} {loose : List Str} {mean : ExcName → Option Value} {mg mb : Str → Option Value} : Mine.RfC 77 PySem.Challenge.rw_ui0507_15.row.prog w (Mine.hd.heap_39 w.params) p loose mean mg mb := by
  k_fill
  w_top off
  unfold Mine.RfC
  intro b ks N size a x y tb t u news hb hx hy hz hN hD hL hl
  subst hx
  subst hy
  unfold Mine.Fun
  intro dp un gd cn cs a0 ccd cl outer A₀ base h₀ L m s Q E B F X Nw T hk hd hu hret
  refine wpAny_call ?_
  k_dflt cell_enter
  k_steps
  all_goals exact Mine.rf_ret hret (by assumption) (by assumption) (by assumption) (by assumption) (by omega)
local macro_rules | `(tactic| walk_at "mine use") => `(tactic| ((case k1 => k_asm); (case k3 => k_asm); (case k5 => k_asm); (case kK => exact rfl); (case kd => ktr_room); (case ku => first | ((simp only [units_in1, units_deeper, Around.mark_units, units_caller]); decide) | ktr_room)))
local macro_rules | `(tactic| walk_at "mine fc") => `(tactic| ((case l1 => with_reducible assumption); (case l2 => walk_at "mine lens"); (case l3 => with_reducible first | exact Mine.z0 | exact Mine.z1 | exact rfl)))
local macro_rules | `(tactic| walk_at "call ref") => `(tactic| (k_here; (with_reducible show wpAny _ _ (call (Value.ref _) _) _ _ _); refine wpAny_call ?_; k_dflt (walk_at "mine enter")))
local macro_rules | `(tactic| walk_at "binaryOp Mult bytes int") => `(tactic| (k_here; (with_reducible show wpAny _ _ (binaryOp Operator.Mult (Value.bytes (List.toArray [_]) _) (Value.int _ _)) _ _ _); k_dflt (refine' Mine.mul_data ?b ?c ?_; (case b => l_fact); (case c => l_fact); k_whole); intro b9 ks9 t9 k9 kB9 kL9))
local macro_rules | `(tactic| walk_at "compareOp NotIn str ref") => `(tactic| (k_here; k_dflt (refine' Mine.topNotIn ?F ?X ?l ?k ?e ?o ?_; (case F => k_asm); (case X => k_asm); (case l => k_is); (case k => k_keys); (case e => k_is); (case o => decide))))
local macro_rules | `(tactic| walk_at "subscriptTail Name BinOp ref int") => `(tactic| (k_here; (with_reducible show wpAny _ _ (subscriptTail _ _ (Value.ref _) (Value.int (Int.fmod _ 6) _)) _ _ _); k_dflt (refine' Mine.kind_item ?F ?X ?l ?e ?h0 ?h1 ?_ ?_ ?_ ?_ ?_ ?_; (case F => k_asm); (case X => k_asm); (case l => k_is); (case e => exact rfl); (case h0 => l_fact); (case h1 => l_fact); k_whole)))
local macro_rules | `(tactic| walk_at "mine lens") => `(tactic| first | exact Nat.le_trans (m := 9) (by with_reducible assumption) (by decide) | omega | ((simp only [List.length_append, List.length_take, List.length_drop, List.length_cons, List.length_nil]); omega))
local macro_rules | `(tactic| walk_at "call ref") => `(tactic| (k_here; (with_reducible show wpAny _ _ (call (Value.ref 1146) [Value.bytes _ _, Value.int _ _]) _ _ _); k_dflt ((rename Mine.FoldC 1146 _ _ _ _ _ _ _ _ _ _ => cXR); refine' Mine.Fun.use ?kC ?k1 ?k2 ?k3 ?k4 ?k5 ?kK ?kd ?ku ?_; (case k2 => k_asm); (case k4 => k_asm); (case kC => (refine' cXR _ _ _ _ _ _ _ ?l1 ?l2 ?l3 ?l4; walk_at "mine fc"; (case l4 => exact (by decide)))); walk_at "mine use"; k_whole); (intro r9 nw9 h' tk9 kR F' N'); (unfold Mine.CrOut at kR); (obtain ⟨x9, t9, e1, e2, kX⟩ := kR); (have kZ9 := Mine.xorZ_lt (x := 0) (by with_reducible assumption) (by decide)); (subst kX); (subst e1); (subst e2)))
local macro_rules | `(tactic| walk_at "call ref") => `(tactic| (k_here; (with_reducible show wpAny _ _ (call (Value.ref 1154) [Value.bytes _ _, Value.int _ _]) _ _ _); k_dflt ((rename Mine.FoldC 1154 _ _ _ _ _ _ _ _ _ _ => cSM); refine' Mine.Fun.use ?kC ?k1 ?k2 ?k3 ?k4 ?k5 ?kK ?kd ?ku ?_; (case k2 => k_asm); (case k4 => k_asm); (case kC => (refine' cSM _ _ _ _ _ _ _ ?l1 ?l2 ?l3 ?l4; walk_at "mine fc"; (case l4 => exact (by decide)))); walk_at "mine use"; k_whole); (intro r9 nw9 h' tk9 kR F' N'); (unfold Mine.CrOut at kR); (obtain ⟨x9, t9, e1, e2, kX⟩ := kR); (have kZ9 := Mine.sumZ_lt (x := 0) (by with_reducible assumption) (by decide)); (subst kX); (subst e1); (subst e2)))
local macro_rules | `(tactic| walk_at "call ref") => `(tactic| (k_here; (with_reducible show wpAny _ _ (call (Value.ref 1138) [Value.bytes _ _, Value.int _ _]) _ _ _); k_dflt ((rename Mine.FoldC 1138 _ _ _ _ _ _ _ _ _ _ => cFL); refine' Mine.Fun.use ?kC ?k1 ?k2 ?k3 ?k4 ?k5 ?kK ?kd ?ku ?_; (case k2 => k_asm); (case k4 => k_asm); (case kC => (refine' cFL _ _ _ _ _ _ _ ?l1 ?l2 ?l3 ?l4; walk_at "mine fc"; (case l4 => exact ⟨by decide, by decide⟩))); walk_at "mine use"; k_whole); (intro r9 nw9 h' tk9 kR F' N'); (unfold Mine.CrOut at kR); (obtain ⟨x9, t9, e1, e2, kX⟩ := kR);  (subst kX); (subst e1); (subst e2)))
local macro_rules | `(tactic| walk_at "call ref") => `(tactic| (k_here; (with_reducible show wpAny _ _ (call (Value.ref 1130) [Value.bytes _ _, Value.int _ _]) _ _ _); k_dflt ((rename Mine.FoldC 1130 _ _ _ _ _ _ _ _ _ _ => cAD); refine' Mine.Fun.use ?kC ?k1 ?k2 ?k3 ?k4 ?k5 ?kK ?kd ?ku ?_; (case k2 => k_asm); (case k4 => k_asm); (case kC => (refine' cAD _ _ _ _ _ _ _ ?l1 ?l2 ?l3 ?l4; walk_at "mine fc"; (case l4 => exact ⟨by decide, by decide⟩))); walk_at "mine use"; k_whole); (intro r9 nw9 h' tk9 kR F' N'); (unfold Mine.CrOut at kR); (obtain ⟨x9, t9, e1, e2, kX⟩ := kR);  (subst kX); (subst e1); (subst e2)))
local macro_rules | `(tactic| walk_at "call ref") => `(tactic| (k_here; (with_reducible show wpAny _ _ (call (Value.ref 1122) [Value.bytes _ _, Value.int _ _]) _ _ _); k_dflt ((rename Mine.FoldC 1122 _ _ _ _ _ _ _ _ _ _ => cCR); refine' Mine.Fun.use ?kC ?k1 ?k2 ?k3 ?k4 ?k5 ?kK ?kd ?ku ?_; (case k2 => k_asm); (case k4 => k_asm); (case kC => (refine' cCR _ _ _ _ _ _ _ ?l1 ?l2 ?l3 ?l4; walk_at "mine fc"; (case l4 => exact (by decide)))); walk_at "mine use"; k_whole); (intro r9 nw9 h' tk9 kR F' N'); (unfold Mine.CrOut at kR); (obtain ⟨x9, t9, e1, e2, kX⟩ := kR);  (subst kX); (subst e1); (subst e2)))
local macro_rules | `(tactic| walk_at "mine zlt") => `(tactic| with_reducible first | exact Mine.fl_lt | exact Mine.ad_lt | exact Mine.cr_lt | exact Mine.xr_lt (by with_reducible assumption) | exact Mine.sm_lt (by with_reducible assumption) | (show 0 < _; decide))
local macro_rules | `(tactic| walk_at "mine zeq") => `(tactic| with_reducible first | exact Mine.z0 | exact rfl | (with_unfolding_all exact rfl))
local macro_rules | `(tactic| walk_at "call ref") => `(tactic| (k_here; (with_reducible show wpAny _ _ (call (Value.ref 70) [Value.int _ _, Value.int _ _]) _ _ _); k_dflt ((rename Mine.FbC _ _ _ _ _ _ _ _ _ => cFB); refine' Mine.Fun.use ?kC ?k1 ?k2 ?k3 ?k4 ?k5 ?kK ?kd ?ku ?_; (case k2 => k_asm); (case k4 => k_asm); (case kC => (refine' cFB _ _ _ _ _ _ _ ?l1 ?l2 ?l3 ?l4; (case l1 => walk_at "mine zeq"); (case l2 => with_reducible first | exact Mine.z0 | exact Mine.z1 | exact Mine.z2 | exact Mine.z4); (case l3 => decide); (case l4 => walk_at "mine zlt"))); walk_at "mine use"; k_whole); (intro r9 nw9 h' tk9 kR F' N'); (unfold Mine.FbOut at kR); (obtain ⟨b9, t9, e1, e2, kX⟩ := kR); (subst e1); (subst e2); (have kFl9 := Mine.fb_len kX)))
local macro_rules | `(tactic| walk_at "call builtin:len") => `(tactic| (k_here; (with_reducible show wpAny _ _ (call (Value.builtin "len") [Value.bytes _ _]) _ _ _); (rename KBw.bInts _ = _ ++ Mine.fixL _ _ => kA9); (refine KBw.len_K kA9 (by (simp only [List.length_append]; omega)) ?_); (simp only [List.length_append, Mine.fixL_len])))
local macro_rules | `(tactic| walk_at "subscriptTail") => `(tactic| (k_here; (with_reducible show wpAny _ _ (subscriptTail _ (Expr.Slice none _ none _) (Value.bytes _ _) (Value.ref _)) _ _ _); (rename Fr _ _ _ _ => F'); (rename News _ _ _ _ => N'); (rename KBw.bInts _ = _ ++ Mine.fixL _ _ => kA9); (refine KBc.slice_K (s := ⟨_, _, _, _, _⟩) F' N' kA9 (by constructor) (by constructor) (by (simp only [List.length_append]; omega)) ?_); intro _ _ _ _ _ kbcK; (have kbc2 := Mine.cut_head kbcK (by (try simp only [List.length_append]); omega)); (clear kbcK)))
local macro_rules | `(tactic| walk_at "call ref") => `(tactic| (k_here; (with_reducible show wpAny _ _ (call (Value.ref 77) [Value.bytes _ _, Value.int _ _, Value.int _ _]) _ _ _); k_dflt ((rename Mine.RfC _ _ _ _ _ _ _ _ _ => cRF); (rename KBw.bInts _ = _ ++ Mine.fixL _ _ => kA9); refine' Mine.Fun.use ?kC ?k1 ?k2 ?k3 ?k4 ?k5 ?kK ?kd ?ku ?_; (case k2 => k_asm); (case k4 => k_asm); (case kC => (refine' cRF _ _ _ _ _ _ _ _ _ _ _ kA9 ?l2 ?l3 ?l4 ?l5 ?l6 ?l7 ?l8; (case l2 => with_reducible exact rfl); (case l3 => with_reducible first | exact Mine.z0 | exact Mine.z1 | exact Mine.z2 | exact Mine.z4); (case l6 => exact List.drop_left); (case l4 => decide); (case l5 => walk_at "mine zlt"); (case l7 => (simp only [List.length_append]; omega)); (case l8 => (simp only [List.length_append]; omega)))); walk_at "mine use"; k_whole); (intro r9 nw9 h' tk9 kR F' N'); (unfold Mine.RfOut at kR); (obtain ⟨T9, x9, y9, t9, u9, e1, e2, kT9, kX, kY⟩ := kR); (subst kX); (subst kY); (subst e1); (subst e2)))
local macro_rules | `(tactic| walk_at "compareOp Eq bytes bytes") => `(tactic| (k_here; (rename KBw.bInts (KBy.picked _ _ _) = _ => kE9); (with_reducible refine' Mine.eq_same kE9 ?kc ?_); (case kc => with_reducible assumption); k_whole))
local macro_rules | `(tactic| walk_at "compareOp NotEq int int") => `(tactic| (k_here; (with_reducible refine' Mine.ne_no ?ke ?_); (case ke => first | with_reducible rfl | omega); k_whole))
local macro_rules | `(tactic| wrow_close) => `(tactic| ((with_reducible show GoodW _ _ _ _ _ (.ok (.ret (.bool true))) _); refine' goodW_bool ?ga ?gb (raisesW_false ?gc) ?gd; (case ga => with_reducible assumption); (case gb => with_reducible assumption); (case gc => wrow_none_raised); (case gd => (refine' postW_of (X := true) ?gs ?gv rfl; (case gs => wrow_shape); (case gv => (with_unfolding_all exact rfl))))))
set_option maxRecDepth 100000 in
set_option maxHeartbeats 8000000 in
theorem PySem.Challenge.cw_ui0507_15_holds : PySem.Challenge.rw_ui0507_15.Holds :=
  Mine.hd (by
  w_strict (k_go0; (all_goals try k_fold); (refine Mine.bring (fun prog w K p loose mean mg mb => Mine.FoldC 1146 (fun x => x < 256) Mine.xorZ prog w K p loose mean mg mb ∧ Mine.FoldC 1154 (fun x => x < 256) Mine.sumZ8 prog w K p loose mean mg mb ∧ Mine.FoldC 1138 (Mine.bdT 255 256) (Mine.twoZ 255 256) prog w K p loose mean mg mb ∧ Mine.FoldC 1130 (Mine.bdT 65521 65536) (Mine.twoZ 65521 65536) prog w K p loose mean mg mb ∧ Mine.FoldC 1122 (fun x => x < 2 ^ 32) Mine.crcZ prog w K p loose mean mg mb ∧ Mine.FbC 70 prog w K p loose mean mg mb ∧ Mine.RfC 77 prog w K p loose mean mg mb) (by assumption) (by assumption) ?ctr ?_); (case ctr => exact ⟨Mine.xr_ctr, Mine.sm_ctr, Mine.fl_ctr, Mine.ad_ctr, Mine.cc_ctr, Mine.fb_ctr, Mine.rf_ctr⟩); intro cW0; (obtain ⟨cA1, cA2, cA3, cA4, cA5, cA6, cA7⟩ := cW0); k_steps; (all_goals (try k_data)); all_goals w_report))
