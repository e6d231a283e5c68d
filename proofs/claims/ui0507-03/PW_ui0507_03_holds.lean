import PyProof.Rows.All
import Wide.All
import OpenK.AllK
import Wide.FinOn
import PySem.Challenge.RW_ui0507_03
open PySem PySem.W PyProof.Rows
set_option Elab.async false
namespace Mine
/-- what a def does, wherever it is called: from the ledger news and the arguments vs it comes back with r and the ledger news' that R tells -/
def Fun (prog : Program) (w : World) (K : Frag) (p : Program) (loose : List Str) (mean : ExcName → Option Value) (mg mb : Str → Option Value) (f : Addr) (vs : List Value) (news : List (Addr × Obj)) (R : Value → List (Addr × Obj) → Prop) : Prop :=
  ∀ (dp un : Nat) (gd : Option (List Code)) (cn : Str) (cs : Scope) (a : Addr) (ccd : Value) (cl : List (Str × Addr)) (outer : List Env) (A₀ : Around) (base h₀ : Heap) (L : Addr) (m : Str → Option Value) (s : Shared) (Q E : Value → Shared → Prop),
    Below A₀ base outer h₀ → Fr h₀ L s.heap m → K.In h₀ → News h₀ L s.heap news → Top p loose mean mg mb h₀ → cs.kind = .function → dp + 10 < recursionLimit → un + 80 < cLine →
    (∀ r news' h' tk', R r news' → Fr h₀ L h' m → News h₀ L h' news' → Q r { s with heap := h', toks := tk' }) →
    wpAny (model prog w) (ktrTop dp un gd cn cs L a ccd cl outer) (call (.ref f) vs) Q E s
/-- the runs of a list, from behind -/
def runs : List Int → List (Int × Int)
  | [] => []
  | a :: l => match runs l with
    | [] => [(a, 1)]
    | (b, c) :: r => if a = b then (b, c + 1) :: r else (a, 1) :: (b, c) :: r
def runD (x : Int × Int) : Dat := .tuple [.int x.1, .int x.2]
/-- the inner loop: all from i on, as far as j, are the same -/
def srIn (ns : List Int) (i : Nat) (j : Int) : Prop := (i : Int) < j ∧ j ≤ ns.length ∧ ns.drop i = List.replicate (j.toNat - i) (ns.getD i 0) ++ ns.drop j.toNat
def srMu (ns : List Int) (j : Int) : Nat := ns.length - j.toNat
theorem srIn_start {ns : List Int} {i : Nat} (h : (i : Int) < ns.length) : srIn ns i (i + 1) := by
  refine ⟨by omega, by omega, ?_⟩
  have h1 : ((i : Int) + 1).toNat = i + 1 := by omega
  rw [h1]
  have : i + 1 - i = 1 := by omega
  rw [this, List.drop_eq_getElem_cons (by omega)]
  simp [List.getD, List.getElem?_eq_getElem (show i < ns.length by omega)]
theorem srIn_next {ns : List Int} {i : Nat} {j : Int} (h1 : (i : Int) < j) (h2 : j < ns.length) (h3 : ns.drop i = List.replicate (j.toNat - i) (ns.getD i 0) ++ ns.drop j.toNat) (he : ns.getD j.toNat 0 = ns.getD i 0) : srIn ns i (j + 1) := by
  refine ⟨by omega, by omega, ?_⟩
  have e1 : (j + 1).toNat = j.toNat + 1 := by omega
  have e2 : j.toNat + 1 - i = (j.toNat - i) + 1 := by omega
  have e3 : ns.drop j.toNat = ns.getD i 0 :: ns.drop (j.toNat + 1) := by
    rw [List.drop_eq_getElem_cons (show j.toNat < ns.length by omega), ← he]
    simp [List.getD, List.getElem?_eq_getElem (show j.toNat < ns.length by omega)]
  rw [e1, e2, List.replicate_succ', List.append_assoc, h3, e3]
  simp
theorem runs_rep (a : Int) (l : List Int) (hl : ∀ b r, l = b :: r → b ≠ a) : ∀ k : Nat, runs (List.replicate (k + 1) a ++ l) = (a, (k : Int) + 1) :: runs l := by
  intro k
  induction k with
  | zero =>
    cases l with
    | nil => simp [runs]
    | cons b r =>
      have hb := hl b r rfl
      have hs : ∃ c q, runs (b :: r) = (b, c) :: q := by
        unfold runs
        split
        · exact ⟨_, _, rfl⟩
        · split
          · rename_i h; exact ⟨_, _, by rw [h]⟩
          · exact ⟨_, _, rfl⟩
      obtain ⟨c, q, hq⟩ := hs
      show runs (a :: (b :: r)) = _
      rw [runs, hq]
      simp [Ne.symm hb]
  | succ k ih =>
    rw [List.replicate_succ, List.cons_append, runs, ih]
    simp
theorem runs_step {ns : List Int} {i : Nat} {j : Int} (h1 : (i : Int) < j) (h2 : j ≤ ns.length) (h3 : ns.drop i = List.replicate (j.toNat - i) (ns.getD i 0) ++ ns.drop j.toNat) (hx : j < ns.length → ns.getD j.toNat 0 ≠ ns.getD i 0) :
    runs (ns.drop i) = (ns.getD i 0, j - i) :: runs (ns.drop j.toNat) := by
  rw [h3]
  obtain ⟨k, hk⟩ : ∃ k, j.toNat - i = k + 1 := ⟨j.toNat - i - 1, by omega⟩
  rw [hk, runs_rep]
  · have : ((k : Int) + 1) = j - i := by omega
    rw [this]
  · intro b r e
    have hlt : j.toNat < ns.length := by
      rcases Nat.lt_or_ge j.toNat ns.length with h | h
      · exact h
      · rw [List.drop_eq_nil_of_le h] at e; cases e
    have := hx (by omega)
    rw [List.drop_eq_getElem_cons hlt] at e
    injection e with e1 e2
    rw [← e1]
    simpa [List.getD, List.getElem?_eq_getElem hlt] using this
/-- what split_runs hands back: a new list of new pairs -/
def SrOut (ns : List Int) (news : List (Addr × Obj)) (r : Value) (news' : List (Addr × Obj)) : Prop :=
  ∃ D vs cn tl, r = .ref D ∧ news' = (D, listOf vs.toArray cn) :: (tl ++ news) ∧ (∀ q ∈ news, q.1 < D) ∧ (∀ q ∈ news, ∀ p ∈ tl, q.1 < p.1) ∧ (∀ p ∈ tl, D < p.1) ∧ DatAll tl vs ((runs ns).map runD)
structure SrS where
  i : Nat
  t : Tok
  vs : List Value
  cn : Nat
  tl : List (Addr × Obj)
  ds : List Dat
def srLed (D : Addr) (news : List (Addr × Obj)) (c : SrS) : List (Addr × Obj) := (D, listOf c.vs.toArray c.cn) :: (c.tl ++ news)
def srPs (c : SrS) : List (Str × Value) := [(Str.ofString "i", .int c.i c.t)]
def srFacts (D : Addr) (news : List (Addr × Obj)) (c : SrS) : Prop := DatAll c.tl c.vs c.ds ∧ (∀ q ∈ news, ∀ p ∈ c.tl, q.1 < p.1) ∧ (∀ p ∈ c.tl, D < p.1)
def srP (ns : List Int) (c : SrS) : Prop := c.i ≤ ns.length ∧ c.ds ++ (runs (ns.drop c.i)).map runD = (runs ns).map runD ∧ c.vs.length ≤ c.i
section
variable {prog : Program} {w : World} {A : Around} {E : Value → Shared → Prop} {Q : Flow → Shared → Prop} {s : Shared} {env : Env} {h₀ : Heap} {L : Addr}
theorem sr_while {test : Expr} {body : List Stmt} {pos : Pos} {m₀ : Str → Option Value} {ns : List Int} {news : List (Addr × Obj)} {D : Addr} {t : Tok}
    (F : Fr h₀ L s.heap m₀) (N : News h₀ L s.heap ((D, listOf #[] 0) :: news)) (hi : m₀ (Str.ofString "i") = some (.int 0 t)) {b : Array UInt8} {tb : Tok} (_hd : m₀ (Str.ofString "data") = some (.bytes b tb)) (_hb : KBw.bInts b = ns)
    (turn : ∀ (i : Nat) (t : Tok) (vs : List Value) (cn : Nat) (tl : List (Addr × Obj)) (ds : List Dat) (u : Str → Option Value) h tk,
      DatAll tl vs ds → (∀ q ∈ news, ∀ p ∈ tl, q.1 < p.1) → (∀ p ∈ tl, D < p.1) → i ≤ ns.length → ds ++ (runs (ns.drop i)).map runD = (runs ns).map runD → vs.length ≤ i →
      Fr h₀ L h (fun y => if y = Str.ofString "i" then some (.int i t) else if ([Str.ofString "j"] : List Str).contains y then u y else m₀ y) → News h₀ L h ((D, listOf vs.toArray cn) :: (tl ++ news)) →
      wpAny (model prog w) A (isTrue test env (eval test env)) (fun b s₂ =>
        if b = true then wpAny (model prog w) A (execs body env) (KswPost h₀ L s (srLed D news) srPs (srFacts D news) [Str.ofString "j"] m₀ (srP ns) (fun c => ns.length - c.i) Q ⟨i, t, vs, cn, tl, ds⟩) E s₂ else Q .next s₂) E { s with heap := h, toks := tk })
    (hE : PassesOwn (model prog w) A env E := by passes_own) :
    wpAny (model prog w) A (exec (.While test body [] pos) env) Q E s := by
  refine ksw_while (srLed D news) srPs (srFacts D news) [Str.ofString "j"] (srP ns) (fun c => ns.length - c.i) ⟨0, t, [], 0, [], []⟩ F ?_ ?_ ?_ ?_ ?_ hE
  · exact N
  · exact ⟨.nil, fun _ _ _ h => (nomatch h), fun _ h => (nomatch h)⟩
  · intro p hp
    rw [List.mem_singleton.mp hp]
    exact hi
  · exact ⟨Nat.zero_le _, rfl, Nat.le_refl _⟩
  · rintro ⟨i, t, vs, cn, tl, ds⟩ u h tk ⟨f1, f2, f3⟩ ⟨p1, p2, p3⟩ F₁ N₁
    exact turn i t vs cn tl ds u h tk f1 f2 f3 p1 p2 p3 F₁ N₁
theorem sr_done {ns : List Int} {i : Nat} {tl : List (Addr × Obj)} {vs : List Value} {ds : List Dat} (kD : DatAll tl vs ds) (kR : ds ++ (runs (ns.drop i)).map runD = (runs ns).map runD) (h : ¬ (i : Int) < ns.length) : DatAll tl vs ((runs ns).map runD) := by
  rw [← kR, List.drop_eq_nil_of_le (by omega)]
  simpa [runs] using kD
/-- a while that turns one int alone -/
theorem while_int {test : Expr} {body : List Stmt} {pos : Pos} {m₀ : Str → Option Value} {news : List (Addr × Obj)} {x : Str} {v₀ : Int} {t₀ : Tok} (P : Int → Prop) (μ : Int → Nat)
    (F : Fr h₀ L s.heap m₀) (N : News h₀ L s.heap news) (hx : m₀ x = some (.int v₀ t₀)) (hp : P v₀)
    (turn : ∀ (v : Int) (t : Tok) h tk, P v → Fr h₀ L h (fun y => if y = x then some (.int v t) else m₀ y) → News h₀ L h news →
      wpAny (model prog w) A (isTrue test env (eval test env)) (fun b s₂ =>
        if b = true then wpAny (model prog w) A (execs body env) (KswPost h₀ L s (fun _ => news) (fun c : Int × Tok => [(x, .int c.1 c.2)]) (fun _ => True) [] m₀ (fun c => P c.1) (fun c => μ c.1) Q (v, t)) E s₂ else Q .next s₂) E { s with heap := h, toks := tk })
    (hE : PassesOwn (model prog w) A env E := by passes_own) :
    wpAny (model prog w) A (exec (.While test body [] pos) env) Q E s := by
  refine ksw_while (fun _ => news) (fun c : Int × Tok => [(x, .int c.1 c.2)]) (fun _ => True) [] (fun c => P c.1) (fun c => μ c.1) (v₀, t₀) F N trivial ?_ hp ?_ hE
  · intro p hp
    rw [List.mem_singleton.mp hp]
    exact hx
  · rintro ⟨v, t⟩ u h tk _ hp F₁ N₁
    exact turn v t h tk hp F₁ N₁
theorem sr_inner {test : Expr} {body : List Stmt} {pos : Pos} {m₀ : Str → Option Value} {news : List (Addr × Obj)} {v₀ : Int} {t₀ : Tok} {ns : List Int} {i : Nat}
    (F : Fr h₀ L s.heap m₀) (N : News h₀ L s.heap news) (hx : m₀ (Str.ofString "j") = some (.int v₀ t₀)) (hp : srIn ns i v₀)
    (turn : ∀ (v : Int) (t : Tok) h tk, (i : Int) < v → v ≤ ns.length → ns.drop i = List.replicate (v.toNat - i) (ns.getD i 0) ++ ns.drop v.toNat → Fr h₀ L h (fun y => if y = Str.ofString "j" then some (.int v t) else m₀ y) → News h₀ L h news →
      wpAny (model prog w) A (isTrue test env (eval test env)) (fun b s₂ =>
        if b = true then wpAny (model prog w) A (execs body env) (KswPost h₀ L s (fun _ => news) (fun c : Int × Tok => [(Str.ofString "j", .int c.1 c.2)]) (fun _ => True) [] m₀ (fun c => srIn ns i c.1) (fun c => srMu ns c.1) Q (v, t)) E s₂ else Q .next s₂) E { s with heap := h, toks := tk })
    (hE : PassesOwn (model prog w) A env E := by passes_own) :
    wpAny (model prog w) A (exec (.While test body [] pos) env) Q E s :=
  while_int (srIn ns i) (srMu ns) F N hx hp (fun v t h tk hp F N => turn v t h tk hp.1 hp.2.1 hp.2.2 F N) hE
theorem off_app {tl news : List (Addr × Obj)} {D : Addr} (h1 : ∀ p ∈ tl, D < p.1) (h2 : ∀ p ∈ news, p.1 < D) : ∀ p ∈ tl ++ news, p.1 ≠ D := fun p hp => (List.mem_append.mp hp).elim (fun h => Nat.ne_of_gt (h1 p h)) fun h => Nat.ne_of_lt (h2 p h)
theorem allLt_all {d : Addr} : ∀ {l : List (Addr × Obj)}, AllLt d l → ∀ p ∈ l, p.1 < d
  | [], _, _, hp => (nomatch hp)
  | q :: r, h, p, hp => by
    rcases List.mem_cons.mp hp with rfl | hp
    · exact h.1
    · exact allLt_all h.2 p hp
theorem sr_end {m₀ m' : Str → Option Value} {news tl : List (Addr × Obj)} {D T : Addr} {ns : List Int} {vs : List Value} {cn : Nat} {ds : List Dat} {i : Nat} {j : Int} {t t1 t2 tj : Tok} {h' : Heap} {tk : Nat} {v : Int}
    (F : Fr h₀ L h' m') (N : News h₀ L h' ((T, { cls := .type "tuple", data := .seq #[.int v t1, .int (j - i) t2] }) :: (D, listOf (vs.toArray.push (.ref T)) (cn + 1)) :: (tl ++ news))) (l1 : D < T ∧ AllLt T (tl ++ news))
    (hm : m' (Str.ofString "i") = some (.int j tj)) (hr : ∀ z, (∀ p ∈ [(Str.ofString "i", Value.int j tj)], z ≠ p.1) → ([Str.ofString "j"] : List Str).contains z = false → m' z = m₀ z)
    (kD : DatAll tl vs ds) (kL : ∀ q ∈ news, ∀ p ∈ tl, q.1 < p.1) (kM : ∀ p ∈ tl, D < p.1) (kR : ds ++ (runs (ns.drop i)).map runD = (runs ns).map runD) (kV : vs.length ≤ i)
    (h1 : (i : Int) < j) (h2 : j ≤ ns.length) (h3 : ns.drop i = List.replicate (j.toNat - i) (ns.getD i 0) ++ ns.drop j.toNat) (hx : j < ns.length → ns.getD j.toNat 0 ≠ ns.getD i 0) (hv : v = ns.getD i 0) :
    KswEnd h₀ L s (srLed D news) srPs (srFacts D news) [Str.ofString "j"] m₀ (srP ns) (fun c => ns.length - c.i) ⟨i, t, vs, cn, tl, ds⟩ { s with heap := h', toks := tk } := by
  have hj : ((j.toNat : Nat) : Int) = j := by omega
  have e : vs.toArray.push (.ref T) = (vs ++ [Value.ref T]).toArray := by simp
  rw [e] at N
  refine ksw_end (c' := ⟨j.toNat, tj, vs ++ [.ref T], cn + 1, (T, { cls := .type "tuple", data := .seq #[.int v t1, .int (j - i) t2] }) :: tl, ds ++ [runD (v, j - i)]⟩) F N ?_ ?_ ?_ ?_ ?_ ?_
  · intro q hq
    rcases List.mem_cons.mp hq with rfl | hq
    · exact .tail _ (.head _)
    · rcases List.mem_cons.mp hq with rfl | hq
      · exact .head _
      · exact .tail _ (.tail _ hq)
  · refine ⟨(kD.mono fun q hq => .tail _ hq).append (.one (.tuple (vs := [.int v t1, .int (j - i) t2]) (.head _) (.cons (.int _ _) (.cons (.int _ _) .nil)))), fun q hq q' hq' => ?_, fun q hq => ?_⟩
    · rcases List.mem_cons.mp hq' with rfl | hq'
      · exact allLt_all l1.2 q (List.mem_append.mpr (.inr hq))
      · exact kL q hq q' hq'
    · rcases List.mem_cons.mp hq with rfl | hq
      · exact l1.1
      · exact kM q hq
  · intro q hq
    rw [List.mem_singleton.mp hq]
    show m' _ = some (.int ((j.toNat : Nat) : Int) tj)
    rw [hj]
    exact hm
  · intro z hz
    refine hr z fun q hq => ?_
    rw [List.mem_singleton.mp hq]
    exact hz (Str.ofString "i", .int (j.toNat : Nat) tj) (.head _)
  · refine ⟨by show j.toNat ≤ ns.length; omega, ?_, ?_⟩
    · show (ds ++ [runD (v, j - i)]) ++ (runs (ns.drop j.toNat)).map runD = _
      rw [← kR, runs_step h1 h2 h3 hx, hv]
      simp
    · show (vs ++ [Value.ref T]).length ≤ j.toNat
      rw [List.length_append, List.length_singleton]
      omega
  · show ns.length - j.toNat < ns.length - i
    omega
theorem sr_inEnd {m₀ m' : Str → Option Value} {led : List (Addr × Obj)} {ns : List Int} {i : Nat} {j : Int} {t t' : Tok} {h' : Heap} {tk : Nat}
    (F : Fr h₀ L h' m') (N : News h₀ L h' led) (hm : m' (Str.ofString "j") = some (.int (j + 1) t')) (hr : ∀ z, (∀ p ∈ [(Str.ofString "j", Value.int (j + 1) t')], z ≠ p.1) → ([] : List Str).contains z = false → m' z = m₀ z)
    (h1 : (i : Int) < j) (h2 : j < ns.length) (h3 : ns.drop i = List.replicate (j.toNat - i) (ns.getD i 0) ++ ns.drop j.toNat) (he : ns.getD j.toNat 0 = ns.getD (i : Int).toNat 0) :
    KswEnd h₀ L s (fun _ => led) (fun c : Int × Tok => [(Str.ofString "j", .int c.1 c.2)]) (fun _ => True) [] m₀ (fun c => srIn ns i c.1) (fun c => srMu ns c.1) (j, t) { s with heap := h', toks := tk } := by
  refine ksw_end (c' := (j + 1, t')) F N (fun _ h => h) trivial ?_ hr (srIn_next h1 h2 h3 he) ?_
  · intro q hq
    rw [List.mem_singleton.mp hq]
    exact hm
  · show ns.length - (j + 1).toNat < ns.length - j.toNat
    omega
end
theorem flat_one (n : Nat) (v : Int) : (List.replicate n [v]).flatten = List.replicate n v := by
  induction n with
  | zero => rfl
  | succ k ih => rw [List.replicate_succ, List.flatten_cons, ih]; rfl
theorem in_app {a b : List Int} (ha : KBa.In a) (hb : KBa.In b) : KBa.In (a ++ b) := fun n hn => (List.mem_append.mp hn).elim (ha n) (hb n)
theorem in_rep {n : Nat} {v : Int} (h0 : 0 ≤ v) (h1 : v < 256) : KBa.In (List.replicate n v) := fun k hk => by rw [List.eq_of_mem_replicate hk]; exact ⟨h0, h1⟩
/-- split_runs, for all bytes -/
def SrC (prog : Program) (w : World) (K : Frag) (p : Program) (loose : List Str) (mean : ExcName → Option Value) (mg mb : Str → Option Value) : Prop :=
  ∀ (b : Array UInt8) (ns : List Int) (t : Tok) (news : List (Addr × Obj)), KBw.bInts b = ns → ns.length ≤ 1000000 → Fun prog w K p loose mean mg mb 21 [.bytes b t] news (SrOut ns news)
theorem bring {α : Type} {prog : Program} {w : World} {A : Around} {tree : Sem α} {Q : α → Shared → Prop} {E : Value → Shared → Prop} {s : Shared} {K : Frag} {h₀ : Heap} {p : Program} {loose : List Str} {mean : ExcName → Option Value} {mg mb : Str → Option Value}
    (C : Program → World → Frag → Program → List Str → (ExcName → Option Value) → (Str → Option Value) → (Str → Option Value) → Prop) (_X : K.In h₀) (_T : Top p loose mean mg mb h₀) (ctr : C prog w K p loose mean mg mb) (h : C prog w K p loose mean mg mb → wpAny (model prog w) A tree Q E s) : wpAny (model prog w) A tree Q E s := h ctr
theorem sr_use {prog : Program} {w : World} {K : Frag} {p : Program} {loose : List Str} {mean : ExcName → Option Value} {mg mb : Str → Option Value} {b : Array UInt8} {ns : List Int} {t : Tok} {news : List (Addr × Obj)}
    {dp un : Nat} {gd : Option (List Code)} {cn : Str} {cs : Scope} {a : Addr} {ccd : Value} {cl : List (Str × Addr)} {outer : List Env} {A₀ : Around} {base h₀ : Heap} {L : Addr} {m : Str → Option Value} {s : Shared} {Q E : Value → Shared → Prop}
    (C : SrC prog w K p loose mean mg mb) (hb : KBw.bInts b = ns) (hl : ns.length ≤ 1000000) (B : Below A₀ base outer h₀) (F : Fr h₀ L s.heap m) (X : K.In h₀) (N : News h₀ L s.heap news) (T : Top p loose mean mg mb h₀) (hk : cs.kind = .function) (hd : dp + 10 < recursionLimit) (hu : un + 80 < cLine)
    (ret : ∀ D vs cn tl h' tk', (∀ q ∈ news, q.1 < D) → (∀ q ∈ news, ∀ p ∈ tl, q.1 < p.1) → (∀ p ∈ tl, D < p.1) → DatAll tl vs ((runs ns).map runD) → Fr h₀ L h' m → News h₀ L h' ((D, listOf vs.toArray cn) :: (tl ++ news)) → Q (.ref D) { s with heap := h', toks := tk' }) :
    wpAny (model prog w) (ktrTop dp un gd cn cs L a ccd cl outer) (call (.ref 21) [.bytes b t]) Q E s :=
  C b ns t news hb hl _ _ _ _ _ _ _ _ _ _ _ _ _ _ _ _ _ B F X N T hk hd hu fun _ _ h' tk' ⟨D, vs, cn, tl, h1, h2, h3, h4, h5, h6⟩ F' N' => by
    subst h1 h2
    exact ret D vs cn tl h' tk' h3 h4 h5 h6 F' N'
theorem runs_two {a b i j : Int} (h : b ≠ a) (hi : 0 < i) (hj : 0 < j) : runs (List.replicate i.toNat a ++ List.replicate j.toNat b) = [(a, i), (b, j)] := by
  obtain ⟨k, hk⟩ : ∃ k, i.toNat = k + 1 := ⟨i.toNat - 1, by omega⟩
  obtain ⟨l, hl⟩ : ∃ k, j.toNat = k + 1 := ⟨j.toNat - 1, by omega⟩
  have e2 := runs_rep b [] (fun _ _ h => nomatch h) l
  rw [List.append_nil] at e2
  rw [hk, hl, runs_rep a _ (fun c r e => ?_), e2]
  · have e3 : (k : Int) + 1 = i := by omega
    have e4 : (l : Int) + 1 = j := by omega
    rw [e3, e4, runs]
  · rw [List.replicate_succ] at e
    injection e with e1 _
    rw [← e1]; exact h
/-- the pairs that came back and the pairs written -/
theorem eq_two {prog : Program} {w : World} {A : Around} {E : Value → Shared → Prop} {s : Shared} {h₀ : Heap} {L D lq P₁ P₂ : Addr} {vs : List Value} {cn cq : Nat} {tl rest : List (Addr × Obj)} {x y z u : Int} {t₁ t₂ t₃ t₄ : Tok} {Q : Value → Shared → Prop}
    (N : News h₀ L s.heap ((lq, listOf #[.ref P₁, .ref P₂] cq) :: (P₂, { cls := .type "tuple", data := .seq #[.int z t₃, .int u t₄] }) :: (P₁, { cls := .type "tuple", data := .seq #[.int x t₁, .int y t₂] }) :: (D, listOf vs.toArray cn) :: (tl ++ rest)))
    (kD : DatAll tl vs [.tuple [.int x, .int y], .tuple [.int z, .int u]]) (hu : A.units + 64 < cLine) (h : Q (.bool true) s) : wpAny (model prog w) A (compareOp .Eq (.ref D) (.ref lq)) Q E s := by
  refine kqd_eq (es := [.tuple [.int x, .int y], .tuple [.int z, .int u]]) (ys := [.ref P₁, .ref P₂]) N (.tail _ (.tail _ (.tail _ (.head _)))) rfl rfl kD ?_ (.head _) rfl rfl (.cons (.tuple (vs := [.int x t₁, .int y t₂]) (.tail _ (.tail _ (.head _))) ?_) (.cons (.tuple (vs := [.int z t₃, .int u t₄]) (.tail _ (.head _)) ?_) .nil)) (fun _ h => h) ?_ ?_ hu ?_
  · exact fun p hp => .tail _ (.tail _ (.tail _ (.tail _ (List.mem_append.mpr (.inl hp)))))
  · exact .cons (.int _ _) (.cons (.int _ _) .nil)
  · exact .cons (.int _ _) (.cons (.int _ _) .nil)
  · intro d hd
    simp only [List.mem_cons, List.not_mem_nil, or_false] at hd
    rcases hd with rfl | rfl <;> rfl
  · intro d hd
    simp only [List.mem_cons, List.not_mem_nil, or_false] at hd
    rcases hd with rfl | rfl <;> rfl
  · simpa using h
end Mine
local macro_rules | `(tactic| walk_at "call builtin:list.append") => `(tactic| (k_here; (with_reducible show wpAny _ _ (call (Value.builtin "list.append") [Value.ref _, Value.ref _]) _ _ _); k_dflt (refine' append_K ?k1 ?k2 ?k3 ?_ ?z; (case k1 => k_asm); (case k2 => k_asm); (case k3 => exact Upd.tail (Nat.ne_of_gt (And.left (by assumption))) (Upd.head (Mine.off_app (by assumption) (by assumption)))); (case z => (simp only [List.size_toArray, sizeLine_eq]; omega)); k_whole); intro h' F' N'; (try k_sweep)))
local macro_rules | `(tactic| walk_at "KswEnd") => `(tactic| (k_here; (rename Fr _ _ _ _ => lF'); (rename News _ _ _ _ => lN'); with_unfolding_all (first
  | (refine' Mine.sr_inEnd lF' lN' ?k1 ?k2 ?k3 ?k4 ?k5 ?k6; (case k1 => exact rfl); (case k2 => ksw_same); (case k3 => assumption); (case k4 => omega); (case k5 => assumption); (case k6 => (simp only [decide_eq_true_eq, beq_iff_eq] at *; assumption)))
  | (refine' Mine.sr_end lF' lN' ?k1 ?k2 ?k3 ?k4 ?k5 ?k6 ?k7 ?k8 ?k9 ?k10 ?k11 ?k12 ?k13; (case k1 => assumption); (case k2 => exact rfl); (case k3 => ksw_same); (case k4 => assumption); (case k5 => assumption); (case k6 => assumption); (case k7 => assumption); (case k8 => assumption); (case k9 => assumption); (case k10 => omega); (case k11 => assumption); (case k12 => (intro _; simp only [decide_eq_true_eq, decide_eq_false_iff_not, beq_iff_eq] at *; first | assumption | omega)); (case k13 => exact rfl)))))
local macro_rules | `(tactic| walk_at "exec While BoolOp cons nil") => `(tactic| (k_here; (rename Fr _ _ _ _ => lF'); (rename News _ _ _ _ => lN'); (with_unfolding_all refine' Mine.sr_inner lF' lN' ?k1 ?k2 ?_; (case k1 => exact rfl); (case k2 => exact Mine.srIn_start (by assumption)); k_whole); (clear lF' lN'); intro j9 t9 h9 tk9 kJ kJ2 kJ3 kF kN; (try k_fold)))
local macro_rules | `(tactic| walk_at "exec While Compare cons nil") => `(tactic| (k_here; (rename Fr _ _ _ _ => lF'); (rename News _ _ _ _ => lN'); (with_unfolding_all refine' Mine.sr_while lF' lN' ?k1 ?k2 ?k3 ?_; (case k1 => exact rfl); (case k2 => exact rfl); (case k3 => assumption); k_whole); (clear lF' lN'); intro i9 t9 vs9 cn9 tl9 ds9 u9 h9 tk9 kD kL kM kI kR kV kF kN; (try k_fold)))
local macro_rules | `(tactic| walk_at "mine split") => `(tactic| (
  unfold Mine.SrC
  intro b ns t news hb hl
  unfold Mine.Fun
  intro dp un gd cn cs a ccd cl outer A₀ base h₀ L m s Q E B F X N T hk hd hu hret
  refine wpAny_call ?_
  k_dflt cell_enter
  k_steps
  exact hret _ _ _ _ ⟨_, _, _, _, rfl, rfl, by assumption, by assumption, by assumption, Mine.sr_done (by assumption) (by assumption) (by assumption)⟩ (by assumption) (by assumption)))
local macro_rules | `(tactic| walk_at "call type:bytes") => `(tactic| (k_here; (with_reducible show wpAny _ _ (call (Value.type "bytes") [Value.ref _]) _ _ _); (try simp only [Mine.flat_one] at *); k_dflt (refine' KBa.make_K ?kbaF ?kbaN ?kbah ?kbal ?kbai ?kbar ?kban ?_; (case kbaF => k_asm); (case kbaN => k_asm); (case kbah => rfl); (case kbal => kba_isList); (case kbai => kba_listInts); (case kbar => repeat' (first | refine Mine.in_app ?_ ?_ | refine Mine.in_rep (by l_fact) (by l_fact))); (case kban => (simp only [List.length_append, List.length_replicate]; l_fact)); k_whole); intro h' t' k' F' N' kbaIn))
local macro_rules | `(tactic| walk_at "call ref") => `(tactic| (k_here; (with_reducible show wpAny _ _ (call (Value.ref 21) [Value.bytes _ _]) _ _ _); k_dflt (refine' Mine.sr_use ?kC ?kb ?kl ?k1 ?k2 ?k3 ?k4 ?k5 ?kK ?kd ?ku ?_; (case kC => assumption); (case kb => exact KBa.ints_make (by assumption)); (case kl => (simp only [List.length_append, List.length_replicate]; l_fact)); (case k1 => k_asm); (case k2 => k_asm); (case k3 => k_asm); (case k4 => k_asm); (case k5 => k_asm); (case kK => first | exact rfl | assumption); (case kd => ktr_room); (case ku => ktr_units); k_whole); intro D9 vs9 cn9 tl9 h9 tk9 kA kB kC kD F9 N9; (rw [Mine.runs_two (by omega) (by l_fact) (by l_fact)] at kD); (simp only [List.map_cons, List.map_nil, Mine.runD] at kD); (try k_fold)))
local macro_rules | `(tactic| walk_at "newList") => `(tactic| (k_here; k_dflt (refine' newList_K ?k1 ?k2 ?_; (case k1 => k_asm); (case k2 => k_asm); k_whole); intro l' h' F' N' l1; (try k_lt l1); (try k_sweep); (try (with_reducible show (_ : Value → Shared → Prop) _ _))))
local macro_rules | `(tactic| walk_at "compareOp Eq ref ref") => `(tactic| (k_here; (with_reducible show wpAny _ _ (compareOp CmpOp.Eq (Value.ref _) (Value.ref _)) _ _ _); k_dflt (refine' Mine.eq_two ?N ?d ?u ?_; (case N => assumption); (case d => assumption); (case u => ke_room); k_whole)))
set_option maxRecDepth 100000 in
set_option maxHeartbeats 8000000 in
theorem PySem.Challenge.cw_ui0507_03_holds : PySem.Challenge.rw_ui0507_03.Holds := by
  (w_on; o_law; k_head; (case hw => w_witness2))
  w_strict (k_go0; (all_goals try k_fold); (refine Mine.bring Mine.SrC (by assumption) (by assumption) ?ctr ?_); (case ctr => (law_clear; walk_at "mine split")); intro cSr; k_steps; (all_goals (try k_data)); all_goals w_report)
