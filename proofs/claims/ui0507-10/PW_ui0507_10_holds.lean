import PyProof.Rows.All
import Wide.All
import OpenK.AllK
import Wide.FinOn
import PySem.Challenge.RW_ui0507_10
open PySem PySem.W PyProof.Rows PySem.Spec PySem.Calls
set_option Elab.async false
namespace Mine
/-- what a def does, wherever it is called: from the ledger news and the arguments vs it comes back with r and the ledger news' that R tells -/
def Fun (prog : Program) (w : World) (K : Frag) (p : Program) (loose : List Str) (mean : ExcName → Option Value) (mg mb : Str → Option Value) (k : Nat) (f : Addr) (vs : List Value) (news : List (Addr × Obj)) (R : Value → List (Addr × Obj) → Prop) : Prop :=
  ∀ (dp un : Nat) (gd : Option (List Code)) (cn : Str) (cs : Scope) (a : Addr) (ccd : Value) (cl : List (Str × Addr)) (outer : List Env) (A₀ : Around) (base h₀ : Heap) (L : Addr) (m : Str → Option Value) (s : Shared) (Q E : Value → Shared → Prop),
    Below A₀ base outer h₀ → Fr h₀ L s.heap m → K.In h₀ → News h₀ L s.heap news → Top p loose mean mg mb h₀ → cs.kind = .function → dp + k < recursionLimit → un + 8 * k < cLine →
    (∀ r news' h' tk', R r news' → Fr h₀ L h' m → News h₀ L h' news' → Q r { s with heap := h', toks := tk' }) →
    wpAny (model prog w) (ktrTop dp un gd cn cs L a ccd cl outer) (call (.ref f) vs) Q E s
theorem bring {α : Type} {prog : Program} {w : World} {A : Around} {tree : Sem α} {Q : α → Shared → Prop} {E : Value → Shared → Prop} {s : Shared} {K : Frag} {h₀ : Heap} {p : Program} {loose : List Str} {mean : ExcName → Option Value} {mg mb : Str → Option Value}
    (C : Program → World → Frag → Program → List Str → (ExcName → Option Value) → (Str → Option Value) → (Str → Option Value) → Prop) (_X : K.In h₀) (_T : Top p loose mean mg mb h₀) (ctr : C prog w K p loose mean mg mb) (h : C prog w K p loose mean mg mb → wpAny (model prog w) A tree Q E s) : wpAny (model prog w) A tree Q E s := h ctr
section
variable {prog : Program} {w : World} {A : Around} {E : Value → Shared → Prop} {s : Shared} {env : Env} {h₀ : Heap} {target : Expr} {body : List Stmt} {Q : Flow → Shared → Prop}
/-- a for over a list of the ledger's, its target whatever it is -/
theorem turns_list {l : Addr} {vs : List Value} {nn : Nat} {m₀ : Str → Option Value} {news : List (Addr × Obj)} (J : Nat → (Str → Option Value) → List (Addr × Obj) → Prop)
    (hh : A.handled = none) (hl : (l, listOf vs.toArray nn) ∈ news) (F : Fr h₀ env.locals s.heap m₀) (N : News h₀ env.locals s.heap news) (hj : J 0 m₀ news) (hJl : ∀ i m nx, J i m nx → (l, listOf vs.toArray nn) ∈ nx)
    (turn : ∀ i v m₁ news₁ h tk own, vs[i]? = some v → OwnOff own (news₁.map (·.1)) → J i m₁ news₁ → Fr h₀ env.locals h m₁ → News h₀ env.locals h (news₁ ++ own) →
      wpAny (model prog w) A (assign target env v) (fun _ s₃ => wpAny (model prog w) A (execs body env) (InvPostG h₀ env.locals (J (i + 1)) own { s with heap := h, toks := tk } Q) E s₃) E { s with heap := h, toks := tk })
    (done : ∀ m₁ news₁ h tk, J vs.length m₁ news₁ → Fr h₀ env.locals h m₁ → News h₀ env.locals h news₁ → Q .next { s with heap := h, toks := tk }) :
    wpAny (model prog w) A (pyIter (.ref l)) (fun it s₂ => TurnsAt prog w A h₀ env target body Q E it s₂) E s := by
  have hol : s.heap.get? l = some (listOf vs.toArray nn) := (N _ hl).1
  have hls : s.heap.IsList l vs.toArray := ⟨_, hol, rfl, nn, rfl⟩
  have hne : l ≠ s.heap.objs.size := Nat.ne_of_lt (Heap.lt_size hol)
  refine wpAny_pyIter_list hls ?_
  have W := Walks.list (prog := prog) (w := w) hh s.heap.objs.size l hne vs.toArray
  have hlen : vs.toArray.size = vs.length := by simp
  rw [hlen] at W
  refine ⟨_, _, _, vs.length, _, _, _, m₀, news, J, rfl, KTurns.ofWalks W fun i v s Q E st q => letGo_listiter st.1 q, ?_, ?_, ?_, ⟨⟨_, Heap.get?_push_size _ rfl, rfl, rfl⟩, hls.at fun o e => Heap.get?_push_of_some _ e⟩, F.push _, (fun p hp => ⟨Heap.get?_push_of_some _ (N p hp).1, (N p hp).2⟩), hj, ?_, ?_⟩
  · intro hm
    rcases List.mem_cons.mp hm with e | hm
    · exact absurd F.ns.lt (e ▸ Nat.lt_irrefl _)
    · exact (N _ hl).2.1 ((List.mem_singleton.mp hm).symm)
  · intro b hb
    rw [List.mem_singleton.mp hb]
    exact next_is_new F
  · intro p hp hI
    exact absurd (Heap.lt_size (N p hp).1) ((List.mem_singleton.mp hI) ▸ Nat.lt_irrefl _)
  · intro i v m₁ news₁ hh' tk' own hin hP hJ hoff hown hget hfp hst F₁ N₁
    have hl₁ := hJl _ _ _ hJ
    have hP' : vs[i]? = some v := by simpa using hP
    have hI0 : h₀.get? s.heap.objs.size = none := next_is_new F
    obtain ⟨⟨oI, hoI, _⟩, _⟩ := id hst
    have hIown : (s.heap.objs.size, oI) ∈ own.filter fun p => decide (p.1 = s.heap.objs.size) := List.mem_filter.mpr ⟨hfp _ (List.mem_cons.mpr (.inl rfl)) hI0 _ hoI, by simp⟩
    have hsep : OwnOff (own.filter fun p => decide (p.1 = s.heap.objs.size)) (news₁.map (·.1)) := by
      intro p hp b hb e
      obtain ⟨q, hq, rfl⟩ := List.mem_map.mp hb
      have h1 : p.1 = s.heap.objs.size := by simpa using (List.mem_filter.mp hp).2
      exact hoff q hq (List.mem_singleton.mpr (e ▸ h1))
    have N₂ : News h₀ env.locals hh' (news₁ ++ own.filter fun p => decide (p.1 = s.heap.objs.size)) := fun p hp => N₁ p ((List.mem_append.mp hp).elim (fun h => List.mem_append.mpr (.inr h)) fun h => List.mem_append.mpr (.inl ((List.mem_filter.mp h).1)))
    have hlo : hh'.get? l = some (listOf vs.toArray nn) := (N₁ _ (List.mem_append.mpr (.inr hl₁))).1
    refine wpAny_mono (turn i v m₁ news₁ hh' tk' _ hP' hsep hJ F₁ N₂) (fun _ s₃ p3 => wpAny_mono p3 (fun f s₂ p => ?_) fun _ _ e => e) fun _ _ e => e
    have fin : InvEndG h₀ env.locals (J (i + 1)) (own.filter fun p => decide (p.1 = s.heap.objs.size)) { s with heap := hh', toks := tk' } s₂ →
        LoopStepU h₀ env.locals [s.heap.objs.size] own (J (i + 1)) { s with heap := hh', toks := tk' } .next s₂ := by
      rintro ⟨h', tk, m', news', nx, e, F', N', hn, ho, ha, hm⟩
      refine ⟨rfl, h', tk, m', nx, e, F', fun p hp => ?_, fun p hp hq => ?_, hm⟩
      · rcases List.mem_append.mp hp with h | h
        · by_cases hI : p.1 = s.heap.objs.size
          · exact N' p (ho p (List.mem_filter.mpr ⟨h, by simpa using hI⟩))
          · have h1 : p.1 = l := by
              rcases List.mem_cons.mp (hown p h) with h2 | h2
              · exact absurd h2 hI
              · exact List.mem_singleton.mp h2
            have h2 : hh'.get? p.1 = some p.2 := hget p h
            rw [h1, hlo] at h2
            have h3 : p = (l, listOf vs.toArray nn) := Prod.ext h1 (Option.some.inj h2).symm
            rw [h3]
            exact N' _ (hn _ (hJl _ _ _ hm))
        · exact N' p (hn p h)
      · exact ha _ hIown p.1 (List.mem_map.mpr ⟨p, hp, rfl⟩) (List.mem_singleton.mp hq).symm
    cases f with
    | ret v => exact p
    | brk => exact p
    | next => exact fin p
    | cont => exact fin p
  · rintro h' tk m' news' F' N' _ hJ
    exact done m' news' h' tk hJ F' N'
end
section
variable {prog : Program} {w : World} {K : Frag} {p : Program} {loose : List Str} {mean : ExcName → Option Value} {mg mb : Str → Option Value} {k : Nat} {f : Addr} {vs : List Value} {news : List (Addr × Obj)} {R : Value → List (Addr × Obj) → Prop}
theorem Fun.use {dp un : Nat} {gd : Option (List Code)} {cn : Str} {cs : Scope} {a : Addr} {ccd : Value} {cl : List (Str × Addr)} {outer : List Env} {A₀ : Around} {base h₀ : Heap} {L : Addr} {m : Str → Option Value} {s : Shared} {Q E : Value → Shared → Prop}
    (C : Fun prog w K p loose mean mg mb k f vs news R) (B : Below A₀ base outer h₀) (F : Fr h₀ L s.heap m) (X : K.In h₀) (N : News h₀ L s.heap news) (T : Top p loose mean mg mb h₀) (hk : cs.kind = .function) (hd : dp + k < recursionLimit) (hu : un + 8 * k < cLine)
    (ret : ∀ r news' h' tk', R r news' → Fr h₀ L h' m → News h₀ L h' news' → Q r { s with heap := h', toks := tk' }) :
    wpAny (model prog w) (ktrTop dp un gd cn cs L a ccd cl outer) (call (.ref f) vs) Q E s := C _ _ _ _ _ _ _ _ _ _ _ _ _ _ _ _ _ B F X N T hk hd hu ret
end
/-- the ledger with o at O -/
def put (O : Addr) (o : Obj) (news : List (Addr × Obj)) : List (Addr × Obj) := news.map fun p => if p.1 = O then (O, o) else p
theorem put_nil {O : Addr} {o : Obj} : put O o [] = [] := rfl
theorem put_hit {O : Addr} {o o' : Obj} {r : List (Addr × Obj)} : put O o ((O, o') :: r) = (O, o) :: put O o r := by simp [put]
theorem put_miss {O : Addr} {o : Obj} {q : Addr × Obj} {r : List (Addr × Obj)} (h : q.1 ≠ O) : put O o (q :: r) = q :: put O o r := by simp [put, h]
theorem put_off {O : Addr} {o : Obj} {r : List (Addr × Obj)} (h : ∀ q ∈ r, q.1 ≠ O) : put O o r = r := by
  induction r with
  | nil => rfl
  | cons q r ih => rw [put_miss (h q (.head _)), ih fun x hx => h x (.tail _ hx)]
theorem mem_put {O : Addr} {o : Obj} {news : List (Addr × Obj)} {q : Addr × Obj} (h : q ∈ put O o news) : q = (O, o) ∨ (q.1 ≠ O ∧ q ∈ news) := by
  obtain ⟨x, hx, rfl⟩ := List.mem_map.mp h
  by_cases e : x.1 = O
  · rw [if_pos e]; exact .inl rfl
  · rw [if_neg e]; exact .inr ⟨e, hx⟩
section
variable {prog : Program} {w : World} {A : Around} {E : Value → Shared → Prop} {s : Shared} {h₀ : Heap} {L D b : Addr} {m : Str → Option Value} {news : List (Addr × Obj)} {its its2 : Array Value} {n n2 : Nat}
/-- extend by a list of the ledger's -/
theorem extend_U {g : Obj → List (Addr × Obj)} {Q : Value → Shared → Prop} (F : Fr h₀ L s.heap m) (N : News h₀ L s.heap news) (hb : (b, listOf its2 n2) ∈ news) (U : UpdF D (listOf its n) news g) (hz : its.size + its2.size ≤ sizeLine)
    (h : ∀ h' n', Fr h₀ L h' m → News h₀ L h' (g (listOf (its ++ its2) n')) → Q .none { s with heap := h' }) : wpAny (model prog w) A (call (.builtin "list.extend") [.ref D, .ref b]) Q E s := by
  obtain ⟨pre, post, rfl, hg, a, c⟩ := U.split
  obtain ⟨ys, rfl⟩ : ∃ ys : List Value, its = ys.toArray := ⟨its.toList, by rw [Array.toArray_toList]⟩
  refine extend_in F N a c (N _ hb).1 (fun h' n' F' N' => h h' n' F' ?_) (by rw [List.size_toArray] at hz; exact hz)
  rw [hg]
  have e : ys.toArray ++ its2 = (ys ++ its2.toList).toArray := by simp
  rw [e]
  exact N'
end
theorem off_lt {l : List (Addr × Obj)} {D : Addr} (h : ∀ p ∈ l, p.1 < D) : ∀ p ∈ l, p.1 ≠ D := fun p hp => Nat.ne_of_lt (h p hp)
theorem off_gt {l : List (Addr × Obj)} {D : Addr} (h : ∀ p ∈ l, D < p.1) : ∀ p ∈ l, p.1 ≠ D := fun p hp => Nat.ne_of_gt (h p hp)
theorem flat_one (n : Nat) (v : Int) : (List.replicate n [v]).flatten = List.replicate n v := by
  induction n with
  | zero => rfl
  | succ k ih => rw [List.replicate_succ, List.flatten_cons, ih]; rfl
theorem in_app {a b : List Int} (ha : KBa.In a) (hb : KBa.In b) : KBa.In (a ++ b) := fun n hn => (List.mem_append.mp hn).elim (ha n) (hb n)
theorem in_rep {n : Nat} {v : Int} (h0 : 0 ≤ v) (h1 : v < 256) : KBa.In (List.replicate n v) := fun k hk => by rw [List.eq_of_mem_replicate hk]; exact ⟨h0, h1⟩
/-- the runs of a list, from behind -/
def runs : List Int → List (Int × Int)
  | [] => []
  | a :: l => match runs l with
    | [] => [(a, 1)]
    | (b, c) :: r => if a = b then (b, c + 1) :: r else (a, 1) :: (b, c) :: r
def runD (x : Int × Int) : Dat := .tuple [.int x.1, .int x.2]
/-- the inner loop: all from i on, as far as j, are the same -/
def srIn (ns : List Int) (i : Nat) (j : Int) : Prop := (i : Int) < j ∧ j ≤ ns.length ∧ ns.drop i = List.replicate (j.toNat - i) (ns.getD i 0) ++ ns.drop j.toNat
def srMu (ns : List Int) (j : Int) : Nat := ns.length - j.toNat
theorem srIn_start {ns : List Int} {i : Nat} (h : (i : Int) < ns.length) : srIn ns i (i + 1) := by
  refine ⟨by omega, by omega, ?_⟩
  have h1 : ((i : Int) + 1).toNat = i + 1 := by omega
  rw [h1]
  have : i + 1 - i = 1 := by omega
  rw [this, List.drop_eq_getElem_cons (by omega)]
  simp [List.getD, List.getElem?_eq_getElem (show i < ns.length by omega)]
theorem srIn_next {ns : List Int} {i : Nat} {j : Int} (h1 : (i : Int) < j) (h2 : j < ns.length) (h3 : ns.drop i = List.replicate (j.toNat - i) (ns.getD i 0) ++ ns.drop j.toNat) (he : ns.getD j.toNat 0 = ns.getD i 0) : srIn ns i (j + 1) := by
  refine ⟨by omega, by omega, ?_⟩
  have e1 : (j + 1).toNat = j.toNat + 1 := by omega
  have e2 : j.toNat + 1 - i = (j.toNat - i) + 1 := by omega
  have e3 : ns.drop j.toNat = ns.getD i 0 :: ns.drop (j.toNat + 1) := by
    rw [List.drop_eq_getElem_cons (show j.toNat < ns.length by omega), ← he]
    simp [List.getD, List.getElem?_eq_getElem (show j.toNat < ns.length by omega)]
  rw [e1, e2, List.replicate_succ', List.append_assoc, h3, e3]
  simp
theorem runs_rep (a : Int) (l : List Int) (hl : ∀ b r, l = b :: r → b ≠ a) : ∀ k : Nat, runs (List.replicate (k + 1) a ++ l) = (a, (k : Int) + 1) :: runs l := by
  intro k
  induction k with
  | zero =>
    cases l with
    | nil => simp [runs]
    | cons b r =>
      have hb := hl b r rfl
      have hs : ∃ c q, runs (b :: r) = (b, c) :: q := by
        unfold runs
        split
        · exact ⟨_, _, rfl⟩
        · split
          · rename_i h; exact ⟨_, _, by rw [h]⟩
          · exact ⟨_, _, rfl⟩
      obtain ⟨c, q, hq⟩ := hs
      show runs (a :: (b :: r)) = _
      rw [runs, hq]
      simp [Ne.symm hb]
  | succ k ih =>
    rw [List.replicate_succ, List.cons_append, runs, ih]
    simp
theorem runs_step {ns : List Int} {i : Nat} {j : Int} (h1 : (i : Int) < j) (h2 : j ≤ ns.length) (h3 : ns.drop i = List.replicate (j.toNat - i) (ns.getD i 0) ++ ns.drop j.toNat) (hx : j < ns.length → ns.getD j.toNat 0 ≠ ns.getD i 0) :
    runs (ns.drop i) = (ns.getD i 0, j - i) :: runs (ns.drop j.toNat) := by
  rw [h3]
  obtain ⟨k, hk⟩ : ∃ k, j.toNat - i = k + 1 := ⟨j.toNat - i - 1, by omega⟩
  rw [hk, runs_rep]
  · have : ((k : Int) + 1) = j - i := by omega
    rw [this]
  · intro b r e
    have hlt : j.toNat < ns.length := by
      rcases Nat.lt_or_ge j.toNat ns.length with h | h
      · exact h
      · rw [List.drop_eq_nil_of_le h] at e; cases e
    have := hx (by omega)
    rw [List.drop_eq_getElem_cons hlt] at e
    injection e with e1 e2
    rw [← e1]
    simpa [List.getD, List.getElem?_eq_getElem hlt] using this
/-- what split_runs hands back: a new list of new pairs -/
def SrOut (ns : List Int) (news : List (Addr × Obj)) (r : Value) (news' : List (Addr × Obj)) : Prop :=
  ∃ D vs cn tl, r = .ref D ∧ news' = (D, listOf vs.toArray cn) :: (tl ++ news) ∧ (∀ q ∈ news, q.1 < D) ∧ (∀ q ∈ news, ∀ p ∈ tl, q.1 < p.1) ∧ (∀ p ∈ tl, D < p.1) ∧ DatAll tl vs ((runs ns).map runD)
structure SrS where
  i : Nat
  t : Tok
  vs : List Value
  cn : Nat
  tl : List (Addr × Obj)
  ds : List Dat
def srLed (D : Addr) (news : List (Addr × Obj)) (c : SrS) : List (Addr × Obj) := (D, listOf c.vs.toArray c.cn) :: (c.tl ++ news)
def srPs (c : SrS) : List (Str × Value) := [(Str.ofString "i", .int c.i c.t)]
def srFacts (D : Addr) (news : List (Addr × Obj)) (c : SrS) : Prop := DatAll c.tl c.vs c.ds ∧ (∀ q ∈ news, ∀ p ∈ c.tl, q.1 < p.1) ∧ (∀ p ∈ c.tl, D < p.1)
def srP (ns : List Int) (c : SrS) : Prop := c.i ≤ ns.length ∧ c.ds ++ (runs (ns.drop c.i)).map runD = (runs ns).map runD ∧ c.vs.length ≤ c.i
section
variable {prog : Program} {w : World} {A : Around} {E : Value → Shared → Prop} {Q : Flow → Shared → Prop} {s : Shared} {env : Env} {h₀ : Heap} {L : Addr}
theorem sr_while {test : Expr} {body : List Stmt} {pos : Pos} {m₀ : Str → Option Value} {ns : List Int} {news : List (Addr × Obj)} {D : Addr} {t : Tok}
    (F : Fr h₀ L s.heap m₀) (N : News h₀ L s.heap ((D, listOf #[] 0) :: news)) (hi : m₀ (Str.ofString "i") = some (.int 0 t)) {b : Array UInt8} {tb : Tok} (_hd : m₀ (Str.ofString "data") = some (.bytes b tb)) (_hb : KBw.bInts b = ns)
    (turn : ∀ (i : Nat) (t : Tok) (vs : List Value) (cn : Nat) (tl : List (Addr × Obj)) (ds : List Dat) (u : Str → Option Value) h tk,
      DatAll tl vs ds → (∀ q ∈ news, ∀ p ∈ tl, q.1 < p.1) → (∀ p ∈ tl, D < p.1) → i ≤ ns.length → ds ++ (runs (ns.drop i)).map runD = (runs ns).map runD → vs.length ≤ i →
      Fr h₀ L h (fun y => if y = Str.ofString "i" then some (.int i t) else if ([Str.ofString "j"] : List Str).contains y then u y else m₀ y) → News h₀ L h ((D, listOf vs.toArray cn) :: (tl ++ news)) →
      wpAny (model prog w) A (isTrue test env (eval test env)) (fun b s₂ =>
        if b = true then wpAny (model prog w) A (execs body env) (KswPost h₀ L s (srLed D news) srPs (srFacts D news) [Str.ofString "j"] m₀ (srP ns) (fun c => ns.length - c.i) Q ⟨i, t, vs, cn, tl, ds⟩) E s₂ else Q .next s₂) E { s with heap := h, toks := tk })
    (hE : PassesOwn (model prog w) A env E := by passes_own) :
    wpAny (model prog w) A (exec (.While test body [] pos) env) Q E s := by
  refine ksw_while (srLed D news) srPs (srFacts D news) [Str.ofString "j"] (srP ns) (fun c => ns.length - c.i) ⟨0, t, [], 0, [], []⟩ F ?_ ?_ ?_ ?_ ?_ hE
  · exact N
  · exact ⟨.nil, fun _ _ _ h => (nomatch h), fun _ h => (nomatch h)⟩
  · intro p hp
    rw [List.mem_singleton.mp hp]
    exact hi
  · exact ⟨Nat.zero_le _, rfl, Nat.le_refl _⟩
  · rintro ⟨i, t, vs, cn, tl, ds⟩ u h tk ⟨f1, f2, f3⟩ ⟨p1, p2, p3⟩ F₁ N₁
    exact turn i t vs cn tl ds u h tk f1 f2 f3 p1 p2 p3 F₁ N₁
theorem sr_done {ns : List Int} {i : Nat} {tl : List (Addr × Obj)} {vs : List Value} {ds : List Dat} (kD : DatAll tl vs ds) (kR : ds ++ (runs (ns.drop i)).map runD = (runs ns).map runD) (h : ¬ (i : Int) < ns.length) : DatAll tl vs ((runs ns).map runD) := by
  rw [← kR, List.drop_eq_nil_of_le (by omega)]
  simpa [runs] using kD
/-- a while that turns one int alone -/
theorem while_int {test : Expr} {body : List Stmt} {pos : Pos} {m₀ : Str → Option Value} {news : List (Addr × Obj)} {x : Str} {v₀ : Int} {t₀ : Tok} (P : Int → Prop) (μ : Int → Nat)
    (F : Fr h₀ L s.heap m₀) (N : News h₀ L s.heap news) (hx : m₀ x = some (.int v₀ t₀)) (hp : P v₀)
    (turn : ∀ (v : Int) (t : Tok) h tk, P v → Fr h₀ L h (fun y => if y = x then some (.int v t) else m₀ y) → News h₀ L h news →
      wpAny (model prog w) A (isTrue test env (eval test env)) (fun b s₂ =>
        if b = true then wpAny (model prog w) A (execs body env) (KswPost h₀ L s (fun _ => news) (fun c : Int × Tok => [(x, .int c.1 c.2)]) (fun _ => True) [] m₀ (fun c => P c.1) (fun c => μ c.1) Q (v, t)) E s₂ else Q .next s₂) E { s with heap := h, toks := tk })
    (hE : PassesOwn (model prog w) A env E := by passes_own) :
    wpAny (model prog w) A (exec (.While test body [] pos) env) Q E s := by
  refine ksw_while (fun _ => news) (fun c : Int × Tok => [(x, .int c.1 c.2)]) (fun _ => True) [] (fun c => P c.1) (fun c => μ c.1) (v₀, t₀) F N trivial ?_ hp ?_ hE
  · intro p hp
    rw [List.mem_singleton.mp hp]
    exact hx
  · rintro ⟨v, t⟩ u h tk _ hp F₁ N₁
    exact turn v t h tk hp F₁ N₁
theorem sr_inner {test : Expr} {body : List Stmt} {pos : Pos} {m₀ : Str → Option Value} {news : List (Addr × Obj)} {v₀ : Int} {t₀ : Tok} {ns : List Int} {i : Nat}
    (F : Fr h₀ L s.heap m₀) (N : News h₀ L s.heap news) (hx : m₀ (Str.ofString "j") = some (.int v₀ t₀)) (hp : srIn ns i v₀)
    (turn : ∀ (v : Int) (t : Tok) h tk, (i : Int) < v → v ≤ ns.length → ns.drop i = List.replicate (v.toNat - i) (ns.getD i 0) ++ ns.drop v.toNat → Fr h₀ L h (fun y => if y = Str.ofString "j" then some (.int v t) else m₀ y) → News h₀ L h news →
      wpAny (model prog w) A (isTrue test env (eval test env)) (fun b s₂ =>
        if b = true then wpAny (model prog w) A (execs body env) (KswPost h₀ L s (fun _ => news) (fun c : Int × Tok => [(Str.ofString "j", .int c.1 c.2)]) (fun _ => True) [] m₀ (fun c => srIn ns i c.1) (fun c => srMu ns c.1) Q (v, t)) E s₂ else Q .next s₂) E { s with heap := h, toks := tk })
    (hE : PassesOwn (model prog w) A env E := by passes_own) :
    wpAny (model prog w) A (exec (.While test body [] pos) env) Q E s :=
  while_int (srIn ns i) (srMu ns) F N hx hp (fun v t h tk hp F N => turn v t h tk hp.1 hp.2.1 hp.2.2 F N) hE
theorem off_app {tl news : List (Addr × Obj)} {D : Addr} (h1 : ∀ p ∈ tl, D < p.1) (h2 : ∀ p ∈ news, p.1 < D) : ∀ p ∈ tl ++ news, p.1 ≠ D := fun p hp => (List.mem_append.mp hp).elim (fun h => Nat.ne_of_gt (h1 p h)) fun h => Nat.ne_of_lt (h2 p h)
theorem allLt_all {d : Addr} : ∀ {l : List (Addr × Obj)}, AllLt d l → ∀ p ∈ l, p.1 < d
  | [], _, _, hp => (nomatch hp)
  | q :: r, h, p, hp => by
    rcases List.mem_cons.mp hp with rfl | hp
    · exact h.1
    · exact allLt_all h.2 p hp
theorem sr_end {m₀ m' : Str → Option Value} {news tl : List (Addr × Obj)} {D T : Addr} {ns : List Int} {vs : List Value} {cn : Nat} {ds : List Dat} {i : Nat} {j : Int} {t t1 t2 tj : Tok} {h' : Heap} {tk : Nat} {v : Int}
    (F : Fr h₀ L h' m') (N : News h₀ L h' ((T, { cls := .type "tuple", data := .seq #[.int v t1, .int (j - i) t2] }) :: (D, listOf (vs.toArray.push (.ref T)) (cn + 1)) :: (tl ++ news))) (l1 : D < T ∧ AllLt T (tl ++ news))
    (hm : m' (Str.ofString "i") = some (.int j tj)) (hr : ∀ z, (∀ p ∈ [(Str.ofString "i", Value.int j tj)], z ≠ p.1) → ([Str.ofString "j"] : List Str).contains z = false → m' z = m₀ z)
    (kD : DatAll tl vs ds) (kL : ∀ q ∈ news, ∀ p ∈ tl, q.1 < p.1) (kM : ∀ p ∈ tl, D < p.1) (kR : ds ++ (runs (ns.drop i)).map runD = (runs ns).map runD) (kV : vs.length ≤ i)
    (h1 : (i : Int) < j) (h2 : j ≤ ns.length) (h3 : ns.drop i = List.replicate (j.toNat - i) (ns.getD i 0) ++ ns.drop j.toNat) (hx : j < ns.length → ns.getD j.toNat 0 ≠ ns.getD i 0) (hv : v = ns.getD i 0) :
    KswEnd h₀ L s (srLed D news) srPs (srFacts D news) [Str.ofString "j"] m₀ (srP ns) (fun c => ns.length - c.i) ⟨i, t, vs, cn, tl, ds⟩ { s with heap := h', toks := tk } := by
  have hj : ((j.toNat : Nat) : Int) = j := by omega
  have e : vs.toArray.push (.ref T) = (vs ++ [Value.ref T]).toArray := by simp
  rw [e] at N
  refine ksw_end (c' := ⟨j.toNat, tj, vs ++ [.ref T], cn + 1, (T, { cls := .type "tuple", data := .seq #[.int v t1, .int (j - i) t2] }) :: tl, ds ++ [runD (v, j - i)]⟩) F N ?_ ?_ ?_ ?_ ?_ ?_
  · intro q hq
    rcases List.mem_cons.mp hq with rfl | hq
    · exact .tail _ (.head _)
    · rcases List.mem_cons.mp hq with rfl | hq
      · exact .head _
      · exact .tail _ (.tail _ hq)
  · refine ⟨(kD.mono fun q hq => .tail _ hq).append (.one (.tuple (vs := [.int v t1, .int (j - i) t2]) (.head _) (.cons (.int _ _) (.cons (.int _ _) .nil)))), fun q hq q' hq' => ?_, fun q hq => ?_⟩
    · rcases List.mem_cons.mp hq' with rfl | hq'
      · exact allLt_all l1.2 q (List.mem_append.mpr (.inr hq))
      · exact kL q hq q' hq'
    · rcases List.mem_cons.mp hq with rfl | hq
      · exact l1.1
      · exact kM q hq
  · intro q hq
    rw [List.mem_singleton.mp hq]
    show m' _ = some (.int ((j.toNat : Nat) : Int) tj)
    rw [hj]
    exact hm
  · intro z hz
    refine hr z fun q hq => ?_
    rw [List.mem_singleton.mp hq]
    exact hz (Str.ofString "i", .int (j.toNat : Nat) tj) (.head _)
  · refine ⟨by show j.toNat ≤ ns.length; omega, ?_, ?_⟩
    · show (ds ++ [runD (v, j - i)]) ++ (runs (ns.drop j.toNat)).map runD = _
      rw [← kR, runs_step h1 h2 h3 hx, hv]
      simp
    · show (vs ++ [Value.ref T]).length ≤ j.toNat
      rw [List.length_append, List.length_singleton]
      omega
  · show ns.length - j.toNat < ns.length - i
    omega
theorem sr_inEnd {m₀ m' : Str → Option Value} {led : List (Addr × Obj)} {ns : List Int} {i : Nat} {j : Int} {t t' : Tok} {h' : Heap} {tk : Nat}
    (F : Fr h₀ L h' m') (N : News h₀ L h' led) (hm : m' (Str.ofString "j") = some (.int (j + 1) t')) (hr : ∀ z, (∀ p ∈ [(Str.ofString "j", Value.int (j + 1) t')], z ≠ p.1) → ([] : List Str).contains z = false → m' z = m₀ z)
    (h1 : (i : Int) < j) (h2 : j < ns.length) (h3 : ns.drop i = List.replicate (j.toNat - i) (ns.getD i 0) ++ ns.drop j.toNat) (he : ns.getD j.toNat 0 = ns.getD (i : Int).toNat 0) :
    KswEnd h₀ L s (fun _ => led) (fun c : Int × Tok => [(Str.ofString "j", .int c.1 c.2)]) (fun _ => True) [] m₀ (fun c => srIn ns i c.1) (fun c => srMu ns c.1) (j, t) { s with heap := h', toks := tk } := by
  refine ksw_end (c' := (j + 1, t')) F N (fun _ h => h) trivial ?_ hr (srIn_next h1 h2 h3 he) ?_
  · intro q hq
    rw [List.mem_singleton.mp hq]
    exact hm
  · show ns.length - (j + 1).toNat < ns.length - j.toNat
    omega
end
/-- split_runs, for all bytes -/
def SrC (f : Addr) (prog : Program) (w : World) (K : Frag) (p : Program) (loose : List Str) (mean : ExcName → Option Value) (mg mb : Str → Option Value) : Prop :=
  ∀ (b : Array UInt8) (ns : List Int) (t : Tok) (news : List (Addr × Obj)), KBw.bInts b = ns → ns.length ≤ 1000000 → Fun prog w K p loose mean mg mb 10 f [.bytes b t] news (SrOut ns news)
/-- plain bytes: pieces of 128, a head ahead of each -/
def lits (l : List Int) : List Int :=
  if h : l = [] then [] else ((l.take 128).length - 1 : Int) :: (l.take 128 ++ lits (l.drop 128))
termination_by l.length
decreasing_by
  have : 0 < l.length := List.length_pos_iff.mpr h
  simp; omega
theorem lits_nil : lits [] = [] := by rw [lits]; rfl
theorem lits_cons {l : List Int} (h : l ≠ []) : lits l = ((l.take 128).length - 1 : Int) :: (l.take 128 ++ lits (l.drop 128)) := by rw [lits, dif_neg h]
theorem lits_length (l : List Int) : (lits l).length ≤ 2 * l.length := by
  induction h : l.length using Nat.strongRecOn generalizing l with
  | ind n ih =>
    by_cases e : l = []
    · subst e; rw [lits_nil]; simp
    · have h0 : 0 < l.length := List.length_pos_iff.mpr e
      have := ih (l.drop 128).length (by rw [List.length_drop]; omega) (l.drop 128) rfl
      rw [lits_cons e]
      simp only [List.length_cons, List.length_append, List.length_take, List.length_drop] at this ⊢
      omega
/-- the turns of _literals: how far, the list that is filled -/
structure LtS where
  i : Nat
  t : Tok
  vs : List Value
  cn : Nat
  os : List Int
def ltLed (O H : Addr) (vh : List Value) (ch : Nat) (rest : List (Addr × Obj)) (c : LtS) : List (Addr × Obj) := (O, listOf c.vs.toArray c.cn) :: (H, listOf vh.toArray ch) :: rest
def ltPs (c : LtS) : List (Str × Value) := [(Str.ofString "at", .int c.i c.t)]
def ltFacts (c : LtS) : Prop := IntsAre c.vs c.os
def ltP (os hs : List Int) (c : LtS) : Prop := c.os ++ lits (hs.drop c.i) = os ++ lits hs ∧ c.i ≤ hs.length + 128
def ltMu (hs : List Int) (c : LtS) : Nat := hs.length + 128 - c.i
section
variable {prog : Program} {w : World} {A : Around} {E : Value → Shared → Prop} {Q : Flow → Shared → Prop} {s : Shared} {env : Env} {h₀ : Heap} {L : Addr}
theorem lt_while {test : Expr} {body : List Stmt} {pos : Pos} {m₀ : Str → Option Value} {os hs : List Int} {news : List (Addr × Obj)} {O H : Addr} {t : Tok} {vo vh : List Value} {co ch : Nat}
    (F : Fr h₀ L s.heap m₀) (N : News h₀ L s.heap news) (hi : m₀ (Str.ofString "at") = some (.int 0 t)) (_hO : m₀ (Str.ofString "out") = some (.ref O)) (_hH : m₀ (Str.ofString "held") = some (.ref H)) (mO : (O, listOf vo.toArray co) ∈ news) (mH : (H, listOf vh.toArray ch) ∈ news) (iO : IntsAre vo os) (_iH : IntsAre vh hs) (hsz : os.length + 2 * hs.length ≤ 1000000)
    (turn : ∀ (i : Nat) (t : Tok) (vs : List Value) (cn : Nat) (ks : List Int) (u : Str → Option Value) h tk,
      IntsAre vs ks → vs.length = ks.length → ks.length ≤ 1000000 → ks ++ lits (hs.drop i) = os ++ lits hs → i ≤ hs.length + 128 → (∀ q ∈ news.filter (fun q => q.1 ≠ O), q.1 ≠ O) →
      Fr h₀ L h (fun y => if y = Str.ofString "at" then some (.int i t) else if ([Str.ofString "piece"] : List Str).contains y then u y else m₀ y) → News h₀ L h ((O, listOf vs.toArray cn) :: (H, listOf vh.toArray ch) :: news.filter (fun q => q.1 ≠ O)) →
      wpAny (model prog w) A (isTrue test env (eval test env)) (fun b s₂ =>
        if b = true then wpAny (model prog w) A (execs body env) (KswPost h₀ L s (ltLed O H vh ch (news.filter (fun q => q.1 ≠ O))) ltPs ltFacts [Str.ofString "piece"] m₀ (ltP os hs) (ltMu hs) Q ⟨i, t, vs, cn, ks⟩) E s₂ else Q .next s₂) E { s with heap := h, toks := tk })
    (hE : PassesOwn (model prog w) A env E := by passes_own) :
    wpAny (model prog w) A (exec (.While test body [] pos) env) Q E s := by
  refine ksw_while (ltLed O H vh ch (news.filter (fun q => q.1 ≠ O))) ltPs ltFacts [Str.ofString "piece"] (ltP os hs) (ltMu hs) ⟨0, t, vo, co, os⟩ F ?_ ?_ ?_ ?_ ?_ hE
  · intro q hq
    rcases List.mem_cons.mp hq with rfl | hq
    · exact N _ mO
    · rcases List.mem_cons.mp hq with rfl | hq
      · exact N _ mH
      · exact N _ (List.mem_filter.mp hq).1
  · exact iO
  · intro p hp
    rw [List.mem_singleton.mp hp]
    exact hi
  · exact ⟨rfl, Nat.zero_le _⟩
  · rintro ⟨i, t, vs, cn, ks⟩ u h tk f1 ⟨p1, p2⟩ F₁ N₁
    have hk : ks.length ≤ 1000000 := by
      have h1 := congrArg List.length p1
      have h2 := lits_length hs
      simp only [List.length_append] at h1
      omega
    exact turn i t vs cn ks u h tk f1 f1.length hk p1 p2 (fun q hq => by simpa using (List.mem_filter.mp hq).2) F₁ N₁
end
theorem lits_step {ks os hs : List Int} {i : Nat} (h : (i : Int) < hs.length) (hr : ks ++ lits (hs.drop i) = os ++ lits hs) :
    (ks ++ [(((hs.drop (i : Int).toNat).take (min ((i : Int) + 128).toNat hs.length - (i : Int).toNat)).length : Int) - 1] ++ (hs.drop (i : Int).toNat).take (min ((i : Int) + 128).toNat hs.length - (i : Int).toNat)) ++ lits (hs.drop (i + 128)) = os ++ lits hs := by
  have e1 : (i : Int).toNat = i := by omega
  have e2 : ((i : Int) + 128).toNat = i + 128 := by omega
  have e3 : (hs.drop i).take (min (i + 128) hs.length - i) = (hs.drop i).take 128 := by
    rcases Nat.le_total (i + 128) hs.length with h1 | h1
    · rw [Nat.min_eq_left h1, Nat.add_sub_cancel_left]
    · rw [Nat.min_eq_right h1, List.take_of_length_le (by rw [List.length_drop]; exact Nat.le_refl _), List.take_of_length_le (by rw [List.length_drop]; omega)]
  have hne : hs.drop i ≠ [] := fun e => by
    have := congrArg List.length e
    rw [List.length_drop, List.length_nil] at this
    omega
  rw [e1, e2, e3, ← hr, lits_cons hne, List.drop_drop]
  simp
section
variable {prog : Program} {w : World} {A : Around} {E : Value → Shared → Prop} {Q : Flow → Shared → Prop} {s : Shared} {env : Env} {h₀ : Heap} {L : Addr}
theorem lt_end {m₀ m' : Str → Option Value} {O H P : Addr} {vs ws vh : List Value} {cn cn' ch n2 : Nat} {rest : List (Addr × Obj)} {os hs ks ps : List Int} {i : Nat} {x : Int} {tx t t' : Tok} {h' : Heap} {tk : Nat}
    (F : Fr h₀ L h' m') (N : News h₀ L h' ((P, listOf ws.toArray n2) :: (O, listOf (vs.toArray.push (.int x tx) ++ ws.toArray) cn') :: (H, listOf vh.toArray ch) :: rest))
    (hm : m' (Str.ofString "at") = some (.int ((i : Int) + 128) t')) (hr : ∀ z, (∀ p ∈ [(Str.ofString "at", Value.int ((i : Int) + 128) t')], z ≠ p.1) → ([Str.ofString "piece"] : List Str).contains z = false → m' z = m₀ z)
    (kI : IntsAre vs ks) (kW : IntsAre ws ps) (kR : ks ++ lits (hs.drop i) = os ++ lits hs) (h : (i : Int) < hs.length) (hx : x = (((hs.drop (i : Int).toNat).take (min ((i : Int) + 128).toNat hs.length - (i : Int).toNat)).length : Int) - 1) (hp : ps = (hs.drop (i : Int).toNat).take (min ((i : Int) + 128).toNat hs.length - (i : Int).toNat)) :
    KswEnd h₀ L s (ltLed O H vh ch rest) ltPs ltFacts [Str.ofString "piece"] m₀ (ltP os hs) (ltMu hs) ⟨i, t, vs, cn, ks⟩ { s with heap := h', toks := tk } := by
  subst hx hp
  have e : vs.toArray.push (.int ((((hs.drop (i : Int).toNat).take (min ((i : Int) + 128).toNat hs.length - (i : Int).toNat)).length : Int) - 1) tx) ++ ws.toArray = (vs ++ [Value.int ((((hs.drop (i : Int).toNat).take (min ((i : Int) + 128).toNat hs.length - (i : Int).toNat)).length : Int) - 1) tx] ++ ws).toArray := by simp
  rw [e] at N
  refine ksw_end (c' := ⟨i + 128, t', _, cn', _⟩) F N (fun q hq => .tail _ hq) ((kI.append (.cons _ _ .nil)).append kW) ?_ ?_ ⟨lits_step h kR, ?_⟩ ?_
  · intro q hq
    rw [List.mem_singleton.mp hq]
    exact hm
  · intro z hz
    refine hr z fun q hq => ?_
    rw [List.mem_singleton.mp hq]
    exact hz (Str.ofString "at", .int ((i + 128 : Nat) : Int) t') (.head _)
  · show i + 128 ≤ hs.length + 128
    omega
  · show hs.length + 128 - (i + 128) < hs.length + 128 - i
    omega
end
/-- what _literals does: out is filled -/
def LtOut (O : Addr) (os hs : List Int) (news : List (Addr × Obj)) (r : Value) (news' : List (Addr × Obj)) : Prop :=
  ∃ vo' co', r = .none ∧ news' = put O (listOf vo'.toArray co') news ∧ IntsAre vo' (os ++ lits hs)
theorem lt_done {h₀ h : Heap} {L O H : Addr} {vs vh : List Value} {cn ch : Nat} {news : List (Addr × Obj)} (N : News h₀ L h ((O, listOf vs.toArray cn) :: (H, listOf vh.toArray ch) :: news.filter (fun q => q.1 ≠ O))) : News h₀ L h (put O (listOf vs.toArray cn) news) := fun q hq => by
  rcases mem_put hq with rfl | ⟨h1, h2⟩
  · exact N _ (.head _)
  · exact N _ (.tail _ (.tail _ (List.mem_filter.mpr ⟨h2, by simpa using h1⟩)))
theorem lt_ints {vs : List Value} {ks os hs : List Int} {i : Nat} (kI : IntsAre vs ks) (kR : ks ++ lits (hs.drop i) = os ++ lits hs) (h : ¬ (i : Int) < hs.length) : IntsAre vs (os ++ lits hs) := by
  rw [← kR, List.drop_eq_nil_of_le (by omega), lits_nil, List.append_nil]
  exact kI
def LitC (f : Addr) (prog : Program) (w : World) (K : Frag) (p : Program) (loose : List Str) (mean : ExcName → Option Value) (mg mb : Str → Option Value) : Prop :=
  ∀ (O H : Addr) (vo vh : List Value) (co ch : Nat) (os hs : List Int) (news : List (Addr × Obj)), (O, listOf vo.toArray co) ∈ news → (H, listOf vh.toArray ch) ∈ news → H ≠ O → IntsAre vo os → IntsAre vh hs → os.length + 2 * hs.length ≤ 1000000 →
    Fun prog w K p loose mean mg mb 10 f [.ref O, .ref H] news (LtOut O os hs news)
/-- how much of a run of c is taken at once -/
def partOf (c : Int) : Int := if (c - min c 130 = 1 ∨ c - min c 130 = 2) ∧ 5 < min c 130 then min c 130 - 2 else min c 130
theorem partOf_in {c : Int} (h : 3 ≤ c) : 3 ≤ partOf c ∧ partOf c ≤ 130 ∧ partOf c ≤ c ∧ c - partOf c ≠ 1 ∧ c - partOf c ≠ 2 := by
  unfold partOf
  split <;> omega
def packRun (c b : Int) (out held : List Int) : List Int × List Int :=
  if h : 3 ≤ c then packRun (c - partOf c) b (out ++ lits held ++ [partOf c + 125, b]) [] else (out, held ++ List.replicate c.toNat b)
termination_by c.toNat
decreasing_by
  have := partOf_in h
  omega
theorem packRun_go {c b : Int} {out held : List Int} (h : 3 ≤ c) : packRun c b out held = packRun (c - partOf c) b (out ++ lits held ++ [partOf c + 125, b]) [] := by rw [packRun, dif_pos h]
theorem packRun_end {c b : Int} {out held : List Int} (h : ¬ 3 ≤ c) : packRun c b out held = (out, held ++ List.replicate c.toNat b) := by rw [packRun, dif_neg h]
def packGo : List (Int × Int) → List Int → List Int → List Int
  | [], out, held => out ++ lits held
  | (b, c) :: r, out, held => packGo r (packRun c b out held).1 (packRun c b out held).2
def packI (ns : List Int) : List Int := packGo (runs ns) [] []
def countSum : List (Int × Int) → Int
  | [] => 0
  | x :: r => x.2 + countSum r
structure PkS where
  c : Int
  t : Tok
  H : Addr
  vo : List Value
  vh : List Value
  co : Nat
  ch : Nat
  os : List Int
  hs : List Int
def pkLed (O : Addr) (rest : List (Addr × Obj)) (c : PkS) : List (Addr × Obj) := (O, listOf c.vo.toArray c.co) :: (c.H, listOf c.vh.toArray c.ch) :: rest
def pkPs (c : PkS) : List (Str × Value) := [(Str.ofString "count", .int c.c c.t), (Str.ofString "held", .ref c.H)]
def pkFacts (O : Addr) (rest : List (Addr × Obj)) (c : PkS) : Prop := IntsAre c.vo c.os ∧ IntsAre c.vh c.hs ∧ c.H ≠ O ∧ ∀ q ∈ rest, q.1 ≠ c.H
def pkP (b : Int) (S : Nat) (res : List Int × List Int) (c : PkS) : Prop := packRun c.c b c.os c.hs = res ∧ 0 ≤ c.c ∧ (c.os.length : Int) + 2 * c.hs.length + 2 * c.c ≤ S
def pkMu (c : PkS) : Nat := c.c.toNat
section
variable {prog : Program} {w : World} {A : Around} {E : Value → Shared → Prop} {Q : Flow → Shared → Prop} {s : Shared} {env : Env} {h₀ : Heap} {L : Addr}
theorem pk_while {test : Expr} {body : List Stmt} {pos : Pos} {m₀ : Str → Option Value} {rest : List (Addr × Obj)} {O H : Addr} {t tb : Tok} {vo vh : List Value} {co ch S : Nat} {os hs : List Int} {b c₀ : Int}
    (F : Fr h₀ L s.heap m₀) (N : News h₀ L s.heap ((O, listOf vo.toArray co) :: (H, listOf vh.toArray ch) :: rest)) (hi : m₀ (Str.ofString "count") = some (.int c₀ t)) (_hO : m₀ (Str.ofString "out") = some (.ref O)) (hH : m₀ (Str.ofString "held") = some (.ref H)) (_hb : m₀ (Str.ofString "byte") = some (.int b tb))
    (iO : IntsAre vo os) (iH : IntsAre vh hs) (hne : H ≠ O) (oO : ∀ q ∈ rest, q.1 ≠ O) (oH : ∀ q ∈ rest, q.1 ≠ H) (h0 : 0 ≤ c₀) (hS : (os.length : Int) + 2 * hs.length + 2 * c₀ ≤ S)
    (turn : ∀ (c : Int) (t : Tok) (H : Addr) (vo vh : List Value) (co ch : Nat) (os' hs' : List Int) (u : Str → Option Value) h tk,
      IntsAre vo os' → vo.length = os'.length → IntsAre vh hs' → H ≠ O → (∀ q ∈ rest, q.1 ≠ O) → (∀ q ∈ rest, q.1 ≠ H) → packRun c b os' hs' = packRun c₀ b os hs → 0 ≤ c → (os'.length : Int) + 2 * hs'.length + 2 * c ≤ S →
      Fr h₀ L h (fun y => if y = Str.ofString "count" then some (.int c t) else if y = Str.ofString "held" then some (.ref H) else if ([Str.ofString "part"] : List Str).contains y then u y else m₀ y) → News h₀ L h ((O, listOf vo.toArray co) :: (H, listOf vh.toArray ch) :: rest) →
      wpAny (model prog w) A (isTrue test env (eval test env)) (fun b' s₂ =>
        if b' = true then wpAny (model prog w) A (execs body env) (KswPost h₀ L s (pkLed O rest) pkPs (pkFacts O rest) [Str.ofString "part"] m₀ (pkP b S (packRun c₀ b os hs)) pkMu Q ⟨c, t, H, vo, vh, co, ch, os', hs'⟩) E s₂ else Q .next s₂) E { s with heap := h, toks := tk })
    (hE : PassesOwn (model prog w) A env E := by passes_own) :
    wpAny (model prog w) A (exec (.While test body [] pos) env) Q E s := by
  refine ksw_while (pkLed O rest) pkPs (pkFacts O rest) [Str.ofString "part"] (pkP b S (packRun c₀ b os hs)) pkMu ⟨c₀, t, H, vo, vh, co, ch, os, hs⟩ F N ⟨iO, iH, hne, oH⟩ ?_ ⟨rfl, h0, hS⟩ ?_ hE
  · intro p hp
    rcases List.mem_cons.mp hp with rfl | hp
    · exact hi
    · rw [List.mem_singleton.mp hp]
      exact hH
  · rintro ⟨c, t, H, vo, vh, co, ch, os', hs'⟩ u h tk ⟨f1, f2, f3, f4⟩ ⟨p1, p2, p3⟩ F₁ N₁
    exact turn c t H vo vh co ch os' hs' u h tk f1 f1.length f2 f3 oO f4 p1 p2 p3 F₁ N₁
end
/-- the for over the runs: what holds between two turns -/
def pkJ (m₀ : Str → Option Value) (O D : Addr) (vs : List Value) (nn : Nat) (rest : List (Addr × Obj)) (rs : List (Int × Int)) (S : Nat) (res : List Int) (i : Nat) (m : Str → Option Value) (nx : List (Addr × Obj)) : Prop :=
  ∃ (H : Addr) (vo vh : List Value) (co ch : Nat) (os hs : List Int), nx = (O, listOf vo.toArray co) :: (H, listOf vh.toArray ch) :: rest ∧ (D, listOf vs.toArray nn) ∈ rest ∧ IntsAre vo os ∧ IntsAre vh hs ∧ H ≠ O ∧ (∀ q ∈ rest, q.1 ≠ H) ∧
    m (Str.ofString "held") = some (.ref H) ∧ (∀ z, z ≠ Str.ofString "held" → ([Str.ofString "byte", Str.ofString "count", Str.ofString "part"] : List Str).contains z = false → m z = m₀ z) ∧
    packGo (rs.drop i) os hs = res ∧ (os.length : Int) + 2 * hs.length + 2 * countSum (rs.drop i) ≤ S
section
variable {prog : Program} {w : World} {A : Around} {E : Value → Shared → Prop} {Q : Flow → Shared → Prop} {s : Shared} {env : Env} {h₀ : Heap}
theorem pk_for {target : Expr} {body : List Stmt} {m₀ : Str → Option Value} {rest tl : List (Addr × Obj)} {O H D : Addr} {vs vo vh : List Value} {nn co ch S : Nat} {os hs : List Int} {rs : List (Int × Int)}
    (hh : A.handled = none) (F : Fr h₀ env.locals s.heap m₀) (N : News h₀ env.locals s.heap ((O, listOf vo.toArray co) :: (H, listOf vh.toArray ch) :: rest)) (hH : m₀ (Str.ofString "held") = some (.ref H)) (_hO : m₀ (Str.ofString "out") = some (.ref O))
    (mD : (D, listOf vs.toArray nn) ∈ rest) (kD : DatAll tl vs (rs.map runD)) (hsub : ∀ q ∈ tl, q ∈ rest) (iO : IntsAre vo os) (iH : IntsAre vh hs) (hne : H ≠ O) (oO : ∀ q ∈ rest, q.1 ≠ O) (oH : ∀ q ∈ rest, q.1 ≠ H) (hpos : ∀ x ∈ rs, 0 ≤ x.2) (hS : (os.length : Int) + 2 * hs.length + 2 * countSum rs ≤ S)
    (turn : ∀ (i : Nat) (b c : Int) (T : Addr) (tb tc : Tok) (H : Addr) (vo vh : List Value) (co ch S' : Nat) (os' hs' : List Int) (u : Str → Option Value) h tk own,
      rs.drop i = (b, c) :: rs.drop (i + 1) → 0 ≤ c → IsTup h T #[.int b tb, .int c tc] → IntsAre vo os' → vo.length = os'.length → IntsAre vh hs' → vh.length = hs'.length → H ≠ O → (∀ q ∈ rest ++ own, q.1 ≠ O) → (∀ q ∈ rest ++ own, q.1 ≠ H) → (∀ q ∈ own, ∀ x ∈ rest, q.1 ≠ x.1) →
      packGo (rs.drop (i + 1)) (packRun c b os' hs').1 (packRun c b os' hs').2 = packGo rs os hs → (os'.length : Int) + 2 * hs'.length + 2 * c ≤ S' → S' ≤ S → (S' : Int) + 2 * countSum (rs.drop (i + 1)) = S →
      Fr h₀ env.locals h (fun y => if y = Str.ofString "held" then some (.ref H) else if ([Str.ofString "byte", Str.ofString "count", Str.ofString "part"] : List Str).contains y then u y else m₀ y) → News h₀ env.locals h ((O, listOf vo.toArray co) :: (H, listOf vh.toArray ch) :: (rest ++ own)) →
      wpAny (model prog w) A (assign target env (.ref T)) (fun _ s₃ => wpAny (model prog w) A (execs body env) (InvPostG h₀ env.locals (pkJ m₀ O D vs nn rest rs S (packGo rs os hs) (i + 1)) own { s with heap := h, toks := tk } Q) E s₃) E { s with heap := h, toks := tk })
    (done : ∀ (H : Addr) (vo vh : List Value) (co ch : Nat) (os' hs' : List Int) (u : Str → Option Value) h tk, IntsAre vo os' → vo.length = os'.length → IntsAre vh hs' → vh.length = hs'.length → H ≠ O → (∀ q ∈ rest, q.1 ≠ O) → (∀ q ∈ rest, q.1 ≠ H) → os' ++ lits hs' = packGo rs os hs → (os'.length : Int) + 2 * hs'.length ≤ S →
      Fr h₀ env.locals h (fun y => if y = Str.ofString "held" then some (.ref H) else if ([Str.ofString "byte", Str.ofString "count", Str.ofString "part"] : List Str).contains y then u y else m₀ y) → News h₀ env.locals h ((O, listOf vo.toArray co) :: (H, listOf vh.toArray ch) :: rest) → Q .next { s with heap := h, toks := tk }) :
    wpAny (model prog w) A (pyIter (.ref D)) (fun it s₂ => TurnsAt prog w A h₀ env target body Q E it s₂) E s := by
  have hlen : vs.length = rs.length := by rw [kD.length, List.length_map]
  have hsum : ∀ l : List (Int × Int), (∀ x ∈ l, 0 ≤ x.2) → 0 ≤ countSum l := by
    intro l
    induction l with
    | nil => intro _; exact Int.le_refl _
    | cons x r ih => intro hx; have := ih fun y hy => hx y (.tail _ hy); have := hx x (.head _); show 0 ≤ x.2 + countSum r; omega
  refine turns_list (pkJ m₀ O D vs nn rest rs S (packGo rs os hs)) hh (.tail _ (.tail _ mD)) F N ⟨H, vo, vh, co, ch, os, hs, rfl, mD, iO, iH, hne, oH, hH, fun _ _ _ => rfl, rfl, hS⟩ ?_ ?_ ?_
  · rintro i m nx ⟨H, vo, vh, co, ch, os, hs, rfl, hm, _⟩
    exact .tail _ (.tail _ hm)
  · rintro i v m₁ nx h tk own hv hoff ⟨H, vo, vh, co, ch, os', hs', rfl, _, i1, i2, n1, o1, m1, m2, p1, p2⟩ F₁ N₁
    have hi : i < rs.length := by rw [← hlen]; exact (List.getElem?_eq_some_iff.mp hv).1
    have hd : rs.drop i = rs[i] :: rs.drop (i + 1) := List.drop_eq_getElem_cons hi
    obtain ⟨v', hv', hD⟩ := kD.get (k := i) (by rw [List.length_map]; exact hi)
    have ev : v' = v := by rw [hv] at hv'; exact (Option.some.inj hv').symm
    rw [ev, List.getElem_map] at hD
    have hDD : ∃ T tb tc cn, v = .ref T ∧ (T, ({ cls := .type "tuple", data := .seq #[.int rs[i].1 tb, .int rs[i].2 tc] cn } : Obj)) ∈ tl := by
      unfold runD at hD
      cases hD with
      | tuple hm ha =>
        cases ha with
        | cons h1 h2 =>
          cases h2 with
          | cons h3 h4 =>
            cases h4
            cases h1
            cases h3
            exact ⟨_, _, _, _, rfl, hm⟩
    obtain ⟨T, tb, tc, cn, rfl, hT⟩ := hDD
    have hpos' : 0 ≤ countSum (rs.drop (i + 1)) := hsum _ fun x hx => hpos x (List.mem_of_mem_drop hx)
    have hc : 0 ≤ rs[i].2 := hpos _ (List.getElem_mem hi)
    rw [hd] at p1 p2
    have p2' : (os'.length : Int) + 2 * hs'.length + 2 * (rs[i].2 + countSum (rs.drop (i + 1))) ≤ S := p2
    have eF := ksw_fr (ps := [(Str.ofString "held", Value.ref H)]) (stored := [Str.ofString "byte", Str.ofString "count", Str.ofString "part"]) (m₀ := m₀) (fun p hp => by rw [List.mem_singleton.mp hp]; exact m1) (fun z hz hc => m2 z (hz _ (.head _)) hc) F₁
    have N₂ : News h₀ env.locals h ((O, listOf vo.toArray co) :: (H, listOf vh.toArray ch) :: (rest ++ own)) := N₁
    have off : ∀ q ∈ own, q.1 ≠ O ∧ q.1 ≠ H := fun q hq => ⟨hoff q hq O (.head _), hoff q hq H (.tail _ (.head _))⟩
    refine turn i rs[i].1 rs[i].2 T tb tc H vo vh co ch (S - 2 * countSum (rs.drop (i + 1))).toNat os' hs' m₁ h tk own hd hc (N₁.isTup (List.mem_append.mpr (.inl (.tail _ (.tail _ (hsub _ hT)))))) i1 i1.length i2 i2.length n1 ?_ ?_ (fun q hq x hx => hoff q hq x.1 (.tail _ (.tail _ (List.mem_map_of_mem hx)))) p1 (by omega) (by omega) (by omega) eF N₂
    · intro q hq
      exact (List.mem_append.mp hq).elim (oO q) fun h => (off q h).1
    · intro q hq
      exact (List.mem_append.mp hq).elim (o1 q) fun h => (off q h).2
  · rintro m₁ nx h tk ⟨H, vo, vh, co, ch, os', hs', rfl, _, i1, i2, n1, o1, m1, m2, p1, p2⟩ F₁ N₁
    rw [hlen, List.drop_length] at p1 p2
    have eF := ksw_fr (ps := [(Str.ofString "held", Value.ref H)]) (stored := [Str.ofString "byte", Str.ofString "count", Str.ofString "part"]) (m₀ := m₀) (fun p hp => by rw [List.mem_singleton.mp hp]; exact m1) (fun z hz hc => m2 z (hz _ (.head _)) hc) F₁
    have p2' : (os'.length : Int) + 2 * hs'.length + 2 * 0 ≤ S := p2
    exact done H vo vh co ch os' hs' m₁ h tk i1 i1.length i2 i2.length n1 oO o1 p1 (by omega) eF N₁
end
theorem countSum_runs : ∀ ns : List Int, countSum (runs ns) = ns.length ∧ ∀ x ∈ runs ns, 0 ≤ x.2
  | [] => ⟨rfl, fun _ h => nomatch h⟩
  | a :: l => by
    have ⟨h1, h2⟩ := countSum_runs l
    unfold runs
    cases hr : runs l with
    | nil =>
      rw [hr] at h1
      have h1' : (0 : Int) = l.length := h1
      refine ⟨?_, fun x hx => ?_⟩
      · show (1 : Int) + 0 = ((l.length + 1 : Nat) : Int); omega
      · rw [List.mem_singleton.mp hx]; show (0 : Int) ≤ 1; omega
    | cons y r =>
      obtain ⟨b, c⟩ := y
      rw [hr] at h1 h2
      have h1' : c + countSum r = l.length := h1
      have hc : 0 ≤ c := h2 (b, c) (.head _)
      dsimp only
      split
      · refine ⟨?_, fun x hx => ?_⟩
        · show (c + 1) + countSum r = ((l.length + 1 : Nat) : Int); omega
        · rcases List.mem_cons.mp hx with rfl | hx
          · show 0 ≤ c + 1; omega
          · exact h2 x (.tail _ hx)
      · refine ⟨?_, fun x hx => ?_⟩
        · show (1 : Int) + (c + countSum r) = ((l.length + 1 : Nat) : Int); omega
        · rcases List.mem_cons.mp hx with rfl | hx
          · show (0 : Int) ≤ 1; omega
          · exact h2 x hx
section
variable {prog : Program} {w : World} {A : Around} {E : Value → Shared → Prop} {Q : Flow → Shared → Prop} {s : Shared} {env : Env} {h₀ : Heap}
theorem pk_for0 {target : Expr} {body : List Stmt} {m₀ : Str → Option Value} {news tl : List (Addr × Obj)} {O H D : Addr} {vs : List Value} {nn : Nat} {ns : List Int}
    (hh : A.handled = none) (F : Fr h₀ env.locals s.heap m₀) (N : News h₀ env.locals s.heap ((D, listOf vs.toArray nn) :: (tl ++ ((H, listOf #[] 0) :: (O, listOf #[] 0) :: news)))) (hH : m₀ (Str.ofString "held") = some (.ref H)) (hO : m₀ (Str.ofString "out") = some (.ref O))
    (kA : ∀ q ∈ ((H, listOf #[] 0) :: (O, listOf #[] 0) :: news : List (Addr × Obj)), q.1 < D) (kB : ∀ q ∈ ((H, listOf #[] 0) :: (O, listOf #[] 0) :: news : List (Addr × Obj)), ∀ p ∈ tl, q.1 < p.1) (kD : DatAll tl vs ((runs ns).map runD))
    (lO : ∀ q ∈ news, q.1 < O) (lH : O < H ∧ AllLt H news) (hsz : ns.length ≤ 100000)
    (turn : ∀ (i : Nat) (b c : Int) (T : Addr) (tb tc : Tok) (H : Addr) (vo vh : List Value) (co ch S : Nat) (os' hs' : List Int) (u : Str → Option Value) h tk own,
      (runs ns).drop i = (b, c) :: (runs ns).drop (i + 1) → 0 ≤ c → IsTup h T #[.int b tb, .int c tc] → IntsAre vo os' → vo.length = os'.length → IntsAre vh hs' → vh.length = hs'.length → H ≠ O → (∀ q ∈ ((D, listOf vs.toArray nn) :: (tl ++ news)) ++ own, q.1 ≠ O) → (∀ q ∈ ((D, listOf vs.toArray nn) :: (tl ++ news)) ++ own, q.1 ≠ H) → (∀ q ∈ own, ∀ x ∈ ((D, listOf vs.toArray nn) :: (tl ++ news) : List (Addr × Obj)), q.1 ≠ x.1) →
      packGo ((runs ns).drop (i + 1)) (packRun c b os' hs').1 (packRun c b os' hs').2 = packI ns → (os'.length : Int) + 2 * hs'.length + 2 * c ≤ S → S ≤ 200000 → (S : Int) + 2 * countSum ((runs ns).drop (i + 1)) = (2 * ns.length : Nat) →
      Fr h₀ env.locals h (fun y => if y = Str.ofString "held" then some (.ref H) else if ([Str.ofString "byte", Str.ofString "count", Str.ofString "part"] : List Str).contains y then u y else m₀ y) → News h₀ env.locals h ((O, listOf vo.toArray co) :: (H, listOf vh.toArray ch) :: (((D, listOf vs.toArray nn) :: (tl ++ news)) ++ own)) →
      wpAny (model prog w) A (assign target env (.ref T)) (fun _ s₃ => wpAny (model prog w) A (execs body env) (InvPostG h₀ env.locals (pkJ m₀ O D vs nn ((D, listOf vs.toArray nn) :: (tl ++ news)) (runs ns) (2 * ns.length) (packI ns) (i + 1)) own { s with heap := h, toks := tk } Q) E s₃) E { s with heap := h, toks := tk })
    (done : ∀ (H : Addr) (vo vh : List Value) (co ch : Nat) (os' hs' : List Int) (u : Str → Option Value) h tk, IntsAre vo os' → vo.length = os'.length → IntsAre vh hs' → vh.length = hs'.length → H ≠ O → (∀ q ∈ ((D, listOf vs.toArray nn) :: (tl ++ news)), q.1 ≠ O) → (∀ q ∈ ((D, listOf vs.toArray nn) :: (tl ++ news)), q.1 ≠ H) → os' ++ lits hs' = packI ns → (os'.length : Int) + 2 * hs'.length ≤ 200000 →
      Fr h₀ env.locals h (fun y => if y = Str.ofString "held" then some (.ref H) else if ([Str.ofString "byte", Str.ofString "count", Str.ofString "part"] : List Str).contains y then u y else m₀ y) → News h₀ env.locals h ((O, listOf vo.toArray co) :: (H, listOf vh.toArray ch) :: ((D, listOf vs.toArray nn) :: (tl ++ news))) → Q .next { s with heap := h, toks := tk }) :
    wpAny (model prog w) A (pyIter (.ref D)) (fun it s₂ => TurnsAt prog w A h₀ env target body Q E it s₂) E s := by
  have hc := countSum_runs ns
  have lH2 : ∀ q ∈ news, q.1 < H := fun q hq => allLt_all lH.2 q hq
  refine pk_for (rest := (D, listOf vs.toArray nn) :: (tl ++ news)) (tl := tl) (vo := []) (vh := []) (co := 0) (ch := 0) (os := []) (hs := []) (S := 2 * ns.length) hh F ?_ hH hO (.head _) kD (fun q hq => .tail _ (List.mem_append.mpr (.inl hq))) .nil .nil (Nat.ne_of_gt lH.1) ?_ ?_ hc.2 ?_ ?_ ?_
  · intro q hq
    rcases List.mem_cons.mp hq with rfl | hq
    · exact N _ (.tail _ (List.mem_append.mpr (.inr (.tail _ (.head _)))))
    · rcases List.mem_cons.mp hq with rfl | hq
      · exact N _ (.tail _ (List.mem_append.mpr (.inr (.head _))))
      · rcases List.mem_cons.mp hq with rfl | hq
        · exact N _ (.head _)
        · rcases List.mem_append.mp hq with hq | hq
          · exact N _ (.tail _ (List.mem_append.mpr (.inl hq)))
          · exact N _ (.tail _ (List.mem_append.mpr (.inr (.tail _ (.tail _ hq)))))
  · intro q hq
    rcases List.mem_cons.mp hq with rfl | hq
    · exact Nat.ne_of_gt (kA _ (.tail _ (.head _)))
    · rcases List.mem_append.mp hq with hq | hq
      · exact Nat.ne_of_gt (kB _ (.tail _ (.head _)) q hq)
      · exact Nat.ne_of_lt (lO q hq)
  · intro q hq
    rcases List.mem_cons.mp hq with rfl | hq
    · exact Nat.ne_of_gt (kA _ (.head _))
    · rcases List.mem_append.mp hq with hq | hq
      · exact Nat.ne_of_gt (kB _ (.head _) q hq)
      · exact Nat.ne_of_lt (lH2 q hq)
  · rw [hc.1]; simp
  · intro i b c T tb tc H vo vh co ch S' os' hs' u h tk own h1 h2 h3 h4 h5 h6 h7 h8 h9 h10 h10b h11 h12 h13 h14 F₁ N₁
    exact turn i b c T tb tc H vo vh co ch S' os' hs' u h tk own h1 h2 h3 h4 h5 h6 h7 h8 h9 h10 h10b h11 h12 (by omega) h14 F₁ N₁
  · intro H vo vh co ch os' hs' u h tk h1 h2 h3 h4 h5 h6 h7 h8 h9 F₁ N₁
    exact done H vo vh co ch os' hs' u h tk h1 h2 h3 h4 h5 h6 h7 h8 (by omega) F₁ N₁
end
/-- pack, for all bytes -/
def PackOut (ns : List Int) (news : List (Addr × Obj)) (r : Value) (news' : List (Addr × Obj)) : Prop := ∃ b t, r = .bytes b t ∧ news' = news ∧ KBw.bInts b = packI ns
def PackC (f : Addr) (prog : Program) (w : World) (K : Frag) (p : Program) (loose : List Str) (mean : ExcName → Option Value) (mg mb : Str → Option Value) : Prop :=
  ∀ (b : Array UInt8) (ns : List Int) (t : Tok) (news : List (Addr × Obj)), KBw.bInts b = ns → ns.length ≤ 100000 → Fun prog w K p loose mean mg mb 20 f [.bytes b t] news (PackOut ns news)
theorem part_yes {c : Int} (h1 : ([1, 2].any fun x => x == c - if 130 < c then 130 else c) = true) (h2 : 5 < if 130 < c then 130 else c) : (if 130 < c then 130 else c) - 2 = partOf c := by
  simp only [List.any_cons, List.any_nil, Bool.or_false, Bool.or_eq_true, beq_iff_eq] at h1
  unfold partOf
  split at h1 <;> split at h2 <;> split <;> omega
theorem part_no1 {c : Int} (_h1 : ([1, 2].any fun x => x == c - if 130 < c then 130 else c) = true) (h2 : ¬ 5 < if 130 < c then 130 else c) : (if 130 < c then 130 else c) = partOf c := by
  unfold partOf
  split at h2 <;> split <;> omega
theorem part_no2 {c : Int} (h1 : ([1, 2].any fun x => x == c - if 130 < c then 130 else c) = false) : (if 130 < c then 130 else c) = partOf c := by
  simp only [List.any_cons, List.any_nil, Bool.or_false, Bool.or_eq_false_iff, beq_eq_false_iff_ne, ne_eq] at h1
  unfold partOf
  split at h1 <;> split <;> omega
theorem lit_len {vo : List Value} {os hs : List Int} (kI : IntsAre vo (os ++ lits hs)) : vo.length = os.length + (lits hs).length ∧ (lits hs).length ≤ 2 * hs.length := by
  have := kI.length
  rw [List.length_append] at this
  exact ⟨this, lits_length hs⟩
section
variable {prog : Program} {w : World} {A : Around} {E : Value → Shared → Prop} {Q : Flow → Shared → Prop} {s : Shared} {env : Env} {h₀ : Heap} {L : Addr}
theorem pk_inEnd {m₀ m' : Str → Option Value} {O H H' T : Addr} {oT oH : Obj} {vo vo₀ vh : List Value} {co co₀ ch S : Nat} {rest : List (Addr × Obj)} {os hs : List Int} {c b x c' : Int} {t t' tx tb : Tok} {h' : Heap} {tk : Nat} {res : List Int × List Int}
    (F : Fr h₀ L h' m') (N : News h₀ L h' ((H', listOf #[] 0) :: (T, oT) :: (O, listOf ((vo.toArray.push (.int x tx)).push (.int b tb)) co) :: (H, oH) :: rest)) (l1 : T < H' ∧ O < H' ∧ H < H' ∧ AllLt H' rest)
    (hm : m' (Str.ofString "count") = some (.int c' t')) (hm2 : m' (Str.ofString "held") = some (.ref H')) (hr : ∀ z, (∀ p ∈ [(Str.ofString "count", Value.int c' t'), (Str.ofString "held", Value.ref H')], z ≠ p.1) → ([Str.ofString "part"] : List Str).contains z = false → m' z = m₀ z)
    (kI : IntsAre vo (os ++ lits hs)) (kR : packRun c b os hs = res) (kS : (os.length : Int) + 2 * hs.length + 2 * c ≤ S) (h : 3 ≤ c) (hx : x = partOf c + 125) (hc : c' = c - partOf c) :
    KswEnd h₀ L s (pkLed O rest) pkPs (pkFacts O rest) [Str.ofString "part"] m₀ (pkP b S res) pkMu ⟨c, t, H, vo₀, vh, co₀, ch, os, hs⟩ { s with heap := h', toks := tk } := by
  subst hx hc
  have hp := partOf_in h
  have e : (vo.toArray.push (.int (partOf c + 125) tx)).push (.int b tb) = (vo ++ [Value.int (partOf c + 125) tx, Value.int b tb]).toArray := by simp
  rw [e] at N
  have hl := lit_len kI
  refine ksw_end (c' := ⟨c - partOf c, t', H', vo ++ [Value.int (partOf c + 125) tx, Value.int b tb], [], co, 0, os ++ lits hs ++ [partOf c + 125, b], []⟩) F N ?_ ⟨kI.append (.cons _ _ (.cons _ _ .nil)), .nil, Nat.ne_of_gt l1.2.1, fun q hq => Nat.ne_of_lt (allLt_all l1.2.2.2 q hq)⟩ ?_ ?_ ⟨?_, ?_, ?_⟩ ?_
  · intro q hq
    rcases List.mem_cons.mp hq with rfl | hq
    · exact .tail _ (.tail _ (.head _))
    · rcases List.mem_cons.mp hq with rfl | hq
      · exact .head _
      · exact .tail _ (.tail _ (.tail _ (.tail _ hq)))
  · intro q hq
    rcases List.mem_cons.mp hq with rfl | hq
    · exact hm
    · rw [List.mem_singleton.mp hq]
      exact hm2
  · intro z hz
    exact hr z hz
  · show packRun (c - partOf c) b (os ++ lits hs ++ [partOf c + 125, b]) [] = res
    rw [← packRun_go h]; exact kR
  · show 0 ≤ c - partOf c
    omega
  · show ((os ++ lits hs ++ [partOf c + 125, b]).length : Int) + 2 * (0 : Nat) + 2 * (c - partOf c) ≤ S
    simp only [List.length_append, List.length_cons, List.length_nil]
    omega
  · show (c - partOf c).toNat < c.toNat
    omega
theorem pk_end {m₀ m' : Str → Option Value} {O H D G₁ G₂ : Addr} {o₁ o₂ : Obj} {vo vh vs : List Value} {co n' nn i S' S : Nat} {rest own : List (Addr × Obj)} {os hs os₀ hs₀ : List Int} {c b c₀ : Int} {tb : Tok} {h' : Heap} {tk : Nat} {rs : List (Int × Int)} {res : List Int} {s₁ : Shared}
    (F : Fr h₀ L h' m') (N : News h₀ L h' ((G₁, o₁) :: (G₂, o₂) :: (O, listOf vo.toArray co) :: (H, listOf (vh.toArray ++ (List.replicate c.toNat [Value.int b tb]).flatten.toArray) n') :: (((D, listOf vs.toArray nn) :: rest) ++ own)))
    (hm : m' (Str.ofString "held") = some (.ref H)) (hr : ∀ z, z ≠ Str.ofString "held" → ([Str.ofString "byte", Str.ofString "count", Str.ofString "part"] : List Str).contains z = false → m' z = m₀ z)
    (kI : IntsAre vo os) (kJ : IntsAre vh hs) (kF : IntsAre (List.replicate c.toNat [Value.int b tb]).flatten (List.replicate c.toNat [b]).flatten) (hne : H ≠ O) (oO : ∀ q ∈ ((D, listOf vs.toArray nn) :: rest) ++ own, q.1 ≠ O) (oH : ∀ q ∈ ((D, listOf vs.toArray nn) :: rest) ++ own, q.1 ≠ H)
    (kR : packRun c b os hs = packRun c₀ b os₀ hs₀) (h : ¬ 3 ≤ c) (h0 : 0 ≤ c) (kS : (os.length : Int) + 2 * hs.length + 2 * c ≤ S') (kS3 : (S' : Int) + 2 * countSum (rs.drop (i + 1)) = S) (kG : packGo (rs.drop (i + 1)) (packRun c₀ b os₀ hs₀).1 (packRun c₀ b os₀ hs₀).2 = res) (OWN : ∀ q ∈ own, ∀ x ∈ ((D, listOf vs.toArray nn) :: rest : List (Addr × Obj)), q.1 ≠ x.1) :
    InvEndG h₀ L (pkJ m₀ O D vs nn ((D, listOf vs.toArray nn) :: rest) rs S res (i + 1)) own s₁ { s₁ with heap := h', toks := tk } := by
  have ef : (List.replicate c.toNat [b]).flatten = List.replicate c.toNat b := flat_one _ _
  rw [ef] at kF
  have e : vh.toArray ++ (List.replicate c.toNat [Value.int b tb]).flatten.toArray = (vh ++ (List.replicate c.toNat [Value.int b tb]).flatten).toArray := by simp
  rw [e] at N
  rw [← kR, packRun_end h] at kG
  refine InvEndG.intro (nx := (O, listOf vo.toArray co) :: (H, listOf (vh ++ (List.replicate c.toNat [Value.int b tb]).flatten).toArray n') :: ((D, listOf vs.toArray nn) :: rest)) F N ⟨H, vo, _, co, n', os, _, rfl, .head _, kI, kJ.append kF, hne, fun q hq => oH q (List.mem_append.mpr (.inl hq)), hm, hr, kG, ?_⟩ ?_ ?_ ?_
  · simp only [List.length_append, List.length_replicate]
    omega
  · intro q hq a ha
    have hq' : q ∈ ((D, listOf vs.toArray nn) :: rest) ++ own := List.mem_append.mpr (.inr hq)
    obtain ⟨x, hx, rfl⟩ := List.mem_map.mp ha
    rcases List.mem_cons.mp hx with rfl | hx
    · exact oO q hq'
    · rcases List.mem_cons.mp hx with rfl | hx
      · exact oH q hq'
      · exact OWN q hq x hx
  · intro q hq
    rcases List.mem_cons.mp hq with rfl | hq
    · exact .tail _ (.tail _ (.head _))
    · rcases List.mem_cons.mp hq with rfl | hq
      · exact .tail _ (.tail _ (.tail _ (.head _)))
      · exact .tail _ (.tail _ (.tail _ (.tail _ (List.mem_append.mpr (.inl hq)))))
  · intro q hq
    exact .tail _ (.tail _ (.tail _ (.tail _ (List.mem_append.mpr (.inr hq)))))
end
theorem lits_in {l : List Int} (h : KBa.In l) : KBa.In (lits l) := by
  induction hn : l.length using Nat.strongRecOn generalizing l with
  | ind n ih =>
    by_cases e : l = []
    · subst e; rw [lits_nil]; exact h
    · have h0 : 0 < l.length := List.length_pos_iff.mpr e
      rw [lits_cons e]
      intro k hk
      rcases List.mem_cons.mp hk with rfl | hk
      · rw [List.length_take]; omega
      · rcases List.mem_append.mp hk with hk | hk
        · exact h k (List.mem_of_mem_take hk)
        · exact ih (l.drop 128).length (by rw [List.length_drop]; omega) (fun x hx => h x (List.mem_of_mem_drop hx)) rfl k hk
theorem packRun_in {b : Int} (hb : 0 ≤ b ∧ b < 256) : ∀ (n : Nat) (c : Int) (os hs : List Int), c.toNat ≤ n → KBa.In os → KBa.In hs → KBa.In (packRun c b os hs).1 ∧ KBa.In (packRun c b os hs).2 := by
  intro n
  induction n with
  | zero =>
    intro c os hs hc ho hh
    rw [packRun_end (by omega)]
    exact ⟨ho, in_app hh (in_rep hb.1 hb.2)⟩
  | succ n ih =>
    intro c os hs hc ho hh
    by_cases h : 3 ≤ c
    · have hp := partOf_in h
      rw [packRun_go h]
      refine ih _ _ _ (by omega) (in_app (in_app ho (lits_in hh)) fun k hk => ?_) fun _ hk => nomatch hk
      rcases List.mem_cons.mp hk with rfl | hk
      · omega
      · rw [List.mem_singleton.mp hk]; exact hb
    · rw [packRun_end h]
      exact ⟨ho, in_app hh (in_rep hb.1 hb.2)⟩
theorem packGo_in : ∀ (rs : List (Int × Int)) (os hs : List Int), (∀ x ∈ rs, 0 ≤ x.1 ∧ x.1 < 256) → KBa.In os → KBa.In hs → KBa.In (packGo rs os hs)
  | [], _, _, _, ho, hh => in_app ho (lits_in hh)
  | (b, c) :: r, os, hs, hr, ho, hh => by
    have := packRun_in (hr (b, c) (.head _)) c.toNat c os hs (Nat.le_refl _) ho hh
    exact packGo_in r _ _ (fun x hx => hr x (.tail _ hx)) this.1 this.2
theorem runs_mem : ∀ (ns : List Int) (x : Int × Int), x ∈ runs ns → x.1 ∈ ns
  | [], _, h => nomatch h
  | a :: l, x, h => by
    unfold runs at h
    have ih := runs_mem l
    cases hr : runs l with
    | nil =>
      rw [hr] at h
      rw [List.mem_singleton.mp h]; exact .head _
    | cons y r =>
      obtain ⟨b, c⟩ := y
      rw [hr] at h ih
      dsimp only at h
      split at h
      · rcases List.mem_cons.mp h with rfl | h
        · exact .tail _ (ih (b, c) (.head _))
        · exact .tail _ (ih x (.tail _ h))
      · rcases List.mem_cons.mp h with rfl | h
        · exact .head _
        · exact .tail _ (ih x h)
theorem pack_done {h₀ h : Heap} {L O H : Addr} {o₁ o₂ o₃ : Obj} {D : Addr} {tl news : List (Addr × Obj)} (N : News h₀ L h ((O, o₁) :: (H, o₂) :: ((D, o₃) :: (tl ++ news)))) : News h₀ L h news := fun q hq => N q (.tail _ (.tail _ (.tail _ (List.mem_append.mpr (.inr hq)))))
theorem pack_in {b : Array UInt8} {ns os : List Int} (hb : KBw.bInts b = ns) (e : os = packI ns) : KBa.In os := by
  rw [e]
  refine packGo_in _ _ _ (fun x hx => ?_) (fun _ h => nomatch h) fun _ h => nomatch h
  have := runs_mem ns x hx
  rw [← hb] at this
  exact KBw.ints_in this
section
variable {prog : Program} {w : World} {A : Around} {E : Value → Shared → Prop} {s : Shared} {R : Result → Shared → Prop} {b : Array UInt8} {t : Tok} {acc : Array Value}
/-- the loop of list.extend over the ints of bytes -/
theorem ext_loop {S I : Addr} (hh : A.handled = none) (hne : S ≠ I) (hn : acc.size + b.size ≤ sizeLine) (res : Value) {h₁ : Heap}
    (hR : ∀ h' tk c vs, (∀ x o, x ≠ S → x ≠ I → h₁.get? x = some o → h'.get? x = some o) → h'.get? S = some { cls := .type "list", dict := none, data := .seq (acc ++ vs.toArray) c, slots := #[] } → IntsAre vs (KBw.bInts b) → R (.ok (.ret res)) { s with heap := h', toks := tk }) :
    ∀ (k i : Nat) (h : Heap) (tk c : Nat) (vs : List Value), b.size - i = k → i ≤ b.size → KBw.IsBytesIter h I b t i → (∀ x o, x ≠ S → x ≠ I → h₁.get? x = some o → h.get? x = some o) →
      h.get? S = some { cls := .type "list", dict := none, data := .seq (acc ++ vs.toArray) c, slots := #[] } → IntsAre vs ((KBw.bInts b).take i) →
      codeAny (model prog w) A (.builtin "list.extend.loop" ⟨[.ref S, .ref I, res], []⟩) R { s with heap := h, toks := tk } := by
  intro k
  induction k with
  | zero =>
    intro i h tk c vs hk hi hit hkeep hS hI
    have hin : i = b.size := by omega
    subst hin
    refine codeAny_builtin PySem.F.entry_extend_loop ?_
    rw [Around.under_plainId PySem.F.plain_extend_loop _]
    show wpAny _ A.in1 (pyNext (.ref I) >>= _) _ _ _
    refine wpAny_bind (KBw.next_end (s := { s with heap := h, toks := tk }) (A := A.in1) hh hit (by simp) fun h' he => ?_)
    rw [← KBw.ints_length b, List.take_length] at hI
    exact wpAny_pure (hR h' tk c vs (fun x o h1 h2 e => he x o h2 (hkeep x o h1 h2 e)) (he S _ hne hS) hI)
  | succ k ih =>
    intro i h tk c vs hk hi hit hkeep hS hI
    have hlt : i < b.size := by omega
    have hb : b[i]? = some b[i] := by simp [hlt]
    have hlen : vs.length = i := by
      rw [hI.length, List.length_take, KBw.ints_length]; omega
    refine codeAny_builtin PySem.F.entry_extend_loop ?_
    rw [Around.under_plainId PySem.F.plain_extend_loop _]
    show wpAny _ A.in1 (pyNext (.ref I) >>= _) _ _ _
    refine wpAny_bind (KBw.next_item (s := { s with heap := h, toks := tk }) (A := A.in1) hit hb fun h' hit' hs' => ?_)
    have hS' : h'.get? S = _ := hs'.extBut S _ hne hS
    have up : ∀ x o, x ≠ S → h'.get? x = some o → (h'.update S (Obj.mapSeq (·.push (Value.int (b[i].toNat : Int) tk)))).get? x = some o := fun x o hx e => (Heap.get?_update_other _ _ (Ne.symm hx)).trans e
    show wpAny _ A.in1 (updateSeq S (·.push (Value.int (b[i].toNat : Int) tk)) >>= _) _ _ _
    refine wpAny_bind ?_
    have hz : (acc ++ vs.toArray).size ≤ sizeLine := by simp only [Array.size_append, List.size_toArray, hlen]; omega
    have hI' : IntsAre (vs ++ [Value.int (b[i].toNat : Int) tk]) ((KBw.bInts b).take (i + 1)) := by
      have e : (KBw.bInts b).take (i + 1) = (KBw.bInts b).take i ++ [(b[i].toNat : Int)] := by
        rw [List.take_add_one, KBw.ints_get hb]; rfl
      rw [e]
      exact hI.append (.cons _ _ .nil)
    have hS₂ := Heap.get?_update_self (Obj.mapSeq (·.push (Value.int (b[i].toNat : Int) tk))) hS' rfl
    have e : acc ++ (vs ++ [Value.int (b[i].toNat : Int) tk]).toArray = (acc ++ vs.toArray).push (Value.int (b[i].toNat : Int) tk) := by simp [Array.append_push]
    have hS₃ : (h'.update S (Obj.mapSeq (·.push (Value.int (b[i].toNat : Int) tk)))).get? S = some { cls := .type "list", dict := none, data := .seq (acc ++ (vs ++ [Value.int (b[i].toNat : Int) tk]).toArray) (if ((acc ++ vs.toArray).push (Value.int (b[i].toNat : Int) tk)).size == (acc ++ vs.toArray).size then c else c + 1), slots := #[] } := by
      rw [e]; exact hS₂
    refine wpAny_updateSeq hS' rfl (wpAny_pure ⟨plainId_quiet PySem.F.plain_extend_loop _, ih (i + 1) _ (tk + 1) _ (vs ++ [Value.int (b[i].toNat : Int) tk]) (by omega) hlt ?_ (fun x o h1 h2 e => up x o h1 (hs'.extBut x o h2 (hkeep x o h1 h2 e))) hS₃ hI'⟩) hz (by show ((acc ++ vs.toArray).push (Value.int (b[i].toNat : Int) tk)).size ≤ sizeLine + 1; rw [Array.size_push]; omega)
    obtain ⟨o, ho, r⟩ := hit'
    exact ⟨o, up I o (Ne.symm hne) ho, r⟩
theorem bytes_lenAt : typeLookup (.type "bytes") "__len__" = pure (some (.builtin "bytes.__len__")) := by rw [typeLookup_type, builtinLookup_eq_fast]; kernel_rfl
set_option maxRecDepth 100000 in
theorem ext_with (hh : A.handled = none) (S : Addr) (res : Value) (c₀ : Nat) (hS : s.heap.get? S = some { cls := .type "list", data := .seq acc c₀ }) (hn : acc.size + b.size ≤ sizeLine)
    (hR : ∀ h' tk c vs, (∀ x o, x ≠ S → s.heap.get? x = some o → h'.get? x = some o) → h'.get? S = some { cls := .type "list", dict := none, data := .seq (acc ++ vs.toArray) c, slots := #[] } → IntsAre vs (KBw.bInts b) → R (.ok (.ret res)) { s with heap := h', toks := tk }) :
    wpAny (model prog w) A.in1 (Builtin.List.listExtendWith (.ref S) (.bytes b t) res)
      (fun fin s' => match fin with | .done f => R (.ok f) s' | .again c' => c'.quiet = true ∧ codeAny (model prog w) A c' R s') (fun e s' => R (.error e) s') s := by
  have hSI : S ≠ s.heap.objs.size := Nat.ne_of_lt (Heap.lt_size hS)
  unfold Builtin.List.listExtendWith
  refine wpAny_bind (wpAny_typeOf (T := "bytes") (v := .bytes b t) (PySem.W.typeIs_bytes s b t) ?_)
  have h1 : Builtin.List.listSameRef (.ref S) (.bytes b t) = false := rfl
  have h2 : (Value.type "bytes" == Value.type "list") = false := by decide
  have h3 : (Value.type "bytes" == Value.type "tuple") = false := by decide
  simp only [h1, h2, h3, Bool.or_false, Bool.false_eq_true, if_false]
  refine wpAny_bind (KBw.pyIter_bytes ?_)
  refine wpAny_bind (wpAny_holding ?_)
  unfold Builtin.List.listLengthHint
  refine wpAny_bind (wpAny_specialOf (T := "bytes") (v := .bytes b t) (PySem.W.typeIs_bytes _ b t) bytes_lenAt ?_)
  generalize hid : ("bytes.__len__" : String) = id0
  wp_delta
  rw [show splitId id0 = some ("bytes", "__len__") from by subst hid; decide +kernel]
  subst hid
  refine wpAny_bind (wpAny_isInstance (T := "bytes") (b := true) (PySem.W.typeIs_bytes _ b t) (by rw [isSubtype_type]; kernel_rfl) ?_)
  refine wpAny_ite_split (fun hab => absurd hab (by decide)) (fun _ => ?_)
  refine wpAny_ite_split (fun _ => ?_) (fun hab => absurd (by decide +kernel) hab)
  refine wpAny_bind (wpAny_typeOf (PySem.W.typeIs_bytes _ b t) ?_)
  refine wpAny_pure ?_
  rw [if_neg (by decide)]
  refine wpAny_pure ⟨plainId_quiet PySem.F.plain_extend_loop _, ext_loop (acc := acc) (b := b) (t := t) hh hSI hn res (h₁ := s.heap) (fun h' tk c vs hk hS' hI => hR h' tk c vs (fun x o hx e => hk x o hx (Nat.ne_of_lt (Heap.lt_size e)) e) hS' hI) b.size 0 _ _ c₀ [] rfl (Nat.zero_le _) ⟨_, Heap.get?_push_size _ rfl, rfl, rfl⟩ (fun x o _ _ e => Heap.get?_push_of_some _ e) ?_ .nil⟩
  have e : acc ++ ([] : List Value).toArray = acc := by simp
  rw [e]
  exact Heap.get?_push_of_some _ hS
end
section
variable {prog : Program} {w : World} {A : Around} {E : Value → Shared → Prop} {s : Shared} {h₀ : Heap} {L D : Addr} {m : Str → Option Value} {news : List (Addr × Obj)} {its : Array Value} {n : Nat} {b : Array UInt8} {t : Tok}
/-- extend by the ints of bytes -/
theorem extend_B {g : Obj → List (Addr × Obj)} {Q : Value → Shared → Prop} (hh : A.handled = none) (F : Fr h₀ L s.heap m) (N : News h₀ L s.heap news) (U : UpdF D (listOf its n) news g) {ls : List Int} (hb : KBw.bInts b = ls) (hz : its.size + ls.length ≤ sizeLine)
    (h : ∀ h' n' vs tk, Fr h₀ L h' m → News h₀ L h' (g (listOf (its ++ vs.toArray) n')) → IntsAre vs ls → Q .none { s with heap := h', toks := tk }) : wpAny (model prog w) A (call (.builtin "list.extend") [.ref D, .bytes b t]) Q E s := by
  subst hb
  rw [KBw.ints_length] at hz
  obtain ⟨pre, post, rfl, hg, a, c⟩ := U.split
  have z := N (D, listOf its n) (List.mem_append.mpr (.inr (.head _)))
  have hT : s.TypeIs (.ref D) "list" := ⟨_, z.1, rfl⟩
  have e : Builtin.«list.extend» ⟨[.ref D, .bytes b t], []⟩ = Builtin.List.listExtendWith (.ref D) (.bytes b t) .none := rfl
  refine wpAny_call (codeAny_call_builtin PySem.F.slot_list_extend.plain PySem.F.entry_list_extend (PySem.F.slot_list_extend.check _ _ _ _ _ _ _ _ hT (PySem.F.args_list_extend_2 _ _) ?_))
  rw [e]
  refine ext_with (R := wants Q E) hh D .none n z.1 hz fun h' tk c' vs hk hS hI => ?_
  have F' : Fr h₀ L h' m := by
    obtain ⟨oL, a1, a2, hL, a3⟩ := F.ns
    refine ⟨⟨oL, a1, a2, hk L _ (Ne.symm z.2.1) hL, a3⟩, fun x o ex => hk x o (fun hx => ?_) (F.keep x o ex), F.above⟩
    have hz2 := z.2.2
    rw [← hx, ex] at hz2
    cases hz2
  refine h h' c' vs tk F' ?_ hI
  rw [hg]
  intro q hq
  rcases List.mem_append.mp hq with hq | hq
  · have := N q (List.mem_append.mpr (.inl hq))
    exact ⟨hk _ _ (a q hq) this.1, this.2⟩
  · rcases List.mem_cons.mp hq with rfl | hq
    · exact ⟨hS, z.2⟩
    · have := N q (List.mem_append.mpr (.inr (.tail _ hq)))
      exact ⟨hk _ _ (c q hq) this.1, this.2⟩
end
/-- what a packed text is made of -/
inductive PTok where
  | lit (xs : List Int)
  | run (b p : Int)
def encT : PTok → List Int
  | .lit xs => ((xs.length : Int) - 1) :: xs
  | .run b p => [p + 125, b]
def expT : PTok → List Int
  | .lit xs => xs
  | .run b p => List.replicate p.toNat b
def okT : PTok → Prop
  | .lit xs => 0 < xs.length ∧ xs.length ≤ 128
  | .run _ p => 3 ≤ p ∧ p ≤ 130
def encs (l : List PTok) : List Int := l.flatMap encT
def exps (l : List PTok) : List Int := l.flatMap expT
theorem encs_cons (x : PTok) (l : List PTok) : encs (x :: l) = encT x ++ encs l := by simp [encs]
theorem exps_cons (x : PTok) (l : List PTok) : exps (x :: l) = expT x ++ exps l := by simp [exps]
theorem encs_app (a b : List PTok) : encs (a ++ b) = encs a ++ encs b := by simp [encs]
theorem exps_app (a b : List PTok) : exps (a ++ b) = exps a ++ exps b := by simp [exps]
theorem lits_toks (l : List Int) : ∃ T, lits l = encs T ∧ exps T = l ∧ ∀ x ∈ T, okT x := by
  induction hn : l.length using Nat.strongRecOn generalizing l with
  | ind n ih =>
    by_cases e : l = []
    · subst e; exact ⟨[], by rw [lits_nil]; rfl, rfl, fun _ h => nomatch h⟩
    · have h0 : 0 < l.length := List.length_pos_iff.mpr e
      obtain ⟨T, h1, h2, h3⟩ := ih (l.drop 128).length (by rw [List.length_drop]; omega) (l.drop 128) rfl
      refine ⟨.lit (l.take 128) :: T, ?_, ?_, fun x hx => ?_⟩
      · rw [lits_cons e, encs_cons, h1]; rfl
      · rw [exps_cons, h2]; exact List.take_append_drop 128 l
      · rcases List.mem_cons.mp hx with rfl | hx
        · show 0 < (l.take 128).length ∧ (l.take 128).length ≤ 128
          rw [List.length_take]; omega
        · exact h3 x hx
theorem packRun_toks {b : Int} : ∀ (n : Nat) (c : Int) (os hs : List Int) (T : List PTok), c.toNat ≤ n → os = encs T → (∀ x ∈ T, okT x) →
    ∃ T', (packRun c b os hs).1 = encs T' ∧ exps T' ++ (packRun c b os hs).2 = exps T ++ hs ++ List.replicate c.toNat b ∧ ∀ x ∈ T', okT x := by
  intro n
  induction n with
  | zero =>
    intro c os hs T hc ho hT
    rw [packRun_end (by omega)]
    exact ⟨T, ho, by simp, hT⟩
  | succ n ih =>
    intro c os hs T hc ho hT
    by_cases h : 3 ≤ c
    · have hp := partOf_in h
      rw [packRun_go h]
      obtain ⟨U, u1, u2, u3⟩ := lits_toks hs
      obtain ⟨T', t1, t2, t3⟩ := ih (c - partOf c) (os ++ lits hs ++ [partOf c + 125, b]) [] (T ++ U ++ [.run b (partOf c)]) (by omega) (by
        rw [ho, u1, encs_app, encs_app]; simp [encs, encT]) (fun x hx => by
        rcases List.mem_append.mp hx with hx | hx
        · exact (List.mem_append.mp hx).elim (hT x) (u3 x)
        · rw [List.mem_singleton.mp hx]; exact ⟨hp.1, hp.2.1⟩)
      refine ⟨T', t1, t2.trans ?_, t3⟩
      have e : c.toNat = (partOf c).toNat + (c - partOf c).toNat := by omega
      rw [exps_app, exps_app, u2, e, ← List.replicate_append_replicate]
      simp [exps, expT]
    · rw [packRun_end h]
      exact ⟨T, ho, by simp, hT⟩
def spread : List (Int × Int) → List Int
  | [] => []
  | x :: r => List.replicate x.2.toNat x.1 ++ spread r
theorem packGo_toks : ∀ (rs : List (Int × Int)) (os hs : List Int) (T : List PTok), os = encs T → (∀ x ∈ T, okT x) → ∃ T', packGo rs os hs = encs T' ∧ exps T' = exps T ++ hs ++ spread rs ∧ ∀ x ∈ T', okT x
  | [], os, hs, T, ho, hT => by
    obtain ⟨U, u1, u2, u3⟩ := lits_toks hs
    refine ⟨T ++ U, ?_, ?_, fun x hx => (List.mem_append.mp hx).elim (hT x) (u3 x)⟩
    · show os ++ lits hs = _
      rw [ho, u1, encs_app]
    · rw [exps_app, u2]; simp [spread]
  | (b, c) :: r, os, hs, T, ho, hT => by
    obtain ⟨T₁, h1, h2, h3⟩ := packRun_toks (b := b) c.toNat c os hs T (Nat.le_refl _) ho hT
    obtain ⟨T₂, g1, g2, g3⟩ := packGo_toks r (packRun c b os hs).1 (packRun c b os hs).2 T₁ h1 h3
    refine ⟨T₂, g1, g2.trans ?_, g3⟩
    rw [h2]
    simp [spread]
theorem spread_runs : ∀ ns : List Int, spread (runs ns) = ns
  | [] => rfl
  | a :: l => by
    have ih := spread_runs l
    have hp := (countSum_runs l).2
    unfold runs
    cases hr : runs l with
    | nil =>
      rw [hr] at ih
      have : l = [] := ih.symm
      subst this
      rfl
    | cons y r =>
      obtain ⟨b, c⟩ := y
      rw [hr] at ih hp
      have hc : 0 ≤ c := hp (b, c) (.head _)
      have ih' : List.replicate c.toNat b ++ spread r = l := ih
      dsimp only
      split
      · rename_i h
        subst h
        have e : (c + 1).toNat = c.toNat + 1 := by omega
        show List.replicate (c + 1).toNat a ++ spread r = _
        rw [e, List.replicate_succ, List.cons_append, ih']
      · show List.replicate (1 : Int).toNat a ++ (List.replicate c.toNat b ++ spread r) = _
        rw [ih']; rfl
theorem packI_toks0 (ns : List Int) : ∃ T, packI ns = encs T ∧ exps T = ns ∧ ∀ x ∈ T, okT x := by
  obtain ⟨T, h1, h2, h3⟩ := packGo_toks (runs ns) [] [] [] rfl fun _ h => nomatch h
  exact ⟨T, h1, by rw [h2, spread_runs]; rfl, h3⟩
structure UpS where
  i : Nat
  t : Tok
  vs : List Value
  cn : Nat
  os : List Int
  T : List PTok
def upLed (O : Addr) (news : List (Addr × Obj)) (c : UpS) : List (Addr × Obj) := (O, listOf c.vs.toArray c.cn) :: news
def upPs (c : UpS) : List (Str × Value) := [(Str.ofString "at", .int c.i c.t)]
def upFacts (c : UpS) : Prop := IntsAre c.vs c.os
def upP (ks ns : List Int) (c : UpS) : Prop := ks.drop c.i = encs c.T ∧ c.i ≤ ks.length ∧ c.os ++ exps c.T = ns ∧ ∀ x ∈ c.T, okT x
def upMu (ks : List Int) (c : UpS) : Nat := ks.length - c.i
/-- what the next head tells -/
theorem up_tok {ks : List Int} {i : Nat} {T : List PTok} (h1 : ks.drop i = encs T) (h3 : ∀ x ∈ T, okT x) (h : (i : Int) < ks.length) :
    (∃ xs T', T = .lit xs :: T' ∧ ks.getD (i : Int).toNat 0 = (xs.length : Int) - 1 ∧ 0 < xs.length ∧ xs.length ≤ 128 ∧ ks.drop (i + 1) = xs ++ encs T' ∧ (i : Int) + 1 + xs.length ≤ ks.length) ∨
    (∃ b p T', T = .run b p :: T' ∧ ks.getD (i : Int).toNat 0 = p + 125 ∧ 3 ≤ p ∧ p ≤ 130 ∧ ks.drop (i + 1) = b :: encs T' ∧ (i : Int) + 1 < ks.length ∧ ks.getD ((i : Int) + 1).toNat 0 = b) := by
  have e0 : (i : Int).toNat = i := by omega
  have hd : ks.drop i = ks[i] :: ks.drop (i + 1) := List.drop_eq_getElem_cons (by omega)
  have hg : ks.getD i 0 = ks[i] := by simp [List.getD, List.getElem?_eq_getElem (show i < ks.length by omega)]
  rw [e0, hg]
  cases T with
  | nil =>
    rw [hd] at h1
    cases h1
  | cons x T' =>
    rw [hd, encs_cons] at h1
    have hx := h3 x (.head _)
    cases x with
    | lit xs =>
      have h1' : ks[i] :: ks.drop (i + 1) = ((xs.length : Int) - 1) :: (xs ++ encs T') := h1
      injection h1' with a1 a2
      refine .inl ⟨xs, T', rfl, a1, hx.1, hx.2, a2, ?_⟩
      have := congrArg List.length a2
      rw [List.length_drop, List.length_append] at this
      omega
    | run b p =>
      have h1' : ks[i] :: ks.drop (i + 1) = (p + 125) :: (b :: encs T') := h1
      injection h1' with a1 a2
      have hl : i + 1 < ks.length := by
        have := congrArg List.length a2
        rw [List.length_drop, List.length_cons] at this
        omega
      refine .inr ⟨b, p, T', rfl, a1, hx.1, hx.2, a2, by omega, ?_⟩
      have e1 : ((i : Int) + 1).toNat = i + 1 := by omega
      rw [List.drop_eq_getElem_cons hl] at a2
      injection a2 with b1 b2
      rw [e1, ← b1]
      simp [List.getD, List.getElem?_eq_getElem hl]
theorem up_facts {ks ns os : List Int} {i : Nat} {T : List PTok} (h1 : ks.drop i = encs T) (h3 : ∀ x ∈ T, okT x) (h2 : os ++ exps T = ns) :
    (¬ (i : Int) < ks.length ∨ (ks.getD (i : Int).toNat 0 < 128 ∧ 0 ≤ ks.getD (i : Int).toNat 0 ∧ (i : Int) + 1 + ks.getD (i : Int).toNat 0 + 1 ≤ ks.length ∧ (os.length : Int) + ks.getD (i : Int).toNat 0 + 1 ≤ ns.length) ∨
      (128 ≤ ks.getD (i : Int).toNat 0 ∧ ks.getD (i : Int).toNat 0 ≤ 255 ∧ (i : Int) + 1 < ks.length ∧ (os.length : Int) + ks.getD (i : Int).toNat 0 - 125 ≤ ns.length)) := by
  by_cases h : (i : Int) < ks.length
  · refine .inr ?_
    rcases up_tok h1 h3 h with ⟨xs, T', rfl, a, b, c, d, e⟩ | ⟨b, p, T', rfl, a, c, d, e, f, g⟩
    · have := congrArg List.length h2
      rw [exps_cons, List.length_append, List.length_append] at this
      have e2 : (expT (.lit xs)).length = xs.length := rfl
      refine .inl ?_
      omega
    · have := congrArg List.length h2
      rw [exps_cons, List.length_append, List.length_append] at this
      have e2 : (expT (.run b p)).length = p.toNat := List.length_replicate ..
      refine .inr ?_
      omega
  · exact .inl h
section
variable {prog : Program} {w : World} {A : Around} {E : Value → Shared → Prop} {Q : Flow → Shared → Prop} {s : Shared} {env : Env} {h₀ : Heap} {L : Addr}
theorem up_while {test : Expr} {body : List Stmt} {pos : Pos} {m₀ : Str → Option Value} {ks : List Int} {T : List PTok} {news : List (Addr × Obj)} {O : Addr} {t tb : Tok} {b : Array UInt8}
    (F : Fr h₀ L s.heap m₀) (N : News h₀ L s.heap ((O, listOf #[] 0) :: news)) (hi : m₀ (Str.ofString "at") = some (.int 0 t)) (_hO : m₀ (Str.ofString "out") = some (.ref O)) (_hd : m₀ (Str.ofString "data") = some (.bytes b tb)) (_hb : KBw.bInts b = ks)
    (hT : ks = encs T) (hok : ∀ x ∈ T, okT x)
    (turn : ∀ (i : Nat) (t : Tok) (vs : List Value) (cn : Nat) (os : List Int) (T' : List PTok) (u : Str → Option Value) h tk,
      IntsAre vs os → vs.length = os.length → ks.drop i = encs T' → i ≤ ks.length → os ++ exps T' = exps T → (os.length : Int) ≤ (exps T).length → (∀ x ∈ T', okT x) →
      (¬ (i : Int) < ks.length ∨ (ks.getD (i : Int).toNat 0 < 128 ∧ 0 ≤ ks.getD (i : Int).toNat 0 ∧ (i : Int) + 1 + ks.getD (i : Int).toNat 0 + 1 ≤ ks.length ∧ (os.length : Int) + ks.getD (i : Int).toNat 0 + 1 ≤ (exps T).length) ∨
        (128 ≤ ks.getD (i : Int).toNat 0 ∧ ks.getD (i : Int).toNat 0 ≤ 255 ∧ (i : Int) + 1 < ks.length ∧ (os.length : Int) + ks.getD (i : Int).toNat 0 - 125 ≤ (exps T).length)) →
      Fr h₀ L h (fun y => if y = Str.ofString "at" then some (.int i t) else if ([Str.ofString "head"] : List Str).contains y then u y else m₀ y) → News h₀ L h ((O, listOf vs.toArray cn) :: news) →
      wpAny (model prog w) A (isTrue test env (eval test env)) (fun b s₂ =>
        if b = true then wpAny (model prog w) A (execs body env) (KswPost h₀ L s (upLed O news) upPs upFacts [Str.ofString "head"] m₀ (upP ks (exps T)) (upMu ks) Q ⟨i, t, vs, cn, os, T'⟩) E s₂ else Q .next s₂) E { s with heap := h, toks := tk })
    (hE : PassesOwn (model prog w) A env E := by passes_own) :
    wpAny (model prog w) A (exec (.While test body [] pos) env) Q E s := by
  refine ksw_while (upLed O news) upPs upFacts [Str.ofString "head"] (upP ks (exps T)) (upMu ks) ⟨0, t, [], 0, [], T⟩ F N .nil ?_ ⟨hT, Nat.zero_le _, rfl, hok⟩ ?_ hE
  · intro p hp
    rw [List.mem_singleton.mp hp]
    exact hi
  · rintro ⟨i, t, vs, cn, os, T'⟩ u h tk f1 ⟨p1, p2, p3, p4⟩ F₁ N₁
    have hl := congrArg List.length p3
    rw [List.length_append] at hl
    have hl2 : os.length + (exps T').length = (exps T).length := hl
    exact turn i t vs cn os T' u h tk f1 f1.length p1 p2 p3 (by omega) p4 (up_facts p1 p4 p3) F₁ N₁
end
def UnpOut (ns : List Int) (news : List (Addr × Obj)) (r : Value) (news' : List (Addr × Obj)) : Prop := ∃ b t, r = .bytes b t ∧ news' = news ∧ KBw.bInts b = ns
def UnpC (f : Addr) (prog : Program) (w : World) (K : Frag) (p : Program) (loose : List Str) (mean : ExcName → Option Value) (mg mb : Str → Option Value) : Prop :=
  ∀ (b : Array UInt8) (ks : List Int) (T : List PTok) (t : Tok) (news : List (Addr × Obj)), KBw.bInts b = ks → ks = encs T → (∀ x ∈ T, okT x) → KBa.In (exps T) → (exps T).length ≤ 100000 → ks.length ≤ 1000000 → Fun prog w K p loose mean mg mb 20 f [.bytes b t] news (UnpOut (exps T) news)
theorem clip_in {n : Nat} {x : Int} (h0 : 0 ≤ x) (h1 : x ≤ n) : clipAt n x = x.toNat := by
  unfold clipAt
  rw [if_neg (by omega)]
  omega
section
variable {prog : Program} {w : World} {A : Around} {E : Value → Shared → Prop} {Q : Flow → Shared → Prop} {s : Shared} {env : Env} {h₀ : Heap} {L : Addr}
theorem up_end1 {m₀ m' : Str → Option Value} {O : Addr} {news : List (Addr × Obj)} {vs vs' : List Value} {cn n' : Nat} {ks ns os : List Int} {i : Nat} {T : List PTok} {t t' : Tok} {h' : Heap} {tk : Nat}
    (F : Fr h₀ L h' m') (N : News h₀ L h' ((O, listOf (vs.toArray ++ vs'.toArray) n') :: news))
    (hm : m' (Str.ofString "at") = some (.int ((i : Int) + 1 + ks.getD (i : Int).toNat 0 + 1) t')) (hr : ∀ z, (∀ p ∈ [(Str.ofString "at", Value.int ((i : Int) + 1 + ks.getD (i : Int).toNat 0 + 1) t')], z ≠ p.1) → ([Str.ofString "head"] : List Str).contains z = false → m' z = m₀ z)
    (kI : IntsAre vs os) (kE : ks.drop i = encs T) (kN : os ++ exps T = ns) (kT : ∀ x ∈ T, okT x) (h : (i : Int) < ks.length) (hh : ks.getD (i : Int).toNat 0 < 128)
    (hI : IntsAre vs' (List.take (clipAt ks.length ((i : Int) + 1 + ks.getD (i : Int).toNat 0 + 1) - clipAt ks.length ((i : Int) + 1)) (List.drop (clipAt ks.length ((i : Int) + 1)) ks))) :
    KswEnd h₀ L s (upLed O news) upPs upFacts [Str.ofString "head"] m₀ (upP ks ns) (upMu ks) ⟨i, t, vs, cn, os, T⟩ { s with heap := h', toks := tk } := by
  rcases up_tok kE kT h with ⟨xs, T', rfl, a, b, c, d, e⟩ | ⟨b, p, T', rfl, a, c, d, e, f, g⟩
  · rw [a] at hm hr hI
    rw [clip_in (by omega) (by omega), clip_in (by omega) (by omega)] at hI
    have e1 : ((i : Int) + 1).toNat = i + 1 := by omega
    have e2 : ((i : Int) + 1 + ((xs.length : Int) - 1) + 1).toNat - (i + 1) = xs.length := by omega
    rw [e1, e2, d, List.take_left] at hI
    have ea : vs.toArray ++ vs'.toArray = (vs ++ vs').toArray := by simp
    rw [ea] at N
    have ei : ((i + 1 + xs.length : Nat) : Int) = (i : Int) + 1 + ((xs.length : Int) - 1) + 1 := by omega
    refine ksw_end (c' := ⟨i + 1 + xs.length, t', vs ++ vs', n', os ++ xs, T'⟩) F N (fun _ h => h) (kI.append hI) ?_ ?_ ⟨?_, ?_, ?_, fun x hx => kT x (.tail _ hx)⟩ ?_
    · intro q hq
      rw [List.mem_singleton.mp hq]
      show m' _ = some (.int ((i + 1 + xs.length : Nat) : Int) t')
      rw [ei]; exact hm
    · intro z hz
      refine hr z fun q hq => ?_
      rw [List.mem_singleton.mp hq]
      exact hz (Str.ofString "at", .int ((i + 1 + xs.length : Nat) : Int) t') (.head _)
    · show ks.drop (i + 1 + xs.length) = encs T'
      rw [← List.drop_drop, d, List.drop_left]
    · show i + 1 + xs.length ≤ ks.length
      omega
    · show os ++ xs ++ exps T' = ns
      rw [← kN, exps_cons, List.append_assoc]; rfl
    · show ks.length - (i + 1 + xs.length) < ks.length - i
      omega
  · omega
theorem up_end2 {m₀ m' : Str → Option Value} {O G₁ G₂ : Addr} {o₁ o₂ : Obj} {news : List (Addr × Obj)} {vs : List Value} {cn n' : Nat} {ks ns os : List Int} {i : Nat} {T : List PTok} {t t' tv : Tok} {h' : Heap} {tk : Nat}
    (F : Fr h₀ L h' m') (N : News h₀ L h' ((G₁, o₁) :: (G₂, o₂) :: (O, listOf (vs.toArray ++ (List.replicate (ks.getD (i : Int).toNat 0 - 125).toNat [Value.int (ks.getD ((i : Int) + 1).toNat 0) tv]).flatten.toArray) n') :: news))
    (hm : m' (Str.ofString "at") = some (.int ((i : Int) + 1 + 1) t')) (hr : ∀ z, (∀ p ∈ [(Str.ofString "at", Value.int ((i : Int) + 1 + 1) t')], z ≠ p.1) → ([Str.ofString "head"] : List Str).contains z = false → m' z = m₀ z)
    (kI : IntsAre vs os) (kE : ks.drop i = encs T) (kN : os ++ exps T = ns) (kT : ∀ x ∈ T, okT x) (h : (i : Int) < ks.length) (hh : ¬ ks.getD (i : Int).toNat 0 < 128)
    (hI : IntsAre (List.replicate (ks.getD (i : Int).toNat 0 - 125).toNat [Value.int (ks.getD ((i : Int) + 1).toNat 0) tv]).flatten (List.replicate (ks.getD (i : Int).toNat 0 - 125).toNat [ks.getD ((i : Int) + 1).toNat 0]).flatten) :
    KswEnd h₀ L s (upLed O news) upPs upFacts [Str.ofString "head"] m₀ (upP ks ns) (upMu ks) ⟨i, t, vs, cn, os, T⟩ { s with heap := h', toks := tk } := by
  rcases up_tok kE kT h with ⟨xs, T', rfl, a, b, c, d, e⟩ | ⟨b, p, T', rfl, a, c, d, e, f, g⟩
  · omega
  · rw [flat_one, a, g] at hI
    rw [a, g] at N
    have e1 : p + 125 - 125 = p := by omega
    rw [e1] at hI N
    have ea : vs.toArray ++ (List.replicate p.toNat [Value.int b tv]).flatten.toArray = (vs ++ (List.replicate p.toNat [Value.int b tv]).flatten).toArray := by simp
    rw [ea] at N
    refine ksw_end (c' := ⟨i + 2, t', vs ++ (List.replicate p.toNat [Value.int b tv]).flatten, n', os ++ List.replicate p.toNat b, T'⟩) F N (fun _ h => .tail _ (.tail _ h)) (kI.append hI) ?_ ?_ ⟨?_, ?_, ?_, fun x hx => kT x (.tail _ hx)⟩ ?_
    · intro q hq
      rw [List.mem_singleton.mp hq]
      exact hm
    · intro z hz
      refine hr z fun q hq => ?_
      rw [List.mem_singleton.mp hq]
      exact hz (Str.ofString "at", .int ((i + 2 : Nat) : Int) t') (.head _)
    · show ks.drop (i + 2) = encs T'
      have : ks.drop (i + 2) = (ks.drop (i + 1)).drop 1 := by rw [List.drop_drop]
      rw [this, e]; rfl
    · show i + 2 ≤ ks.length
      omega
    · show os ++ List.replicate p.toNat b ++ exps T' = ns
      rw [← kN, exps_cons, List.append_assoc]; rfl
    · show ks.length - (i + 2) < ks.length - i
      omega
end
theorem up_last {ks os ns : List Int} {i : Nat} {T : List PTok} (kE : ks.drop i = encs T) (kN : os ++ exps T = ns) (kT : ∀ x ∈ T, okT x) (h : ¬ (i : Int) < ks.length) : os = ns := by
  cases T with
  | nil => rw [← kN]; simp [exps]
  | cons x T' =>
    rw [List.drop_eq_nil_of_le (by omega), encs_cons] at kE
    have hx := kT x (.head _)
    cases x with
    | lit xs => cases kE
    | run b p => cases kE
theorem up_in {ks os ns : List Int} {i : Nat} {T : List PTok} (hin : KBa.In ns) (kE : ks.drop i = encs T) (kN : os ++ exps T = ns) (kT : ∀ x ∈ T, okT x) (h : ¬ (i : Int) < ks.length) : KBa.In os := by
  rw [up_last kE kN kT h]; exact hin
theorem up_done {h₀ h : Heap} {L O : Addr} {o : Obj} {news : List (Addr × Obj)} (N : News h₀ L h ((O, o) :: news)) : News h₀ L h news := fun q hq => N q (.tail _ hq)
theorem packI_toks (b : Array UInt8) (ns : List Int) (_h : KBw.bInts b = packI ns) : ∃ T, packI ns = encs T ∧ exps T = ns ∧ ∀ x ∈ T, okT x := packI_toks0 ns
theorem pack_length {ns ks : List Int} {T : List PTok} (h1 : ks = encs T) (h2 : exps T = ns) (h3 : ∀ x ∈ T, okT x) : ks.length ≤ 2 * ns.length := by
  subst h1 h2
  induction T with
  | nil => simp [encs]
  | cons x T ih =>
    have := ih fun y hy => h3 y (.tail _ hy)
    have hx := h3 x (.head _)
    rw [encs_cons, exps_cons, List.length_append, List.length_append]
    cases x with
    | lit xs =>
      have e1 : (encT (.lit xs)).length = xs.length + 1 := rfl
      have e2 : (expT (.lit xs)).length = xs.length := rfl
      have hx' : 0 < xs.length ∧ xs.length ≤ 128 := hx
      omega
    | run b p =>
      have e1 : (encT (.run b p)).length = 2 := rfl
      have e2 : (expT (.run b p)).length = p.toNat := List.length_replicate ..
      have hx' : 3 ≤ p ∧ p ≤ 130 := hx
      omega
theorem bInts_inj {b c : Array UInt8} (h : KBw.bInts b = KBw.bInts c) : b = c := by
  unfold KBw.bInts at h
  apply Array.toList_inj.mp
  have inj : ∀ x y : UInt8, (x.toNat : Int) = (y.toNat : Int) → x = y := fun x y e => UInt8.toNat_inj.mp (by omega)
  exact (List.map_inj_right inj).mp h
end Mine
local macro_rules | `(tactic| walk_at "call builtin:list.append") => `(tactic| (k_here; (with_reducible show wpAny _ _ (call (Value.builtin "list.append") [Value.ref _, Value.ref _]) _ _ _); k_dflt (refine' append_K ?k1 ?k2 ?k3 ?_ ?z; (case k1 => k_asm); (case k2 => k_asm); (case k3 => exact Upd.tail (Nat.ne_of_gt (And.left (by assumption))) (Upd.head (Mine.off_app (by assumption) (by assumption)))); (case z => (simp only [List.size_toArray, sizeLine_eq]; omega)); k_whole); intro h' F' N'; (try k_sweep)))
local macro_rules | `(tactic| walk_at "KswEnd") => `(tactic| (k_here; (rename Fr _ _ _ _ => lF'); (rename News _ _ _ _ => lN'); with_unfolding_all (first
  | (refine' Mine.sr_inEnd lF' lN' ?k1 ?k2 ?k3 ?k4 ?k5 ?k6; (case k1 => exact rfl); (case k2 => ksw_same); (case k3 => assumption); (case k4 => omega); (case k5 => assumption); (case k6 => (simp only [decide_eq_true_eq, beq_iff_eq] at *; assumption)))
  | (refine' Mine.sr_end lF' lN' ?k1 ?k2 ?k3 ?k4 ?k5 ?k6 ?k7 ?k8 ?k9 ?k10 ?k11 ?k12 ?k13; (case k1 => assumption); (case k2 => exact rfl); (case k3 => ksw_same); (case k4 => assumption); (case k5 => assumption); (case k6 => assumption); (case k7 => assumption); (case k8 => assumption); (case k9 => assumption); (case k10 => omega); (case k11 => assumption); (case k12 => (intro _; simp only [decide_eq_true_eq, decide_eq_false_iff_not, beq_iff_eq] at *; first | assumption | omega)); (case k13 => exact rfl)))))
local macro_rules | `(tactic| walk_at "exec While BoolOp cons nil") => `(tactic| (k_here; (rename Fr _ _ _ _ => lF'); (rename News _ _ _ _ => lN'); (with_unfolding_all refine' Mine.sr_inner lF' lN' ?k1 ?k2 ?_; (case k1 => exact rfl); (case k2 => exact Mine.srIn_start (by assumption)); k_whole); (clear lF' lN'); intro j9 t9 h9 tk9 kJ kJ2 kJ3 kF kN; (try k_fold)))
local macro_rules | `(tactic| walk_at "exec While Compare cons nil") => `(tactic| (k_here; (rename Fr _ _ _ _ => lF'); (rename News _ _ _ _ => lN'); (with_unfolding_all refine' Mine.sr_while lF' lN' ?k1 ?k2 ?k3 ?_; (case k1 => exact rfl); (case k2 => exact rfl); (case k3 => assumption); k_whole); (clear lF' lN'); intro i9 t9 vs9 cn9 tl9 ds9 u9 h9 tk9 kD kL kM kI kR kV kF kN; (try k_fold)))
local macro_rules | `(tactic| walk_at "mine split") => `(tactic| (
  unfold Mine.SrC
  intro b ns t news hb hl
  unfold Mine.Fun
  intro dp un gd cn cs a ccd cl outer A₀ base h₀ L m s Q E B F X N T hk hd hu hret
  refine wpAny_call ?_
  k_dflt cell_enter
  k_steps
  exact hret _ _ _ _ ⟨_, _, _, _, rfl, rfl, by assumption, by assumption, by assumption, Mine.sr_done (by assumption) (by assumption) (by assumption)⟩ (by assumption) (by assumption)))
local macro_rules | `(tactic| walk_at "mine ne") => `(tactic| ((try dsimp only); first | assumption | k_ne | (refine Ne.symm ?_; assumption)))
local macro_rules | `(tactic| walk_at "mine off") => `(tactic| first | exact List.forall_mem_nil _ | assumption | exact Mine.off_lt (by assumption) | exact Mine.off_gt (by assumption) | (refine' List.forall_mem_cons.mpr ⟨?a, ?b⟩; (case a => walk_at "mine ne"); (case b => walk_at "mine off")) | (refine' List.forall_mem_append.mpr ⟨?a, ?b⟩; (case a => walk_at "mine off"); (case b => walk_at "mine off")))
local macro_rules | `(tactic| walk_at "mine upd") => `(tactic| first | (refine' Upd.head ?a; (case a => walk_at "mine off")) | (refine' Upd.tail ?a ?b; (case a => walk_at "mine ne"); (case b => walk_at "mine upd")))
local macro_rules | `(tactic| walk_at "mine size") => `(tactic| ((try law_lens); (simp only [List.size_toArray, Array.size_push, Array.size_append, List.length_append, List.length_cons, List.length_nil, List.length_take, List.length_drop, List.length_replicate, sizeLine_eq]); omega))
local macro_rules | `(tactic| walk_at "call builtin:list.append") => `(tactic| (k_here; (with_reducible show wpAny _ _ (call (Value.builtin "list.append") [Value.ref _, _]) _ _ _); k_dflt (refine' append_K ?k1 ?k2 ?k3 ?_ ?z; (case k1 => k_asm); (case k2 => k_asm); (case k3 => walk_at "mine upd"); (case z => walk_at "mine size"); k_whole); intro h' F' N'; (try k_sweep)))
local macro_rules | `(tactic| walk_at "mine updF") => `(tactic| first | (refine' UpdF.head ?a; (case a => walk_at "mine off")) | (refine' UpdF.tail ?a ?b; (case a => walk_at "mine ne"); (case b => walk_at "mine updF")))
local macro_rules | `(tactic| walk_at "call builtin:list.extend") => `(tactic| (k_here; (with_reducible show wpAny _ _ (call (Value.builtin "list.extend") [Value.ref _, Value.ref _]) _ _ _); k_dflt (refine' Mine.extend_U ?k1 ?k2 ?kb ?k3 ?z ?_; (case k1 => k_asm); (case k2 => k_asm); (case kb => k_mem); (case k3 => walk_at "mine updF"); (case z => walk_at "mine size"); k_whole); intro h' n' F' N'; (try dsimp only at N'); (try k_sweep)))
local macro_rules | `(tactic| walk_at "call builtin:len") => `(tactic| (k_here; (with_reducible show wpAny _ _ (call (Value.builtin "len") [Value.ref _]) _ _ _); k_dflt (refine' kst_len ?k1 ?k2 ?k3 ?k4 ?_; (case k1 => k_asm); (case k2 => k_mem); (case k3 => exact IntsAre.length (by assumption)); (case k4 => omega); k_whole)))
local macro_rules | `(tactic| walk_at "exec While Compare cons nil") => `(tactic| (k_here; (rename Fr _ _ _ _ => lF'); (rename News _ _ _ _ => lN'); (with_unfolding_all refine' Mine.lt_while lF' lN' ?k1 ?kO ?kH ?k2 ?k3 ?k4 ?k5 ?k6 ?_; (case k1 => exact rfl); (case kO => exact rfl); (case kH => exact rfl); (case k2 => assumption); (case k3 => assumption); (case k4 => assumption); (case k5 => assumption); (case k6 => assumption); k_whole); (clear lF' lN'); intro i9 t9 vs9 cn9 ks9 u9 h9 tk9 kI kIl kIs kR kB kO kF kN; (try k_fold)))
local macro_rules | `(tactic| walk_at "KswEnd") => `(tactic| (k_here; (rename Fr _ _ _ _ => lF'); (rename News _ _ _ _ => lN'); with_unfolding_all (refine' Mine.lt_end lF' lN' ?k1 ?k2 ?k3 ?k4 ?k5 ?k6 ?k7 ?k8; (case k1 => exact rfl); (case k2 => ksw_same); (case k3 => assumption); (case k4 => assumption); (case k5 => assumption); (case k6 => assumption); (case k7 => exact rfl); (case k8 => exact rfl))))
local macro_rules | `(tactic| walk_at "mine lits") => `(tactic| (
  unfold Mine.LitC
  intro O H vo vh co ch os hs news mO mH hne iO iH hsz
  unfold Mine.Fun
  intro dp un gd cn cs a ccd cl outer A₀ base h₀ L m s Q E B F X N T hk hd hu hret
  refine wpAny_call ?_
  k_dflt cell_enter
  k_steps
  exact hret _ _ _ _ ⟨_, _, rfl, rfl, Mine.lt_ints (by assumption) (by assumption) (by assumption)⟩ (by assumption) (Mine.lt_done (by assumption))))
local macro_rules | `(tactic| walk_at "mine put") => `(tactic| ((rename News _ _ _ (Mine.put _ _ _) => kP); (repeat (first | rw [Mine.put_hit] at kP | rw [Mine.put_miss (by walk_at "mine ne")] at kP | rw [Mine.put_off (by walk_at "mine off")] at kP | rw [Mine.put_nil] at kP))))
local macro_rules | `(tactic| walk_at "mine use") => `(tactic| ((case k1 => k_asm); (case k2 => k_asm); (case k3 => k_asm); (case k4 => k_asm); (case k5 => k_asm); (case kK => first | exact rfl | assumption); (case kd => ktr_room); (case ku => ktr_units)))
local macro_rules | `(tactic| walk_at "call ref") => `(tactic| (k_here; (with_reducible show wpAny _ _ (call (Value.ref 53) [Value.ref _, Value.ref _]) _ _ _); (k_dflt ((rename Mine.LitC _ _ _ _ _ _ _ _ _ => cL); refine' Mine.Fun.use ?kC ?k1 ?k2 ?k3 ?k4 ?k5 ?kK ?kd ?ku ?_; (case k2 => k_asm); (case k4 => k_asm); (case kC => (refine' cL _ _ _ _ _ _ _ _ _ ?l1 ?l2 ?l3 ?l4 ?l5 ?l6; (case l1 => k_mem); (case l2 => k_mem); (case l3 => walk_at "mine ne"); (case l4 => assumption); (case l5 => assumption); (case l6 => omega))); (case k1 => k_asm); (case k3 => k_asm); (case k5 => k_asm); (case kK => first | exact rfl | assumption); (case kd => ktr_room); (case ku => ktr_units); k_whole); intro r9 news9 h9 tk9 hR F9 N9; (unfold Mine.LtOut at hR); (obtain ⟨vo9, co9, e1, e2, kI⟩ := hR); (subst e1); (subst e2); (walk_at "mine put"); (have kIl := Mine.lit_len kI); (try k_sweep))))
local macro_rules | `(tactic| walk_at "exec While Compare cons nil") => `(tactic| (k_here; (rename Fr _ _ _ _ => lF'); (rename News _ _ _ _ => lN'); (with_unfolding_all refine' Mine.pk_while lF' lN' ?k1 ?k2 ?k3 ?k4 ?k5 ?k6 ?k7 ?k8 ?k9 ?ka ?kb ?_; (case k1 => exact rfl); (case k2 => exact rfl); (case k3 => exact rfl); (case k4 => exact rfl); (case k5 => assumption); (case k6 => assumption); (case k7 => assumption); (case k8 => assumption); (case k9 => assumption); (case ka => assumption); (case kb => assumption); k_whole); (clear lF' lN'); intro c9 t9 H9 vo9 vh9 co9 ch9 os9 hs9 u9 h9 tk9 kI1 kI2 kI3 kNe kO1 kH1 kR k0 kS kF kN; (try k_fold)))
local macro_rules | `(tactic| walk_at "exec For Tuple Call cons nil") => `(tactic| (k_here; (rename Fr _ _ _ _ => lF'); (with_unfolding_all refine' For_turns lF' ?_; k_whole)))
local macro_rules | `(tactic| walk_at "call ref") => `(tactic| (k_here; (with_reducible show wpAny _ _ (call (Value.ref 46) [Value.bytes _ _]) _ _ _); (k_dflt ((rename Mine.SrC _ _ _ _ _ _ _ _ _ => cL); refine' Mine.Fun.use ?kC ?k1 ?k2 ?k3 ?k4 ?k5 ?kK ?kd ?ku ?_; (case k2 => k_asm); (case k4 => k_asm); (case kC => (refine' cL _ _ _ _ ?l1 ?l2; (case l1 => assumption); (case l2 => omega))); (case k1 => k_asm); (case k3 => k_asm); (case k5 => k_asm); (case kK => first | exact rfl | assumption); (case kd => ktr_room); (case ku => ktr_units); k_whole); intro r9 news9 h9 tk9 hR F9 N9; (unfold Mine.SrOut at hR); (obtain ⟨D9, vs9, cn9, tl9, e1, e2, kA, kB, kC, kD⟩ := hR); (subst e1); (subst e2); (try k_sweep))))
local macro_rules | `(tactic| walk_at "pyIter ref") => `(tactic| (k_here; (with_reducible show wpAny _ _ (pyIter (Value.ref _)) (fun it s₂ => TurnsAt _ _ _ _ _ _ _ _ _ it s₂) _ _); ((rename Fr _ _ _ _ => lF'); (rename News _ _ _ _ => lN'); (with_unfolding_all refine' Mine.pk_for0 ?hh lF' lN' ?k1 ?k2 ?k3 ?k4 ?k5 ?k6 ?k7 ?k8 ?tn ?dn; (case hh => exact rfl); (case k1 => exact rfl); (case k2 => exact rfl); (case k3 => assumption); (case k4 => assumption); (case k5 => assumption); (case k6 => assumption); (case k7 => assumption); (case k8 => assumption)); (all_goals (try clear lF' lN')); (case' tn => (intro i9 b9 c9 T9 tb9 tc9 H9 vo9 vh9 co9 ch9 S9 os9 hs9 u9 h9 tk9 own9 kE k0 kT kI kIl kJ kJl kNe kO kH kW kR kS kS2 kS3 kF kN; (try k_fold))); (case' dn => (intro H9 vo9 vh9 co9 ch9 os9 hs9 u9 h9 tk9 kI kIl kJ kJl kNe kO kH kR kS kF kN; (try k_unfold); (try dsimp only))))))
local macro_rules | `(tactic| walk_at "KswEnd") => `(tactic| (k_here; (rename Fr _ _ _ _ => lF'); (rename News _ _ _ _ => lN'); with_unfolding_all ((refine' Mine.pk_inEnd lF' lN' ?k1 ?k2 ?k3 ?k4 ?k5 ?k6 ?k7 ?k8 ?k9 ?ka; (case k1 => assumption); (case k2 => exact rfl); (case k3 => exact rfl); (case k4 => ksw_same); (case k5 => assumption); (case k6 => assumption); (case k7 => assumption); (case k8 => assumption); (case k9 => first | exact congrArg (fun z => z + 125) (Mine.part_yes (by assumption) (by assumption)) | exact congrArg (fun z => z + 125) (Mine.part_no1 (by assumption) (by assumption)) | exact congrArg (fun z => z + 125) (Mine.part_no2 (by assumption))); (case ka => first | exact congrArg (fun z => _ - z) (Mine.part_yes (by assumption) (by assumption)) | exact congrArg (fun z => _ - z) (Mine.part_no1 (by assumption) (by assumption)) | exact congrArg (fun z => _ - z) (Mine.part_no2 (by assumption)))))))
local macro_rules | `(tactic| walk_at "InvEndG") => `(tactic| (k_here; (rename Fr _ _ _ _ => lF'); (rename News _ _ _ _ => lN'); with_unfolding_all ((refine' Mine.pk_end lF' lN' ?k1 ?k2 ?k3 ?k4 ?k5 ?k6 ?k7 ?k8 ?k9 ?ka ?kb ?kc ?kd ?ke ?kf; (case k1 => exact rfl); (case k2 => (intro z h2 h3; (simp only [List.contains_cons, List.contains_nil, Bool.or_false, Bool.or_eq_false_iff, beq_eq_false_iff_ne, ne_eq] at h3); (simp [h2, h3]; done))); (case k3 => assumption); (case k4 => assumption); (case k5 => assumption); (case k6 => assumption); (case k7 => assumption); (case k8 => assumption); (case k9 => assumption); (case ka => assumption); (case kb => assumption); (case kc => assumption); (case kd => assumption); (case ke => assumption); (case kf => assumption)))))
local macro_rules | `(tactic| walk_at "call type:bytes") => `(tactic| (k_here; (with_reducible show wpAny _ _ (call (Value.type "bytes") [Value.ref _]) _ _ _); (k_dflt (refine' KBa.make_K ?kbaF ?kbaN ?kbah ?kbal ?kbai ?kbar ?kban ?_; (case kbaF => k_asm); (case kbaN => k_asm); (case kbah => rfl); (case kbal => exact News.isList (by k_asm) (by k_mem)); (case kbai => assumption); (case kbar => exact Mine.pack_in (by assumption) (by assumption)); (case kban => (simp only [List.length_append]; omega)); k_whole); intro h' t' k' F' N' kbaIn)))
local macro_rules | `(tactic| walk_at "mine pack") => `(tactic| (
  unfold Mine.PackC
  intro b ns t news hb hsz
  unfold Mine.Fun
  intro dp un gd cn cs a ccd cl outer A₀ base h₀ L m s Q E B F X N T hk hd hu hret
  refine wpAny_call ?_
  k_dflt cell_enter
  k_steps
  exact hret _ _ _ _ ⟨_, _, rfl, rfl, (KBa.ints_make (by assumption)).trans (by assumption)⟩ (by assumption) (Mine.pack_done (by assumption))))
local macro_rules | `(tactic| walk_at "exec While Compare cons nil") => `(tactic| (k_here; (rename Fr _ _ _ _ => lF'); (rename News _ _ _ _ => lN'); (with_unfolding_all refine' Mine.up_while lF' lN' ?k1 ?k2 ?k3 ?k4 ?k5 ?k6 ?_; (case k1 => exact rfl); (case k2 => exact rfl); (case k3 => exact rfl); (case k4 => assumption); (case k5 => assumption); (case k6 => assumption); k_whole); (clear lF' lN'); intro i9 t9 vs9 cn9 os9 T9 u9 h9 tk9 kI kIl kE kE2 kN1 kN2 kT kH kF kN; (try k_fold)))
local macro_rules | `(tactic| walk_at "call builtin:list.extend") => `(tactic| (k_here; (with_reducible show wpAny _ _ (call (Value.builtin "list.extend") [Value.ref _, Value.bytes _ _]) _ _ _); k_dflt (refine' Mine.extend_B ?kh ?k1 ?k2 ?k3 ?kb ?z ?_; (case kh => exact rfl); (case k1 => k_asm); (case k2 => k_asm); (case k3 => walk_at "mine updF"); (case kb => assumption); (case z => walk_at "mine size"); k_whole); intro h' n' vs' tk' F' N' hI'; (try dsimp only at N'); (try k_sweep)))
local macro_rules | `(tactic| walk_at "KswEnd") => `(tactic| (k_here; (rename Fr _ _ _ _ => lF'); (rename News _ _ _ _ => lN'); with_unfolding_all (first
  | (refine' Mine.up_end1 lF' lN' ?k1 ?k2 ?k3 ?k4 ?k5 ?k6 ?k7 ?k8 ?k9; (case k1 => exact rfl); (case k2 => ksw_same); (case k3 => assumption); (case k4 => assumption); (case k5 => assumption); (case k6 => assumption); (case k7 => assumption); (case k8 => assumption); (case k9 => assumption))
  | (refine' Mine.up_end2 lF' lN' ?k1 ?k2 ?k3 ?k4 ?k5 ?k6 ?k7 ?k8 ?k9; (case k1 => exact rfl); (case k2 => ksw_same); (case k3 => assumption); (case k4 => assumption); (case k5 => assumption); (case k6 => assumption); (case k7 => assumption); (case k8 => assumption); (case k9 => assumption)))))
local macro_rules | `(tactic| walk_at "call type:bytes") => `(tactic| (k_here; (with_reducible show wpAny _ _ (call (Value.type "bytes") [Value.ref _]) _ _ _); k_dflt (refine' KBa.make_K ?kbaF ?kbaN ?kbah ?kbal ?kbai ?kbar ?kban ?_; (case kbaF => k_asm); (case kbaN => k_asm); (case kbah => rfl); (case kbal => exact News.isList (by k_asm) (by k_mem)); (case kbai => assumption); (case kbar => exact Mine.up_in (by assumption) (by assumption) (by assumption) (by assumption) (by assumption)); (case kban => omega); k_whole); intro h' t' k' F' N' kbaIn))
local macro_rules | `(tactic| walk_at "mine unpack") => `(tactic| (
  unfold Mine.UnpC
  intro b ks T0 t news hb hks hok hin hsz hsz2
  unfold Mine.Fun
  intro dp un gd cn cs a ccd cl outer A₀ base h₀ L m s Q E B F X N T hk hd hu hret
  refine wpAny_call ?_
  k_dflt cell_enter
  k_steps
  exact hret _ _ _ _ ⟨_, _, rfl, rfl, (KBa.ints_make (by assumption)).trans (Mine.up_last (by assumption) (by assumption) (by assumption) (by assumption))⟩ (by assumption) (Mine.up_done (by assumption))))
local macro_rules | `(tactic| walk_at "call type:bytes") => `(tactic| (k_here; (with_reducible show wpAny _ _ (call (Value.type "bytes") [Value.ref _]) _ _ _); (try simp only [Mine.flat_one] at *); k_dflt (refine' KBa.make_K ?kbaF ?kbaN ?kbah ?kbal ?kbai ?kbar ?kban ?_; (case kbaF => k_asm); (case kbaN => k_asm); (case kbah => rfl); (case kbal => kba_isList); (case kbai => kba_listInts); (case kbar => repeat' (first | refine Mine.in_app ?_ ?_ | refine Mine.in_rep (by l_fact) (by l_fact))); (case kban => (simp only [List.length_append, List.length_replicate]; l_fact)); k_whole); intro h' t' k' F' N' kbaIn; (have kbaB := KBa.ints_make kbaIn)))
local macro_rules | `(tactic| walk_at "call ref") => `(tactic| (k_here; (with_reducible show wpAny _ _ (call (Value.ref 60) [Value.bytes _ _]) _ _ _); k_dflt ((rename Mine.PackC _ _ _ _ _ _ _ _ _ => cL); refine' Mine.Fun.use ?kC ?k1 ?k2 ?k3 ?k4 ?k5 ?kK ?kd ?ku ?_; (case k2 => k_asm); (case k4 => k_asm); (case kC => (refine' cL _ _ _ _ ?l1 ?l2; (case l1 => exact KBa.ints_make (by assumption)); (case l2 => (simp only [List.length_append, List.length_replicate]; l_fact)))); (case k1 => k_asm); (case k3 => k_asm); (case k5 => k_asm); (case kK => first | exact rfl | assumption); (case kd => ktr_room); (case ku => ktr_units); k_whole); intro r9 news9 h9 tk9 hR F9 N9; (unfold Mine.PackOut at hR); (obtain ⟨b9, t9, e1, e2, kB9⟩ := hR); (subst e1); (subst e2); (try k_sweep)))
local macro_rules | `(tactic| walk_at "call ref") => `(tactic| (k_here; (with_reducible show wpAny _ _ (call (Value.ref 67) [Value.bytes _ _]) _ _ _); ((rename (KBw.bInts _ = Mine.packI _) => kB8); (have kT0 := Mine.packI_toks _ _ kB8); (obtain ⟨T8, kT1, kT2, kT3⟩ := kT0); k_dflt ((rename Mine.UnpC _ _ _ _ _ _ _ _ _ => cL); refine' Mine.Fun.use ?kC ?k1 ?k2 ?k3 ?k4 ?k5 ?kK ?kd ?ku ?_; (case k2 => k_asm); (case k4 => k_asm); (case kC => (refine' cL _ _ T8 _ _ ?l1 ?l2 ?l3 ?l4 ?l5 ?l6; (case l1 => exact kB8); (case l2 => exact kT1); (case l3 => exact kT3); (case l4 => (rw [kT2]; assumption)); (case l5 => (rw [kT2]; simp only [List.length_append, List.length_replicate]; l_fact)); (case l6 => (refine Nat.le_trans (Mine.pack_length kT1 kT2 kT3) ?_; simp only [List.length_append, List.length_replicate]; l_fact)))); (case k1 => k_asm); (case k3 => k_asm); (case k5 => k_asm); (case kK => first | exact rfl | assumption); (case kd => ktr_room); (case ku => ktr_units); k_whole); intro r9 news9 h9 tk9 hR F9 N9; (unfold Mine.UnpOut at hR); (obtain ⟨b9, t9, e1, e2, kB9⟩ := hR); (subst e1); (subst e2); (rw [kT2] at kB9); (rename (KBw.bInts (byteArr _) = _) => kB7); (have kB10 := Mine.bInts_inj (kB9.trans kB7.symm)); (subst kB10); (try k_sweep))))
set_option maxRecDepth 100000 in
set_option maxHeartbeats 8000000 in
theorem PySem.Challenge.cw_ui0507_10_holds : PySem.Challenge.rw_ui0507_10.Holds := by
  (w_on; o_law; k_head; (case hw => w_witness2))
  w_strict (k_go0; (all_goals try k_fold); (refine Mine.bring (Mine.SrC 46) (by assumption) (by assumption) ?ctr ?_); (case ctr => (law_clear; walk_at "mine split")); intro cS; (refine Mine.bring (Mine.LitC 53) (by assumption) (by assumption) ?ctr ?_); (case ctr => (law_clear; walk_at "mine lits")); intro cL; (refine Mine.bring (fun prog w K p loose mean mg mb => Mine.SrC 46 prog w K p loose mean mg mb → Mine.LitC 53 prog w K p loose mean mg mb → Mine.PackC 60 prog w K p loose mean mg mb) (by assumption) (by assumption) ?ctr ?_); (case ctr => (law_clear; intro cS cL; walk_at "mine pack")); intro cP0; (have cP := cP0 cS cL); clear cP0; (refine Mine.bring (Mine.UnpC 67) (by assumption) (by assumption) ?ctr ?_); (case ctr => (law_clear; walk_at "mine unpack")); intro cU; k_steps; (all_goals (try k_data)); all_goals w_report)
