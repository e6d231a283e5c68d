import PyProof.Rows.All
import Wide.All
import OpenK.AllK
import Wide.FinOn
import PySem.Challenge.RW_ui0507_09
open PySem PySem.W PyProof.Rows PySem.Spec PySem.Calls
set_option Elab.async false
namespace Mine
/-- what a def does, wherever it is called: from the ledger news and the arguments vs it comes back with r and the ledger news' that R tells -/
def Fun (prog : Program) (w : World) (K : Frag) (p : Program) (loose : List Str) (mean : ExcName → Option Value) (mg mb : Str → Option Value) (k : Nat) (f : Addr) (vs : List Value) (news : List (Addr × Obj)) (R : Value → List (Addr × Obj) → Prop) : Prop :=
  ∀ (dp un : Nat) (gd : Option (List Code)) (cn : Str) (cs : Scope) (a : Addr) (ccd : Value) (cl : List (Str × Addr)) (outer : List Env) (A₀ : Around) (base h₀ : Heap) (L : Addr) (m : Str → Option Value) (s : Shared) (Q E : Value → Shared → Prop),
    Below A₀ base outer h₀ → Fr h₀ L s.heap m → K.In h₀ → News h₀ L s.heap news → Top p loose mean mg mb h₀ → cs.kind = .function → dp + k < recursionLimit → un + 8 * k < cLine →
    (∀ r news' h' tk', R r news' → Fr h₀ L h' m → News h₀ L h' news' → Q r { s with heap := h', toks := tk' }) →
    wpAny (model prog w) (ktrTop dp un gd cn cs L a ccd cl outer) (call (.ref f) vs) Q E s
theorem bring {α : Type} {prog : Program} {w : World} {A : Around} {tree : Sem α} {Q : α → Shared → Prop} {E : Value → Shared → Prop} {s : Shared} {K : Frag} {h₀ : Heap} {p : Program} {loose : List Str} {mean : ExcName → Option Value} {mg mb : Str → Option Value}
    (C : Program → World → Frag → Program → List Str → (ExcName → Option Value) → (Str → Option Value) → (Str → Option Value) → Prop) (_X : K.In h₀) (_T : Top p loose mean mg mb h₀) (ctr : C prog w K p loose mean mg mb) (h : C prog w K p loose mean mg mb → wpAny (model prog w) A tree Q E s) : wpAny (model prog w) A tree Q E s := h ctr
section
variable {prog : Program} {w : World} {A : Around} {E : Value → Shared → Prop} {s : Shared} {env : Env} {h₀ : Heap} {target : Expr} {body : List Stmt} {Q : Flow → Shared → Prop}
/-- a for over a list of the ledger's, its target whatever it is -/
theorem turns_list {l : Addr} {vs : List Value} {nn : Nat} {m₀ : Str → Option Value} {news : List (Addr × Obj)} (J : Nat → (Str → Option Value) → List (Addr × Obj) → Prop)
    (hh : A.handled = none) (hl : (l, listOf vs.toArray nn) ∈ news) (F : Fr h₀ env.locals s.heap m₀) (N : News h₀ env.locals s.heap news) (hj : J 0 m₀ news) (hJl : ∀ i m nx, J i m nx → (l, listOf vs.toArray nn) ∈ nx)
    (turn : ∀ i v m₁ news₁ h tk own, vs[i]? = some v → OwnOff own (news₁.map (·.1)) → J i m₁ news₁ → Fr h₀ env.locals h m₁ → News h₀ env.locals h (news₁ ++ own) →
      wpAny (model prog w) A (assign target env v) (fun _ s₃ => wpAny (model prog w) A (execs body env) (InvPostG h₀ env.locals (J (i + 1)) own { s with heap := h, toks := tk } Q) E s₃) E { s with heap := h, toks := tk })
    (done : ∀ m₁ news₁ h tk, J vs.length m₁ news₁ → Fr h₀ env.locals h m₁ → News h₀ env.locals h news₁ → Q .next { s with heap := h, toks := tk }) :
    wpAny (model prog w) A (pyIter (.ref l)) (fun it s₂ => TurnsAt prog w A h₀ env target body Q E it s₂) E s := by
  have hol : s.heap.get? l = some (listOf vs.toArray nn) := (N _ hl).1
  have hls : s.heap.IsList l vs.toArray := ⟨_, hol, rfl, nn, rfl⟩
  have hne : l ≠ s.heap.objs.size := Nat.ne_of_lt (Heap.lt_size hol)
  refine wpAny_pyIter_list hls ?_
  have W := Walks.list (prog := prog) (w := w) hh s.heap.objs.size l hne vs.toArray
  have hlen : vs.toArray.size = vs.length := by simp
  rw [hlen] at W
  refine ⟨_, _, _, vs.length, _, _, _, m₀, news, J, rfl, KTurns.ofWalks W fun i v s Q E st q => letGo_listiter st.1 q, ?_, ?_, ?_, ⟨⟨_, Heap.get?_push_size _ rfl, rfl, rfl⟩, hls.at fun o e => Heap.get?_push_of_some _ e⟩, F.push _, (fun p hp => ⟨Heap.get?_push_of_some _ (N p hp).1, (N p hp).2⟩), hj, ?_, ?_⟩
  · intro hm
    rcases List.mem_cons.mp hm with e | hm
    · exact absurd F.ns.lt (e ▸ Nat.lt_irrefl _)
    · exact (N _ hl).2.1 ((List.mem_singleton.mp hm).symm)
  · intro b hb
    rw [List.mem_singleton.mp hb]
    exact next_is_new F
  · intro p hp hI
    exact absurd (Heap.lt_size (N p hp).1) ((List.mem_singleton.mp hI) ▸ Nat.lt_irrefl _)
  · intro i v m₁ news₁ hh' tk' own hin hP hJ hoff hown hget hfp hst F₁ N₁
    have hl₁ := hJl _ _ _ hJ
    have hP' : vs[i]? = some v := by simpa using hP
    have hI0 : h₀.get? s.heap.objs.size = none := next_is_new F
    obtain ⟨⟨oI, hoI, _⟩, _⟩ := id hst
    have hIown : (s.heap.objs.size, oI) ∈ own.filter fun p => decide (p.1 = s.heap.objs.size) := List.mem_filter.mpr ⟨hfp _ (List.mem_cons.mpr (.inl rfl)) hI0 _ hoI, by simp⟩
    have hsep : OwnOff (own.filter fun p => decide (p.1 = s.heap.objs.size)) (news₁.map (·.1)) := by
      intro p hp b hb e
      obtain ⟨q, hq, rfl⟩ := List.mem_map.mp hb
      have h1 : p.1 = s.heap.objs.size := by simpa using (List.mem_filter.mp hp).2
      exact hoff q hq (List.mem_singleton.mpr (e ▸ h1))
    have N₂ : News h₀ env.locals hh' (news₁ ++ own.filter fun p => decide (p.1 = s.heap.objs.size)) := fun p hp => N₁ p ((List.mem_append.mp hp).elim (fun h => List.mem_append.mpr (.inr h)) fun h => List.mem_append.mpr (.inl ((List.mem_filter.mp h).1)))
    have hlo : hh'.get? l = some (listOf vs.toArray nn) := (N₁ _ (List.mem_append.mpr (.inr hl₁))).1
    refine wpAny_mono (turn i v m₁ news₁ hh' tk' _ hP' hsep hJ F₁ N₂) (fun _ s₃ p3 => wpAny_mono p3 (fun f s₂ p => ?_) fun _ _ e => e) fun _ _ e => e
    have fin : InvEndG h₀ env.locals (J (i + 1)) (own.filter fun p => decide (p.1 = s.heap.objs.size)) { s with heap := hh', toks := tk' } s₂ →
        LoopStepU h₀ env.locals [s.heap.objs.size] own (J (i + 1)) { s with heap := hh', toks := tk' } .next s₂ := by
      rintro ⟨h', tk, m', news', nx, e, F', N', hn, ho, ha, hm⟩
      refine ⟨rfl, h', tk, m', nx, e, F', fun p hp => ?_, fun p hp hq => ?_, hm⟩
      · rcases List.mem_append.mp hp with h | h
        · by_cases hI : p.1 = s.heap.objs.size
          · exact N' p (ho p (List.mem_filter.mpr ⟨h, by simpa using hI⟩))
          · have h1 : p.1 = l := by
              rcases List.mem_cons.mp (hown p h) with h2 | h2
              · exact absurd h2 hI
              · exact List.mem_singleton.mp h2
            have h2 : hh'.get? p.1 = some p.2 := hget p h
            rw [h1, hlo] at h2
            have h3 : p = (l, listOf vs.toArray nn) := Prod.ext h1 (Option.some.inj h2).symm
            rw [h3]
            exact N' _ (hn _ (hJl _ _ _ hm))
        · exact N' p (hn p h)
      · exact ha _ hIown p.1 (List.mem_map.mpr ⟨p, hp, rfl⟩) (List.mem_singleton.mp hq).symm
    cases f with
    | ret v => exact p
    | brk => exact p
    | next => exact fin p
    | cont => exact fin p
  · rintro h' tk m' news' F' N' _ hJ
    exact done m' news' h' tk hJ F' N'
end
section
variable {prog : Program} {w : World} {K : Frag} {p : Program} {loose : List Str} {mean : ExcName → Option Value} {mg mb : Str → Option Value} {k : Nat} {f : Addr} {vs : List Value} {news : List (Addr × Obj)} {R : Value → List (Addr × Obj) → Prop}
theorem Fun.use {dp un : Nat} {gd : Option (List Code)} {cn : Str} {cs : Scope} {a : Addr} {ccd : Value} {cl : List (Str × Addr)} {outer : List Env} {A₀ : Around} {base h₀ : Heap} {L : Addr} {m : Str → Option Value} {s : Shared} {Q E : Value → Shared → Prop}
    (C : Fun prog w K p loose mean mg mb k f vs news R) (B : Below A₀ base outer h₀) (F : Fr h₀ L s.heap m) (X : K.In h₀) (N : News h₀ L s.heap news) (T : Top p loose mean mg mb h₀) (hk : cs.kind = .function) (hd : dp + k < recursionLimit) (hu : un + 8 * k < cLine)
    (ret : ∀ r news' h' tk', R r news' → Fr h₀ L h' m → News h₀ L h' news' → Q r { s with heap := h', toks := tk' }) :
    wpAny (model prog w) (ktrTop dp un gd cn cs L a ccd cl outer) (call (.ref f) vs) Q E s := C _ _ _ _ _ _ _ _ _ _ _ _ _ _ _ _ _ B F X N T hk hd hu ret
end
/-- the ledger with o at O -/
def put (O : Addr) (o : Obj) (news : List (Addr × Obj)) : List (Addr × Obj) := news.map fun p => if p.1 = O then (O, o) else p
theorem put_nil {O : Addr} {o : Obj} : put O o [] = [] := rfl
theorem put_hit {O : Addr} {o o' : Obj} {r : List (Addr × Obj)} : put O o ((O, o') :: r) = (O, o) :: put O o r := by simp [put]
theorem put_miss {O : Addr} {o : Obj} {q : Addr × Obj} {r : List (Addr × Obj)} (h : q.1 ≠ O) : put O o (q :: r) = q :: put O o r := by simp [put, h]
theorem put_off {O : Addr} {o : Obj} {r : List (Addr × Obj)} (h : ∀ q ∈ r, q.1 ≠ O) : put O o r = r := by
  induction r with
  | nil => rfl
  | cons q r ih => rw [put_miss (h q (.head _)), ih fun x hx => h x (.tail _ hx)]
theorem mem_put {O : Addr} {o : Obj} {news : List (Addr × Obj)} {q : Addr × Obj} (h : q ∈ put O o news) : q = (O, o) ∨ (q.1 ≠ O ∧ q ∈ news) := by
  obtain ⟨x, hx, rfl⟩ := List.mem_map.mp h
  by_cases e : x.1 = O
  · rw [if_pos e]; exact .inl rfl
  · rw [if_neg e]; exact .inr ⟨e, hx⟩
section
variable {prog : Program} {w : World} {A : Around} {E : Value → Shared → Prop} {s : Shared} {h₀ : Heap} {L D b : Addr} {m : Str → Option Value} {news : List (Addr × Obj)} {its its2 : Array Value} {n n2 : Nat}
/-- extend by a list of the ledger's -/
theorem extend_U {g : Obj → List (Addr × Obj)} {Q : Value → Shared → Prop} (F : Fr h₀ L s.heap m) (N : News h₀ L s.heap news) (hb : (b, listOf its2 n2) ∈ news) (U : UpdF D (listOf its n) news g) (hz : its.size + its2.size ≤ sizeLine)
    (h : ∀ h' n', Fr h₀ L h' m → News h₀ L h' (g (listOf (its ++ its2) n')) → Q .none { s with heap := h' }) : wpAny (model prog w) A (call (.builtin "list.extend") [.ref D, .ref b]) Q E s := by
  obtain ⟨pre, post, rfl, hg, a, c⟩ := U.split
  obtain ⟨ys, rfl⟩ : ∃ ys : List Value, its = ys.toArray := ⟨its.toList, by rw [Array.toArray_toList]⟩
  refine extend_in F N a c (N _ hb).1 (fun h' n' F' N' => h h' n' F' ?_) (by rw [List.size_toArray] at hz; exact hz)
  rw [hg]
  have e : ys.toArray ++ its2 = (ys ++ its2.toList).toArray := by simp
  rw [e]
  exact N'
end
theorem off_lt {l : List (Addr × Obj)} {D : Addr} (h : ∀ p ∈ l, p.1 < D) : ∀ p ∈ l, p.1 ≠ D := fun p hp => Nat.ne_of_lt (h p hp)
theorem off_gt {l : List (Addr × Obj)} {D : Addr} (h : ∀ p ∈ l, D < p.1) : ∀ p ∈ l, p.1 ≠ D := fun p hp => Nat.ne_of_gt (h p hp)
/-- a number in groups of seven bits, the lowest first -/
def vint (n : Nat) : List Int := if n < 128 then [(n : Int)] else (128 + (n % 128 : Nat) : Int) :: vint (n / 128)
termination_by n
decreasing_by omega
theorem vint_small {n : Nat} (h : n < 128) : vint n = [(n : Int)] := by rw [vint, if_pos h]
theorem vint_big {n : Nat} (h : ¬ n < 128) : vint n = (128 + (n % 128 : Nat) : Int) :: vint (n / 128) := by rw [vint, if_neg h]
theorem vint_len : ∀ n : Nat, 0 < (vint n).length ∧ (vint n).length ≤ n + 1 := by
  intro n
  induction n using Nat.strongRecOn with
  | ind n ih =>
    by_cases h : n < 128
    · rw [vint_small h]; simp
    · rw [vint_big h, List.length_cons]
      have := ih (n / 128) (by omega)
      omega
/-- two numbers whose bits do not meet -/
theorem or_apart {a : Int} {b : Int} {k : Nat} (h0 : 0 ≤ a) (h1 : a < 2 ^ k) (hb : 0 ≤ b) : Builtin.bitOr a (b * 2 ^ k) = a + b * 2 ^ k := by
  obtain ⟨x, rfl⟩ := Int.eq_ofNat_of_zero_le h0
  obtain ⟨y, rfl⟩ := Int.eq_ofNat_of_zero_le hb
  have e : ((y : Int) * 2 ^ k) = ((y * 2 ^ k : Nat) : Int) := by simp
  have hx : x < 2 ^ k := by
    have e2 : ((2 ^ k : Nat) : Int) = (2 : Int) ^ k := by simp
    rw [← e2] at h1
    exact Int.ofNat_lt.mp h1
  rw [e, bitOr_and, bitAnd_pp (Int.natCast_nonneg _) (Int.natCast_nonneg _)]
  have z : x &&& y * 2 ^ k = 0 := by
    refine Nat.eq_of_testBit_eq fun i => ?_
    rw [Nat.testBit_and, Nat.zero_testBit]
    by_cases hi : i < k
    · rw [← Nat.shiftLeft_eq, Nat.testBit_shiftLeft]
      simp [Nat.not_le.mpr hi]
    · have hxi : x.testBit i = false := Nat.testBit_lt_two_pow (Nat.lt_of_lt_of_le hx (Nat.pow_le_pow_right (by decide) (by omega)))
      rw [hxi]; rfl
  rw [Int.toNat_natCast, Int.toNat_natCast, z]
  simp
theorem or_128 {x : Int} (h0 : 0 ≤ x) (h1 : x < 128) : Builtin.bitOr 128 x = 128 + x := by
  rw [bitOr_comm]
  have := or_apart (a := x) (b := 1) (k := 7) h0 (by simpa using h1) (by decide)
  simp at this
  rw [this]; omega
theorem vint_one {n : Nat} (h : n < 128) : (vint n).length = 1 := by rw [vint_small h]; rfl
theorem vint_in : ∀ n : Nat, KBa.In (vint n) := by
  intro n
  induction n using Nat.strongRecOn with
  | ind n ih =>
    by_cases h : n < 128
    · rw [vint_small h]
      intro x hx
      rw [List.mem_singleton.mp hx]
      omega
    · rw [vint_big h]
      intro x hx
      rcases List.mem_cons.mp hx with rfl | hx
      · omega
      · exact ih (n / 128) (by omega) x hx
structure NbS where
  m : Nat
  t : Tok
  vs : List Value
  cn : Nat
  os : List Int
def nbLed (O : Addr) (news : List (Addr × Obj)) (c : NbS) : List (Addr × Obj) := (O, listOf c.vs.toArray c.cn) :: news
def nbPs (c : NbS) : List (Str × Value) := [(Str.ofString "number", .int c.m c.t)]
def nbFacts (c : NbS) : Prop := IntsAre c.vs c.os
def nbP (n : Nat) (c : NbS) : Prop := c.os ++ vint c.m = vint n
def nbMu (c : NbS) : Nat := c.m
theorem nb_len {n m : Nat} {os : List Int} (h : os ++ vint m = vint n) : (os.length : Int) ≤ n := by
  have h1 := congrArg List.length h
  have h2 := vint_len n
  have h3 := vint_len m
  rw [List.length_append] at h1
  omega
section
variable {prog : Program} {w : World} {A : Around} {E : Value → Shared → Prop} {Q : Flow → Shared → Prop} {s : Shared} {env : Env} {h₀ : Heap} {L : Addr}
theorem nb_while {test : Expr} {body : List Stmt} {pos : Pos} {m₀ : Str → Option Value} {x : Int} {news : List (Addr × Obj)} {O : Addr} {t : Tok}
    (F : Fr h₀ L s.heap m₀) (N : News h₀ L s.heap ((O, listOf #[] 0) :: news)) (hi : m₀ (Str.ofString "number") = some (.int x t)) (_hO : m₀ (Str.ofString "out") = some (.ref O)) (hx : 0 ≤ x)
    (turn : ∀ (m : Nat) (t : Tok) (vs : List Value) (cn : Nat) (os : List Int) (u : Str → Option Value) h tk,
      IntsAre vs os → vs.length = os.length → os ++ vint m = vint x.toNat → (os.length : Int) ≤ x.toNat →
      Fr h₀ L h (fun y => if y = Str.ofString "number" then some (.int m t) else if ([] : List Str).contains y then u y else m₀ y) → News h₀ L h ((O, listOf vs.toArray cn) :: news) →
      wpAny (model prog w) A (isTrue test env (eval test env)) (fun b s₂ =>
        if b = true then wpAny (model prog w) A (execs body env) (KswPost h₀ L s (nbLed O news) nbPs nbFacts [] m₀ (nbP x.toNat) nbMu Q ⟨m, t, vs, cn, os⟩) E s₂ else Q .next s₂) E { s with heap := h, toks := tk })
    (hE : PassesOwn (model prog w) A env E := by passes_own) :
    wpAny (model prog w) A (exec (.While test body [] pos) env) Q E s := by
  refine ksw_while (nbLed O news) nbPs nbFacts [] (nbP x.toNat) nbMu ⟨x.toNat, t, [], 0, []⟩ F N .nil ?_ rfl ?_ hE
  · intro p hp
    rw [List.mem_singleton.mp hp]
    show m₀ _ = some (.int ((x.toNat : Nat) : Int) t)
    rw [Int.toNat_of_nonneg hx]
    exact hi
  · rintro ⟨m, t, vs, cn, os⟩ u h tk f1 p1 F₁ N₁
    exact turn m t vs cn os u h tk f1 f1.length p1 (nb_len p1) F₁ N₁
theorem nb_end {m₀ m' : Str → Option Value} {O : Addr} {news : List (Addr × Obj)} {vs : List Value} {cn n' : Nat} {os : List Int} {m n : Nat} {t t' ty : Tok} {h' : Heap} {tk : Nat}
    (F : Fr h₀ L h' m') (N : News h₀ L h' ((O, listOf (vs.toArray.push (.int (Builtin.bitOr 128 (Builtin.bitAnd m 127)) ty)) n') :: news))
    (hm : m' (Str.ofString "number") = some (.int ((m : Int).fdiv (2 ^ (7 : Int).toNat)) t')) (hr : ∀ z, (∀ p ∈ [(Str.ofString "number", Value.int ((m : Int).fdiv (2 ^ (7 : Int).toNat)) t')], z ≠ p.1) → ([] : List Str).contains z = false → m' z = m₀ z)
    (kI : IntsAre vs os) (kE : os ++ vint m = vint n) (h : (128 : Int) ≤ m) :
    KswEnd h₀ L s (nbLed O news) nbPs nbFacts [] m₀ (nbP n) nbMu ⟨m, t, vs, cn, os⟩ { s with heap := h', toks := tk } := by
  have ex : (m : Int).fdiv (2 ^ (7 : Int).toNat) = ((m / 128 : Nat) : Int) := by
    have : ((2 : Int) ^ (7 : Int).toNat) = 128 := by decide
    rw [this, Int.fdiv_eq_ediv_of_nonneg _ (by decide)]
    omega
  have ey : Builtin.bitOr 128 (Builtin.bitAnd m 127) = (128 + (m % 128 : Nat) : Int) := by
    rw [bitAnd_m7]
    rw [or_128 (by omega) (by omega)]
    omega
  rw [ey] at N
  rw [ex] at hm hr
  have ea : vs.toArray.push (.int (128 + (m % 128 : Nat) : Int) ty) = (vs ++ [Value.int (128 + (m % 128 : Nat) : Int) ty]).toArray := by simp
  rw [ea] at N
  refine ksw_end (c' := ⟨m / 128, t', vs ++ [Value.int (128 + (m % 128 : Nat) : Int) ty], n', os ++ [(128 + (m % 128 : Nat) : Int)]⟩) F N (fun _ h => h) (kI.append (.cons _ _ .nil)) ?_ hr ?_ ?_
  · intro q hq
    rw [List.mem_singleton.mp hq]
    exact hm
  · show (os ++ [(128 + (m % 128 : Nat) : Int)]) ++ vint (m / 128) = vint n
    rw [← kE, vint_big (n := m) (by omega)]
    simp
  · show m / 128 < m
    omega
end
def NbOut (ns : List Int) (news : List (Addr × Obj)) (r : Value) (news' : List (Addr × Obj)) : Prop := ∃ b t, r = .bytes b t ∧ news' = news ∧ KBw.bInts b = ns
def NbC (f : Addr) (prog : Program) (w : World) (K : Frag) (p : Program) (loose : List Str) (mean : ExcName → Option Value) (mg mb : Str → Option Value) : Prop :=
  ∀ (x : Int) (t : Tok) (news : List (Addr × Obj)), 0 ≤ x → x ≤ 1000000 → Fun prog w K p loose mean mg mb 20 f [.int x t] news (NbOut (vint x.toNat) news)
theorem nb_ints {n m : Nat} {vs : List Value} {os : List Int} {t : Tok} (kI : IntsAre vs os) (kE : os ++ vint m = vint n) (h : ¬ (128 : Int) ≤ m) : IntsAre (vs ++ [.int (m : Int) t]) (vint n) := by
  rw [← kE, vint_small (by omega)]
  exact kI.append (.cons _ _ .nil)
theorem num_done {h₀ h : Heap} {L O : Addr} {o : Obj} {news : List (Addr × Obj)} (N : News h₀ L h ((O, o) :: news)) : News h₀ L h news := fun q hq => N q (.tail _ hq)
/-- read_number: how far it is -/
structure RnS where
  i : Nat
  v : Nat
  q : Nat
  m : Nat
  ta : Tok
  tv : Tok
  ts : Tok
def rnPs (c : RnS) : List (Str × Value) := [(Str.ofString "at", .int c.i c.ta), (Str.ofString "value", .int c.v c.tv), (Str.ofString "shift", .int c.q c.ts)]
def rnP (ks rest : List Int) (n e : Nat) (c : RnS) : Prop := ks.drop c.i = vint c.m ++ rest ∧ c.v + c.m * 2 ^ c.q = n ∧ c.v < 2 ^ c.q ∧ (c.q = 0 ∨ 0 < c.m) ∧ c.i + (vint c.m).length = e
def rnMu (c : RnS) : Nat := c.m
theorem rn_facts {ks rest : List Int} {i v q m n e : Nat} (h1 : ks.drop i = vint m ++ rest) (h2 : v + m * 2 ^ q = n) (h3 : v < 2 ^ q) (h4 : q = 0 ∨ 0 < m) (h5 : i + (vint m).length = e) (hn : n < 2 ^ 60) :
    (i : Int) < ks.length ∧ (q : Int) ≤ 60 ∧
    ((ks.getD (i : Int).toNat 0 < 128 ∧ 0 ≤ ks.getD (i : Int).toNat 0 ∧ (¬ ks.getD (i : Int).toNat 0 = 0 ∨ ¬ (q : Int) > 0) ∧ Builtin.bitOr (v : Int) (Builtin.bitAnd (ks.getD (i : Int).toNat 0) 127 * 2 ^ (q : Int).toNat) = n ∧ (i : Int) + 1 = e) ∨
     (128 ≤ ks.getD (i : Int).toNat 0 ∧ ks.getD (i : Int).toNat 0 ≤ 255 ∧ (q : Int) + 7 ≤ 63 ∧ ks.drop (i + 1) = vint (m / 128) ++ rest ∧ m / 128 < m ∧ 0 < m / 128 ∧ (v + m % 128 * 2 ^ q) + m / 128 * 2 ^ (q + 7) = n ∧ v + m % 128 * 2 ^ q < 2 ^ (q + 7) ∧ Builtin.bitOr (v : Int) (Builtin.bitAnd (ks.getD (i : Int).toNat 0) 127 * 2 ^ (q : Int).toNat) = ((v + m % 128 * 2 ^ q : Nat) : Int) ∧ i + 1 + (vint (m / 128)).length = e)) := by
  have e0 : (i : Int).toNat = i := by omega
  have eq : (q : Int).toNat = q := by omega
  rw [e0, eq]
  have hlt : i < ks.length := by
    rcases Nat.lt_or_ge i ks.length with h | h
    · exact h
    · rw [List.drop_eq_nil_of_le h] at h1
      have h6 := congrArg List.length h1
      have := vint_len m
      rw [List.length_append, List.length_nil] at h6
      omega
  have hd : ks.drop i = ks[i] :: ks.drop (i + 1) := List.drop_eq_getElem_cons hlt
  have hg : ks.getD i 0 = ks[i] := by simp [List.getD, List.getElem?_eq_getElem hlt]
  rw [hg]
  have hq60 : q ≤ 60 := by
    rcases Nat.lt_or_ge 60 q with h | h
    · rcases h4 with h4 | h4
      · omega
      · have h7 : 2 ^ 60 ≤ 2 ^ q := Nat.pow_le_pow_right (by decide) (by omega)
        have h8 : 1 * 2 ^ q ≤ m * 2 ^ q := Nat.mul_le_mul_right _ h4
        omega
    · exact h
  have orE : ∀ y : Nat, y < 128 → ∀ b : Int, b % 128 = y → Builtin.bitOr (v : Int) (Builtin.bitAnd b 127 * 2 ^ q) = ((v + y * 2 ^ q : Nat) : Int) := by
    intro y hy b hb
    rw [bitAnd_m7, hb, or_apart (by omega) (by rw [show ((2 : Int) ^ q) = ((2 ^ q : Nat) : Int) by simp]; omega) (by omega)]
    simp
  refine ⟨by omega, by omega, ?_⟩
  by_cases hm : m < 128
  · left
    rw [vint_small hm, hd] at h1
    injection h1 with a1 a2
    rw [vint_small hm] at h5
    simp only [List.length_singleton] at h5
    refine ⟨by omega, by omega, by omega, ?_, by omega⟩
    rw [orE m hm ks[i] (by omega), h2]
  · right
    rw [vint_big hm, hd] at h1
    injection h1 with a1 a2
    rw [vint_big hm] at h5
    simp only [List.length_cons] at h5
    have e7 : 2 ^ (q + 7) = 128 * 2 ^ q := by rw [Nat.pow_add]; omega
    have hdm : 128 * (m / 128) + m % 128 = m := Nat.div_add_mod m 128
    have h2' : (v + m % 128 * 2 ^ q) + m / 128 * 2 ^ (q + 7) = n := by
      rw [← h2, e7]
      have : m * 2 ^ q = (128 * (m / 128) + m % 128) * 2 ^ q := by rw [hdm]
      rw [this, Nat.add_mul, Nat.mul_comm 128 (m / 128), Nat.mul_assoc]
      omega
    have hpos : 0 < m / 128 := by omega
    have hq7 : q + 7 ≤ 60 := by
      rcases Nat.lt_or_ge 60 (q + 7) with h | h
      · have h7 : 2 ^ 60 ≤ 2 ^ (q + 7) := Nat.pow_le_pow_right (by decide) (by omega)
        have h8 : 1 * 2 ^ (q + 7) ≤ m / 128 * 2 ^ (q + 7) := Nat.mul_le_mul_right _ hpos
        omega
      · exact h
    refine ⟨by omega, by omega, by omega, a2, by omega, hpos, h2', ?_, ?_, by omega⟩
    · rw [e7]
      have : m % 128 * 2 ^ q ≤ 127 * 2 ^ q := Nat.mul_le_mul_right _ (by omega)
      omega
    · exact orE (m % 128) (by omega) ks[i] (by omega)
section
variable {prog : Program} {w : World} {A : Around} {E : Value → Shared → Prop} {Q : Flow → Shared → Prop} {s : Shared} {env : Env} {h₀ : Heap} {L : Addr}
theorem rn_while {test : Expr} {body : List Stmt} {pos : Pos} {m₀ : Str → Option Value} {ks rest : List Int} {a n : Nat} {news : List (Addr × Obj)} {ta tv ts tb : Tok} {b : Array UInt8} {x : Int}
    (F : Fr h₀ L s.heap m₀) (N : News h₀ L s.heap news) (hi : m₀ (Str.ofString "at") = some (.int x ta)) (hv : m₀ (Str.ofString "value") = some (.int 0 tv)) (hs : m₀ (Str.ofString "shift") = some (.int 0 ts)) (_hd : m₀ (Str.ofString "data") = some (.bytes b tb)) (_hb : KBw.bInts b = ks)
    (hx : x = (a : Int)) (hk : ks.drop a = vint n ++ rest) (hn : n < 2 ^ 60)
    (turn : ∀ (i v q m : Nat) (ta tv ts : Tok) (u : Str → Option Value) h tk,
      (i : Int) < ks.length → (q : Int) ≤ 60 →
      ((ks.getD (i : Int).toNat 0 < 128 ∧ 0 ≤ ks.getD (i : Int).toNat 0 ∧ (¬ ks.getD (i : Int).toNat 0 = 0 ∨ ¬ (q : Int) > 0) ∧ Builtin.bitOr (v : Int) (Builtin.bitAnd (ks.getD (i : Int).toNat 0) 127 * 2 ^ (q : Int).toNat) = n ∧ (i : Int) + 1 = (a + (vint n).length : Nat)) ∨
       (128 ≤ ks.getD (i : Int).toNat 0 ∧ ks.getD (i : Int).toNat 0 ≤ 255 ∧ (q : Int) + 7 ≤ 63 ∧ ks.drop (i + 1) = vint (m / 128) ++ rest ∧ m / 128 < m ∧ 0 < m / 128 ∧ (v + m % 128 * 2 ^ q) + m / 128 * 2 ^ (q + 7) = n ∧ v + m % 128 * 2 ^ q < 2 ^ (q + 7) ∧ Builtin.bitOr (v : Int) (Builtin.bitAnd (ks.getD (i : Int).toNat 0) 127 * 2 ^ (q : Int).toNat) = ((v + m % 128 * 2 ^ q : Nat) : Int) ∧ i + 1 + (vint (m / 128)).length = a + (vint n).length)) →
      Fr h₀ L h (fun y => if y = Str.ofString "at" then some (.int i ta) else if y = Str.ofString "value" then some (.int v tv) else if y = Str.ofString "shift" then some (.int q ts) else if ([Str.ofString "byte"] : List Str).contains y then u y else m₀ y) → News h₀ L h news →
      wpAny (model prog w) A (isTrue test env (eval test env)) (fun b s₂ =>
        if b = true then wpAny (model prog w) A (execs body env) (KswPost h₀ L s (fun _ => news) rnPs (fun _ => True) [Str.ofString "byte"] m₀ (rnP ks rest n (a + (vint n).length)) rnMu Q ⟨i, v, q, m, ta, tv, ts⟩) E s₂ else Q .next s₂) E { s with heap := h, toks := tk })
    (hE : PassesOwn (model prog w) A env E := by passes_own) :
    wpAny (model prog w) A (exec (.While test body [] pos) env) Q E s := by
  refine ksw_while (fun _ => news) rnPs (fun _ => True) [Str.ofString "byte"] (rnP ks rest n (a + (vint n).length)) rnMu ⟨a, 0, 0, n, ta, tv, ts⟩ F N trivial ?_ ⟨hk, by simp, by simp, .inl rfl, rfl⟩ ?_ hE
  · intro p hp
    rcases List.mem_cons.mp hp with rfl | hp
    · rw [hx] at hi; exact hi
    · rcases List.mem_cons.mp hp with rfl | hp
      · exact hv
      · rw [List.mem_singleton.mp hp]
        exact hs
  · rintro ⟨i, v, q, m, ta, tv, ts⟩ u h tk _ ⟨p1, p2, p3, p4, p5⟩ F₁ N₁
    have hf := rn_facts p1 p2 p3 p4 p5 hn
    exact turn i v q m ta tv ts u h tk hf.1 hf.2.1 hf.2.2 F₁ N₁
theorem rn_end {m₀ m' : Str → Option Value} {news : List (Addr × Obj)} {ks rest : List Int} {i v q m n e : Nat} {y : Int} {ta tv ts ta' tv' ts' : Tok} {h' : Heap} {tk : Nat}
    (F : Fr h₀ L h' m') (N : News h₀ L h' news)
    (hm1 : m' (Str.ofString "at") = some (.int ((i : Int) + 1) ta')) (hm2 : m' (Str.ofString "value") = some (.int (Builtin.bitOr (v : Int) (Builtin.bitAnd y 127 * 2 ^ (q : Int).toNat)) tv')) (hm3 : m' (Str.ofString "shift") = some (.int ((q : Int) + 7) ts'))
    (hr : ∀ z, (∀ p ∈ [(Str.ofString "at", Value.int ((i : Int) + 1) ta'), (Str.ofString "value", Value.int (Builtin.bitOr (v : Int) (Builtin.bitAnd y 127 * 2 ^ (q : Int).toNat)) tv'), (Str.ofString "shift", Value.int ((q : Int) + 7) ts')], z ≠ p.1) → ([Str.ofString "byte"] : List Str).contains z = false → m' z = m₀ z)
    (k1 : ks.drop (i + 1) = vint (m / 128) ++ rest) (k2 : m / 128 < m) (k3 : 0 < m / 128) (k4 : (v + m % 128 * 2 ^ q) + m / 128 * 2 ^ (q + 7) = n) (k5 : v + m % 128 * 2 ^ q < 2 ^ (q + 7)) (k6 : Builtin.bitOr (v : Int) (Builtin.bitAnd y 127 * 2 ^ (q : Int).toNat) = ((v + m % 128 * 2 ^ q : Nat) : Int)) (k7 : i + 1 + (vint (m / 128)).length = e) :
    KswEnd h₀ L s (fun _ => news) rnPs (fun _ => True) [Str.ofString "byte"] m₀ (rnP ks rest n e) rnMu ⟨i, v, q, m, ta, tv, ts⟩ { s with heap := h', toks := tk } := by
  rw [k6] at hm2 hr
  refine ksw_end (c' := ⟨i + 1, v + m % 128 * 2 ^ q, q + 7, m / 128, ta', tv', ts'⟩) F N (fun _ h => h) trivial ?_ hr ⟨k1, k4, k5, .inr k3, k7⟩ k2
  intro p hp
  rcases List.mem_cons.mp hp with rfl | hp
  · exact hm1
  · rcases List.mem_cons.mp hp with rfl | hp
    · exact hm2
    · rw [List.mem_singleton.mp hp]
      exact hm3
end
def RnOut (n e : Int) (news : List (Addr × Obj)) (r : Value) (news' : List (Addr × Obj)) : Prop := ∃ T x y t1 t2, r = .ref T ∧ news' = (T, { cls := .type "tuple", data := .seq #[.int x t1, .int y t2] }) :: news ∧ (∀ q ∈ news, q.1 < T) ∧ x = n ∧ y = e
def RnC (f : Addr) (prog : Program) (w : World) (K : Frag) (p : Program) (loose : List Str) (mean : ExcName → Option Value) (mg mb : Str → Option Value) : Prop :=
  ∀ (b : Array UInt8) (ks rest : List Int) (n a : Nat) (x : Int) (tb t : Tok) (news : List (Addr × Obj)), KBw.bInts b = ks → x = (a : Int) → ks.drop a = vint n ++ rest → n < 2 ^ 60 → ks.length ≤ 1000000 → Fun prog w K p loose mean mg mb 20 f [.bytes b tb, .int x t] news (RnOut n (a + (vint n).length : Nat) news)
theorem rn_ret {h₀ h : Heap} {L T : Addr} {m : Str → Option Value} {s : Shared} {Q : Value → Shared → Prop} {n e x y : Int} {t1 t2 : Tok} {news : List (Addr × Obj)} {tk : Nat}
    (hret : ∀ r news' h' tk', RnOut n e news r news' → Fr h₀ L h' m → News h₀ L h' news' → Q r { s with heap := h', toks := tk' })
    (N : News h₀ L h ((T, { cls := .type "tuple", data := .seq #[.int x t1, .int y t2] }) :: news)) (F : Fr h₀ L h m) (l1 : ∀ q ∈ news, q.1 < T) (hx : x = n) (hy : y = e) : Q (.ref T) { s with heap := h, toks := tk } :=
  hret _ _ _ _ ⟨_, _, _, _, _, rfl, rfl, l1, hx, hy⟩ F N
/-- i letters and j letters with an accent -/
def tx (i j : Nat) : Str := ⟨(List.replicate i 97 ++ List.replicate j 233).toArray⟩
def bx (i j : Nat) : Array UInt8 := (List.replicate i (97 : UInt8) ++ (List.replicate j [(195 : UInt8), 169]).flatten).toArray
theorem lt9 {n : Nat} (h : n < 9) : n = 0 ∨ n = 1 ∨ n = 2 ∨ n = 3 ∨ n = 4 ∨ n = 5 ∨ n = 6 ∨ n = 7 ∨ n = 8 := by omega
set_option maxRecDepth 100000 in
theorem enc_all {i j : Nat} (hi : i < 9) (hj : j < 9) : ∀ id self, Builtin._codecs.encodeNarrow id Builtin._codecs.utf8Codec none self (tx i j) = pure (bx i j) := by
  rcases lt9 hi with rfl | rfl | rfl | rfl | rfl | rfl | rfl | rfl | rfl <;> rcases lt9 hj with rfl | rfl | rfl | rfl | rfl | rfl | rfl | rfl | rfl <;> (intro id self; kernel_rfl)
set_option maxRecDepth 100000 in
theorem dec_all {i j : Nat} (hi : i < 9) (hj : j < 9) : ∀ id, Builtin._codecs.runDecoder id Builtin._codecs.utf8Decoder none true (bx i j) 0 [] = pure ((tx i j).cps, i + 2 * j) := by
  rcases lt9 hi with rfl | rfl | rfl | rfl | rfl | rfl | rfl | rfl | rfl <;> rcases lt9 hj with rfl | rfl | rfl | rfl | rfl | rfl | rfl | rfl | rfl <;> (intro id; kernel_rfl)
theorem mul_tx {i j : Int} (hi : 0 ≤ i) (hi2 : i < 9) (hj : 0 ≤ j) (hj2 : j < 9) : Txt.mul (Str.ofString "a") i ++ Txt.mul (Str.ofString "é") j = tx i.toNat j.toNat := by
  obtain ⟨a, rfl⟩ := Int.eq_ofNat_of_zero_le hi
  obtain ⟨b, rfl⟩ := Int.eq_ofNat_of_zero_le hj
  rcases lt9 (n := a) (by omega) with rfl | rfl | rfl | rfl | rfl | rfl | rfl | rfl | rfl <;> rcases lt9 (n := b) (by omega) with rfl | rfl | rfl | rfl | rfl | rfl | rfl | rfl | rfl <;> decide +kernel
set_option maxRecDepth 100000 in
theorem encode2_tree (x : Str) (t u : Tok) : Builtin.«str.encode» ⟨[.str x t, .str (Str.ofString "utf-8") u], []⟩ = (do ret (← Builtin._codecs.encodeRoad "str.encode" (.str x t) x (Str.ofString "utf-8") none)) := by kernel_rfl
section
variable {prog : Program} {w : World} {A : Around} {E : Value → Shared → Prop} {s : Shared} {i j : Nat} {t u : Tok}
theorem bx_size (hi : i < 9) (hj : j < 9) : (bx i j).size ≤ sizeLine := by
  rw [sizeLine_eq]
  have : (bx i j).size = i + 2 * j := by simp [bx]; omega
  omega
theorem encode_K (hi : i < 9) (hj : j < 9) {Q : Value → Shared → Prop} (h : ∀ t' k, Q (.bytes (bx i j) t') { s with toks := k }) :
    wpAny (model prog w) A (call (.builtin "str.encode") [.str (tx i j) t, .str (Str.ofString "utf-8") u]) Q E s := by
  refine call_meets (S := fun _ R s => ∀ t' k, R (.ok (.ret (.bytes (bx i j) t'))) { s with toks := k }) PySem.F.slot_str_encode (typeIs_str s _ t) PySem.F.entry_str_encode (PySem.F.args_str_encode_2 _ _) (.of_wp fun prog w A R s hS => ?_) h
  rw [encode2_tree, encodeRoad_utf8, enc_all hi hj]
  refine wpAny_bind (wpAny_bind (wpAny_pure ?_))
  exact wpAny_mkBytes (wpAny_pure ⟨_, rfl, hS _ _⟩) (bx_size hi hj)
end
open Builtin in
theorem args_dec2 (a b : Value) : argsOk "bytes.decode" ⟨[a, b], []⟩ := by
  unfold argsOk; rw [signature?_of (id := "bytes.decode") (n := ['e', 'd', 'o', 'c', 'e', 'd']) (o := ['s', 'e', 't', 'y', 'b']) (by kernel_rfl) FB.owner_bytes]; kernel_rfl
open Builtin in
set_option maxRecDepth 100000 in
theorem dec2_eq {c : UInt8} {cs : List UInt8} {t u : Tok} : «bytes.decode» ⟨[.bytes (c :: cs).toArray t, .str (Str.ofString "utf-8") u], []⟩ = (mkStr (Str.ofString "utf-8") >>= fun _ => mkStr (Str.ofString "utf-8") >>= fun e => mkStr (Str.ofString "bytes.decode") >>= fun d =>
    call (.builtin "_codecs.decode.text") [.bytes (c :: cs).toArray t, e, .none, d] >>= fun v => ret v) := by kernel_rfl
open Builtin in
set_option maxRecDepth 100000 in
theorem dec2_nil {t u : Tok} : «bytes.decode» ⟨[.bytes #[] t, .str (Str.ofString "utf-8") u], []⟩ = (do rule "bytes.decode.empty"; retStr Str.empty) := by kernel_rfl
section
variable {prog : Program} {w : World} {A : Around} {E : Value → Shared → Prop} {s : Shared} {i j : Nat} {t u : Tok}
theorem tx_size (hi : i < 9) (hj : j < 9) : (tx i j).length ≤ sizeLine := by
  rw [sizeLine_eq]
  have : (tx i j).length = i + j := by simp [tx, Str.length]
  omega
theorem decode_K (hi : i < 9) (hj : j < 9) {Q : Value → Shared → Prop} (h : ∀ t' k, Q (.str (tx i j) t') { s with toks := k }) :
    wpAny (model prog w) A (call (.builtin "bytes.decode") [.bytes (bx i j) t, .str (Str.ofString "utf-8") u]) Q E s := by
  refine call_meets (S := fun _ R s => ∀ t' k, R (.ok (.ret (.str (tx i j) t'))) { s with toks := k }) FB.slot_bytes_decode (PySem.W.typeIs_bytes _ _ _) FB.entry_bytes_decode (args_dec2 _ _) (.of_wp fun prog w A R s hS => ?_) h
  have hd := dec_all hi hj
  have hz := tx_size hi hj
  cases hb : (List.replicate i (97 : UInt8) ++ (List.replicate j [(195 : UInt8), 169]).flatten) with
  | nil =>
    have e1 : bx i j = #[] := by unfold bx; rw [hb]
    have hij : i = 0 ∧ j = 0 := by
      have := congrArg List.length hb
      simp at this
      omega
    obtain ⟨rfl, rfl⟩ := hij
    rw [e1, dec2_nil]
    refine wpAny_bind (wpAny_rule ?_)
    exact wpAny_bind (wpAny_mkStr (wpAny_pure ⟨_, rfl, hS _ _⟩) (by decide))
  | cons c cs =>
    have e1 : bx i j = (c :: cs).toArray := by unfold bx; rw [hb]
    rw [e1] at hd ⊢
    rw [dec2_eq]
    refine wpAny_bind (wpAny_mkStr ?_ (by decide))
    refine wpAny_bind (wpAny_mkStr ?_ (by decide))
    refine wpAny_bind (wpAny_mkStr ?_ (by decide))
    exact wpAny_bind (call_function_meets KBd.kind_text KBd.plain_text KBd.entry_text (KBd.args_text _ _ _ _) (KBd.meets_text hd) ⟨hz, wpAny_pure ⟨_, rfl, hS _ _⟩⟩)
end
/-- the ints of these bytes -/
def kx (i j : Nat) : List Int := List.replicate i (97 : Int) ++ (List.replicate j [(195 : Int), 169]).flatten
theorem bx_ints (i j : Nat) : KBw.bInts (bx i j) = kx i j := by
  unfold bx kx
  rw [KBw.ints_list, List.map_append, List.map_replicate]
  congr 1
  induction j with
  | zero => rfl
  | succ k ih => rw [List.replicate_succ, List.flatten_cons, List.map_append, ih, List.replicate_succ, List.flatten_cons]; rfl
theorem kx_length (i j : Nat) : (kx i j).length = i + 2 * j := by
  unfold kx
  simp; omega
theorem encode_K2 {prog : Program} {w : World} {A : Around} {E : Value → Shared → Prop} {s : Shared} {i j : Nat} {t u : Tok} (hi : i < 9) (hj : j < 9) {Q : Value → Shared → Prop} (h : ∀ t' k, KBw.bInts (bx i j) = kx i j → (kx i j).length = i + 2 * j → Q (.bytes (bx i j) t') { s with toks := k }) :
    wpAny (model prog w) A (call (.builtin "str.encode") [.str (tx i j) t, .str (Str.ofString "utf-8") u]) Q E s := encode_K hi hj fun t' k => h t' k (bx_ints i j) (kx_length i j)
section
variable {prog : Program} {w : World} {A : Around} {E : Value → Shared → Prop} {s : Shared} {t u : Tok}
theorem encode_method {M : Model} {x : Str} {pl : Sem Bool} {Q : Value × List Value → Shared → Prop} (h : Q (.builtin "str.encode", [.str x t]) s) : wpAny M A (getMethod (.str x t) (Str.ofString "encode") pl) Q E s := by
  with_reducible exact getMethod_builtin (typeIs_str s x t) PySem.F.plainAttrs_str PySem.F.slot_str_encode PySem.F.type_str_encode (fun _ e => nomatch e) h
theorem add_tx {i j : Int} (hi : 0 ≤ i) (hi2 : i < 9) (hj : 0 ≤ j) (hj2 : j < 9) {Q : Value → Shared → Prop} (h : ∀ (a b : Nat) t' k, a = i.toNat → b = j.toNat → a < 9 → b < 9 → Q (.str (tx a b) t') { s with toks := k }) :
    wpAny (model prog w) A (binaryOp .Add (.str (Txt.mul (Str.ofString "a") i) t) (.str (Txt.mul (Str.ofString "é") j) u)) Q E s := by
  have e := mul_tx hi hi2 hj hj2
  have hl : (Txt.mul (Str.ofString "a") i ++ Txt.mul (Str.ofString "é") j).length ≤ sizeLine := by rw [e]; exact tx_size (by omega) (by omega)
  rw [Str.length_append] at hl
  refine PyProof.Rows.add_str (fun t' tk => ?_) hl
  rw [e]
  exact h _ _ t' tk rfl rfl (by omega) (by omega)
end
theorem vint_oneB {b : Array UInt8} {n : Nat} (_h : KBw.bInts b = vint n) (hn : n < 128) : (vint n).length = 1 := vint_one hn
theorem bInts_inj {b c : Array UInt8} (h : KBw.bInts b = KBw.bInts c) : b = c := by
  unfold KBw.bInts at h
  apply Array.toList_inj.mp
  have inj : ∀ x y : UInt8, (x.toNat : Int) = (y.toNat : Int) → x = y := fun x y e => UInt8.toNat_inj.mp (by omega)
  exact (List.map_inj_right inj).mp h

theorem clip_in {n : Nat} {x : Int} (h0 : 0 ≤ x) (h1 : x ≤ n) : clipAt n x = x.toNat := by
  unfold clipAt
  rw [if_neg (by omega)]
  omega
theorem decode_P {prog : Program} {w : World} {A : Around} {E : Value → Shared → Prop} {s : Shared} {i j : Nat} {t u : Tok} {b : Array UInt8} (hi : i < 9) (hj : j < 9)
    (hb : KBw.bInts b = List.take (clipAt (vint (kx i j).length ++ kx i j).length (1 + ((kx i j).length : Int)) - clipAt (vint (kx i j).length ++ kx i j).length 1) (List.drop (clipAt (vint (kx i j).length ++ kx i j).length 1) (vint (kx i j).length ++ kx i j)))
    {Q : Value → Shared → Prop} (h : ∀ t' k, Q (.str (tx i j) t') { s with toks := k }) :
    wpAny (model prog w) A (call (.builtin "bytes.decode") [.bytes b t, .str (Str.ofString "utf-8") u]) Q E s := by
  have hn : (kx i j).length < 128 := by rw [kx_length]; omega
  have e1 : (vint (kx i j).length).length = 1 := vint_one hn
  have e2 : (vint (kx i j).length ++ kx i j).length = 1 + (kx i j).length := by rw [List.length_append, e1]
  rw [e2, clip_in (by omega) (by omega), clip_in (by omega) (by omega)] at hb
  have e3 : (1 + ((kx i j).length : Int)).toNat - (1 : Int).toNat = (kx i j).length := by omega
  have e4 : (1 : Int).toNat = (vint (kx i j).length).length := by rw [e1]; rfl
  rw [e3, e4, List.drop_left, List.take_length] at hb
  have e5 : b = bx i j := bInts_inj (hb.trans (bx_ints i j).symm)
  rw [e5]
  exact decode_K hi hj h
theorem tx_strOk {i j : Nat} (hi : i < 9) (hj : j < 9) : PyData.strOk (tx i j) = true := by
  rcases lt9 hi with rfl | rfl | rfl | rfl | rfl | rfl | rfl | rfl | rfl <;> rcases lt9 hj with rfl | rfl | rfl | rfl | rfl | rfl | rfl | rfl | rfl <;> decide +kernel
theorem tx_shaped {i j : Nat} {n : Int} (hi : i < 9) (hj : j < 9) : SeqAt.shaped (.tuple [.str (tx i j), .int n]) = true := by
  have h := tx_strOk hi hj
  simp [SeqAt.shaped, PyData.canLay0, PyData.canLayAll0, PyData.depth, PyData.depthAll, h]
end Mine
local macro_rules | `(tactic| walk_at "binaryOp LShift int int") => `(tactic| (k_here; (with_reducible refine lshift_int_small ?kb1 ?kb2 ?kb3 ?_); (case kb1 => omega); (case kb2 => omega); (case kb3 => (rw [bitAnd_m7]; omega))))
local macro_rules | `(tactic| walk_at "exec While Compare cons nil") => `(tactic| (k_here; (rename Fr _ _ _ _ => lF'); (rename News _ _ _ _ => lN'); (with_unfolding_all refine' Mine.nb_while lF' lN' ?k1 ?k2 ?k3 ?_; (case k1 => exact rfl); (case k2 => exact rfl); (case k3 => assumption); k_whole); (clear lF' lN'); intro m9 t9 vs9 cn9 os9 u9 h9 tk9 kI kIl kE kS kF kN; (try k_fold)))
local macro_rules | `(tactic| walk_at "exec While Constant cons nil") => `(tactic| (k_here; (rename Fr _ _ _ _ => lF'); (rename News _ _ _ _ => lN'); (with_unfolding_all refine' Mine.rn_while lF' lN' ?k1 ?k2 ?k3 ?k4 ?k5 ?k6 ?k7 ?k8 ?_; (case k1 => exact rfl); (case k2 => exact rfl); (case k3 => exact rfl); (case k4 => exact rfl); (case k5 => assumption); (case k6 => assumption); (case k7 => assumption); (case k8 => assumption); k_whole); (clear lF' lN'); intro i9 v9 q9 m9 ta9 tv9 ts9 u9 h9 tk9 kI kQ kH kF kN; (try k_fold)))
local macro_rules | `(tactic| walk_at "KswEnd") => `(tactic| (k_here; (rename Fr _ _ _ _ => lF'); (rename News _ _ _ _ => lN'); with_unfolding_all (first
  | (refine' Mine.nb_end lF' lN' ?k1 ?k2 ?k3 ?k4 ?k5; (case k1 => exact rfl); (case k2 => ksw_same); (case k3 => assumption); (case k4 => assumption); (case k5 => omega))
  | ((rename (_ ∨ _) => kH'); (rcases kH' with kH' | kH'; · (exfalso; omega)); (obtain ⟨kh1, kh2, kh3, kh4, kh5, kh6, kh7, kh8, kh9, kha⟩ := kH'); (refine' Mine.rn_end lF' lN' ?k1 ?k2 ?k3 ?k4 ?k5 ?k6 ?k7 ?k8 ?k9 ?ka ?kb; (case k1 => exact rfl); (case k2 => exact rfl); (case k3 => exact rfl); (case k4 => ksw_same); (case k5 => assumption); (case k6 => assumption); (case k7 => assumption); (case k8 => assumption); (case k9 => assumption); (case ka => assumption); (case kb => assumption))))))
local macro_rules | `(tactic| walk_at "call type:bytes") => `(tactic| (k_here; (with_reducible show wpAny _ _ (call (Value.type "bytes") [Value.ref _]) _ _ _); (rename News _ _ _ _ => lN'); (try simp only [List.push_toArray] at lN'); k_dflt (refine' KBa.make_K ?kbaF ?kbaN ?kbah ?kbal ?kbai ?kbar ?kban ?_; (case kbaF => k_asm); (case kbaN => k_asm); (case kbah => rfl); (case kbal => exact News.isList (by k_asm) (by k_mem)); (case kbai => exact Mine.nb_ints (by assumption) (by assumption) (by assumption)); (case kbar => exact Mine.vint_in _); (case kban => (refine Nat.le_trans (Mine.vint_len _).2 ?_; omega)); k_whole); intro h' t' k' F' N' kbaIn))
local macro_rules | `(tactic| walk_at "mine number_bytes") => `(tactic| (
  unfold Mine.NbC
  intro x t news hx0 hx1
  unfold Mine.Fun
  intro dp un gd cn cs a ccd cl outer A₀ base h₀ L m s Q E B F X N T hk hd hu hret
  refine wpAny_call ?_
  k_dflt cell_enter
  k_steps
  exact hret _ _ _ _ ⟨_, _, rfl, rfl, KBa.ints_make (Mine.vint_in _)⟩ (by assumption) (Mine.num_done (by assumption))))
local macro_rules | `(tactic| walk_at "mine read_number") => `(tactic| (
  unfold Mine.RnC
  intro b ks rest n a0 x tb t news hb hx hk0 hn hl
  unfold Mine.Fun
  intro dp un gd cn cs a ccd cl outer A₀ base h₀ L m s Q E B F X N T hk hd hu hret
  refine wpAny_call ?_
  k_dflt cell_enter
  k_steps
  all_goals exact Mine.rn_ret hret (by assumption) (by assumption) (by assumption) (by omega) (by omega)))
local macro_rules | `(tactic| walk_at "binaryOp Add str str") => `(tactic| (k_here; (with_reducible show wpAny _ _ (binaryOp Operator.Add (Value.str (Txt.mul _ _) _) (Value.str (Txt.mul _ _) _)) _ _ _); (k_dflt (refine' Mine.add_tx ?a ?b ?c ?d ?_; (case a => l_fact); (case b => l_fact); (case c => l_fact); (case d => l_fact); k_whole); intro i9 j9 t9 k9 e1 e2 hi9 hj9)))
local macro_rules | `(tactic| walk_at "getMethod str") => `(tactic| (k_here; (with_reducible show wpAny _ _ (getMethod (Value.str _ _) (PySem.Str.ofString "encode") _) _ _ _); k_dflt (refine Mine.encode_method ?_)))
local macro_rules | `(tactic| walk_at "call builtin:str.encode") => `(tactic| (k_here; (with_reducible show wpAny _ _ (call (Value.builtin "str.encode") [Value.str (Mine.tx _ _) _, Value.str _ _]) _ _ _); (k_dflt (refine' Mine.encode_K2 ?a ?b ?_; (case a => assumption); (case b => assumption); k_whole); intro t9 k9 hB9 hB8)))
local macro_rules | `(tactic| walk_at "call ref") => `(tactic| (k_here; (with_reducible show wpAny _ _ (call (Value.ref 58) [Value.int _ _]) _ _ _); (k_dflt ((rename Mine.NbC _ _ _ _ _ _ _ _ _ => cL); refine' Mine.Fun.use ?kC ?k1 ?k2 ?k3 ?k4 ?k5 ?kK ?kd ?ku ?_; (case k2 => k_asm); (case k4 => k_asm); (case kC => (refine' cL _ _ _ ?l1 ?l2; (case l1 => exact Int.natCast_nonneg _); (case l2 => omega))); (case k1 => k_asm); (case k3 => k_asm); (case k5 => k_asm); (case kK => first | exact rfl | assumption); (case kd => ktr_room); (case ku => ktr_units); k_whole); intro r9 news9 h9 tk9 hR F9 N9; (unfold Mine.NbOut at hR); (obtain ⟨b9, t9, e1, e2, kB9⟩ := hR); (subst e1); (subst e2); (rw [Int.toNat_natCast] at kB9); (have kL9 := Mine.vint_oneB kB9 (by omega)); (try k_sweep))))
local macro_rules | `(tactic| walk_at "call ref") => `(tactic| (k_here; (with_reducible show wpAny _ _ (call (Value.ref 65) [Value.bytes _ _, Value.int 0 _]) _ _ _); ((rename (KBw.bInts _ = Mine.vint _ ++ Mine.kx _ _) => kB8); k_dflt ((rename Mine.RnC _ _ _ _ _ _ _ _ _ => cL); refine' Mine.Fun.use ?kC ?k1 ?k2 ?k3 ?k4 ?k5 ?kK ?kd ?ku ?_; (case k2 => k_asm); (case k4 => k_asm); (case kC => (refine' cL _ _ _ _ 0 _ _ _ _ ?l1 ?l2 ?l3 ?l4 ?l5; (case l1 => exact kB8); (case l2 => exact rfl); (case l3 => exact rfl); (case l4 => omega); (case l5 => (rw [List.length_append]; omega)))); (case k1 => k_asm); (case k3 => k_asm); (case k5 => k_asm); (case kK => first | exact rfl | assumption); (case kd => ktr_room); (case ku => ktr_units); k_whole); intro r9 news9 h9 tk9 hR F9 N9; (unfold Mine.RnOut at hR); (obtain ⟨T9, x9, y9, t1, t2, e1, e2, l9, e3, e4⟩ := hR); (subst e1); (subst e2); (subst e3); (have e5 : y9 = 1 := by omega); (subst e5); (try k_sweep))))
local macro_rules | `(tactic| walk_at "call builtin:bytes.decode") => `(tactic| (k_here; (with_reducible show wpAny _ _ (call (Value.builtin "bytes.decode") [Value.bytes _ _, Value.str _ _]) _ _ _); ((rename (KBw.bInts (KBy.picked _ _ _) = _) => kP9); k_dflt (refine' Mine.decode_P ?a ?b kP9 ?_; (case a => assumption); (case b => assumption); k_whole); intro t9 k9)))
local macro_rules | `(tactic| walk_at "compareOp Eq ref ref") => `(tactic| (k_here; (with_reducible show wpAny _ _ (compareOp CmpOp.Eq (Value.ref _) (Value.ref _)) _ _ _); (k_dflt (refine' eq_dataH ?a ?b ?c ?d ?e ?_; (case a => ke_read); (case b => ke_read); (case c => exact Mine.tx_shaped (by assumption) (by assumption)); (case d => exact Mine.tx_shaped (by assumption) (by assumption)); (case e => ke_room); k_whole); ke_norm)))
set_option maxRecDepth 100000 in
set_option maxHeartbeats 8000000 in
theorem PySem.Challenge.cw_ui0507_09_holds : PySem.Challenge.rw_ui0507_09.Holds := by
  (w_on; o_law; k_head; (case hw => w_witness2))
  w_strict (k_go0; (all_goals try k_fold); (refine Mine.bring (Mine.NbC 58) (by assumption) (by assumption) ?ctr ?_); (case ctr => (law_clear; walk_at "mine number_bytes")); intro cN; (refine Mine.bring (Mine.RnC 65) (by assumption) (by assumption) ?ctr ?_); (case ctr => (law_clear; walk_at "mine read_number")); intro cR; k_steps; (all_goals (try k_data)); all_goals w_report)
