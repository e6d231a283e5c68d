import PyProof.Rows.All
import Wide.All
import OpenK.AllK
import Wide.FinOn
import PySem.Challenge.RW_ui0507_11
open PySem PySem.W PyProof.Rows PySem.Spec PySem.Calls
set_option Elab.async false
set_option compiler.extract_closed false
set_option genSizeOf false
set_option genInjectivity false
namespace Mine
/-- what a def does, wherever it is called: from the ledger news and the arguments vs it comes back with r and the ledger news' that R tells -/
def Fun (prog : Program) (w : World) (K : Frag) (p : Program) (loose : List Str) (mean : ExcName → Option Value) (mg mb : Str → Option Value) (k : Nat) (f : Addr) (vs : List Value) (news : List (Addr × Obj)) (R : Value → List (Addr × Obj) → Prop) : Prop :=
  ∀ (dp un : Nat) (gd : Option (List Code)) (cn : Str) (cs : Scope) (a : Addr) (ccd : Value) (cl : List (Str × Addr)) (outer : List Env) (A₀ : Around) (base h₀ : Heap) (L : Addr) (m : Str → Option Value) (s : Shared) (Q E : Value → Shared → Prop),
    Below A₀ base outer h₀ → Fr h₀ L s.heap m → K.In h₀ → News h₀ L s.heap news → Top p loose mean mg mb h₀ → cs.kind = .function → dp + k < recursionLimit → un + 8 * k < cLine →
    (∀ r news' h' tk', R r news' → Fr h₀ L h' m → News h₀ L h' news' → Q r { s with heap := h', toks := tk' }) →
    wpAny (model prog w) (ktrTop dp un gd cn cs L a ccd cl outer) (call (.ref f) vs) Q E s
theorem bring {α : Type} {prog : Program} {w : World} {A : Around} {tree : Sem α} {Q : α → Shared → Prop} {E : Value → Shared → Prop} {s : Shared} {K : Frag} {h₀ : Heap} {p : Program} {loose : List Str} {mean : ExcName → Option Value} {mg mb : Str → Option Value}
    (C : Program → World → Frag → Program → List Str → (ExcName → Option Value) → (Str → Option Value) → (Str → Option Value) → Prop) (_X : K.In h₀) (_T : Top p loose mean mg mb h₀) (ctr : C prog w K p loose mean mg mb) (h : C prog w K p loose mean mg mb → wpAny (model prog w) A tree Q E s) : wpAny (model prog w) A tree Q E s := h ctr
section
variable {prog : Program} {w : World} {A : Around} {E : Value → Shared → Prop} {s : Shared} {env : Env} {h₀ : Heap} {target : Expr} {body : List Stmt} {Q : Flow → Shared → Prop}
/-- a for over a list of the ledger's, its target whatever it is -/
theorem turns_list {l : Addr} {vs : List Value} {nn : Nat} {m₀ : Str → Option Value} {news : List (Addr × Obj)} (J : Nat → (Str → Option Value) → List (Addr × Obj) → Prop)
    (hh : A.handled = none) (hl : (l, listOf vs.toArray nn) ∈ news) (F : Fr h₀ env.locals s.heap m₀) (N : News h₀ env.locals s.heap news) (hj : J 0 m₀ news) (hJl : ∀ i m nx, J i m nx → (l, listOf vs.toArray nn) ∈ nx)
    (turn : ∀ i v m₁ news₁ h tk own, vs[i]? = some v → OwnOff own (news₁.map (·.1)) → J i m₁ news₁ → Fr h₀ env.locals h m₁ → News h₀ env.locals h (news₁ ++ own) →
      wpAny (model prog w) A (assign target env v) (fun _ s₃ => wpAny (model prog w) A (execs body env) (InvPostG h₀ env.locals (J (i + 1)) own { s with heap := h, toks := tk } Q) E s₃) E { s with heap := h, toks := tk })
    (done : ∀ m₁ news₁ h tk, J vs.length m₁ news₁ → Fr h₀ env.locals h m₁ → News h₀ env.locals h news₁ → Q .next { s with heap := h, toks := tk }) :
    wpAny (model prog w) A (pyIter (.ref l)) (fun it s₂ => TurnsAt prog w A h₀ env target body Q E it s₂) E s := by
  have hol : s.heap.get? l = some (listOf vs.toArray nn) := (N _ hl).1
  have hls : s.heap.IsList l vs.toArray := ⟨_, hol, rfl, nn, rfl⟩
  have hne : l ≠ s.heap.objs.size := Nat.ne_of_lt (Heap.lt_size hol)
  refine wpAny_pyIter_list hls ?_
  have W := Walks.list (prog := prog) (w := w) hh s.heap.objs.size l hne vs.toArray
  have hlen : vs.toArray.size = vs.length := by simp
  rw [hlen] at W
  refine ⟨_, _, _, vs.length, _, _, _, m₀, news, J, rfl, KTurns.ofWalks W fun i v s Q E st q => letGo_listiter st.1 q, ?_, ?_, ?_, ⟨⟨_, Heap.get?_push_size _ rfl, rfl, rfl⟩, hls.at fun o e => Heap.get?_push_of_some _ e⟩, F.push _, (fun p hp => ⟨Heap.get?_push_of_some _ (N p hp).1, (N p hp).2⟩), hj, ?_, ?_⟩
  · intro hm
    rcases List.mem_cons.mp hm with e | hm
    · exact absurd F.ns.lt (e ▸ Nat.lt_irrefl _)
    · exact (N _ hl).2.1 ((List.mem_singleton.mp hm).symm)
  · intro b hb
    rw [List.mem_singleton.mp hb]
    exact next_is_new F
  · intro p hp hI
    exact absurd (Heap.lt_size (N p hp).1) ((List.mem_singleton.mp hI) ▸ Nat.lt_irrefl _)
  · intro i v m₁ news₁ hh' tk' own hin hP hJ hoff hown hget hfp hst F₁ N₁
    have hl₁ := hJl _ _ _ hJ
    have hP' : vs[i]? = some v := by simpa using hP
    have hI0 : h₀.get? s.heap.objs.size = none := next_is_new F
    obtain ⟨⟨oI, hoI, _⟩, _⟩ := id hst
    have hIown : (s.heap.objs.size, oI) ∈ own.filter fun p => decide (p.1 = s.heap.objs.size) := List.mem_filter.mpr ⟨hfp _ (List.mem_cons.mpr (.inl rfl)) hI0 _ hoI, by simp⟩
    have hsep : OwnOff (own.filter fun p => decide (p.1 = s.heap.objs.size)) (news₁.map (·.1)) := by
      intro p hp b hb e
      obtain ⟨q, hq, rfl⟩ := List.mem_map.mp hb
      have h1 : p.1 = s.heap.objs.size := by simpa using (List.mem_filter.mp hp).2
      exact hoff q hq (List.mem_singleton.mpr (e ▸ h1))
    have N₂ : News h₀ env.locals hh' (news₁ ++ own.filter fun p => decide (p.1 = s.heap.objs.size)) := fun p hp => N₁ p ((List.mem_append.mp hp).elim (fun h => List.mem_append.mpr (.inr h)) fun h => List.mem_append.mpr (.inl ((List.mem_filter.mp h).1)))
    have hlo : hh'.get? l = some (listOf vs.toArray nn) := (N₁ _ (List.mem_append.mpr (.inr hl₁))).1
    refine wpAny_mono (turn i v m₁ news₁ hh' tk' _ hP' hsep hJ F₁ N₂) (fun _ s₃ p3 => wpAny_mono p3 (fun f s₂ p => ?_) fun _ _ e => e) fun _ _ e => e
    have fin : InvEndG h₀ env.locals (J (i + 1)) (own.filter fun p => decide (p.1 = s.heap.objs.size)) { s with heap := hh', toks := tk' } s₂ →
        LoopStepU h₀ env.locals [s.heap.objs.size] own (J (i + 1)) { s with heap := hh', toks := tk' } .next s₂ := by
      rintro ⟨h', tk, m', news', nx, e, F', N', hn, ho, ha, hm⟩
      refine ⟨rfl, h', tk, m', nx, e, F', fun p hp => ?_, fun p hp hq => ?_, hm⟩
      · rcases List.mem_append.mp hp with h | h
        · by_cases hI : p.1 = s.heap.objs.size
          · exact N' p (ho p (List.mem_filter.mpr ⟨h, by simpa using hI⟩))
          · have h1 : p.1 = l := by
              rcases List.mem_cons.mp (hown p h) with h2 | h2
              · exact absurd h2 hI
              · exact List.mem_singleton.mp h2
            have h2 : hh'.get? p.1 = some p.2 := hget p h
            rw [h1, hlo] at h2
            have h3 : p = (l, listOf vs.toArray nn) := Prod.ext h1 (Option.some.inj h2).symm
            rw [h3]
            exact N' _ (hn _ (hJl _ _ _ hm))
        · exact N' p (hn p h)
      · exact ha _ hIown p.1 (List.mem_map.mpr ⟨p, hp, rfl⟩) (List.mem_singleton.mp hq).symm
    cases f with
    | ret v => exact p
    | brk => exact p
    | next => exact fin p
    | cont => exact fin p
  · rintro h' tk m' news' F' N' _ hJ
    exact done m' news' h' tk hJ F' N'
end
section
variable {prog : Program} {w : World} {K : Frag} {p : Program} {loose : List Str} {mean : ExcName → Option Value} {mg mb : Str → Option Value} {k : Nat} {f : Addr} {vs : List Value} {news : List (Addr × Obj)} {R : Value → List (Addr × Obj) → Prop}
theorem Fun.use {dp un : Nat} {gd : Option (List Code)} {cn : Str} {cs : Scope} {a : Addr} {ccd : Value} {cl : List (Str × Addr)} {outer : List Env} {A₀ : Around} {base h₀ : Heap} {L : Addr} {m : Str → Option Value} {s : Shared} {Q E : Value → Shared → Prop}
    (C : Fun prog w K p loose mean mg mb k f vs news R) (B : Below A₀ base outer h₀) (F : Fr h₀ L s.heap m) (X : K.In h₀) (N : News h₀ L s.heap news) (T : Top p loose mean mg mb h₀) (hk : cs.kind = .function) (hd : dp + k < recursionLimit) (hu : un + 8 * k < cLine)
    (ret : ∀ r news' h' tk', R r news' → Fr h₀ L h' m → News h₀ L h' news' → Q r { s with heap := h', toks := tk' }) :
    wpAny (model prog w) (ktrTop dp un gd cn cs L a ccd cl outer) (call (.ref f) vs) Q E s := C _ _ _ _ _ _ _ _ _ _ _ _ _ _ _ _ _ B F X N T hk hd hu ret
end
/-- the ledger with o at O -/
def put (O : Addr) (o : Obj) (news : List (Addr × Obj)) : List (Addr × Obj) := news.map fun p => if p.1 = O then (O, o) else p
theorem put_nil {O : Addr} {o : Obj} : put O o [] = [] := rfl
theorem put_hit {O : Addr} {o o' : Obj} {r : List (Addr × Obj)} : put O o ((O, o') :: r) = (O, o) :: put O o r := by simp [put]
theorem put_miss {O : Addr} {o : Obj} {q : Addr × Obj} {r : List (Addr × Obj)} (h : q.1 ≠ O) : put O o (q :: r) = q :: put O o r := by simp [put, h]
theorem put_off {O : Addr} {o : Obj} {r : List (Addr × Obj)} (h : ∀ q ∈ r, q.1 ≠ O) : put O o r = r := by
  induction r with
  | nil => rfl
  | cons q r ih => rw [put_miss (h q (.head _)), ih fun x hx => h x (.tail _ hx)]
theorem mem_put {O : Addr} {o : Obj} {news : List (Addr × Obj)} {q : Addr × Obj} (h : q ∈ put O o news) : q = (O, o) ∨ (q.1 ≠ O ∧ q ∈ news) := by
  obtain ⟨x, hx, rfl⟩ := List.mem_map.mp h
  by_cases e : x.1 = O
  · rw [if_pos e]; exact .inl rfl
  · rw [if_neg e]; exact .inr ⟨e, hx⟩
section
variable {prog : Program} {w : World} {A : Around} {E : Value → Shared → Prop} {s : Shared} {h₀ : Heap} {L D b : Addr} {m : Str → Option Value} {news : List (Addr × Obj)} {its its2 : Array Value} {n n2 : Nat}
/-- extend by a list of the ledger's -/
theorem extend_U {g : Obj → List (Addr × Obj)} {Q : Value → Shared → Prop} (F : Fr h₀ L s.heap m) (N : News h₀ L s.heap news) (hb : (b, listOf its2 n2) ∈ news) (U : UpdF D (listOf its n) news g) (hz : its.size + its2.size ≤ sizeLine)
    (h : ∀ h' n', Fr h₀ L h' m → News h₀ L h' (g (listOf (its ++ its2) n')) → Q .none { s with heap := h' }) : wpAny (model prog w) A (call (.builtin "list.extend") [.ref D, .ref b]) Q E s := by
  obtain ⟨pre, post, rfl, hg, a, c⟩ := U.split
  obtain ⟨ys, rfl⟩ : ∃ ys : List Value, its = ys.toArray := ⟨its.toList, by rw [Array.toArray_toList]⟩
  refine extend_in F N a c (N _ hb).1 (fun h' n' F' N' => h h' n' F' ?_) (by rw [List.size_toArray] at hz; exact hz)
  rw [hg]
  have e : ys.toArray ++ its2 = (ys ++ its2.toList).toArray := by simp
  rw [e]
  exact N'
end
theorem off_lt {l : List (Addr × Obj)} {D : Addr} (h : ∀ p ∈ l, p.1 < D) : ∀ p ∈ l, p.1 ≠ D := fun p hp => Nat.ne_of_lt (h p hp)
theorem off_gt {l : List (Addr × Obj)} {D : Addr} (h : ∀ p ∈ l, D < p.1) : ∀ p ∈ l, p.1 ≠ D := fun p hp => Nat.ne_of_gt (h p hp)
/-- what holds ahead of turn i of a for -/
def RgJ {σ : Type} (Led : σ → List (Addr × Obj)) (ps : σ → List (Str × Value)) (x : Str) (stored : List Str) (m₀ : Str → Option Value) (P : Nat → σ → Prop) (i : Nat) (m : Str → Option Value) (nx : List (Addr × Obj)) : Prop :=
  ∃ c, nx = Led c ∧ P i c ∧ (∀ p ∈ ps c, m p.1 = some p.2) ∧ (∀ z, z ≠ x → (∀ p ∈ ps c, z ≠ p.1) → stored.contains z = false → m z = m₀ z)
theorem rg_end {σ : Type} {Led : σ → List (Addr × Obj)} {ps : σ → List (Str × Value)} {x : Str} {stored : List Str} {m₀ m' : Str → Option Value} {P : Nat → σ → Prop} {i : Nat} {h₀ h' : Heap} {L : Addr} {own news' : List (Addr × Obj)} {s₁ : Shared} {tk : Nat} (c' : σ)
    (F : Fr h₀ L h' m') (N : News h₀ L h' news') (hn : ∀ p ∈ Led c', p ∈ news') (ho : ∀ p ∈ own, p ∈ news') (ha : ∀ p ∈ own, ∀ q ∈ Led c', p.1 ≠ q.1) (hk : ∀ p ∈ ps c', m' p.1 = some p.2) (hr : ∀ z, z ≠ x → (∀ p ∈ ps c', z ≠ p.1) → stored.contains z = false → m' z = m₀ z) (hp : P i c') :
    InvEndG h₀ L (RgJ Led ps x stored m₀ P i) own s₁ { s₁ with heap := h', toks := tk } :=
  InvEndG.intro F N ⟨c', rfl, hp, hk, hr⟩ (fun p hp b hb => by obtain ⟨q, hq, rfl⟩ := List.mem_map.mp hb; exact ha p hp q hq) hn ho
section
variable {prog : Program} {w : World} {A : Around} {E : Value → Shared → Prop} {s : Shared} {env : Env} {h₀ : Heap} {x : Str} {body : List Stmt} {Q : Flow → Shared → Prop}
/-- a for over a range -/
theorem rg_for {σ : Type} {r : Addr} {a₀ b₀ : Int} {t₀ u₀ v₀ : Tok} {n : Nat} {m₀ : Str → Option Value} {news : List (Addr × Obj)} (Led : σ → List (Addr × Obj)) (ps : σ → List (Str × Value)) (stored : List Str) (P : Nat → σ → Prop) (c₀ : σ)
    (hh : A.handled = none) (hr : IsRange s.heap r a₀ b₀ 1 t₀ u₀ v₀) (hsmall : Builtin.Range.small a₀ b₀ 1 = true) (hsz : Builtin.Range.rangeSize a₀ b₀ 1 = (n : Int)) (F : Fr h₀ env.locals s.heap m₀) (N : News h₀ env.locals s.heap news) (hn : ∀ p ∈ Led c₀, p ∈ news) (hk : ∀ p ∈ ps c₀, m₀ p.1 = some p.2) (hp : P 0 c₀)
    (turn : ∀ (c : σ) (i : Nat) t (u : Str → Option Value) h tk own, i < n → P i c → (∀ p ∈ own, ∀ q ∈ Led c, p.1 ≠ q.1) →
      Fr h₀ env.locals h (fun y => if y = x then some (.int (a₀ + i) t) else kstB (fun z => if stored.contains z then u z else m₀ z) (ps c) y) → News h₀ env.locals h (Led c ++ own) →
      wpAny (model prog w) A (execs body env) (InvPostG h₀ env.locals (RgJ Led ps x stored m₀ P (i + 1)) own { s with heap := h, toks := tk } Q) E { s with heap := h, toks := tk })
    (done : ∀ (c : σ) (u : Str → Option Value) h tk, P n c → Fr h₀ env.locals h (fun y => if y = x then u y else kstB (fun z => if stored.contains z then u z else m₀ z) (ps c) y) → News h₀ env.locals h (Led c) → Q .next { s with heap := h, toks := tk }) :
    wpAny (model prog w) A (pyIter (.ref r)) (fun it s₂ => LoopAtV prog w A h₀ env x body Q E it s₂) E s := by
  refine wpAny_pyIter_range hr hsmall ?_
  have W : Walks prog w A s.heap.objs.size [s.heap.objs.size] [s.heap.objs.size] n (fun i v => i < n ∧ ∃ t, v = .int (a₀ + i * 1) t)
      (fun i h => IsRangeIter h s.heap.objs.size (a₀ + (i : Nat) * 1) ((n : Int) - (i : Nat)) 1) := (Walks.range hh _ a₀ 1 n).bound
  refine kdr_loop (RgJ Led ps x stored m₀ P) W (fun _ h => h) (fun _ h => h) ?_ ?_ ?_ ?_ (by show IsRangeIter _ _ _ _ _; rw [hsz]; simpa using Heap.get?_push_size _ rfl) (F.push _) (fun p hp => ⟨Heap.get?_push_of_some _ (N p (hn p hp)).1, (N p (hn p hp)).2⟩) ⟨c₀, rfl, hp, hk, fun _ _ _ _ => rfl⟩ ?_ ?_
  · intro i h hi b hb
    rw [List.mem_singleton.mp hb]
    exact ⟨_, hi⟩
  · intro hm
    exact absurd F.ns.lt ((List.mem_singleton.mp hm) ▸ Nat.lt_irrefl _)
  · intro b hb
    rw [List.mem_singleton.mp hb]
    exact next_is_new F
  · intro p hp hI
    exact absurd (Heap.lt_size (N p (hn p hp)).1) ((List.mem_singleton.mp hI) ▸ Nat.lt_irrefl _)
  · rintro i v m₁ nx h tk own hi ⟨_, t, rfl⟩ hoff ⟨c, rfl, hp', h1, h2⟩ F₁ N₁
    have e1 : a₀ + (i : Int) * 1 = a₀ + (i : Int) := by omega
    rw [e1] at F₁
    exact turn c i t m₁ h tk own hi hp' (fun p hp q hq => hoff p hp q.1 (List.mem_map.mpr ⟨q, hq, rfl⟩)) (kst_fr h1 h2 F₁) N₁
  · rintro m₁ nx h tk ⟨c, rfl, hp', h1, h2⟩ F₁ N₁
    exact done c m₁ h tk hp' (kst_frOut h1 h2 F₁) N₁
/-- a for over a list of the ledger's, by a name -/
theorem ls_for {σ : Type} {l : Addr} {vs : List Value} {nn : Nat} {m₀ : Str → Option Value} {news : List (Addr × Obj)} (Led : σ → List (Addr × Obj)) (ps : σ → List (Str × Value)) (stored : List Str) (P : Nat → σ → Prop) (c₀ : σ)
    (hh : A.handled = none) (hl : (l, listOf vs.toArray nn) ∈ news) (hlL : ∀ c, (l, listOf vs.toArray nn) ∈ Led c) (F : Fr h₀ env.locals s.heap m₀) (N : News h₀ env.locals s.heap news) (hn : ∀ p ∈ Led c₀, p ∈ news) (hk : ∀ p ∈ ps c₀, m₀ p.1 = some p.2) (hp : P 0 c₀)
    (turn : ∀ (c : σ) (i : Nat) v (u : Str → Option Value) h tk own, vs[i]? = some v → P i c → (∀ p ∈ own, ∀ q ∈ Led c, p.1 ≠ q.1) →
      Fr h₀ env.locals h (fun y => if y = x then some v else kstB (fun z => if stored.contains z then u z else m₀ z) (ps c) y) → News h₀ env.locals h (Led c ++ own) →
      wpAny (model prog w) A (execs body env) (InvPostG h₀ env.locals (fun m' nx => (l, listOf vs.toArray nn) ∈ nx ∧ RgJ Led ps x stored m₀ P (i + 1) m' nx) own { s with heap := h, toks := tk } Q) E { s with heap := h, toks := tk })
    (done : ∀ (c : σ) (u : Str → Option Value) h tk, P vs.length c → Fr h₀ env.locals h (fun y => if y = x then u y else kstB (fun z => if stored.contains z then u z else m₀ z) (ps c) y) → News h₀ env.locals h (Led c) → Q .next { s with heap := h, toks := tk }) :
    wpAny (model prog w) A (pyIter (.ref l)) (fun it s₂ => LoopAtV prog w A h₀ env x body Q E it s₂) E s := by
  refine kdl_iter (RgJ Led ps x stored m₀ P) hh (hlL c₀) F (fun p hp => N p (hn p hp)) ⟨c₀, rfl, hp, hk, fun _ _ _ _ => rfl⟩ ?_ ?_
  · rintro i v m₁ nx h tk own hi hoff hm ⟨c, rfl, hp', h1, h2⟩ F₁ N₁
    exact turn c i v m₁ h tk own hi hp' (fun p hp q hq => hoff p hp q.1 (List.mem_map.mpr ⟨q, hq, rfl⟩)) (kst_fr h1 h2 F₁) N₁
  · rintro m₁ nx h tk ⟨c, rfl, hp', h1, h2⟩ F₁ N₁
    exact done c m₁ h tk hp' (kst_frOut h1 h2 F₁) N₁
theorem ls_end {σ : Type} {Led : σ → List (Addr × Obj)} {ps : σ → List (Str × Value)} {x : Str} {stored : List Str} {m₀ m' : Str → Option Value} {P : Nat → σ → Prop} {i : Nat} {h' : Heap} {L l : Addr} {ol : Obj} {own news' : List (Addr × Obj)} {s₁ : Shared} {tk : Nat} (c' : σ)
    (F : Fr h₀ L h' m') (N : News h₀ L h' news') (hn : ∀ p ∈ Led c', p ∈ news') (ho : ∀ p ∈ own, p ∈ news') (hl : (l, ol) ∈ Led c') (ha : ∀ p ∈ own, ∀ q ∈ Led c', p.1 ≠ q.1) (hk : ∀ p ∈ ps c', m' p.1 = some p.2) (hr : ∀ z, z ≠ x → (∀ p ∈ ps c', z ≠ p.1) → stored.contains z = false → m' z = m₀ z) (hp : P i c') :
    InvEndG h₀ L (fun m' nx => (l, ol) ∈ nx ∧ RgJ Led ps x stored m₀ P i m' nx) own s₁ { s₁ with heap := h', toks := tk } :=
  InvEndG.intro F N ⟨hl, c', rfl, hp, hk, hr⟩ (fun p hp b hb => by obtain ⟨q, hq, rfl⟩ := List.mem_map.mp hb; exact ha p hp q hq) hn ho
end
/-- an object of the ledger's is set anew -/
theorem news_put {h₀ h h' : Heap} {L D : Addr} {o o' : Obj} {news : List (Addr × Obj)} (N : News h₀ L h news) (hm : (D, o) ∈ news) (hs : Heap.SameBut D h h') (ho : h'.get? D = some o') : News h₀ L h' (put D o' news) := by
  intro q hq
  rcases mem_put hq with rfl | ⟨hne, hq⟩
  · exact ⟨ho, (N _ hm).2.1, (N _ hm).2.2⟩
  · exact ⟨(hs.2 _ hne).trans (N q hq).1, (N q hq).2⟩
theorem intsAre_at : ∀ {vs : List Value} {ns : List Int} {i : Nat} {v : Value}, IntsAre vs ns → vs[i]? = some v → ∃ (n : Int) (t : Tok), v = .int n t ∧ ns[i]? = some n
  | [], _, _, _, _, e => by simp at e
  | u :: vs, ns, i, v, h, e => by
    cases h with
    | cons n t h =>
      cases i with
      | zero =>
        simp only [List.getElem?_cons_zero, Option.some.injEq] at e
        exact ⟨n, t, e.symm, rfl⟩
      | succ i => simpa using intsAre_at h (by simpa using e)
/-- what holds ahead of turn i of a for whose target is a tuple -/
def RtJ {σ : Type} (Led : σ → List (Addr × Obj)) (ps : σ → List (Str × Value)) (stored : List Str) (m₀ : Str → Option Value) (P : Nat → σ → Prop) (i : Nat) (m : Str → Option Value) (nx : List (Addr × Obj)) : Prop :=
  ∃ c, nx = Led c ∧ P i c ∧ (∀ p ∈ ps c, m p.1 = some p.2) ∧ (∀ z, (∀ p ∈ ps c, z ≠ p.1) → stored.contains z = false → m z = m₀ z)
theorem rt_end {σ : Type} {Led : σ → List (Addr × Obj)} {ps : σ → List (Str × Value)} {stored : List Str} {m₀ m' : Str → Option Value} {P : Nat → σ → Prop} {i : Nat} {h₀ h' : Heap} {L : Addr} {own news' : List (Addr × Obj)} {s₁ : Shared} {tk : Nat} (c' : σ)
    (F : Fr h₀ L h' m') (N : News h₀ L h' news') (hn : ∀ p ∈ Led c', p ∈ news') (ho : ∀ p ∈ own, p ∈ news') (ha : ∀ p ∈ own, ∀ q ∈ Led c', p.1 ≠ q.1) (hk : ∀ p ∈ ps c', m' p.1 = some p.2) (hr : ∀ z, (∀ p ∈ ps c', z ≠ p.1) → stored.contains z = false → m' z = m₀ z) (hp : P i c') :
    InvEndG h₀ L (RtJ Led ps stored m₀ P i) own s₁ { s₁ with heap := h', toks := tk } :=
  InvEndG.intro F N ⟨c', rfl, hp, hk, hr⟩ (fun p hp b hb => by obtain ⟨q, hq, rfl⟩ := List.mem_map.mp hb; exact ha p hp q hq) hn ho
theorem datIn_int {led : List (Addr × Obj)} {v : Value} {b : Int} (h : DatIn led v (.int b)) : ∃ t, v = .int b t := by
  cases h with
  | int _ t => exact ⟨t, rfl⟩
theorem datIn_tup {led : List (Addr × Obj)} {v : Value} {ds : List Dat} (h : DatIn led v (.tuple ds)) : ∃ a vs n, v = .ref a ∧ (a, ({ cls := .type "tuple", data := .seq vs.toArray n } : Obj)) ∈ led ∧ DatAll led vs ds := by
  cases h with
  | tuple hm ha => exact ⟨_, _, _, rfl, hm, ha⟩
theorem datAll_cons {led : List (Addr × Obj)} {vs : List Value} {d : Dat} {ds : List Dat} (h : DatAll led vs (d :: ds)) : ∃ v r, vs = v :: r ∧ DatIn led v d ∧ DatAll led r ds := by
  cases h with
  | cons a b => exact ⟨_, _, rfl, a, b⟩
theorem allLt_mem {d : Addr} : ∀ {l : List (Addr × Obj)}, AllLt d l → ∀ p ∈ l, p.1 < d
  | [], _, _, hp => (nomatch hp)
  | q :: r, h, p, hp => by
    rcases List.mem_cons.mp hp with rfl | hp
    · exact h.1
    · exact allLt_mem h.2 p hp
theorem upd_app {D : Addr} {o o' : Obj} {l l' : List (Addr × Obj)} : ∀ {tl : List (Addr × Obj)}, (∀ p ∈ tl, p.1 ≠ D) → Upd D o o' l l' → Upd D o o' (tl ++ l) (tl ++ l')
  | [], _, u => u
  | p :: tl, h, u => .tail (h p (.head _)) (upd_app (fun q hq => h q (.tail _ hq)) u)
theorem off_kL {D : Addr} {o : Obj} {r tl : List (Addr × Obj)} (h : ∀ q ∈ (D, o) :: r, ∀ p ∈ tl, q.1 < p.1) : ∀ p ∈ tl, p.1 ≠ D := fun p hp => Nat.ne_of_gt (h _ (.head _) p hp)
theorem ltNat {a b : Nat} (h : a < b) : @LT.lt Nat instLTNat a b := h
theorem off_allLt {D : Nat} : ∀ {l : List (Addr × Obj)}, AllLt D l → ∀ p ∈ l, p.1 ≠ D
  | [], _, _, hp => (nomatch hp)
  | q :: r, h, p, hp => by
    rcases List.mem_cons.mp hp with rfl | hp
    · exact Nat.ne_of_lt h.1
    · exact off_allLt h.2 p hp
theorem pick_perm {α : Type} {p : List Nat} {l : List α} (z : α) (h : p.Perm (List.range l.length)) : (p.map fun i => l.getD i z).Perm l := by
  have e : ((List.range l.length).map fun i => l.getD i z) = l := by
    apply List.ext_getElem
    · simp
    · intro i h1 h2
      simp [List.getD, List.getElem?_eq_getElem h2]
  have := h.map fun i => l.getD i z
  rw [e] at this
  exact this
theorem lt_all2 {D l : Nat} {o : Obj} {news : List (Addr × Obj)} (h : l < D ∧ AllLt D news) : ∀ q ∈ ((l, o) :: news : List (Addr × Obj)), q.1 < (D : Addr) := by
  intro q hq
  rcases List.mem_cons.mp hq with rfl | hq
  · exact h.1
  · exact allLt_mem h.2 q hq
section
variable {prog : Program} {w : World} {A : Around} {E : Value → Shared → Prop} {s : Shared} {h₀ : Heap} {L R : Addr} {m : Str → Option Value} {news : List (Addr × Obj)} {vs : List Value} {ns : List Int} {n : Nat}
/-- len, an item of a list of ints whose ledger is not written out -/
theorem len_at {Q : Value → Shared → Prop} (N : News h₀ L s.heap news) (hm : (R, listOf vs.toArray n) ∈ news) (hv : IntsAre vs ns) (hz : ns.length ≤ 1000000) (h : ∀ t k, Q (.int (ns.length : Nat) t) { s with toks := k }) : wpAny (model prog w) A (call (.builtin "len") [.ref R]) Q E s := by
  have hl : s.heap.IsList R vs.toArray := PySem.IsL.isList (n := n) (N _ hm).1
  have e : vs.toArray.size = ns.length := by rw [List.size_toArray, hv.length]
  refine len_list hl (by rw [e]; omega) ?_
  rw [e]
  exact h _ _
theorem len_any {Q : Value → Shared → Prop} (N : News h₀ L s.heap news) (hm : (R, listOf vs.toArray n) ∈ news) {k : Nat} (hk : vs.length = k) (hz : k ≤ 1000000) (h : ∀ t k', Q (.int (k : Nat) t) { s with toks := k' }) : wpAny (model prog w) A (call (.builtin "len") [.ref R]) Q E s := by
  have hl : s.heap.IsList R vs.toArray := PySem.IsL.isList (n := n) (N _ hm).1
  have e : vs.toArray.size = k := by rw [List.size_toArray, hk]
  refine len_list hl (by rw [e]; omega) ?_
  rw [e]
  exact h _ _
theorem item_at {value slice : Expr} {k : Int} {u : Tok} {Q : Value → Shared → Prop} (N : News h₀ L s.heap news) (hm : (R, listOf vs.toArray n) ∈ news) (hv : IntsAre vs ns) (h0 : 0 ≤ k) (h1 : k < ns.length) (h2 : ns.length ≤ 1000000) (h : ∀ t, Q (.int (ns.getD k.toNat 0) t) s)
    (hs : subscripted slice false (.ref R) (.int k u) = operate [.ref R, .int k u] (getItem (.ref R) (.int k u)) := by with_unfolding_all rfl) (hg : ∀ r, letTemporaryGo value (.ref R) r = pure () := by intro _; with_unfolding_all rfl) :
    wpAny (model prog w) A (subscriptTail value slice (.ref R) (.int k u)) Q E s := by
  have hl : s.heap.IsList R vs.toArray := PySem.IsL.isList (n := n) (N _ hm).1
  have hlt : k.toNat < vs.length := by rw [hv.length]; omega
  obtain ⟨x, t, e, hx⟩ := intsAre_at hv (List.getElem?_eq_getElem hlt)
  refine item_list hl h0 (by omega) (x := vs[k.toNat]) (by simp [hlt]) ?_ hs hg
  rw [e]
  have ex : ns.getD k.toNat 0 = x := by rw [List.getD, hx]; rfl
  rw [← ex]
  exact h t
end
/-- a sort's tree: every question is of two places, every end is well -/
def KasAll {α : Type} (N : Nat) (P : α → Prop) : KasT α → Prop
  | .ret a => P a
  | .ask i j k => i < N ∧ j < N ∧ i ≠ j ∧ ∀ b, KasAll N P (k b)
theorem KasAll.bind {α β : Type} {N : Nat} {P : α → Prop} {R : β → Prop} {f : α → KasT β} (g : ∀ a, P a → KasAll N R (f a)) : ∀ (t : KasT α), KasAll N P t → KasAll N R (t.bind f)
  | .ret a, h => g a h
  | .ask _ _ k, h => ⟨h.1, h.2.1, h.2.2.1, fun b => KasAll.bind g (k b) (h.2.2.2 b)⟩
theorem KasAll.mono {α : Type} {N : Nat} {P P' : α → Prop} (g : ∀ a, P a → P' a) : ∀ (t : KasT α), KasAll N P t → KasAll N P' t
  | .ret a, h => g a h
  | .ask _ _ k, h => ⟨h.1, h.2.1, h.2.2.1, fun b => KasAll.mono g (k b) (h.2.2.2 b)⟩
theorem KasAll.wp {α : Type} {N : Nat} {P : α → Prop} {cmp : Nat → Nat → (Bool → Shared → Prop) → Shared → Prop} {I : Shared → Prop} (hc : ∀ i j C s, i < N → j < N → i ≠ j → I s → (∀ b s', I s' → C b s') → cmp i j C s)
    {Q : α → Shared → Prop} (hq : ∀ a s, P a → I s → Q a s) : ∀ (t : KasT α) (s : Shared), KasAll N P t → I s → t.kasWp cmp Q s
  | .ret a, s, h, hi => hq a s h hi
  | .ask i j k, s, h, hi => hc i j _ s h.1 h.2.1 h.2.2.1 hi fun b s' hi' => KasAll.wp hc hq (k b) s' (h.2.2.2 b) hi'
def PermN (N : Nat) (p : Array Nat) : Prop := p.toList.Perm (List.range N)
theorem PermN.size {N : Nat} {p : Array Nat} (h : PermN N p) : p.size = N := by have := h.length_eq; simpa using this
theorem PermN.get {N : Nat} {p : Array Nat} (h : PermN N p) {i : Nat} (hi : i < N) : p.getD i 0 < N := by
  have hz := h.size
  have e : p.getD i 0 = p[i]'(by omega) := by simp [Array.getD, show i < p.size by omega]
  have : p[i]'(by omega) ∈ p.toList := Array.mem_toList_iff.mpr (Array.getElem_mem _)
  rw [e]
  exact List.mem_range.mp (h.mem_iff.mp this)
theorem PermN.ne {N : Nat} {p : Array Nat} (h : PermN N p) {i j : Nat} (hi : i < N) (hj : j < N) (hij : i ≠ j) : p.getD i 0 ≠ p.getD j 0 := by
  have hz := h.size
  have hn : p.toList.Nodup := h.nodup_iff.mpr List.nodup_range
  have e : ∀ k, k < N → p.getD k 0 = p.toList.getD k 0 := by
    intro k hk
    simp [Array.getD, List.getD, show k < p.size by omega]
  rw [e i hi, e j hj]
  intro q
  have h1 : i < p.toList.length := by simpa using (show i < p.size by omega)
  have h2 : j < p.toList.length := by simpa using (show j < p.size by omega)
  simp only [List.getD, List.getElem?_eq_getElem h1, List.getElem?_eq_getElem h2, Option.getD_some] at q
  exact hij ((List.getElem_inj hn).mp q)
theorem PermN.rev {N : Nat} {p : Array Nat} (h : PermN N p) (i j : Nat) : PermN N (kas_rev p i j) := (Array.perm_iff_toList_perm.mp (mirror_perm p i j _)).trans h
theorem PermN.bub {N : Nat} {p : Array Nat} (h : PermN N p) (i j : Nat) : PermN N (bubble p i j) := (Array.perm_iff_toList_perm.mp (bubble_perm p i j)).trans h
theorem kasAll_asc {N : Nat} {p : Array Nat} (hp : PermN N p) : ∀ (f n : Nat), 1 ≤ n → n + f ≤ N → KasAll N (fun m => n ≤ m ∧ m ≤ n + f) (kas_asc p f n)
  | 0, n, _, _ => ⟨Nat.le_refl _, Nat.le_refl _⟩
  | f + 1, n, h1, h2 => by
    refine ⟨hp.get (by omega), hp.get (by omega), hp.ne (by omega) (by omega) (by omega), fun b => ?_⟩
    cases b with
    | true => exact ⟨Nat.le_refl _, by omega⟩
    | false => exact (kasAll_asc hp f (n + 1) (by omega) (by omega)).mono (fun m hm => ⟨by omega, by omega⟩) _
theorem kasAll_desc {N : Nat} : ∀ (f : Nat) (p : Array Nat) (n q : Nat), PermN N p → 1 ≤ n → n + f ≤ N → KasAll N (fun r => PermN N r.1 ∧ n ≤ r.2.1 ∧ r.2.1 ≤ n + f) (kas_desc f p n q)
  | 0, p, n, q, hp, _, _ => ⟨hp, Nat.le_refl _, Nat.le_refl _⟩
  | f + 1, p, n, q, hp, h1, h2 => by
    have go : ∀ p' q', PermN N p' → KasAll N (fun r => PermN N r.1 ∧ n ≤ r.2.1 ∧ r.2.1 ≤ n + (f + 1)) (kas_desc f p' (n + 1) q') := fun p' q' hp' =>
      (kasAll_desc f p' (n + 1) q' hp' (by omega) (by omega)).mono (fun r hr => ⟨hr.1, by omega, by omega⟩) _
    refine ⟨hp.get (by omega), hp.get (by omega), hp.ne (by omega) (by omega) (by omega), fun b => ?_⟩
    cases b with
    | true =>
      show KasAll N _ (if q > 0 then kas_desc f (kas_rev p (n - (q + 1)) n) (n + 1) 0 else kas_desc f p (n + 1) 0)
      split
      · exact go _ _ (hp.rev _ _)
      · exact go _ _ hp
    | false =>
      refine ⟨hp.get (by omega), hp.get (by omega), hp.ne (by omega) (by omega) (by omega), fun d => ?_⟩
      cases d with
      | true => exact ⟨hp, Nat.le_refl _, by show n ≤ n + (f + 1); omega⟩
      | false => exact go _ _ hp
def KasR (N nrem : Nat) (r : Nat × Array Nat) : Prop := PermN N r.2 ∧ 1 ≤ r.1 ∧ r.1 ≤ nrem
theorem kasAll_tail3 {N n nrem : Nat} {p : Array Nat} (hp : PermN N p) (h1 : 1 ≤ n) (h2 : n ≤ nrem) (h3 : nrem ≤ N) : KasAll N (KasR N nrem) (kas_tail3 n nrem p) := by
  unfold kas_tail3
  refine KasAll.bind (P := fun m => n ≤ m ∧ m ≤ n + (nrem - n)) (fun m hm => ?_) _ (kasAll_asc (hp.rev 0 n) (nrem - n) n h1 (by omega))
  exact ⟨hp.rev 0 n, by show 1 ≤ m; omega, by show m ≤ nrem; omega⟩
theorem kasAll_descPart {N n nrem : Nat} {p : Array Nat} (hp : PermN N p) (h1 : 1 ≤ n) (h2 : n + 1 ≤ nrem) (h3 : nrem ≤ N) : KasAll N (KasR N nrem) (kas_descPart n nrem p) := by
  refine (kasAll_desc (nrem - (n + 1)) p (n + 1) 0 hp (by omega) (by omega)).bind (fun r hr => ?_) _
  split
  · exact kasAll_tail3 (hr.1.rev _ _) (by omega) (by omega) h3
  · exact kasAll_tail3 hr.1 (by omega) (by omega) h3
theorem kasAll_count {N nrem : Nat} {p : Array Nat} (hp : PermN N p) (h1 : 1 ≤ nrem) (h3 : nrem ≤ N) : KasAll N (KasR N nrem) (kas_count nrem p) := by
  refine (kasAll_asc hp (nrem - 1) 1 (Nat.le_refl _) (by omega)).bind (fun n hn => ?_) _
  split
  · exact ⟨hp, hn.1, by show n ≤ nrem; omega⟩
  · rename_i hne
    have hne' : n ≠ nrem := fun e => hne (by simp [e])
    split
    · refine ⟨hp.get (by omega), hp.get (by omega), hp.ne (by omega) (by omega) (by omega), fun b => ?_⟩
      cases b with
      | true => exact ⟨hp, hn.1, by show n ≤ nrem; omega⟩
      | false => exact kasAll_descPart (hp.rev _ _) hn.1 (by omega) h3
    · exact kasAll_descPart hp hn.1 (by omega) h3
theorem kasAll_place {N k : Nat} {p : Array Nat} (hp : PermN N p) (hk : k < N) : ∀ (f l r : Nat), r ≤ k → KasAll N (fun _ => True) (kas_place p k f l r)
  | 0, _, _, _ => trivial
  | f + 1, l, r, hr => by
    show KasAll N _ (if l ≥ r then .ret l else .ask (p.getD k 0) (p.getD ((l + r) / 2) 0) fun c => if c = true then kas_place p k f l ((l + r) / 2) else kas_place p k f ((l + r) / 2 + 1) r)
    split
    · exact trivial
    · refine ⟨hp.get hk, hp.get (by omega), hp.ne hk (by omega) (by omega), fun b => ?_⟩
      cases b with
      | true => exact kasAll_place hp hk f l _ (by omega)
      | false => exact kasAll_place hp hk f _ r hr
theorem kasAll_bin {N : Nat} : ∀ (f : Nat) (p : Array Nat) (k : Nat), PermN N p → k + f ≤ N → KasAll N (PermN N) (kas_bin f p k)
  | 0, _, _, hp, _ => hp
  | f + 1, p, k, hp, h => (kasAll_place hp (by omega) k 0 k (Nat.le_refl _)).bind (fun l _ => kasAll_bin f _ (k + 1) (hp.bub _ _) (by omega)) _
/-- a sort ends with the places in some order, whatever is answered -/
theorem kasAll_sort {n : Nat} (h : 1 ≤ n) : KasAll n (PermN n) (kas_sort n) := by
  have h0 : PermN n (List.toArray (List.range n)) := List.Perm.refl _
  refine (kasAll_count h0 h (Nat.le_refl _)).bind (fun r hr => ?_) _
  obtain ⟨hr1, hr2, hr3⟩ := hr
  split
  · exact kasAll_bin _ _ _ hr1 (by omega)
  · exact hr1
/-- a tuple that begins with two ints, in the ledger -/
def TupI (news : List (Addr × Obj)) (v : Value) (k : Int × Int) : Prop :=
  ∃ a o its n t u r, v = .ref a ∧ (a, o) ∈ news ∧ o.cls = .type "tuple" ∧ o.data = .seq its n ∧ its.toList = .int k.1 t :: .int k.2 u :: r
theorem TupI.mono {news news' : List (Addr × Obj)} {v : Value} {k : Int × Int} (h : TupI news v k) (hs : ∀ a o, (a, o) ∈ news → o.cls = .type "tuple" → (a, o) ∈ news') : TupI news' v k :=
  let ⟨a, o, its, n, t, u, r, e, hm, hc, hd, hl⟩ := h; ⟨a, o, its, n, t, u, r, e, hs a o hm hc, hc, hd, hl⟩
section
variable {prog : Program} {w : World} {A : Around} {E : Value → Shared → Prop} {s : Shared} {h₀ : Heap} {L : Addr} {m : Str → Option Value} {news : List (Addr × Obj)}
theorem ask_tup {vs : List Value} {ks : List (Int × Int)} {i j : Nat} {C : Bool → Shared → Prop} (hl : vs.length = ks.length) (hk : ks.Nodup) (ht : ∀ (i : Nat) (v : Value) (k : Int × Int), vs[i]? = some v → ks[i]? = some k → TupI news v k) (N : News h₀ L s.heap news)
    (hi : i < vs.length) (hj : j < vs.length) (hij : i ≠ j) (h : ∀ b, C b s) : kas_ask prog w A (tuples' true) vs i j C s := by
  have hi' : i < ks.length := by omega
  have hj' : j < ks.length := by omega
  obtain ⟨a, o, its, n, t, u, r, e, hm, hc, hd, hits⟩ := ht i vs[i] ks[i] (List.getElem?_eq_getElem hi) (List.getElem?_eq_getElem hi')
  obtain ⟨a', o', its', n', t', u', r', e', hm', hc', hd', hits'⟩ := ht j vs[j] ks[j] (List.getElem?_eq_getElem hj) (List.getElem?_eq_getElem hj')
  have hne : ks[i] ≠ ks[j] := fun q => hij ((List.getElem_inj hk).mp q)
  unfold kas_ask
  have g1 : vs.getD i Value.none = .ref a := by rw [← e]; simp [List.getD, List.getElem?_eq_getElem hi]
  have g2 : vs.getD j Value.none = .ref a' := by rw [← e']; simp [List.getD, List.getElem?_eq_getElem hj]
  rw [g1, g2]
  generalize ks[i] = p at *
  generalize ks[j] = q at *
  obtain ⟨x, y⟩ := p
  obtain ⟨x', y'⟩ := q
  refine kat_lt (N.get hm) hd (N.get hm') hd' ?_
  rw [hits, hits', List.zip_cons_cons, List.zip_cons_cons]
  refine kat_cons (wpAny_eqBool_int ?_)
  by_cases hx : x = x'
  · rw [show (x == x') = true by simpa using hx]
    refine kat_yes (kat_cons (wpAny_eqBool_int ?_))
    by_cases hy : y = y'
    · exact absurd (by rw [hx, hy]) hne
    · rw [show (y == y') = false by simpa using hy]
      refine kat_no ?_
      exact kat_one _ _ (lt_int (h _))
  · rw [show (x == x') = false by simpa using hx]
    refine kat_no ?_
    exact oneLt_int (h _)
theorem tups_kind {vs : List Value} {ks : List (Int × Int)} {Q : SortKind → Shared → Prop} (h2 : 2 ≤ vs.length) (hl : vs.length = ks.length) (ht : ∀ (i : Nat) (v : Value) (k : Int × Int), vs[i]? = some v → ks[i]? = some k → TupI news v k) (N : News h₀ L s.heap news) (h : Q (tuples' true) s) :
    wpAny (model prog w) A (keyKind' vs.toArray) Q E s := by
  have key : ∀ (vs : List Value) (ks : List (Int × Int)), vs.length = ks.length → (∀ (i : Nat) (v : Value) (k : Int × Int), vs[i]? = some v → ks[i]? = some k → TupI news v k) → ∃ fs : List Value, KatTups s.heap vs fs ∧ fs.length = vs.length ∧ ∀ f ∈ fs, ∃ (x : Int) (t : Tok), f = .int x t := by
    intro vs
    induction vs with
    | nil => intro ks _ _; exact ⟨[], KatTups.nil, rfl, fun _ h => (nomatch h)⟩
    | cons v vs ih =>
      intro ks hl ht
      cases ks with
      | nil => simp at hl
      | cons k ks =>
        obtain ⟨fs, f1, f2, f3⟩ := ih ks (by simpa using hl) fun i v' k' e1 e2 => ht (i + 1) v' k' (by simpa using e1) (by simpa using e2)
        obtain ⟨a, o, its, n, t, u, r, e, hm, hc, hd, hits⟩ := ht 0 v k rfl rfl
        subst e
        refine ⟨.int k.1 t :: fs, KatTups.cons (N.get hm) hc hd (by rw [← Array.getElem?_toList, hits]; rfl) f1, by simp [f2], fun f hf => ?_⟩
        rcases List.mem_cons.mp hf with rfl | hf
        · exact ⟨_, _, rfl⟩
        · exact f3 f hf
  obtain ⟨fs, f1, f2, f3⟩ := key vs ks hl ht
  refine kat_kind (T := .type "int") f1 (by omega) (fun v hv => ?_) rfl h
  obtain ⟨x, t, rfl⟩ := f3 v hv
  exact Looks.now
theorem sort_small {a : Addr} {vs : List Value} {n : Nat} {P : PySem.Fin → Shared → Prop} (F : Fr h₀ L s.heap m) (N : News h₀ L s.heap news) (ho : s.heap.get? a = some (seqObj "list" vs.toArray n)) (haL : a ≠ L) (ha0 : h₀.get? a = none) (hna : ∀ p ∈ news, p.1 ≠ a)
    (h2 : vs.length < 2) (h : ∀ c h', Fr h₀ L h' m → News h₀ L h' ((a, listOf vs.toArray c) :: news) → P (.done (.ret .none)) { s with heap := h' }) :
    wpAny (model prog w) A (Builtin.«list.sort» ⟨[.ref a], []⟩) P E s := by
  have ha : a < s.heap.objs.size := Heap.lt_size ho
  have s1 := Heap.SameBut.update s.heap a (Obj.mapSeq fun _ => (#[] : Array Value))
  obtain ⟨e1, ho1⟩ : ∃ e1, (s.heap.update a (Obj.mapSeq fun _ => (#[] : Array Value))).get? a = some (seqObj "list" #[] e1) := ⟨_, get?_update_seq ho fun _ => #[]⟩
  have F3 : Fr h₀ L (((s.heap.update a (Obj.mapSeq fun _ => (#[] : Array Value))).push (seqObj "tuple" vs.toArray 0)).push (seqObj "list" #[] 0)) m := ((kas_fr F s1 haL ha0).push _).push _
  have N2 : News h₀ L (((s.heap.update a (Obj.mapSeq fun _ => (#[] : Array Value))).push (seqObj "tuple" vs.toArray 0)).push (seqObj "list" #[] 0)) news :=
    (kas_news N s1 hna).grown fun b x e => Heap.get?_push_of_some _ (Heap.get?_push_of_some _ e)
  have ho3 : (((s.heap.update a (Obj.mapSeq fun _ => (#[] : Array Value))).push (seqObj "tuple" vs.toArray 0)).push (seqObj "list" #[] 0)).get? a = some (seqObj "list" #[] e1) := Heap.get?_push_of_some _ (Heap.get?_push_of_some _ ho1)
  rw [list_sort_plain]
  refine wpAny_bind (listItems_at ho rfl ?_)
  refine wpAny_bind (listUpdate_at ho rfl ?_ (by rw [List.size_toArray, sizeLine_eq]; omega) (Nat.zero_le _))
  refine wpAny_bind (seqEpoch_at ho1 rfl ?_)
  refine wpAny_bind (wpAny_newTuple ?_ (by show vs.length ≤ _; rw [sizeLine_eq]; omega))
  refine wpAny_bind (wpAny_newList ?_ (Nat.zero_le _))
  refine wpAny_holding ?_
  show wpAny (model prog w) A _ P E { s with heap := ((s.heap.update a (Obj.mapSeq fun _ => (#[] : Array Value))).push (seqObj "tuple" vs.toArray 0)).push (seqObj "list" #[] 0) }
  dsimp only
  have hn2 : vs.toArray.size < 2 := by rw [List.size_toArray]; omega
  rw [if_pos hn2, if_pos hn2]
  refine wpAny_bind (wpAny_pure ?_)
  rw [StateT.run_pure]
  refine wpAny_bind (wpAny_pure ?_)
  dsimp only
  have hout : (arrOf (SortSt.mk' general' (vs.toArray.zip vs.toArray) #[] 7 none)).map (·.2) = vs.toArray := by
    show (vs.toArray.zip vs.toArray).map (·.2) = _
    rcases vs with _ | ⟨v, _ | ⟨v', r⟩⟩
    · simp
    · simp
    · exact absurd h2 (by simp only [List.length_cons]; omega)
  rw [hout]
  have s2 := Heap.SameBut.update (((s.heap.update a (Obj.mapSeq fun _ => (#[] : Array Value))).push (seqObj "tuple" vs.toArray 0)).push (seqObj "list" #[] 0)) a (Obj.mapSeq fun _ => vs.toArray)
  obtain ⟨c2, hc2⟩ : ∃ c2, ((((s.heap.update a (Obj.mapSeq fun _ => (#[] : Array Value))).push (seqObj "tuple" vs.toArray 0)).push (seqObj "list" #[] 0)).update a (Obj.mapSeq fun _ => vs.toArray)).get? a = some (seqObj "list" vs.toArray c2) := ⟨_, get?_update_seq ho3 fun _ => vs.toArray⟩
  refine wpAny_bind (seqEpoch_at ho3 rfl ?_)
  refine wpAny_bind (listUpdate_at ho3 rfl ?_ (Nat.zero_le _) (by rw [List.size_toArray, sizeLine_eq]; omega))
  simp only [bne_self_eq_false, Bool.false_eq_true, if_false]
  refine wpAny_pure (h c2 _ (kas_fr F3 s2 haL ha0) fun p hp => ?_)
  rcases List.mem_cons.mp hp with rfl | hp
  · exact ⟨hc2, haL, ha0⟩
  · exact kas_news N2 s2 hna p hp
/-- list.sort of tuples that begin with two ints, no two alike: some order of the same -/
theorem lsort_tups {D : Addr} {its : Array Value} {n : Nat} {vs : List Value} {ks : List (Int × Int)} {Q : Value → Shared → Prop} (F : Fr h₀ L s.heap m) (N : News h₀ L s.heap ((D, listOf its n) :: news)) (hoff : ∀ p ∈ news, p.1 ≠ D) (he : its.toList = vs) (h64 : vs.length < 64)
    (hl : vs.length = ks.length) (hk : ks.Nodup) (ht : ∀ (i : Nat) (v : Value) (k : Int × Int), vs[i]? = some v → ks[i]? = some k → TupI news v k)
    (h : ∀ (p : List Nat) c h' tk, p.Perm (List.range vs.length) → Fr h₀ L h' m → News h₀ L h' ((D, listOf (p.map fun i => vs.getD i Value.none).toArray c) :: news) → Q .none { s with heap := h', toks := tk }) :
    wpAny (model prog w) A (call (.builtin "list.sort") [.ref D]) Q E s := by
  rcases Nat.lt_or_ge vs.length 2 with h2 | h2
  · subst he
    have nz := N (D, listOf its n) (.head _)
    have ho : s.heap.get? D = some (seqObj "list" its.toList.toArray n) := by rw [Array.toArray_toList]; exact nz.1
    have N₀ : News h₀ L s.heap news := fun p hp => N p (.tail _ hp)
    refine wpAny_call_entry slot_list_sort ⟨_, nz.1, rfl⟩ entry_list_sort (sort_small F N₀ ho nz.2.1 nz.2.2 hoff h2 fun c h' F' N' => ?_) (args_list_sort _)
    refine ⟨_, rfl, ?_⟩
    have e : ((List.range its.toList.length).map fun i => its.toList.getD i Value.none) = its.toList := by
      rcases hv : its.toList with _ | ⟨v, _ | ⟨v', r⟩⟩
      · rfl
      · rfl
      · rw [hv] at h2; exact absurd h2 (by simp only [List.length_cons]; omega)
    have key := h (List.range its.toList.length) c h' s.toks (List.Perm.refl _) F'
    rw [e] at key
    exact key N'
  · refine kat_lsort F N (UpdF.head hoff) he h2 h64 fun e1 h' F' N' => ?_
    have N₀ : News h₀ L h' news := fun p hp => N' p (.tail _ hp)
    refine tups_kind (s := { s with heap := h' }) h2 hl ht N₀ ?_
    refine KasAll.wp (N := vs.length) (I := fun s' => ∃ tk, s' = { s with heap := h', toks := tk }) ?_ ?_ _ _ (kasAll_sort (by omega)) ⟨_, rfl⟩
    · rintro i j C s' hi hj hij ⟨tk, rfl⟩ hC
      exact ask_tup (s := { s with heap := h', toks := tk }) hl hk ht N₀ hi hj hij fun b => hC b _ ⟨tk, rfl⟩
    · rintro p s' hp ⟨tk, rfl⟩
      exact KasFin.intro (s := { s with heap := h', toks := tk }) F' N' (UpdF.head hoff) fun h'' c F'' N'' => h p.toList c h'' tk hp F'' N''
end
/-- the numbers of Fibonacci -/
def fibo : Nat → Nat
  | 0 => 0
  | 1 => 1
  | n + 2 => fibo (n + 1) + fibo n
theorem fibo_two (n : Nat) : fibo (n + 2) = fibo (n + 1) + fibo n := rfl
theorem fibo_mono1 : ∀ n, fibo n ≤ fibo (n + 1)
  | 0 => by decide
  | 1 => by decide
  | n + 2 => by have h : fibo (n + 2 + 1) = fibo (n + 2) + fibo (n + 1) := rfl; rw [h]; exact Nat.le_add_right _ _
theorem fibo_mono {m n : Nat} (h : m ≤ n) : fibo m ≤ fibo n := by
  induction h with
  | refl => exact Nat.le_refl _
  | step _ ih => exact Nat.le_trans ih (fibo_mono1 _)
/-- the depths of a tree's leaves -/
inductive Full : List Nat → Prop
  | leaf : Full [0]
  | node {a b : List Nat} : Full a → Full b → Full ((a ++ b).map (· + 1))
def krSum (B : Nat) (ds : List Nat) : Nat := (ds.map fun d => 2 ^ (B - d)).sum
theorem krSum_app (B : Nat) (a b : List Nat) : krSum B (a ++ b) = krSum B a + krSum B b := by simp [krSum]
theorem krSum_up (B : Nat) : ∀ (a : List Nat), krSum (B + 1) (a.map (· + 1)) = krSum B a
  | [] => rfl
  | d :: a => by
    have ih := krSum_up B a
    simp only [krSum, List.map_cons, List.sum_cons, List.map_map] at ih ⊢
    rw [ih, Nat.add_sub_add_right]
theorem full_ne {ds : List Nat} (h : Full ds) : ds ≠ [] := by
  induction h with
  | leaf => simp
  | node ha hb iha ihb => intro e; rw [List.map_eq_nil_iff] at e; exact iha (List.append_eq_nil_iff.mp e).1
theorem full_kr {ds : List Nat} (h : Full ds) : ∀ B, (∀ d ∈ ds, d ≤ B) → krSum B ds = 2 ^ B := by
  induction h with
  | leaf => intro B _; simp [krSum]
  | @node a b ha hb iha ihb =>
    intro B hB
    cases B with
    | zero =>
      exfalso
      have hne : a ≠ [] := full_ne ha
      obtain ⟨d, r, rfl⟩ := List.exists_cons_of_ne_nil hne
      have := hB (d + 1) (by simp)
      omega
    | succ B =>
      rw [krSum_up, krSum_app, iha B, ihb B, Nat.pow_succ]
      · omega
      · intro d hd; have := hB (d + 1) (by simp; exact .inr hd); omega
      · intro d hd; have := hB (d + 1) (by simp; exact .inl hd); omega
theorem full_pos {ds : List Nat} (h : Full ds) (h2 : 2 ≤ ds.length) : ∀ d ∈ ds, 1 ≤ d := by
  cases h with
  | leaf => simp at h2
  | node ha hb => intro d hd; obtain ⟨x, _, rfl⟩ := List.mem_map.mp hd; omega
def maxD (ds : List Nat) : Nat := ds.foldr max 0
theorem maxD_app (a b : List Nat) : maxD (a ++ b) = max (maxD a) (maxD b) := by
  induction a with
  | nil => simp [maxD]
  | cons x a ih => simp only [maxD, List.cons_append, List.foldr_cons] at ih ⊢; rw [ih]; omega
theorem maxD_up : ∀ {a : List Nat}, a ≠ [] → maxD (a.map (· + 1)) = maxD a + 1
  | [], h => absurd rfl h
  | [x], _ => by simp [maxD]
  | x :: y :: a, _ => by
    have ih := maxD_up (a := y :: a) (by simp)
    simp only [maxD, List.map_cons, List.foldr_cons] at ih ⊢
    omega
theorem le_maxD {ds : List Nat} {d : Nat} (h : d ∈ ds) : d ≤ maxD ds := by
  induction ds with
  | nil => cases h
  | cons x ds ih =>
    simp only [maxD, List.foldr_cons]
    rcases List.mem_cons.mp h with rfl | h
    · omega
    · have := ih h; simp only [maxD] at this; omega
/-- an item of the heap: its weight, its number, its leaves -/
structure HIt where
  w : Int
  o : Int
  ls : List Int
def HIt.dep (D : Int → Nat) (x : HIt) : Nat := maxD (x.ls.map D)
structure HOk (D : Int → Nat) (m : Nat) (x : HIt) : Prop where
  full : Full (x.ls.map D)
  fib : (fibo (x.dep D + 2) : Int) ≤ x.w
  low : (m : Int) ≤ x.w
  far : 1 ≤ x.dep D → fibo (x.dep D + 1) ≤ m
/-- what holds of the heap between the turns -/
structure HInv (W : Int) (ls : List Int) (xs : List HIt) (D : Int → Nat) : Prop where
  ok : ∃ m, ∀ x ∈ xs, HOk D m x
  sorted : xs.Pairwise fun x y => x.w ≤ y.w
  leaves : (xs.flatMap HIt.ls).Perm ls
  nodup : ls.Nodup
  sum : (xs.map HIt.w).sum = W
def upD (D : Int → Nat) (js : List Int) : Int → Nat := fun l => D l + js.count l
theorem upD_map_in {D : Int → Nat} {js ls : List Int} (hn : js.Nodup) (h : ∀ l ∈ ls, l ∈ js) : ls.map (upD D js) = (ls.map D).map (· + 1) := by
  rw [List.map_map]
  refine List.map_congr_left fun l hl => ?_
  show D l + js.count l = D l + 1
  rw [hn.count]
  simp [h l hl]
theorem upD_map_out {D : Int → Nat} {js ls : List Int} (h : ∀ l ∈ ls, l ∉ js) : ls.map (upD D js) = ls.map D := by
  refine List.map_congr_left fun l hl => ?_
  show D l + js.count l = D l
  rw [List.count_eq_zero_of_not_mem (h l hl)]
  rfl
theorem hok_out {D : Int → Nat} {js : List Int} {m m' : Nat} {x : HIt} (h : HOk D m x) (hj : ∀ l ∈ x.ls, l ∉ js) (hm : m ≤ m') (hl : (m' : Int) ≤ x.w) : HOk (upD D js) m' x := by
  have e := upD_map_out (D := D) hj
  have ed : x.dep (upD D js) = x.dep D := by unfold HIt.dep; rw [e]
  exact ⟨by rw [e]; exact h.full, by rw [ed]; exact h.fib, hl, fun hd => by rw [ed] at hd ⊢; exact Nat.le_trans (h.far hd) hm⟩
theorem hok_pos {D : Int → Nat} {m : Nat} {x : HIt} (h : HOk D m x) : 1 ≤ x.w := by
  have h1 := h.fib
  have h2 : fibo 2 ≤ fibo (x.dep D + 2) := fibo_mono (by omega)
  have h3 : fibo 2 = 1 := rfl
  omega
theorem hok_join {D : Int → Nat} {m : Nat} {x y : HIt} (hx : HOk D m x) (hy : HOk D m y) (hxy : x.w ≤ y.w) (hn : (x.ls ++ y.ls).Nodup) (o : Int) :
    HOk (upD D (x.ls ++ y.ls)) y.w.toNat ⟨x.w + y.w, o, x.ls ++ y.ls⟩ := by
  have e : (x.ls ++ y.ls).map (upD D (x.ls ++ y.ls)) = (x.ls.map D ++ y.ls.map D).map (· + 1) := by
    rw [upD_map_in hn fun l hl => hl, List.map_append]
  have hne : x.ls.map D ++ y.ls.map D ≠ [] := fun q => full_ne hx.full (List.append_eq_nil_iff.mp q).1
  have ed : HIt.dep (upD D (x.ls ++ y.ls)) ⟨x.w + y.w, o, x.ls ++ y.ls⟩ = max (x.dep D) (y.dep D) + 1 := by
    show maxD _ = _
    rw [e, maxD_up hne, maxD_app]
    rfl
  have px := hok_pos hx
  have py := hok_pos hy
  have fx := hx.fib
  have fy := hy.fib
  have lx := hx.low
  have ly := hy.low
  refine ⟨by rw [e]; exact .node hx.full hy.full, ?_, by show ((y.w.toNat : Nat) : Int) ≤ x.w + y.w; omega, fun _ => ?_⟩
  · rw [ed]
    show ((fibo (max (x.dep D) (y.dep D) + 1 + 2) : Nat) : Int) ≤ x.w + y.w
    have e3 : fibo (max (x.dep D) (y.dep D) + 1 + 2) = fibo (max (x.dep D) (y.dep D) + 2) + fibo (max (x.dep D) (y.dep D) + 1) := rfl
    rw [e3]
    rcases Nat.le_total (x.dep D) (y.dep D) with h | h
    · rw [Nat.max_eq_right h]
      have : ((fibo (y.dep D + 1) : Nat) : Int) ≤ x.w := by
        by_cases h0 : 1 ≤ y.dep D
        · have := hy.far h0; omega
        · have h0 : y.dep D = 0 := by omega
          rw [h0]
          have : fibo (0 + 1) = 1 := rfl
          omega
      omega
    · rw [Nat.max_eq_left h]
      have : ((fibo (x.dep D + 1) : Nat) : Int) ≤ y.w := by
        by_cases h0 : 1 ≤ x.dep D
        · have := hx.far h0; omega
        · have h0 : x.dep D = 0 := by omega
          rw [h0]
          have : fibo (0 + 1) = 1 := rfl
          omega
      omega
  · rw [ed]
    show fibo (max (x.dep D) (y.dep D) + 1 + 1) ≤ y.w.toNat
    rcases Nat.le_total (x.dep D) (y.dep D) with h | h
    · rw [Nat.max_eq_right h, show y.dep D + 1 + 1 = y.dep D + 2 from rfl]; omega
    · rw [Nat.max_eq_left h, show x.dep D + 1 + 1 = x.dep D + 2 from rfl]; omega
/-- one turn: the two rarest become one, set in at its place -/
theorem hinv_step {W : Int} {ls : List Int} {x y : HIt} {r : List HIt} {D : Int → Nat} (h : HInv W ls (x :: y :: r) D) (o : Int) (pl : Nat)
    (h1 : ∀ z ∈ r.take pl, z.w ≤ x.w + y.w) (h2 : ∀ z ∈ r.drop pl, x.w + y.w ≤ z.w) :
    HInv W ls (r.take pl ++ ⟨x.w + y.w, o, x.ls ++ y.ls⟩ :: r.drop pl) (upD D (x.ls ++ y.ls)) := by
  obtain ⟨m, hok⟩ := h.ok
  have hx := hok x (by simp)
  have hy := hok y (by simp)
  have hs := h.sorted
  rw [List.pairwise_cons, List.pairwise_cons] at hs
  obtain ⟨s1, s2, s3⟩ := hs
  have hxy := s1 y (by simp)
  have hnd : ((x :: y :: r).flatMap HIt.ls).Nodup := (h.leaves.nodup_iff).mpr h.nodup
  rw [List.flatMap_cons, List.flatMap_cons, ← List.append_assoc, List.nodup_append] at hnd
  obtain ⟨n1, n2, n3⟩ := hnd
  refine ⟨⟨y.w.toNat, fun z hz => ?_⟩, ?_, ?_, h.nodup, ?_⟩
  · have hz' : z = ⟨x.w + y.w, o, x.ls ++ y.ls⟩ ∨ z ∈ r := by
      rcases List.mem_append.mp hz with hz | hz
      · exact .inr (List.mem_of_mem_take hz)
      · rcases List.mem_cons.mp hz with hz | hz
        · exact .inl hz
        · exact .inr (List.mem_of_mem_drop hz)
    rcases hz' with rfl | hz
    · exact hok_join hx hy hxy n1 o
    · have hz1 := hok z (by simp [hz])
      have := s2 z hz
      have l1 := hy.low
      have p1 := hok_pos hy
      refine hok_out hz1 (fun l hl hj => ?_) (by omega) (by omega)
      exact n3 l hj l (List.mem_flatMap.mpr ⟨z, hz, hl⟩) rfl
  · rw [List.pairwise_append]
    refine ⟨s3.sublist (List.take_sublist _ _), ?_, ?_⟩
    · rw [List.pairwise_cons]
      exact ⟨fun z hz => h2 z hz, s3.sublist (List.drop_sublist _ _)⟩
    · intro a ha b hb
      rcases List.mem_cons.mp hb with rfl | hb
      · exact h1 a ha
      · exact Int.le_trans (h1 a ha) (h2 b hb)
  · refine List.Perm.trans ?_ h.leaves
    rw [List.flatMap_append, List.flatMap_cons, List.flatMap_cons, List.flatMap_cons]
    show (((r.take pl).flatMap HIt.ls) ++ ((x.ls ++ y.ls) ++ (r.drop pl).flatMap HIt.ls)).Perm _
    refine List.Perm.trans (List.perm_append_comm_assoc _ _ _) ?_
    rw [← List.flatMap_append, List.take_append_drop, List.append_assoc]
  · rw [List.map_append, List.sum_append, List.map_cons, List.sum_cons]
    have e1 := h.sum
    rw [List.map_cons, List.map_cons, List.sum_cons, List.sum_cons] at e1
    have e2 : ((r.take pl).map HIt.w).sum + ((r.drop pl).map HIt.w).sum = (r.map HIt.w).sum := by
      rw [← List.sum_append, ← List.map_append, List.take_append_drop]
    show ((r.take pl).map HIt.w).sum + (x.w + y.w + ((r.drop pl).map HIt.w).sum) = W
    omega
theorem sum_perm {a b : List Int} (h : a.Perm b) : a.sum = b.sum := by
  induction h with
  | nil => rfl
  | cons x _ ih => simp [ih]
  | swap x y l => simp only [List.sum_cons]; omega
  | trans _ _ h1 h2 => rw [h1, h2]
theorem hinv_start {W : Int} {xs : List HIt} {ps : List (Int × Int)} (hp : ∀ p ∈ ps, 1 ≤ p.1) (hn : (ps.map (·.2)).Nodup) (hs : xs.Pairwise fun x y => x.w ≤ y.w)
    (hx : ∃ os, xs.Perm os ∧ os.map HIt.w = ps.map (·.1) ∧ os.map HIt.ls = ps.map fun p => [p.2]) (hW : (ps.map (·.1)).sum = W) : HInv W (ps.map (·.2)) xs (fun _ => 0) := by
  obtain ⟨os, e0, e1, e2⟩ := hx
  refine ⟨⟨1, fun x hx => ?_⟩, hs, ?_, hn, ?_⟩
  · have hx' : x ∈ os := e0.mem_iff.mp hx
    have hw : x.w ∈ ps.map (·.1) := e1 ▸ List.mem_map.mpr ⟨x, hx', rfl⟩
    have hl : x.ls ∈ ps.map fun p => [p.2] := e2 ▸ List.mem_map.mpr ⟨x, hx', rfl⟩
    obtain ⟨p, hp1, hp2⟩ := List.mem_map.mp hw
    obtain ⟨q, _, hq2⟩ := List.mem_map.mp hl
    have h1 := hp p hp1
    have ed : x.dep (fun _ => 0) = 0 := by unfold HIt.dep; rw [← hq2]; rfl
    refine ⟨by rw [← hq2]; exact .leaf, ?_, by show ((1 : Nat) : Int) ≤ x.w; omega, fun h => by omega⟩
    rw [ed]
    show ((1 : Nat) : Int) ≤ x.w
    omega
  · refine List.Perm.trans (e0.flatMap_right _) ?_
    have : os.flatMap HIt.ls = ps.map (·.2) := by
      rw [List.flatMap_def, e2]
      clear hp hn hW e1 e2
      induction ps with
      | nil => rfl
      | cons p ps ih => simp [ih]
    rw [this]
  · rw [← hW, ← e1]
    exact sum_perm (e0.map _)
theorem hinv_end {W : Int} {ls : List Int} {x : HIt} {D : Int → Nat} (h : HInv W ls [x] D) : Full (x.ls.map D) ∧ x.ls.Perm ls ∧ ((fibo (x.dep D + 2) : Nat) : Int) ≤ W := by
  obtain ⟨m, hok⟩ := h.ok
  have hx := hok x (by simp)
  have e := h.sum
  simp only [List.map_cons, List.map_nil, List.sum_cons, List.sum_nil, Int.add_zero] at e
  refine ⟨hx.full, by simpa using h.leaves, by rw [← e]; exact hx.fib⟩
/-- what _depths tells of its leaves -/
def DepOk (W : Int) (ls : List Int) (D : Int → Nat) : Prop := (∃ ks : List Int, ks.Perm ls ∧ Full (ks.map D)) ∧ ∀ l ∈ ls, ((fibo (D l + 2) : Nat) : Int) ≤ W
theorem depOk_of {W : Int} {ls : List Int} {x : HIt} {D : Int → Nat} (h : HInv W ls [x] D) : DepOk W ls D := by
  obtain ⟨h1, h2, h3⟩ := hinv_end h
  refine ⟨⟨x.ls, h2, h1⟩, fun l hl => ?_⟩
  have : D l ≤ x.dep D := le_maxD (List.mem_map.mpr ⟨l, h2.mem_iff.mpr hl, rfl⟩)
  have := fibo_mono (show D l + 2 ≤ x.dep D + 2 by omega)
  omega
theorem krSum_perm {B : Nat} {a b : List Nat} (h : a.Perm b) : krSum B a = krSum B b := (h.map _).sum_nat
theorem depOk_kr {W : Int} {ls : List Int} {D : Int → Nat} (h : DepOk W ls D) {B : Nat} (hB : ∀ l ∈ ls, D l ≤ B) : krSum B (ls.map D) = 2 ^ B := by
  obtain ⟨⟨ks, hp, hf⟩, _⟩ := h
  rw [← krSum_perm (hp.map D)]
  refine full_kr hf B fun d hd => ?_
  obtain ⟨l, hl, rfl⟩ := List.mem_map.mp hd
  exact hB l (hp.mem_iff.mp hl)
theorem depOk_pos {W : Int} {ls : List Int} {D : Int → Nat} (h : DepOk W ls D) (h2 : 2 ≤ ls.length) : ∀ l ∈ ls, 1 ≤ D l := by
  obtain ⟨⟨ks, hp, hf⟩, _⟩ := h
  intro l hl
  refine full_pos hf (by rw [List.length_map, hp.length_eq]; exact h2) _ (List.mem_map.mpr ⟨l, hp.mem_iff.mpr hl, rfl⟩)
theorem depOk_small {W : Int} {ls : List Int} {D : Int → Nat} (h : DepOk W ls D) (hW : W ≤ 20) : ∀ l ∈ ls, D l ≤ 5 := by
  intro l hl
  have h1 := h.2 l hl
  rcases Nat.lt_or_ge 5 (D l) with h5 | h5
  · have h6 := fibo_mono (show 8 ≤ D l + 2 by omega)
    have h7 : fibo 8 = 21 := rfl
    omega
  · exact h5
/-- the symbols that stand -/
def posIx (cs : List Int) : List Nat := (List.range cs.length).filter fun i => decide (0 < cs.getD i 0)
def lensOf (cs : List Int) (D : Int → Nat) : List Int := (List.range cs.length).map fun i => if 0 < cs.getD i 0 then (D i : Int) else 0
theorem lens_pos {cs : List Int} {D : Int → Nat} (hD : ∀ i ∈ posIx cs, 1 ≤ D (i : Int)) : (lensOf cs D).filter (fun l => decide (0 < l)) = (posIx cs).map fun i : Nat => ((D (i : Int) : Nat) : Int) := by
  unfold lensOf posIx at *
  revert hD
  generalize List.range cs.length = r
  intro hD
  induction r with
  | nil => rfl
  | cons i r ih =>
    have ih' := ih fun j hj => hD j (by
      rw [List.filter_cons]; split
      · exact .tail _ hj
      · exact hj)
    rw [List.map_cons]
    by_cases h : 0 < cs.getD i 0
    · have h1 : 1 ≤ D (i : Int) := hD i (by rw [List.filter_cons, if_pos (by simpa using h)]; exact .head _)
      rw [if_pos h, List.filter_cons, if_pos (by rw [decide_eq_true_eq]; omega), List.filter_cons, if_pos (by simpa using h), List.map_cons, ih']
    · rw [if_neg h, List.filter_cons, if_neg (by simp), List.filter_cons, if_neg (by simpa using h), ih']
theorem lens_room {cs : List Int} {D : Int → Nat} (hD : ∀ i ∈ posIx cs, 1 ≤ D (i : Int)) (B : Nat) : (((lensOf cs D).filter (fun l => decide (0 < l))).map fun l => (2 : Int) ^ (B - l.toNat)).sum = ((krSum B ((posIx cs).map fun i : Nat => D (i : Int)) : Nat) : Int) := by
  rw [lens_pos hD]
  unfold krSum
  induction posIx cs with
  | nil => rfl
  | cons i r ih =>
    simp only [List.map_cons, List.sum_cons] at ih ⊢
    rw [ih]
    simp
theorem lens_bools {cs : List Int} {D : Int → Nat} (hD : ∀ i ∈ posIx cs, 1 ≤ D (i : Int)) : (lensOf cs D).map (fun l => decide (0 < l)) = cs.map fun c => decide (0 < c) := by
  unfold lensOf
  rw [List.map_map]
  apply List.ext_getElem
  · simp
  · intro i h1 h2
    have hi : i < cs.length := by simpa using h2
    simp only [List.getElem_map, List.getElem_range, Function.comp]
    have e : cs.getD i 0 = cs[i] := by simp [List.getD, List.getElem?_eq_getElem hi]
    rw [e]
    by_cases h : 0 < cs[i]
    · have h3 := hD i (List.mem_filter.mpr ⟨List.mem_range.mpr hi, by rw [e]; simpa using h⟩)
      rw [if_pos h]
      simp [h]
      omega
    · rw [if_neg h]
      simp [h]
/-- what holds of the heap, whatever its weights -/
structure TInv (ls : List Int) (xs : List HIt) (D : Int → Nat) : Prop where
  full : ∀ x ∈ xs, Full (x.ls.map D)
  leaves : (xs.flatMap HIt.ls).Perm ls
  nodup : ls.Nodup
theorem tinv_step {ls : List Int} {x y : HIt} {r : List HIt} {D : Int → Nat} (h : TInv ls (x :: y :: r) D) (w o : Int) (pl : Nat) :
    TInv ls (r.take pl ++ ⟨w, o, x.ls ++ y.ls⟩ :: r.drop pl) (upD D (x.ls ++ y.ls)) := by
  have hx := h.full x (by simp)
  have hy := h.full y (by simp)
  have hnd : ((x :: y :: r).flatMap HIt.ls).Nodup := (h.leaves.nodup_iff).mpr h.nodup
  rw [List.flatMap_cons, List.flatMap_cons, ← List.append_assoc, List.nodup_append] at hnd
  obtain ⟨n1, n2, n3⟩ := hnd
  refine ⟨fun z hz => ?_, ?_, h.nodup⟩
  · have hz' : z = ⟨w, o, x.ls ++ y.ls⟩ ∨ z ∈ r := by
      rcases List.mem_append.mp hz with hz | hz
      · exact .inr (List.mem_of_mem_take hz)
      · rcases List.mem_cons.mp hz with hz | hz
        · exact .inl hz
        · exact .inr (List.mem_of_mem_drop hz)
    rcases hz' with rfl | hz
    · show Full ((x.ls ++ y.ls).map _)
      rw [upD_map_in n1 fun l hl => hl, List.map_append]
      exact .node hx hy
    · rw [upD_map_out fun l hl hj => n3 l hj l (List.mem_flatMap.mpr ⟨z, hz, hl⟩) rfl]
      exact h.full z (by simp [hz])
  · refine List.Perm.trans ?_ h.leaves
    rw [List.flatMap_append, List.flatMap_cons, List.flatMap_cons, List.flatMap_cons]
    show (((r.take pl).flatMap HIt.ls) ++ ((x.ls ++ y.ls) ++ (r.drop pl).flatMap HIt.ls)).Perm _
    refine List.Perm.trans (List.perm_append_comm_assoc _ _ _) ?_
    rw [← List.flatMap_append, List.take_append_drop, List.append_assoc]
def onesW (ws : List (Int × Int)) : Prop := ∀ p ∈ ws, p.1 = 1
def DInv (ws : List (Int × Int)) (xs : List HIt) (D : Int → Nat) : Prop := TInv (ws.map (·.2)) xs D ∧ (onesW ws → HInv ws.length (ws.map (·.2)) xs D)
/-- the heap as it is filled -/
def startH (ws : List (Int × Int)) : List HIt := ws.zipIdx.map fun q => ⟨q.1.1, (q.2 : Int), [q.1.2]⟩
theorem startH_len (ws : List (Int × Int)) : (startH ws).length = ws.length := by simp [startH]
theorem startH_take {ws : List (Int × Int)} {i : Nat} {r : Int × Int} (h : ws[i]? = some r) : startH (ws.take (i + 1)) = startH (ws.take i) ++ [⟨r.1, (i : Int), [r.2]⟩] := by
  obtain ⟨hi, _⟩ := List.getElem?_eq_some_iff.mp h
  have e : ws.take (i + 1) = ws.take i ++ [r] := by rw [List.take_add_one, h]; rfl
  unfold startH
  rw [e, List.zipIdx_append, List.map_append, List.length_take, Nat.zero_add, Nat.min_eq_left (by omega)]
  rfl
theorem startH_at {ws : List (Int × Int)} {i : Nat} (h : i < ws.length) : (startH ws)[i]? = some ⟨ws[i].1, (i : Int), [ws[i].2]⟩ := by
  simp [startH, List.getElem?_map, List.getElem?_zipIdx, List.getElem?_eq_getElem h]
theorem startH_w (ws : List (Int × Int)) : (startH ws).map HIt.w = ws.map (·.1) := by
  unfold startH
  rw [List.map_map]
  have : ∀ (k : Nat) (l : List (Int × Int)), (l.zipIdx k).map (HIt.w ∘ fun q : (Int × Int) × Nat => ⟨q.1.1, (q.2 : Int), [q.1.2]⟩) = l.map (·.1) := by
    intro k l
    induction l generalizing k with
    | nil => rfl
    | cons a l ih => simp only [List.zipIdx_cons, List.map_cons, ih]; rfl
  exact this 0 ws
theorem startH_ls (ws : List (Int × Int)) : (startH ws).map HIt.ls = ws.map fun p => [p.2] := by
  unfold startH
  rw [List.map_map]
  have : ∀ (k : Nat) (l : List (Int × Int)), (l.zipIdx k).map (HIt.ls ∘ fun q : (Int × Int) × Nat => ⟨q.1.1, (q.2 : Int), [q.1.2]⟩) = l.map fun p => [p.2] := by
    intro k l
    induction l generalizing k with
    | nil => rfl
    | cons a l ih => simp only [List.zipIdx_cons, List.map_cons, ih]; rfl
  exact this 0 ws
theorem startH_flat (ws : List (Int × Int)) : (startH ws).flatMap HIt.ls = ws.map (·.2) := by
  rw [List.flatMap_def, startH_ls]
  induction ws with
  | nil => rfl
  | cons p ws ih => simp [ih]
theorem dinv_start {ws : List (Int × Int)} {xs : List HIt} (hn : (ws.map (·.2)).Nodup) (hx : xs.Perm (startH ws)) : DInv ws xs fun _ => 0 := by
  refine ⟨⟨fun x hx' => ?_, ?_, hn⟩, fun ho => ?_⟩
  · have h1 : x.ls ∈ (startH ws).map HIt.ls := List.mem_map.mpr ⟨x, hx.mem_iff.mp hx', rfl⟩
    rw [startH_ls] at h1
    obtain ⟨p, _, hp⟩ := List.mem_map.mp h1
    rw [← hp]
    exact .leaf
  · rw [← startH_flat]
    exact hx.flatMap_right _
  · have hw : ∀ x ∈ xs, x.w = 1 := fun x hx' => by
      have h1 : x.w ∈ (startH ws).map HIt.w := List.mem_map.mpr ⟨x, hx.mem_iff.mp hx', rfl⟩
      rw [startH_w] at h1
      obtain ⟨p, hp, hp'⟩ := List.mem_map.mp h1
      rw [← hp']
      exact ho p hp
    refine hinv_start (ps := ws) (fun p hp => by rw [ho p hp]; exact Int.le_refl 1) hn ?_ ⟨startH ws, hx, startH_w ws, startH_ls ws⟩ ?_
    · exact List.Pairwise.imp_of_mem (R := fun _ _ => True) (fun {a b} ha hb _ => by rw [hw a ha, hw b hb]; exact Int.le_refl 1) (List.pairwise_of_forall fun _ _ => trivial)
    · clear hn hx hw
      induction ws with
      | nil => rfl
      | cons p ws ih =>
        rw [List.map_cons, List.sum_cons, ih (fun q hq => ho q (.tail _ hq)), ho p (.head _), List.length_cons]
        omega
theorem dinv_step {ws : List (Int × Int)} {x y : HIt} {r : List HIt} {D : Int → Nat} (h : DInv ws (x :: y :: r) D) (o : Int) (pl : Nat)
    (h1 : ∀ z ∈ r.take pl, z.w ≤ x.w + y.w) (h2 : ∀ z, r[pl]? = some z → x.w + y.w ≤ z.w) :
    DInv ws (r.take pl ++ ⟨x.w + y.w, o, x.ls ++ y.ls⟩ :: r.drop pl) (upD D (x.ls ++ y.ls)) := by
  refine ⟨tinv_step h.1 _ _ _, fun ho => hinv_step (h.2 ho) o pl h1 fun z hz => ?_⟩
  have hs := (h.2 ho).sorted
  rw [List.pairwise_cons, List.pairwise_cons] at hs
  have hs3 := hs.2.2
  have hs4 : (r.drop pl).Pairwise fun x y => x.w ≤ y.w := hs3.sublist (List.drop_sublist _ _)
  cases hd : r.drop pl with
  | nil => rw [hd] at hz; cases hz
  | cons a t =>
    have ha : r[pl]? = some a := by
      have : (r.drop pl)[0]? = some a := by rw [hd]; rfl
      rw [List.getElem?_drop] at this
      simpa using this
    have ha' := h2 a ha
    rw [hd] at hs4 hz
    rw [List.pairwise_cons] at hs4
    rcases List.mem_cons.mp hz with rfl | hz
    · exact ha'
    · exact Int.le_trans ha' (hs4.1 z hz)
/-- what _depths tells of its leaves -/
def DOk (ws : List (Int × Int)) (D : Int → Nat) : Prop := (∃ ks : List Int, ks.Perm (ws.map (·.2)) ∧ Full (ks.map D)) ∧ (onesW ws → ∀ l ∈ ws.map (·.2), ((fibo (D l + 2) : Nat) : Int) ≤ ws.length)
theorem dok_of {ws : List (Int × Int)} {x : HIt} {D : Int → Nat} (h : DInv ws [x] D) : DOk ws D := by
  refine ⟨⟨x.ls, by simpa using h.1.leaves, h.1.full x (by simp)⟩, fun ho => (depOk_of (h.2 ho)).2⟩
def FullOn (ls : List Int) (D : Int → Nat) : Prop := ∃ ks : List Int, ks.Perm ls ∧ Full (ks.map D)
theorem fullOn_perm {a b : List Int} {D : Int → Nat} (h : FullOn a D) (p : a.Perm b) : FullOn b D := let ⟨ks, h1, h2⟩ := h; ⟨ks, h1.trans p, h2⟩
theorem fullOn_kr {ls : List Int} {D : Int → Nat} (h : FullOn ls D) {B : Nat} (hB : ∀ l ∈ ls, D l ≤ B) : krSum B (ls.map D) = 2 ^ B := by
  obtain ⟨ks, hp, hf⟩ := h
  rw [← krSum_perm (hp.map D)]
  refine full_kr hf B fun d hd => ?_
  obtain ⟨l, hl, rfl⟩ := List.mem_map.mp hd
  exact hB l (hp.mem_iff.mp hl)
theorem fullOn_pos {ls : List Int} {D : Int → Nat} (h : FullOn ls D) (h2 : 2 ≤ ls.length) : ∀ l ∈ ls, 1 ≤ D l := by
  obtain ⟨ks, hp, hf⟩ := h
  intro l hl
  exact full_pos hf (by rw [List.length_map, hp.length_eq]; exact h2) _ (List.mem_map.mpr ⟨l, hp.mem_iff.mpr hl, rfl⟩)
theorem dok_low {ws : List (Int × Int)} {D : Int → Nat} (h : DOk ws D) (ho : onesW ws) (hn : ws.length < 64) : ∀ l ∈ ws.map (·.2), D l ≤ 8 := by
  intro l hl
  have h1 := h.2 ho l hl
  rcases Nat.lt_or_ge 8 (D l) with h5 | h5
  · have h6 := fibo_mono (show 11 ≤ D l + 2 by omega)
    have h7 : fibo 11 = 89 := rfl
    omega
  · exact h5
def halfW (ws : List (Int × Int)) : List (Int × Int) := ws.map fun p => (Int.fdiv (p.1 + 1) 2, p.2)
theorem halfW_leaves (ws : List (Int × Int)) : (halfW ws).map (·.2) = ws.map (·.2) := by simp [halfW]
theorem halfW_pos {ws : List (Int × Int)} (h : ∀ p ∈ ws, 1 ≤ p.1) : ∀ p ∈ halfW ws, 1 ≤ p.1 := by
  intro p hp
  obtain ⟨q, hq, rfl⟩ := List.mem_map.mp hp
  have := h q hq
  show 1 ≤ Int.fdiv (q.1 + 1) 2
  rw [Int.fdiv_eq_ediv_of_nonneg _ (by decide)]
  omega
theorem halfW_le {ws : List (Int × Int)} (h : ∀ p ∈ ws, 1 ≤ p.1) : ((halfW ws).map (·.1)).sum ≤ (ws.map (·.1)).sum ∧ (((halfW ws).map (·.1)).sum = (ws.map (·.1)).sum → onesW ws) := by
  induction ws with
  | nil => exact ⟨Int.le_refl _, fun _ _ hp => nomatch hp⟩
  | cons p ws ih =>
    obtain ⟨i1, i2⟩ := ih fun q hq => h q (.tail _ hq)
    have hp := h p (.head _)
    have e : Int.fdiv (p.1 + 1) 2 = (p.1 + 1) / 2 := Int.fdiv_eq_ediv_of_nonneg _ (by decide)
    show (Int.fdiv (p.1 + 1) 2 + ((halfW ws).map (·.1)).sum ≤ p.1 + (ws.map (·.1)).sum) ∧ (Int.fdiv (p.1 + 1) 2 + ((halfW ws).map (·.1)).sum = p.1 + (ws.map (·.1)).sum → _)
    rw [e]
    refine ⟨by omega, fun q x hx => ?_⟩
    rcases List.mem_cons.mp hx with rfl | hx
    · omega
    · exact i2 (by omega) x hx
theorem sum_pos {ws : List (Int × Int)} (h : ∀ p ∈ ws, 1 ≤ p.1) : 0 ≤ (ws.map (·.1)).sum := by
  induction ws with
  | nil => exact Int.le_refl _
  | cons p ws ih =>
    have := ih fun q hq => h q (.tail _ hq)
    have := h p (.head _)
    rw [List.map_cons, List.sum_cons]
    omega
theorem halfW_lt {ws vs : List (Int × Int)} (h : ∀ p ∈ ws, 1 ≤ p.1) (hp : vs.Perm (halfW ws)) (hne : ¬ onesW ws) : (vs.map (fun p : Int × Int => p.1)).sum.toNat < (ws.map (fun p : Int × Int => p.1)).sum.toNat := by
  obtain ⟨h1, h2⟩ := halfW_le h
  have e := sum_perm (hp.map (fun p : Int × Int => p.1))
  have h3 := sum_pos h
  have h4 := sum_pos (halfW_pos h)
  have h5 : ((halfW ws).map (·.1)).sum ≠ (ws.map (·.1)).sum := fun q => hne (h2 q)
  rw [e]
  omega
section
variable {prog : Program} {w : World} {A : Around} {E : Value → Shared → Prop} {s : Shared} {h₀ : Heap} {L : Addr} {m : Str → Option Value} {news : List (Addr × Obj)}
theorem sliceApplied_two {sl : Addr} {u : Tok} {Q : Int × Int × Nat → Shared → Prop} (hs : s.heap.IsSliceOf sl .none (.int 2 u) .none) (h : Q (0, 1, 2) s) :
    wpAny (model prog w) A (Builtin.Slice.sliceApplied (.ref sl) (pure (3 : Int))) Q E s := by
  obtain ⟨os, hos, hcs, hds⟩ := id hs
  unfold Builtin.Slice.sliceApplied Builtin.Slice.sliceFields
  refine wpAny_bind (wpAny_bind (wpAny_field hos hds (x := .none) rfl (wpAny_bind (wpAny_field hos hds (x := .int 2 u) rfl (wpAny_bind (wpAny_field hos hds (x := .none) rfl (wpAny_pure ?_)))))))
  refine wpAny_bind (slicePart_none ?_)
  show wpAny _ _ (if ((1 : Int) == 0) = true then _ else _) _ _ s
  rw [if_neg (by decide)]
  refine wpAny_bind (slicePart_none (wpAny_bind (slicePart_int (wpAny_bind (wpAny_pure ?_)))))
  show wpAny _ _ (match Builtin.Slice.sliceAdjust none (some (2 : Int)) 1 (3 : Int) with | (lo, hi) => pure (lo, (1 : Int), Builtin.Slice.slicePlaces lo hi 1)) _ _ s
  have e : Builtin.Slice.sliceAdjust none (some (2 : Int)) 1 (3 : Int) = (0, 2) := by decide
  rw [e]
  show wpAny _ _ (pure ((0 : Int), (1 : Int), Builtin.Slice.slicePlaces 0 2 1)) _ _ s
  have e2 : Builtin.Slice.slicePlaces 0 2 1 = 2 := by decide
  rw [e2]
  exact wpAny_pure h
theorem getItem_tuple_two {t sl : Addr} {x y z : Value} {u : Tok} {Q : Value → Shared → Prop} (ht : IsTup s.heap t #[x, y, z]) (hs : s.heap.IsSliceOf sl .none (.int 2 u) .none)
    (h : Q (.ref s.heap.objs.size) { s with heap := s.heap.push { cls := .type "tuple", data := .seq #[x, y] } }) : wpAny (model prog w) A (getItem (.ref t) (.ref sl)) Q E s := by
  have hdrop : sizeOk (.seq #[x, y]) := by
    show (#[x, y] : Array Value).size ≤ sizeLine
    rw [sizeLine_eq]
    show 2 ≤ 16777216
    omega
  obtain ⟨os, hos, hcs, hds⟩ := id hs
  have hTs : s.TypeIs (.ref sl) "slice" := ⟨os, hos, hcs⟩
  unfold getItem
  try with_reducible refine wpAny_holding ?_
  first | refine wpAny_bind (wpAny_pure ?_) | skip
  refine wpAny_bind (wpAny_sequenceKey ht.typeIs (by decide) ?_)
  refine wpAny_bind (wpAny_callSpecial?_slot (name := Str.ofString "__getitem__") ht.typeIs slot_tuple_getitem
    (wpAny_call_entry slot_tuple_getitem ht.typeIs entry_tuple_getitem ?_ (args_tuple_getitem _ _)))
  show wpAny _ _ (Builtin.Tuple.tupleItemsOf (.ref t) >>= _) _ _ s
  refine wpAny_bind (tupleItemsOf_ ht ?_)
  refine wpAny_bind (wpAny_typeOf hTs ?_)
  rw [if_pos (by decide)]
  refine wpAny_bind (sliceApplied_two hs ?_)
  show wpAny _ _ (if (((0 : Int) == 0 && (1 : Int) == 1 && (2 : Nat) == 3) = true) then _ else _) _ _ s
  rw [if_neg (by decide)]
  have e : ((List.range 2).filterMap fun (k : Nat) => (#[x, y, z] : Array Value)[((0 : Int) + (k : Int) * 1).toNat]?).toArray = #[x, y] := rfl
  first
    | exact wpAny_bind (m := Builtin.Tuple.tupleExact _) (wpAny_newObj_type (wpAny_pure ⟨_, rfl, wpAny_pure h⟩) hdrop)
    | exact wpAny_bind (m := Builtin.Tuple.tupleExact _) (wpAny_newObj_type (wpAny_bind (wpAny_pure (wpAny_pure ⟨_, rfl, wpAny_pure h⟩))) hdrop)
    | exact wpAny_bind (wpAny_bind (m := Builtin.Tuple.tupleExact _) (wpAny_newObj_type (wpAny_pure (wpAny_pure ⟨_, rfl, wpAny_pure h⟩)) hdrop))
    | exact wpAny_bind (wpAny_bind (m := Builtin.Tuple.tupleExact _) (wpAny_newObj_type (wpAny_pure ⟨_, rfl, wpAny_pure h⟩) hdrop))
/-- the first two of three -/
theorem slice_two {value slice : Expr} {t : Addr} {o : Obj} {x y z : Value} {n : Nat} {u : Tok} {Q : Value → Shared → Prop}
    (F : Fr h₀ L s.heap m) (N : News h₀ L s.heap news) (hm : (t, o) ∈ news) (ho : o = { cls := .type "tuple", data := .seq #[x, y, z] n })
    (h : ∀ D h', Fr h₀ L h' m → News h₀ L h' ((D, { cls := .type "tuple", data := .seq #[x, y] }) :: news) → (∀ p ∈ news, p.1 < D) → Q (.ref D) { s with heap := h' })
    (hs : subscripted slice false (.ref t) (.ref s.heap.objs.size) = operate [.ref s.heap.objs.size, .ref t] (getItem (.ref t) (.ref s.heap.objs.size)) := by with_unfolding_all rfl)
    (hg : ∀ r, letTemporaryGo value (.ref t) r = pure () := by intro _; with_unfolding_all rfl) :
    wpAny (model prog w) A (subscriptTail value slice (.ref t) (.ref s.heap.objs.size)) Q E { s with heap := s.heap.push { cls := .type "slice", data := .fields #[.none, .int 2 u, .none] } } := by
  subst ho
  have ht : IsTup s.heap t #[x, y, z] := ⟨_, (N _ hm).1, rfl, n, rfl⟩
  have ht' : IsTup (s.heap.push { cls := .type "slice", data := .fields #[.none, .int 2 u, .none] }) t #[x, y, z] := ht.keeps fun _ _ e => Heap.get?_push_of_some _ e
  refine subscriptTail_ops (s := { s with heap := s.heap.push { cls := .type "slice", data := .fields #[.none, .int 2 u, .none] } }) ht'.typeIs slot_tuple_getitem.lookup
    (getItem_tuple_two ht' (Heap.IsSliceOf.new ..) ?_) hs hg
  have N1 := News.push (F.push { cls := .type "slice", data := .fields #[.none, .int 2 u, .none] }) (N.grown fun _ _ e => Heap.get?_push_of_some _ e) { cls := .type "tuple", data := .seq #[x, y] }
  exact h _ _ ((F.push _).push _) N1 fun p hp => by
    rw [Heap.size_push]
    exact Nat.lt_succ_of_lt (Heap.lt_size (N p hp).1)
theorem tuple_lt_tree {a b : Addr} {oa ob : Obj} {x y x' y' : Int} {t u t' u' : Tok} {na nb : Nat} {P : PySem.Fin → Shared → Prop} (ha : s.heap.get? a = some oa) (da : oa.data = .seq #[.int x t, .int y u] na) (hb : s.heap.get? b = some ob) (cb : ob.cls = .type "tuple") (db : ob.data = .seq #[.int x' t', .int y' u'] nb)
    (h : P (.done (.ret (.bool (decide (x < x' ∨ (x = x' ∧ y < y')))))) s) : wpAny (model prog w) A (Builtin.«tuple.__lt__» ⟨[.ref a, .ref b], []⟩) P E s := by
  have hTb : s.TypeIs (.ref b) "tuple" := ⟨ob, hb, cb⟩
  show wpAny _ _ (isInstance (.ref b) (.type "tuple") >>= _) _ _ s
  refine wpAny_bind (wpAny_isInstance hTb isSubtype_tuple_tuple ?_)
  simp only [Bool.not_true, Bool.false_eq_true, if_false]
  refine wpAny_bind (wpAny_tupleItemsOf ha da ?_)
  refine wpAny_bind (wpAny_tupleItemsOf hb db ?_)
  show wpAny _ _ (forIn [(Value.int x t, Value.int x' t'), (Value.int y u, Value.int y' u')] _ _ >>= _) _ _ s
  rw [List.forIn_cons]
  refine wpAny_bind (wpAny_bind ?_)
  refine wpAny_bind (wpAny_eqBool_int ?_)
  by_cases e : x = x'
  · rw [show (x == x') = true by simpa using e]
    simp only [Bool.not_true, Bool.false_eq_true, if_false]
    refine wpAny_pure ?_
    dsimp only
    rw [List.forIn_cons]
    refine wpAny_bind ?_
    refine wpAny_bind (wpAny_eqBool_int ?_)
    by_cases e2 : y = y'
    · rw [show (y == y') = true by simpa using e2]
      simp only [Bool.not_true, Bool.false_eq_true, if_false]
      refine wpAny_pure ?_
      dsimp only
      rw [List.forIn_nil]
      refine wpAny_pure ?_
      dsimp only
      have e3 : decide (x < x' ∨ (x = x' ∧ y < y')) = false := by rw [decide_eq_false_iff_not]; omega
      rw [e3] at h
      exact wpAny_pure h
    · rw [show (y == y') = false by simpa using e2]
      simp only [Bool.not_false, if_true]
      refine wpAny_bind (wpAny_rule ?_)
      refine wpAny_bind (lt_int ?_)
      have e3 : decide (x < x' ∨ (x = x' ∧ y < y')) = decide (y < y') := by rw [decide_eq_decide]; omega
      rw [e3] at h
      exact wpAny_bind (wpAny_pure (wpAny_pure (wpAny_pure (wpAny_pure h))))
  · rw [show (x == x') = false by simpa using e]
    simp only [Bool.not_false, if_true]
    refine wpAny_bind (wpAny_rule ?_)
    refine wpAny_bind (lt_int ?_)
    have e3 : decide (x < x' ∨ (x = x' ∧ y < y')) = decide (x < x') := by rw [decide_eq_decide]; omega
    rw [e3] at h
    exact wpAny_bind (wpAny_pure (wpAny_pure (wpAny_pure (wpAny_pure h))))
/-- two tuples of two ints by < -/
theorem lt_tup {a b : Addr} {oa ob : Obj} {x y x' y' : Int} {t u t' u' : Tok} {na nb : Nat} {Q : Value → Shared → Prop} (hu : A.units < cLine) (N : News h₀ L s.heap news) (ha : (a, oa) ∈ news) (ea : oa = { cls := .type "tuple", data := .seq #[.int x t, .int y u] na }) (hb : (b, ob) ∈ news) (eb : ob = { cls := .type "tuple", data := .seq #[.int x' t', .int y' u'] nb })
    (h : Q (.bool (decide (x < x' ∨ (x = x' ∧ y < y')))) s) : wpAny (model prog w) A (compareOp .Lt (.ref a) (.ref b)) Q E s := by
  subst ea
  subst eb
  have hTa : s.TypeIs (.ref a) "tuple" := ⟨_, (N _ ha).1, rfl⟩
  have hTb : s.TypeIs (.ref b) "tuple" := ⟨_, (N _ hb).1, rfl⟩
  refine wpAny_richCompare_same_room (op := .Lt) hTa hTb PySem.F.slot_tuple_lt ?_ hu
  refine wpAny_call_entry PySem.F.slot_tuple_lt hTa PySem.F.entry_tuple_lt ?_ (PySem.F.args_tuple_lt_2 _ _)
  exact tuple_lt_tree (N _ ha).1 rfl (N _ hb).1 rfl rfl ⟨_, rfl, by simp, h⟩
end
/-- a pair of ints, an item of the heap as data -/
def pairD (p : Int × Int) : Dat := .tuple [.int p.1, .int p.2]
def hitD (x : HIt) : Dat := .tuple [.int x.w, .int x.o, .list (x.ls.map Dat.int)]
theorem datIn_lst {led : List (Addr × Obj)} {v : Value} {ds : List Dat} (h : DatIn led v (.list ds)) : ∃ a vs n, v = .ref a ∧ (a, listOf vs.toArray n) ∈ led ∧ DatAll led vs ds := by
  cases h with
  | list hm ha => exact ⟨_, _, _, rfl, hm, ha⟩
theorem datAll_ints {led : List (Addr × Obj)} : ∀ {ls : List Int} {vs : List Value}, DatAll led vs (ls.map Dat.int) → IntsAre vs ls
  | [], vs, h => by
    have : vs = [] := List.length_eq_zero_iff.mp h.length
    subst this
    exact .nil
  | a :: ls, vs, h => by
    obtain ⟨v, r, rfl, h1, h2⟩ := datAll_cons h
    obtain ⟨t, rfl⟩ := datIn_int h1
    exact .cons _ _ (datAll_ints h2)
theorem ints_datAll {led : List (Addr × Obj)} {vs : List Value} {ls : List Int} (h : IntsAre vs ls) : DatAll led vs (ls.map Dat.int) := by
  induction h with
  | nil => exact .nil
  | cons n t _ ih => exact .cons (.int _ _) ih
def tupO (vs : List Value) (n : Nat) : Obj := { cls := .type "tuple", data := .seq vs.toArray n }
theorem pair_in {led : List (Addr × Obj)} {v : Value} {p : Int × Int} (h : DatIn led v (pairD p)) : ∃ T t1 t2 n, v = .ref T ∧ (T, ({ cls := .type "tuple", data := .seq #[.int p.1 t1, .int p.2 t2] n } : Obj)) ∈ led := by
  obtain ⟨a, vs, n, e, hm, ha⟩ := datIn_tup h
  obtain ⟨v1, r1, e1, h1, k1⟩ := datAll_cons ha
  obtain ⟨v2, r2, e2, h2, k2⟩ := datAll_cons k1
  obtain ⟨t1, f1⟩ := datIn_int h1
  obtain ⟨t2, f2⟩ := datIn_int h2
  have k4 : r2 = [] := List.length_eq_zero_iff.mp k2.length
  rw [e1, e2, f1, f2, k4] at hm
  exact ⟨_, _, _, _, e, hm⟩
theorem pair_at {led : List (Addr × Obj)} {vr : List Value} {ps : List (Int × Int)} (hD : DatAll led vr (ps.map pairD)) {i : Nat} {v : Value} (hv : vr[i]? = some v) : ∃ r T t1 t2 n, ps[i]? = some r ∧ v = .ref T ∧ (T, ({ cls := .type "tuple", data := .seq #[.int r.1 t1, .int r.2 t2] n } : Obj)) ∈ led := by
  have hlen : vr.length = ps.length := by rw [hD.length, List.length_map]
  have hi : i < ps.length := by rw [← hlen]; exact (List.getElem?_eq_some_iff.mp hv).1
  obtain ⟨v', hv', hd⟩ := hD.get (k := i) (by rw [List.length_map]; exact hi)
  have ev : v' = v := by rw [hv] at hv'; exact (Option.some.inj hv').symm
  rw [ev, List.getElem_map] at hd
  obtain ⟨T, t1, t2, n, e, hm⟩ := pair_in hd
  exact ⟨ps[i], T, t1, t2, n, List.getElem?_eq_getElem hi, e, hm⟩
theorem hit_in {led : List (Addr × Obj)} {v : Value} {x : HIt} (h : DatIn led v (hitD x)) : ∃ T t1 t2 n LA vs nn, v = .ref T ∧ (T, ({ cls := .type "tuple", data := .seq #[.int x.w t1, .int x.o t2, .ref LA] n } : Obj)) ∈ led ∧ (LA, listOf vs.toArray nn) ∈ led ∧ IntsAre vs x.ls := by
  obtain ⟨a, vs, n, e, hm, ha⟩ := datIn_tup h
  obtain ⟨v1, r1, e1, h1, k1⟩ := datAll_cons ha
  obtain ⟨v2, r2, e2, h2, k2⟩ := datAll_cons k1
  obtain ⟨v3, r3, e3, h3, k3⟩ := datAll_cons k2
  obtain ⟨t1, f1⟩ := datIn_int h1
  obtain ⟨t2, f2⟩ := datIn_int h2
  obtain ⟨LA, us, nn, f3, hL, hu⟩ := datIn_lst h3
  have k4 : r3 = [] := List.length_eq_zero_iff.mp k3.length
  rw [e1, e2, e3, f1, f2, f3, k4] at hm
  exact ⟨_, _, _, _, _, _, _, e, hm, hL, datAll_ints hu⟩
theorem hit_make {led : List (Addr × Obj)} {T LA : Addr} {x : HIt} {t1 t2 : Tok} {n nn : Nat} {vs : List Value} (hT : (T, ({ cls := .type "tuple", data := .seq #[.int x.w t1, .int x.o t2, .ref LA] n } : Obj)) ∈ led) (hL : (LA, listOf vs.toArray nn) ∈ led) (hv : IntsAre vs x.ls) : DatIn led (.ref T) (hitD x) :=
  .tuple (vs := [.int x.w t1, .int x.o t2, .ref LA]) hT (.cons (.int _ _) (.cons (.int _ _) (.cons (.list hL (ints_datAll hv)) .nil)))
theorem datAll_app {led : List (Addr × Obj)} : ∀ {vs us : List Value} {ds es : List Dat}, DatAll led vs ds → DatAll led us es → DatAll led (vs ++ us) (ds ++ es)
  | _, _, _, _, .nil, h => h
  | _, _, _, _, .cons a b, h => .cons a (datAll_app b h)
theorem datAll_take {led : List (Addr × Obj)} : ∀ {vs : List Value} {ds : List Dat} (k : Nat), DatAll led vs ds → DatAll led (vs.take k) (ds.take k)
  | _, _, 0, _ => .nil
  | _, _, _ + 1, .nil => .nil
  | _, _, k + 1, .cons a b => .cons a (datAll_take k b)
theorem datAll_drop {led : List (Addr × Obj)} : ∀ {vs : List Value} {ds : List Dat} (k : Nat), DatAll led vs ds → DatAll led (vs.drop k) (ds.drop k)
  | _, _, 0, h => h
  | _, _, _ + 1, .nil => .nil
  | _, _, k + 1, .cons _ b => datAll_drop k b
/-- the items picked by places -/
theorem datAll_pick {led : List (Addr × Obj)} {vs : List Value} {α : Type} {g : α → Dat} {xs : List α} (z : α) (h : DatAll led vs (xs.map g)) : ∀ {p : List Nat}, (∀ i ∈ p, i < xs.length) → DatAll led (p.map fun i => vs.getD i Value.none) ((p.map fun i => xs.getD i z).map g)
  | [], _ => .nil
  | i :: p, hp => by
    have hi := hp i (.head _)
    obtain ⟨v, hv, hd⟩ := h.get (k := i) (by rw [List.length_map]; exact hi)
    refine .cons ?_ (datAll_pick z h fun j hj => hp j (.tail _ hj))
    have e1 : vs.getD i Value.none = v := by rw [List.getD, hv]; rfl
    have e2 : xs.getD i z = xs[i] := by simp [List.getD, List.getElem?_eq_getElem hi]
    rw [List.getElem_map] at hd
    show DatIn led (vs.getD i Value.none) (g (xs.getD i z))
    rw [e1, e2]
    exact hd
section
variable {prog : Program} {w : World} {A : Around} {E : Value → Shared → Prop} {s : Shared} {env : Env} {h₀ : Heap} {target : Expr} {body : List Stmt} {Q : Flow → Shared → Prop}
/-- a for over a list of pairs -/
theorem wp_for {σ : Type} {RL : Addr} {vr : List Value} {nn : Nat} {ws : List (Int × Int)} {m₀ : Str → Option Value} {led news : List (Addr × Obj)} (Led : σ → List (Addr × Obj)) (ps : σ → List (Str × Value)) (stored : List Str) (P : Nat → σ → Prop) (c₀ : σ)
    (hh : A.handled = none) (F : Fr h₀ env.locals s.heap m₀) (N : News h₀ env.locals s.heap news) (hD : DatAll led vr (ws.map pairD)) (hm : ∀ c, (RL, listOf vr.toArray nn) ∈ Led c) (hs : ∀ c, ∀ p ∈ led, p ∈ Led c) (hn : ∀ p ∈ Led c₀, p ∈ news) (hk : ∀ p ∈ ps c₀, m₀ p.1 = some p.2) (hp : P 0 c₀)
    (turn : ∀ (c : σ) (i : Nat) (r : Int × Int) (T : Addr) (t1 t2 : Tok) (u : Str → Option Value) h tk own, ws[i]? = some r → P i c → IsTup h T #[.int r.1 t1, .int r.2 t2] → (∀ p ∈ own, ∀ q ∈ Led c, p.1 ≠ q.1) →
      Fr h₀ env.locals h (kstB (fun z => if stored.contains z then u z else m₀ z) (ps c)) → News h₀ env.locals h (Led c ++ own) →
      wpAny (model prog w) A (assign target env (.ref T)) (fun _ s₃ => wpAny (model prog w) A (execs body env) (InvPostG h₀ env.locals (RtJ Led ps stored m₀ P (i + 1)) own { s with heap := h, toks := tk } Q) E s₃) E { s with heap := h, toks := tk })
    (done : ∀ (c : σ) (u : Str → Option Value) h tk, P ws.length c → Fr h₀ env.locals h (kstB (fun z => if stored.contains z then u z else m₀ z) (ps c)) → News h₀ env.locals h (Led c) → Q .next { s with heap := h, toks := tk }) :
    wpAny (model prog w) A (pyIter (.ref RL)) (fun it s₂ => TurnsAt prog w A h₀ env target body Q E it s₂) E s := by
  have hlen : vr.length = ws.length := by rw [hD.length, List.length_map]
  refine turns_list (vs := vr) (nn := nn) (news := Led c₀) (RtJ Led ps stored m₀ P) hh (hm c₀) F (fun p hp => N p (hn p hp)) ⟨c₀, rfl, hp, hk, fun _ _ _ => rfl⟩ ?_ ?_ ?_
  · rintro i m nx ⟨c, rfl, _⟩
    exact hm c
  · rintro i v m₁ nx h tk own hv hoff ⟨c, rfl, p1, p2, p3⟩ F₁ N₁
    obtain ⟨r, T, t1, t2, n, hr, rfl, hT⟩ := pair_at hD hv
    exact turn c i r T t1 t2 m₁ h tk own hr p1 (N₁.isTup (List.mem_append.mpr (.inl (hs c _ hT)))) (fun p hp q hq => hoff p hp q.1 (List.mem_map_of_mem hq)) (ksw_fr p2 p3 F₁) N₁
  · rintro m₁ nx h tk ⟨c, rfl, p1, p2, p3⟩ F₁ N₁
    rw [hlen] at p1
    exact done c m₁ h tk p1 (ksw_fr p2 p3 F₁) N₁
end
/-- the heap is filled -/
structure HbS where
  tl : List (Addr × Obj)
  vr : List Value
  cr : Nat
  o : Int
  t : Tok
def hbLed (H : Addr) (news : List (Addr × Obj)) (c : HbS) : List (Addr × Obj) := (H, listOf c.vr.toArray c.cr) :: (c.tl ++ news)
def hbPs (c : HbS) : List (Str × Value) := [(Str.ofString "order", .int c.o c.t)]
def wlNames : List Str := [Str.ofString "weight", Str.ofString "leaf"]
def hbP (H : Addr) (news : List (Addr × Obj)) (ws : List (Int × Int)) (i : Nat) (c : HbS) : Prop := DatAll c.tl c.vr ((startH (ws.take i)).map hitD) ∧ c.o = i ∧ (∀ p ∈ c.tl, p.1 ≠ H) ∧ (∀ q ∈ news, ∀ p ∈ c.tl, q.1 < p.1)
section
variable {prog : Program} {w : World} {A : Around} {E : Value → Shared → Prop} {s : Shared} {env : Env} {h₀ : Heap} {L : Addr} {target : Expr} {body : List Stmt} {Q : Flow → Shared → Prop}
theorem hb_for {H RL : Addr} {vw : List Value} {nn cr : Nat} {ws : List (Int × Int)} {m₀ : Str → Option Value} {news : List (Addr × Obj)} {t : Tok}
    (hh : A.handled = none) (F : Fr h₀ env.locals s.heap m₀) (N : News h₀ env.locals s.heap ((H, listOf #[] cr) :: news)) (hD : DatAll news vw (ws.map pairD)) (hm : (RL, listOf vw.toArray nn) ∈ news) (ho : m₀ (Str.ofString "order") = some (.int 0 t)) (hoff : ∀ q ∈ news, q.1 < H)
    (turn : ∀ (tl : List (Addr × Obj)) (vr : List Value) (cr : Nat) (to : Tok) (i : Nat) (r : Int × Int) (T : Addr) (t1 t2 : Tok) (u : Str → Option Value) h tk own, DatAll tl vr ((startH (ws.take i)).map hitD) → vr.length = i → i < ws.length → ws[i]? = some r → (∀ p ∈ (tl ++ news) ++ own, p.1 ≠ H) → (∀ q ∈ news, ∀ p ∈ tl, q.1 < p.1) → (∀ p ∈ own, ∀ q ∈ tl ++ news, p.1 ≠ q.1) → IsTup h T #[.int r.1 t1, .int r.2 t2] →
      Fr h₀ env.locals h (fun y => if y = Str.ofString "order" then some (.int (i : Int) to) else if wlNames.contains y then u y else m₀ y) → News h₀ env.locals h ((H, listOf vr.toArray cr) :: ((tl ++ news) ++ own)) →
      wpAny (model prog w) A (assign target env (.ref T)) (fun _ s₃ => wpAny (model prog w) A (execs body env) (InvPostG h₀ env.locals (RtJ (hbLed H news) hbPs wlNames m₀ (hbP H news ws) (i + 1)) own { s with heap := h, toks := tk } Q) E s₃) E { s with heap := h, toks := tk })
    (done : ∀ (tl : List (Addr × Obj)) (vr : List Value) (cr : Nat) (to : Tok) (u : Str → Option Value) h tk, DatAll tl vr ((startH ws).map hitD) → vr.length = ws.length → (∀ p ∈ tl ++ news, p.1 ≠ H) → (∀ q ∈ news, ∀ p ∈ tl, q.1 < p.1) →
      Fr h₀ env.locals h (fun y => if y = Str.ofString "order" then some (.int (ws.length : Int) to) else if wlNames.contains y then u y else m₀ y) → News h₀ env.locals h ((H, listOf vr.toArray cr) :: (tl ++ news)) → Q .next { s with heap := h, toks := tk }) :
    wpAny (model prog w) A (pyIter (.ref RL)) (fun it s₂ => TurnsAt prog w A h₀ env target body Q E it s₂) E s := by
  have off2 : ∀ {tl : List (Addr × Obj)}, (∀ p ∈ tl, p.1 ≠ H) → ∀ p ∈ tl ++ news, p.1 ≠ H := fun h p hp => (List.mem_append.mp hp).elim (fun q => h p q) fun q => Nat.ne_of_lt (hoff p q)
  refine wp_for (led := news) (hbLed H news) hbPs wlNames (hbP H news ws) ⟨[], [], cr, 0, t⟩ hh F N hD (fun c => .tail _ (List.mem_append.mpr (.inr hm))) (fun c p hp => .tail _ (List.mem_append.mpr (.inr hp))) (fun _ h => h) ?_ ⟨.nil, rfl, fun _ h => (nomatch h), fun _ _ _ h => (nomatch h)⟩ ?_ ?_
  · intro p hp
    rw [List.mem_singleton.mp hp]
    exact ho
  · rintro ⟨tl, vr, cr, o, to⟩ i r T t1 t2 u h tk own hr ⟨p1, p2, p3, p4⟩ hT hof F₁ N₁
    have p2' : o = (i : Int) := p2
    subst p2'
    obtain ⟨hi, _⟩ := List.getElem?_eq_some_iff.mp hr
    refine turn tl vr cr to i r T t1 t2 u h tk own p1 (by have q : vr.length = ((startH (ws.take i)).map hitD).length := p1.length; rw [List.length_map, startH_len, List.length_take] at q; omega) hi hr (fun p hp => ?_) p4 (fun p hp q hq => hof p hp q (.tail _ hq)) hT F₁ N₁
    rcases List.mem_append.mp hp with hp | hp
    · exact off2 p3 p hp
    · exact hof p hp _ (.head _)
  · rintro ⟨tl, vr, cr, o, to⟩ u h tk ⟨p1, p2, p3, p4⟩ F₁ N₁
    have p2' : o = (ws.length : Int) := p2
    subst p2'
    have p1' : DatAll tl vr ((startH (ws.take ws.length)).map hitD) := p1
    rw [List.take_length] at p1'
    exact done tl vr cr to u h tk p1' (by rw [p1'.length, List.length_map, startH_len]) (off2 p3) p4 F₁ N₁
theorem hb_end {m₀ m' : Str → Option Value} {news own tl news' : List (Addr × Obj)} {ws : List (Int × Int)} {H T LA : Addr} {vr : List Value} {cr' i : Nat} {r : Int × Int} {t1 t2 t3 to : Tok} {s₁ : Shared} {h' : Heap} {tk : Nat}
    (F : Fr h₀ L h' m') (N : News h₀ L h' news') (hm : m' (Str.ofString "order") = some (.int ((i : Int) + 1) to)) (hr : ∀ z, (∀ p ∈ [(Str.ofString "order", Value.int ((i : Int) + 1) to)], z ≠ p.1) → wlNames.contains z = false → m' z = m₀ z)
    (n1 : (H, listOf (vr.toArray.push (.ref T)) cr') ∈ news') (n2 : (T, ({ cls := .type "tuple", data := .seq #[.int r.1 t1, .int (i : Int) t2, .ref LA] } : Obj)) ∈ news') (n3 : (LA, listOf #[.int r.2 t3] 0) ∈ news') (n4 : ∀ p ∈ tl ++ news, p ∈ news') (ho : ∀ p ∈ own, p ∈ news')
    (lT : H < T ∧ AllLt T ((tl ++ news) ++ own)) (lL : H < LA ∧ AllLt LA ((tl ++ news) ++ own)) (o1 : ∀ p ∈ (tl ++ news) ++ own, p.1 ≠ H) (o2 : ∀ p ∈ own, ∀ q ∈ tl ++ news, p.1 ≠ q.1) (kL : ∀ q ∈ news, ∀ p ∈ tl, q.1 < p.1)
    (hD : DatAll tl vr ((startH (ws.take i)).map hitD)) (hi : ws[i]? = some r) :
    InvEndG h₀ L (RtJ (hbLed H news) hbPs wlNames m₀ (hbP H news ws) (i + 1)) own s₁ { s₁ with heap := h', toks := tk } := by
  have ep : vr.toArray.push (Value.ref T) = (vr ++ [Value.ref T]).toArray := by simp
  rw [ep] at n1
  have aT := off_allLt lT.2
  have aL := off_allLt lL.2
  have inR : ∀ {p : Addr × Obj}, p ∈ news → p ∈ (tl ++ news) ++ own := fun h => List.mem_append.mpr (.inl (List.mem_append.mpr (.inr h)))
  refine rt_end (c' := (⟨(T, { cls := .type "tuple", data := .seq #[.int r.1 t1, .int (i : Int) t2, .ref LA] }) :: (LA, listOf #[.int r.2 t3] 0) :: tl, vr ++ [Value.ref T], cr', (i : Int) + 1, to⟩ : HbS)) F N ?_ ho ?_ ?_ hr ⟨?_, ?_, ?_, ?_⟩
  · intro p hp
    rcases List.mem_cons.mp hp with rfl | hp
    · exact n1
    · rcases List.mem_cons.mp hp with rfl | hp
      · exact n2
      · rcases List.mem_cons.mp hp with rfl | hp
        · exact n3
        · exact n4 p hp
  · intro p hp q hq
    have hp' := List.mem_append.mpr (.inr (a := p ∈ tl ++ news) hp)
    rcases List.mem_cons.mp hq with rfl | hq
    · exact o1 p hp'
    · rcases List.mem_cons.mp hq with rfl | hq
      · exact aT p hp'
      · rcases List.mem_cons.mp hq with rfl | hq
        · exact aL p hp'
        · exact o2 p hp q hq
  · intro p hp
    rw [List.mem_singleton.mp hp]
    exact hm
  · show DatAll _ (vr ++ [Value.ref T]) ((startH (ws.take (i + 1))).map hitD)
    rw [startH_take hi, List.map_append]
    exact datAll_app (hD.mono fun q hq => .tail _ (.tail _ hq)) (.cons (hit_make (x := ⟨r.1, (i : Int), [r.2]⟩) (.head _) (vs := [.int r.2 t3]) (.tail _ (.head _)) (.cons _ _ .nil)) .nil)
  · show (i : Int) + 1 = ((i + 1 : Nat) : Int)
    omega
  · intro p hp
    rcases List.mem_cons.mp hp with rfl | hp
    · exact Nat.ne_of_gt lT.1
    · rcases List.mem_cons.mp hp with rfl | hp
      · exact Nat.ne_of_gt lL.1
      · exact o1 p (List.mem_append.mpr (.inl (List.mem_append.mpr (.inl hp))))
  · intro q hq p hp
    rcases List.mem_cons.mp hp with rfl | hp
    · exact allLt_mem lT.2 q (inR hq)
    · rcases List.mem_cons.mp hp with rfl | hp
      · exact allLt_mem lL.2 q (inR hq)
      · exact kL q hq p hp
end
/-- the depths' table -/
def dpT (ws : List (Int × Int)) (D : Int → Nat) : List (Int × Int) := ws.map fun p => (p.2, ((D p.2 : Nat) : Int))
def IDict (prog : Program) (w : World) (o : Obj) (c : List (Int × Int)) : Prop := ∃ kvs, o.IsDictOf (intKind prog w) kvs ∧ PyProof.V.FlatPairs PyData.int kvs (kdfD c)
theorem IDict.nil {prog : Program} {w : World} {o : Obj} (h : o.IsDictOf (intKind prog w) []) : IDict prog w o [] := ⟨[], h, .nil⟩
theorem dpT_keys (ws : List (Int × Int)) (D : Int → Nat) : (dpT ws D).map (·.1) = ws.map (·.2) := by simp [dpT]
theorem dpT_len (ws : List (Int × Int)) (D : Int → Nat) : (dpT ws D).length = ws.length := by simp [dpT]
theorem dpT_has {ws : List (Int × Int)} {D : Int → Nat} {l : Int} (h : l ∈ ws.map (·.2)) : kdfHas (dpT ws D) l = true := by
  obtain ⟨p, hp, e⟩ := List.mem_map.mp h
  unfold kdfHas
  rw [List.any_eq_true]
  exact ⟨(p.2, _), List.mem_map.mpr ⟨p, hp, rfl⟩, by simpa using e⟩
theorem dpT_look {ws : List (Int × Int)} {D : Int → Nat} {l : Int} (h : l ∈ ws.map (·.2)) : kdfLook (dpT ws D) l 0 = ((D l : Nat) : Int) := by
  unfold kdfLook dpT
  induction ws with
  | nil => cases h
  | cons p ws ih =>
    rw [List.map_cons, List.find?_cons]
    by_cases e : p.2 = l
    · simp [e]
    · rw [show decide ((p.2, ((D p.2 : Nat) : Int)).1 = l) = false by simpa using e]
      refine ih ?_
      rcases List.mem_cons.mp (by simpa using h : l ∈ p.2 :: ws.map (·.2)) with q | q
      · exact absurd q.symm e
      · exact q
theorem dpT_put {ws : List (Int × Int)} {D : Int → Nat} {l : Int} (h : l ∈ ws.map (·.2)) : kdfPut (dpT ws D) l (((D l : Nat) : Int) + 1) = dpT ws (upD D [l]) := by
  have hh := dpT_has (D := D) h
  unfold kdfHas at hh
  unfold kdfPut
  rw [if_pos hh]
  unfold dpT
  rw [List.map_map]
  refine List.map_congr_left fun p _ => ?_
  show (if decide (p.2 = l) = true then (p.2, ((D l : Nat) : Int) + 1) else (p.2, ((D p.2 : Nat) : Int))) = (p.2, ((upD D [l] p.2 : Nat) : Int))
  unfold upD
  by_cases e : p.2 = l
  · subst e; simp
  · rw [if_neg (by simpa using e)]
    have : List.count p.2 [l] = 0 := by rw [List.count_eq_zero]; simpa using e
    rw [this]
    rfl
theorem upD_app (D : Int → Nat) (a b : List Int) : upD (upD D a) b = upD D (a ++ b) := by
  funext l
  show D l + a.count l + b.count l = D l + (a ++ b).count l
  rw [List.count_append]
  omega
theorem upD_nil (D : Int → Nat) : upD D [] = D := by funext l; rfl
theorem dpT_zero {ws : List (Int × Int)} (hn : (ws.map (·.2)).Nodup) {i : Nat} {r : Int × Int} (h : ws[i]? = some r) : kdfPut (dpT (ws.take i) fun _ => 0) r.2 0 = dpT (ws.take (i + 1)) fun _ => 0 := by
  obtain ⟨hi, _⟩ := List.getElem?_eq_some_iff.mp h
  have e : ws.take (i + 1) = ws.take i ++ [r] := by rw [List.take_add_one, h]; rfl
  rw [e]
  have hno : ¬ ((dpT (ws.take i) fun _ => 0).any fun p => decide (p.1 = r.2)) = true := by
    rw [List.any_eq_true]
    rintro ⟨p, hp, q⟩
    obtain ⟨x, hx, rfl⟩ := List.mem_map.mp hp
    have q' : x.2 = r.2 := by simpa using q
    obtain ⟨j, hj, ex⟩ := List.mem_take_iff_getElem.mp hx
    have hj' : j < ws.length := by omega
    have h1 : (ws.map (·.2))[j]'(by simpa using hj') = (ws.map (·.2))[i]'(by simpa using hi) := by
      simp only [List.getElem_map]
      rw [ex, q']
      have : ws[i] = r := by rw [List.getElem?_eq_getElem hi] at h; exact Option.some.inj h
      rw [this]
    have := (List.getElem_inj hn).mp h1
    omega
  unfold kdfPut
  rw [if_neg hno]
  unfold dpT
  rw [List.map_append]
  rfl
/-- the depths begin at nought -/
structure DzS where
  o : Obj
def dzLed (dd : Addr) (news : List (Addr × Obj)) (c : DzS) : List (Addr × Obj) := (dd, c.o) :: news
def dzP (prog : Program) (w : World) (ws : List (Int × Int)) (i : Nat) (c : DzS) : Prop := IDict prog w c.o (dpT (ws.take i) fun _ => 0)
section
variable {prog : Program} {w : World} {A : Around} {E : Value → Shared → Prop} {s : Shared} {env : Env} {h₀ : Heap} {L : Addr} {target : Expr} {body : List Stmt} {Q : Flow → Shared → Prop}
theorem dz_for {dd RL : Addr} {o₀ : Obj} {vw : List Value} {nn : Nat} {ws : List (Int × Int)} {m₀ : Str → Option Value} {news : List (Addr × Obj)}
    (hh : A.handled = none) (F : Fr h₀ env.locals s.heap m₀) (N : News h₀ env.locals s.heap ((dd, o₀) :: news)) (hd : o₀.IsDictOf (intKind prog w) []) (hD : DatAll news vw (ws.map pairD)) (hm : (RL, listOf vw.toArray nn) ∈ news) (hoff : ∀ q ∈ news, q.1 < dd)
    (turn : ∀ (o : Obj) (i : Nat) (r : Int × Int) (T : Addr) (t1 t2 : Tok) (u : Str → Option Value) h tk own, IDict prog w o (dpT (ws.take i) fun _ => 0) → i < ws.length → ws[i]? = some r → (∀ p ∈ news ++ own, p.1 ≠ dd) → (∀ p ∈ own, ∀ q ∈ news, p.1 ≠ q.1) → IsTup h T #[.int r.1 t1, .int r.2 t2] →
      Fr h₀ env.locals h (fun y => if wlNames.contains y then u y else m₀ y) → News h₀ env.locals h ((dd, o) :: (news ++ own)) →
      wpAny (model prog w) A (assign target env (.ref T)) (fun _ s₃ => wpAny (model prog w) A (execs body env) (InvPostG h₀ env.locals (RtJ (dzLed dd news) (fun _ => []) wlNames m₀ (dzP prog w ws) (i + 1)) own { s with heap := h, toks := tk } Q) E s₃) E { s with heap := h, toks := tk })
    (done : ∀ (o : Obj) (u : Str → Option Value) h tk, IDict prog w o (dpT ws fun _ => 0) → Fr h₀ env.locals h (fun y => if wlNames.contains y then u y else m₀ y) → News h₀ env.locals h ((dd, o) :: news) → Q .next { s with heap := h, toks := tk }) :
    wpAny (model prog w) A (pyIter (.ref RL)) (fun it s₂ => TurnsAt prog w A h₀ env target body Q E it s₂) E s := by
  refine wp_for (led := news) (dzLed dd news) (fun _ => []) wlNames (dzP prog w ws) ⟨o₀⟩ hh F N hD (fun c => .tail _ hm) (fun c p hp => .tail _ hp) (fun _ h => h) (fun _ h => (nomatch h)) (.nil hd) ?_ ?_
  · rintro ⟨o⟩ i r T t1 t2 u h tk own hr p1 hT hof F₁ N₁
    obtain ⟨hi, _⟩ := List.getElem?_eq_some_iff.mp hr
    refine turn o i r T t1 t2 u h tk own p1 hi hr (fun p hp => ?_) (fun p hp q hq => hof p hp q (.tail _ hq)) hT F₁ N₁
    rcases List.mem_append.mp hp with hp | hp
    · exact Nat.ne_of_lt (hoff p hp)
    · exact hof p hp _ (.head _)
  · rintro ⟨o⟩ u h tk p1 F₁ N₁
    have p1' : IDict prog w o (dpT (ws.take ws.length) fun _ => 0) := p1
    rw [List.take_length] at p1'
    exact done o u h tk p1' F₁ N₁
theorem dz_end {m₀ m' : Str → Option Value} {news own news' : List (Addr × Obj)} {ws : List (Int × Int)} {dd : Addr} {o' : Obj} {i : Nat} {r : Int × Int} {s₁ : Shared} {h' : Heap} {tk : Nat}
    (F : Fr h₀ L h' m') (N : News h₀ L h' news') (hr : ∀ z, (∀ p ∈ ([] : List (Str × Value)), z ≠ p.1) → wlNames.contains z = false → m' z = m₀ z) (n1 : ∀ p ∈ (dd, o') :: news, p ∈ news') (ho : ∀ p ∈ own, p ∈ news') (o1 : ∀ p ∈ news ++ own, p.1 ≠ dd) (o2 : ∀ p ∈ own, ∀ q ∈ news, p.1 ≠ q.1)
    (hd : IDict prog w o' (kdfPut (dpT (ws.take i) fun _ => 0) r.2 0)) (hn : (ws.map (·.2)).Nodup) (hi : ws[i]? = some r) :
    InvEndG h₀ L (RtJ (dzLed dd news) (fun _ => []) wlNames m₀ (dzP prog w ws) (i + 1)) own s₁ { s₁ with heap := h', toks := tk } := by
  refine rt_end (c' := (⟨o'⟩ : DzS)) F N n1 ho ?_ (fun _ h => (nomatch h)) hr ?_
  · intro p hp q hq
    rcases List.mem_cons.mp hq with rfl | hq
    · exact o1 p (List.mem_append.mpr (.inr hp))
    · exact o2 p hp q hq
  · show IDict prog w o' (dpT (ws.take (i + 1)) fun _ => 0)
    rw [← dpT_zero hn hi]
    exact hd
end
section
variable {prog : Program} {w : World} {A : Around} {E : Value → Shared → Prop} {s : Shared} {h₀ : Heap} {L d : Addr} {m : Str → Option Value} {news : List (Addr × Obj)} {o : Obj} {c : List (Int × Int)}
theorem idict_set {u : Obj → List (Addr × Obj)} {k e : Int} {tk te : Tok} {Q : Unit → Shared → Prop} (F : Fr h₀ L s.heap m) (N : News h₀ L s.heap news) (U : UpdF d o news u) (hd : IDict prog w o c) (hc : c.length ≤ 16777216)
    (h : ∀ h' o' tk', Fr h₀ L h' m → News h₀ L h' (u o') → IDict prog w o' (kdfPut c k e) → Q () { s with heap := h', toks := tk' }) : wpAny (model prog w) A (setItem (.ref d) (.int k tk) (.int e te)) Q E s := by
  obtain ⟨kvs, h1, h2⟩ := hd
  exact kdf_setItem F N U h1 h2 hc fun h' o' kvs' F' N' a b => h h' o' _ F' N' ⟨kvs', a, b⟩
theorem idict_item {value slice : PySem.Expr} {k : Int} {tk : Tok} {Q : Value → Shared → Prop} (N : News h₀ L s.heap news) (hm : (d, o) ∈ news) (hd : IDict prog w o c) (lo : (d == sysModules) = false) (hk : kdfHas c k = true) (h : ∀ t tk', Q (.int (kdfLook c k 0) t) { s with toks := tk' })
    (hs : subscripted slice false (.ref d) (.int k tk) = operate [.ref d, .int k tk] (getItem (.ref d) (.int k tk)) := by with_unfolding_all rfl) (hg : ∀ r, letTemporaryGo value (.ref d) r = pure () := by intro _; with_unfolding_all rfl) :
    wpAny (model prog w) A (subscriptTail value slice (.ref d) (.int k tk)) Q E s := by
  obtain ⟨kvs, h1, h2⟩ := hd
  have T : IntTab prog w s.heap d (kdfD c) := TabAt.ofObj lo (N _ hm).1 h1 h2
  exact kdf_item T hk (fun t => h t _) hs hg
theorem upd_mid {D : Addr} {o o' : Obj} {pre post : List (Addr × Obj)} (a : ∀ p ∈ pre, p.1 ≠ D) (c : ∀ p ∈ post, p.1 ≠ D) : Upd D o o' (pre ++ (D, o) :: post) (pre ++ (D, o') :: post) := upd_app a (Upd.head c)
/-- pop(0) of the heap -/
theorem pop_hit {H : Addr} {vr : List Value} {n : Nat} {xs : List HIt} {tl : List (Addr × Obj)} {g : Obj → List (Addr × Obj)} {u : Tok} {Q : Value → Shared → Prop} (F : Fr h₀ L s.heap m) (N : News h₀ L s.heap news) (U : UpdF H (listOf vr.toArray n) news g) (hD : DatAll tl vr (xs.map hitD)) (h1 : 1 ≤ xs.length) (hz : xs.length ≤ 1000000)
    (h : ∀ (x : HIt) (xs' : List HIt) (vr' : List Value) T t1 t2 k LA (vs : List Value) nn h' n', xs = x :: xs' → vr'.length = xs'.length → DatAll tl vr' (xs'.map hitD) → (T, ({ cls := .type "tuple", data := .seq #[.int x.w t1, .int x.o t2, .ref LA] k } : Obj)) ∈ tl → (LA, listOf vs.toArray nn) ∈ tl → IntsAre vs x.ls → Fr h₀ L h' m → News h₀ L h' (g (listOf vr'.toArray n')) → Q (.ref T) { s with heap := h' }) :
    wpAny (model prog w) A (call (.builtin "list.pop") [.ref H, .int 0 u]) Q E s := by
  obtain ⟨pre, post, rfl, hg, a, c⟩ := U.split
  cases xs with
  | nil => exact absurd h1 (by decide)
  | cons x xs' =>
    obtain ⟨v, vr', rfl, k1, k2⟩ := datAll_cons (show DatAll tl vr (hitD x :: xs'.map hitD) from hD)
    obtain ⟨T, t1, t2, k, LA, vs, nn, rfl, hT, hL, hv⟩ := hit_in k1
    have hl : vr'.length = xs'.length := by rw [k2.length, List.length_map]
    refine kl_popAt (k := 0) (p := []) (q := vr') F N (by decide) ?_ rfl (upd_mid a c) ?_ fun h' F' N' => ?_
    · simp [seqIndex?]
    · show (Value.ref T :: vr').length ≤ sizeLine
      rw [List.length_cons, hl, sizeLine_eq]
      rw [List.length_cons] at hz
      omega
    · exact h x xs' vr' T t1 t2 k LA vs nn h' (n + 1) rfl hl k2 hT hL hv F' (by rw [hg]; exact N')
theorem ins_at {H : Addr} {vr : List Value} {n : Nat} {g : Obj → List (Addr × Obj)} {x : Int} {u : Tok} {y : Value} {Q : Value → Shared → Prop} (F : Fr h₀ L s.heap m) (N : News h₀ L s.heap news) (U : UpdF H (listOf vr.toArray n) news g) (h0 : 0 ≤ x) (h1 : x ≤ (vr.length : Int)) (hz : vr.length ≤ 1000000)
    (h : ∀ h' n', Fr h₀ L h' m → News h₀ L h' (g (listOf (vr.take x.toNat ++ y :: vr.drop x.toNat).toArray n')) → Q .none { s with heap := h' }) :
    wpAny (model prog w) A (call (.builtin "list.insert") [.ref H, .int x u, y]) Q E s := by
  obtain ⟨pre, post, rfl, hg, a, c⟩ := U.split
  have e : kl_ins vr x y = vr.take x.toNat ++ y :: vr.drop x.toNat := by
    unfold kl_ins
    rw [if_neg (by omega)]
    have : min x.toNat vr.length = x.toNat := by omega
    rw [this]
  refine kl_insert F N ?_ e (upd_mid a c) (by show vr.length ≤ sizeLine; rw [sizeLine_eq]; omega) fun h' F' N' => h h' (n + 1) F' (by rw [hg]; exact N')
  simp only [Builtin.List.listFitsIndex, Bool.and_eq_true, decide_eq_true_eq]
  omega
theorem hit_at {H : Addr} {vr : List Value} {n : Nat} {xs : List HIt} {tl : List (Addr × Obj)} {value slice : Expr} {k : Int} {u : Tok} {Q : Value → Shared → Prop} (N : News h₀ L s.heap news) (hm : (H, listOf vr.toArray n) ∈ news) (hD : DatAll tl vr (xs.map hitD)) (h0 : 0 ≤ k) (h1 : k < xs.length) (hz : xs.length ≤ 1000000)
    (h : ∀ x T t1 t2 c LA, xs[k.toNat]? = some x → (T, ({ cls := .type "tuple", data := .seq #[.int x.w t1, .int x.o t2, .ref LA] c } : Obj)) ∈ tl → Q (.ref T) s)
    (hs : subscripted slice false (.ref H) (.int k u) = operate [.ref H, .int k u] (getItem (.ref H) (.int k u)) := by with_unfolding_all rfl) (hg : ∀ r, letTemporaryGo value (.ref H) r = pure () := by intro _; with_unfolding_all rfl) :
    wpAny (model prog w) A (subscriptTail value slice (.ref H) (.int k u)) Q E s := by
  have hl : s.heap.IsList H vr.toArray := PySem.IsL.isList (n := n) (N _ hm).1
  have hlen : vr.length = xs.length := by rw [hD.length, List.length_map]
  obtain ⟨v, hv, hd⟩ := hD.get (k := k.toNat) (by rw [List.length_map]; omega)
  rw [List.getElem_map] at hd
  obtain ⟨T, t1, t2, c, LA, vs, nn, rfl, hT, _, _⟩ := hit_in hd
  refine item_list hl h0 (by omega) (x := Value.ref T) (by simpa using hv) ?_ hs hg
  exact h _ T t1 t2 c LA (List.getElem?_eq_getElem (by omega)) hT
theorem tup3_item0 {value slice : Expr} {a : Addr} {o : Obj} {x : Int} {t : Tok} {y z : Value} {n : Nat} {u : Tok} {Q : Value → Shared → Prop} (N : News h₀ L s.heap news) (hm : (a, o) ∈ news) (ho : o = { cls := .type "tuple", data := .seq #[.int x t, y, z] n }) (h : Q (.int x t) s)
    (hs : subscripted slice false (.ref a) (.int 0 u) = operate [.ref a, .int 0 u] (getItem (.ref a) (.int 0 u)) := by with_unfolding_all rfl) (hg : ∀ r, letTemporaryGo value (.ref a) r = pure () := by intro _; with_unfolding_all rfl) :
    wpAny (model prog w) A (subscriptTail value slice (.ref a) (.int 0 u)) Q E s := by
  subst ho
  exact item_tuple (j := 0) (x := .int x t) ⟨_, N.get hm, rfl, n, rfl⟩ (by decide) (by decide) rfl rfl h hs hg
theorem tup3_item2 {value slice : Expr} {a : Addr} {o : Obj} {x y : Value} {b : Addr} {n : Nat} {u : Tok} {Q : Value → Shared → Prop} (N : News h₀ L s.heap news) (hm : (a, o) ∈ news) (ho : o = { cls := .type "tuple", data := .seq #[x, y, .ref b] n }) (h : Q (.ref b) s)
    (hs : subscripted slice false (.ref a) (.int 2 u) = operate [.ref a, .int 2 u] (getItem (.ref a) (.int 2 u)) := by with_unfolding_all rfl) (hg : ∀ r, letTemporaryGo value (.ref a) r = pure () := by intro _; with_unfolding_all rfl) :
    wpAny (model prog w) A (subscriptTail value slice (.ref a) (.int 2 u)) Q E s := by
  subst ho
  exact item_tuple (j := 2) (x := .ref b) ⟨_, N.get hm, rfl, n, rfl⟩ (by decide) (by decide) rfl rfl h hs hg
theorem startH_keys (ws : List (Int × Int)) : ((startH ws).map fun x => (x.w, x.o)).Nodup := by
  have e : ((startH ws).map fun x => (x.w, x.o)).map (·.2) = (List.range ws.length).map fun i : Nat => (i : Int) := by
    unfold startH
    rw [List.map_map, List.map_map]
    apply List.ext_getElem
    · simp
    · intro i h1 h2
      simp
  have hn : (((startH ws).map fun x => (x.w, x.o)).map (·.2)).Nodup := by
    rw [e]
    exact List.Pairwise.map _ (fun a b h q => h (Int.ofNat_inj.mp q)) List.nodup_range
  exact List.Pairwise.of_map _ (fun a b h q => h (by rw [q])) hn
theorem mem_split {led pre post : List (Addr × Obj)} {H T : Addr} {l o : Obj} (e : led = pre ++ (H, l) :: post) (h : (T, o) ∈ led) (hne : l ≠ o) : (T, o) ∈ pre ++ post := by
  rw [e] at h
  rcases List.mem_append.mp h with h | h
  · exact List.mem_append.mpr (.inl h)
  · rcases List.mem_cons.mp h with h | h
    · exact absurd (congrArg Prod.snd h).symm hne
    · exact List.mem_append.mpr (.inr h)
theorem list_ne_tup {vs : Array Value} {n : Nat} {us : Array Value} {k : Nat} : listOf vs n ≠ ({ cls := .type "tuple", data := .seq us k } : Obj) := by
  intro e
  have h := congrArg Obj.cls e
  exact absurd h (by show ¬ (Value.type "list" = Value.type "tuple"); decide)
/-- list.sort of a list anywhere in the ledger -/
theorem lsort_upd {H : Addr} {vr : List Value} {n : Nat} {ks : List (Int × Int)} {g : Obj → List (Addr × Obj)} {Q : Value → Shared → Prop} (F : Fr h₀ L s.heap m) (N : News h₀ L s.heap news) (U : UpdF H (listOf vr.toArray n) news g) (h64 : vr.length < 64) (hl : vr.length = ks.length) (hk : ks.Nodup)
    (ht : ∀ (i : Nat) (v : Value) (k : Int × Int), vr[i]? = some v → ks[i]? = some k → ∃ T us c t u r, v = .ref T ∧ (T, ({ cls := .type "tuple", data := .seq us c } : Obj)) ∈ news ∧ us.toList = .int k.1 t :: .int k.2 u :: r)
    (h : ∀ (p : List Nat) c h' tk, p.Perm (List.range vr.length) → Fr h₀ L h' m → News h₀ L h' (g (listOf (p.map fun i => vr.getD i Value.none).toArray c)) → Q .none { s with heap := h', toks := tk }) :
    wpAny (model prog w) A (call (.builtin "list.sort") [.ref H]) Q E s := by
  obtain ⟨pre, post, e, hg, a, c⟩ := U.split
  have N' : News h₀ L s.heap ((H, listOf vr.toArray n) :: (pre ++ post)) := fun p hp => N p (by
    rw [e]
    rcases List.mem_cons.mp hp with rfl | hp
    · exact List.mem_append.mpr (.inr (.head _))
    · rcases List.mem_append.mp hp with hp | hp
      · exact List.mem_append.mpr (.inl hp)
      · exact List.mem_append.mpr (.inr (.tail _ hp)))
  refine lsort_tups F N' (fun p hp => (List.mem_append.mp hp).elim (a p) (c p)) rfl h64 hl hk (fun i v k e1 e2 => ?_) fun p cc h'' tk' hp F'' N'' => h p cc h'' tk' hp F'' fun q hq => N'' q ?_
  · obtain ⟨T, us, cc, t, u, r, rfl, hT, hu⟩ := ht i v k e1 e2
    exact ⟨T, _, us, cc, t, u, r, rfl, mem_split e hT list_ne_tup, rfl, rfl, hu⟩
  · rw [hg] at hq
    rcases List.mem_append.mp hq with hq | hq
    · exact .tail _ (List.mem_append.mpr (.inl hq))
    · rcases List.mem_cons.mp hq with rfl | hq
      · exact .head _
      · exact .tail _ (List.mem_append.mpr (.inr hq))
/-- the heap is sorted: some order of the same -/
theorem hsort {H : Addr} {vr : List Value} {n : Nat} {ws : List (Int × Int)} {tl : List (Addr × Obj)} {g : Obj → List (Addr × Obj)} {Q : Value → Shared → Prop} (F : Fr h₀ L s.heap m) (N : News h₀ L s.heap news) (U : UpdF H (listOf vr.toArray n) news g) (hD : DatAll tl vr ((startH ws).map hitD)) (hs : ∀ p ∈ tl, p ∈ news) (h64 : ws.length < 64)
    (h : ∀ (vr' : List Value) (xs : List HIt) c h' tk, vr'.length = xs.length → xs.Perm (startH ws) → DatAll tl vr' (xs.map hitD) → Fr h₀ L h' m → News h₀ L h' (g (listOf (List.toArray vr') c)) → Q .none { s with heap := h', toks := tk }) :
    wpAny (model prog w) A (call (.builtin "list.sort") [.ref H]) Q E s := by
  have hlen : vr.length = (startH ws).length := by rw [hD.length, List.length_map]
  refine lsort_upd (vr := vr) (ks := (startH ws).map fun x => (x.w, x.o)) F N U (by rw [hlen, startH_len]; exact h64) (by rw [List.length_map]; exact hlen) (startH_keys ws) (fun i v k e1 e2 => ?_) fun p c h'' tk' hp F'' N'' => ?_
  · obtain ⟨hi, _⟩ := List.getElem?_eq_some_iff.mp e1
    have hi' : i < (startH ws).length := by omega
    obtain ⟨v', hv', hd⟩ := hD.get (k := i) (by rw [List.length_map]; exact hi')
    rw [e1] at hv'
    obtain rfl := Option.some.inj hv'
    rw [List.getElem_map] at hd
    rw [List.getElem?_map, List.getElem?_eq_getElem hi'] at e2
    obtain rfl := Option.some.inj e2
    obtain ⟨T, t1, t2, c, LA, vs, nn, rfl, hT, _, _⟩ := hit_in hd
    exact ⟨T, _, c, t1, t2, [.ref LA], rfl, hs _ hT, rfl⟩
  · rw [hlen] at hp
    have hpk := pick_perm (α := HIt) ⟨0, 0, []⟩ hp
    refine h (p.map fun i => vr.getD i Value.none) (p.map fun i => (startH ws).getD i ⟨0, 0, []⟩) c h'' tk' (by simp) hpk (datAll_pick _ hD fun i hi => List.mem_range.mp (hp.mem_iff.mp hi)) F'' N''
/-- the weights are sorted -/
theorem psort {H : Addr} {vr : List Value} {n : Nat} {ws : List (Int × Int)} {tl : List (Addr × Obj)} {g : Obj → List (Addr × Obj)} {Q : Value → Shared → Prop} (F : Fr h₀ L s.heap m) (N : News h₀ L s.heap news) (U : UpdF H (listOf vr.toArray n) news g) (hD : DatAll tl vr (ws.map pairD)) (hs : ∀ p ∈ tl, p ∈ news) (hn : (ws.map (·.2)).Nodup) (h64 : ws.length < 64)
    (h : ∀ (vr' : List Value) (ws' : List (Int × Int)) c h' tk, vr'.length = ws'.length → ws'.Perm ws → DatAll tl vr' (ws'.map pairD) → Fr h₀ L h' m → News h₀ L h' (g (listOf (List.toArray vr') c)) → Q .none { s with heap := h', toks := tk }) :
    wpAny (model prog w) A (call (.builtin "list.sort") [.ref H]) Q E s := by
  have hlen : vr.length = ws.length := by rw [hD.length, List.length_map]
  refine lsort_upd (vr := vr) (ks := ws) F N U (by rw [hlen]; exact h64) hlen (List.Pairwise.of_map _ (fun a b h q => h (by rw [q])) hn) (fun i v k e1 e2 => ?_) fun p c h'' tk' hp F'' N'' => ?_
  · obtain ⟨r, T, t1, t2, c, hr, rfl, hT⟩ := pair_at hD e1
    rw [hr] at e2
    obtain rfl := Option.some.inj e2
    exact ⟨T, _, c, t1, t2, [], rfl, hs _ hT, rfl⟩
  · rw [hlen] at hp
    have hpk := pick_perm (α := Int × Int) (0, 0) hp
    refine h (p.map fun i => vr.getD i Value.none) (p.map fun i => ws.getD i (0, 0)) c h'' tk' (by simp) hpk (datAll_pick _ hD fun i hi => List.mem_range.mp (hp.mem_iff.mp hi)) F'' N''
end
/-- the joined leaves' depths go up by one -/
structure UpS where
  o : Obj
def upLed (g : Obj → List (Addr × Obj)) (c : UpS) : List (Addr × Obj) := g c.o
def upP (prog : Program) (w : World) (ws : List (Int × Int)) (D : Int → Nat) (js : List Int) (i : Nat) (c : UpS) : Prop := IDict prog w c.o (dpT ws (upD D (js.take i)))
section
variable {prog : Program} {w : World} {A : Around} {E : Value → Shared → Prop} {s : Shared} {env : Env} {h₀ : Heap} {L : Addr} {body : List Stmt} {Q : Flow → Shared → Prop}
theorem up_for {J dd : Addr} {o₀ : Obj} {vj : List Value} {nj : Nat} {js : List Int} {ws : List (Int × Int)} {D : Int → Nat} {m₀ : Str → Option Value} {news : List (Addr × Obj)} {g : Obj → List (Addr × Obj)}
    (hh : A.handled = none) (hj : IntsAre vj js) (F : Fr h₀ env.locals s.heap m₀) (N : News h₀ env.locals s.heap news) (_hdd : m₀ (Str.ofString "depths") = some (.ref dd)) (U : UpdF dd o₀ news g) (hJ : ∀ o, (J, listOf vj.toArray nj) ∈ g o) (hd : IDict prog w o₀ (dpT ws D)) (hin : ∀ l ∈ js, l ∈ ws.map (·.2))
    (turn : ∀ (o : Obj) (i : Nat) (l : Int) (t : Tok) h tk own, IDict prog w o (dpT ws (upD D (js.take i))) → js[i]? = some l → l ∈ ws.map (·.2) → (∀ p ∈ own, p.1 ≠ dd) → (∀ p ∈ own, ∀ o', ∀ q ∈ g o', p.1 ≠ q.1) →
      Fr h₀ env.locals h (fun y => if y = Str.ofString "leaf" then some (.int l t) else m₀ y) → News h₀ env.locals h (g o ++ own) →
      wpAny (model prog w) A (execs body env) (InvPostG h₀ env.locals (fun m' nx => (J, listOf vj.toArray nj) ∈ nx ∧ RgJ (upLed g) (fun _ => []) (Str.ofString "leaf") [] m₀ (upP prog w ws D js) (i + 1) m' nx) own { s with heap := h, toks := tk } Q) E { s with heap := h, toks := tk })
    (done : ∀ (o : Obj) (u : Str → Option Value) h tk, IDict prog w o (dpT ws (upD D js)) → Fr h₀ env.locals h (fun y => if y = Str.ofString "leaf" then u y else m₀ y) → News h₀ env.locals h (g o) → Q .next { s with heap := h, toks := tk }) :
    wpAny (model prog w) A (pyIter (.ref J)) (fun it s₂ => LoopAtV prog w A h₀ env (Str.ofString "leaf") body Q E it s₂) E s := by
  obtain ⟨pre, post, e, hg, a, c⟩ := U.split
  have e0 : news = g o₀ := by rw [hg]; exact e
  have hdd : ∀ o, (dd, o) ∈ g o := fun o => by rw [hg]; exact List.mem_append.mpr (.inr (.head _))
  refine ls_for (upLed g) (fun _ => []) [] (upP prog w ws D js) ⟨o₀⟩ hh (by rw [e0]; exact hJ o₀) (fun c => hJ c.o) F N (fun p hp => by rw [e0]; exact hp) (fun _ h => (nomatch h)) ?_ ?_ ?_
  · show IDict prog w o₀ (dpT ws (upD D []))
    rw [upD_nil]
    exact hd
  · rintro ⟨o⟩ i v u h tk own hv p1 hof F₁ N₁
    obtain ⟨l, t, rfl, hl⟩ := intsAre_at hj hv
    refine turn o i l t h tk own p1 hl (hin l (List.mem_of_getElem? hl)) (fun p hp => hof p hp _ (hdd o)) (fun p hp o' q hq => ?_) F₁ N₁
    rw [hg] at hq
    have hof' : ∀ q ∈ pre ++ (dd, o) :: post, p.1 ≠ q.1 := fun q hq => hof p hp q (by show q ∈ g o; rw [hg]; exact hq)
    rcases List.mem_append.mp hq with hq | hq
    · exact hof' q (List.mem_append.mpr (.inl hq))
    · rcases List.mem_cons.mp hq with rfl | hq
      · exact hof' (dd, o) (List.mem_append.mpr (.inr (.head _)))
      · exact hof' q (List.mem_append.mpr (.inr (.tail _ hq)))
  · rintro ⟨o⟩ u h tk p1 F₁ N₁
    have p1' : IDict prog w o (dpT ws (upD D (js.take vj.length))) := p1
    rw [hj.length, List.take_length] at p1'
    exact done o u h tk p1' F₁ N₁
theorem up_end {J : Addr} {oJ o' : Obj} {js : List Int} {ws : List (Int × Int)} {D : Int → Nat} {m₀ m' : Str → Option Value} {own news' : List (Addr × Obj)} {g : Obj → List (Addr × Obj)} {i : Nat} {l : Int} {s₁ : Shared} {h' : Heap} {tk : Nat}
    (F : Fr h₀ L h' m') (N : News h₀ L h' news') (hr : ∀ z, z ≠ Str.ofString "leaf" → (∀ p ∈ ([] : List (Str × Value)), z ≠ p.1) → ([] : List Str).contains z = false → m' z = m₀ z) (n1 : ∀ p ∈ g o', p ∈ news') (ho : ∀ p ∈ own, p ∈ news') (hJ : (J, oJ) ∈ g o') (o2 : ∀ p ∈ own, ∀ o', ∀ q ∈ g o', p.1 ≠ q.1)
    (hd : IDict prog w o' (kdfPut (dpT ws (upD D (js.take i))) l (((upD D (js.take i) l : Nat) : Int) + 1))) (hl : js[i]? = some l) (hin : l ∈ ws.map (·.2)) :
    InvEndG h₀ L (fun m' nx => (J, oJ) ∈ nx ∧ RgJ (upLed g) (fun _ => []) (Str.ofString "leaf") [] m₀ (upP prog w ws D js) (i + 1) m' nx) own s₁ { s₁ with heap := h', toks := tk } := by
  refine ls_end (c' := (⟨o'⟩ : UpS)) F N n1 ho hJ (fun p hp q hq => o2 p hp o' q hq) (fun _ h => (nomatch h)) hr ?_
  show IDict prog w o' (dpT ws (upD D (js.take (i + 1))))
  rw [dpT_put hin, upD_app] at hd
  have e : js.take (i + 1) = js.take i ++ [l] := by rw [List.take_add_one, hl]; rfl
  rw [e]
  exact hd
end
section
variable {prog : Program} {w : World} {A : Around} {E : Value → Shared → Prop} {s : Shared} {h₀ : Heap} {L d : Addr} {news : List (Addr × Obj)} {o : Obj}
/-- a leaf's depth -/
theorem dep_item {value slice : PySem.Expr} {ws : List (Int × Int)} {D : Int → Nat} {k : Int} {tk : Tok} {Q : Value → Shared → Prop} (N : News h₀ L s.heap news) (hm : (d, o) ∈ news) (hd : IDict prog w o (dpT ws D)) (lo : (d == sysModules) = false) (hk : k ∈ ws.map (·.2)) (h : ∀ t tk', Q (.int ((D k : Nat) : Int) t) { s with toks := tk' })
    (hs : subscripted slice false (.ref d) (.int k tk) = operate [.ref d, .int k tk] (getItem (.ref d) (.int k tk)) := by with_unfolding_all rfl) (hg : ∀ r, letTemporaryGo value (.ref d) r = pure () := by intro _; with_unfolding_all rfl) :
    wpAny (model prog w) A (subscriptTail value slice (.ref d) (.int k tk)) Q E s :=
  idict_item N hm hd lo (dpT_has hk) (fun t tk' => by rw [dpT_look hk]; exact h t tk') hs hg
theorem dpT_small {ws : List (Int × Int)} (h : ws.length < 64) (D : Int → Nat) : (dpT ws D).length ≤ 16777216 := by rw [dpT_len]; omega
theorem dpT_smallT {ws : List (Int × Int)} (h : ws.length < 64) (D : Int → Nat) (i : Nat) : (dpT (ws.take i) D).length ≤ 16777216 := by rw [dpT_len, List.length_take]; omega
end
/-- the place is sought -/
structure PlS where
  p : Int
  t : Tok
def plPs (c : PlS) : List (Str × Value) := [(Str.ofString "place", .int c.p c.t)]
def plP (r : List HIt) (W : Int) (c : PlS) : Prop := 0 ≤ c.p ∧ c.p ≤ (r.length : Int) ∧ ∀ z ∈ r.take c.p.toNat, z.w ≤ W
section
variable {prog : Program} {w : World} {A : Around} {E : Value → Shared → Prop} {Q : Flow → Shared → Prop} {s : Shared} {env : Env} {h₀ : Heap} {L : Addr}
theorem pl_while {test : Expr} {body : List Stmt} {pos : Pos} {m₀ : Str → Option Value} {news : List (Addr × Obj)} {t : Tok} {xs xs1 r : List HIt} {x y : HIt}
    (F : Fr h₀ L s.heap m₀) (N : News h₀ L s.heap news) (hp : m₀ (Str.ofString "place") = some (.int 0 t)) (_e2 : xs1 = y :: r) (_e1 : xs = x :: xs1)
    (turn : ∀ (p : Int) (t : Tok) h tk, 0 ≤ p → p ≤ (r.length : Int) → (∀ z ∈ r.take p.toNat, z.w ≤ x.w + y.w) → Fr h₀ L h (fun y => if y = Str.ofString "place" then some (.int p t) else m₀ y) → News h₀ L h news →
      wpAny (model prog w) A (isTrue test env (eval test env)) (fun b s₂ =>
        if b = true then wpAny (model prog w) A (execs body env) (KswPost h₀ L s (fun _ => news) plPs (fun _ => True) [] m₀ (plP r (x.w + y.w)) (fun c => r.length - c.p.toNat) Q ⟨p, t⟩) E s₂ else Q .next s₂) E { s with heap := h, toks := tk })
    (hE : PassesOwn (model prog w) A env E := by passes_own) :
    wpAny (model prog w) A (exec (.While test body [] pos) env) Q E s := by
  refine ksw_while (fun _ => news) plPs (fun _ => True) [] (plP r (x.w + y.w)) (fun c => r.length - c.p.toNat) ⟨0, t⟩ F N trivial ?_ ⟨Int.le_refl _, by show (0 : Int) ≤ (r.length : Int); omega, fun _ h => by simp at h⟩ ?_ hE
  · intro q hq
    rw [List.mem_singleton.mp hq]
    exact hp
  · rintro ⟨p, t⟩ u h tk _ ⟨p1, p2, p3⟩ F₁ N₁
    exact turn p t h tk p1 p2 p3 F₁ N₁
theorem pl_end {r : List HIt} {W od : Int} {m₀ m' : Str → Option Value} {news news' : List (Addr × Obj)} {p : Int} {t t' : Tok} {x : HIt} {h' : Heap} {tk : Nat}
    (F : Fr h₀ L h' m') (N : News h₀ L h' news') (hm : m' (Str.ofString "place") = some (.int (p + 1) t')) (hr : ∀ z, (∀ q ∈ [(Str.ofString "place", Value.int (p + 1) t')], z ≠ q.1) → ([] : List Str).contains z = false → m' z = m₀ z)
    (n1 : ∀ q ∈ news, q ∈ news') (h0 : 0 ≤ p) (h1 : p < (r.length : Int)) (hz : ∀ z ∈ r.take p.toNat, z.w ≤ W) (hx : r[p.toNat]? = some x) (hlt : x.w < W ∨ (x.w = W ∧ x.o < od)) :
    KswEnd h₀ L s (fun _ => news) plPs (fun _ => True) [] m₀ (plP r W) (fun c => r.length - c.p.toNat) ⟨p, t⟩ { s with heap := h', toks := tk } := by
  refine ksw_end (c' := ⟨p + 1, t'⟩) F N n1 trivial ?_ hr ⟨by show 0 ≤ p + 1; omega, by show p + 1 ≤ (r.length : Int); omega, ?_⟩ ?_
  · intro q hq
    rw [List.mem_singleton.mp hq]
    exact hm
  · show ∀ z ∈ r.take (p + 1).toNat, z.w ≤ W
    have e : (p + 1).toNat = p.toNat + 1 := by omega
    rw [e, List.take_add_one, hx]
    intro z hz'
    rcases List.mem_append.mp hz' with q | q
    · exact hz z q
    · rw [List.mem_singleton.mp q]
      omega
  · show r.length - (p + 1).toNat < r.length - p.toNat
    omega
end
theorem allLt_app {d : Nat} {o : Obj} {l : List (Addr × Obj)} {S : Nat} (h : S < d ∧ AllLt d l) : AllLt d ((S, o) :: l) := h
/-- what _depths hands back -/
def DpOut (prog : Program) (w : World) (ws : List (Int × Int)) (news : List (Addr × Obj)) (r : Value) (news' : List (Addr × Obj)) : Prop :=
  ∃ dd o tl D, r = .ref dd ∧ news' = (dd, o) :: (tl ++ news) ∧ (∀ q ∈ news, q.1 < dd) ∧ (∀ p ∈ tl, p.1 ≠ dd) ∧ (∀ q ∈ news, ∀ p ∈ tl, q.1 < p.1) ∧ (dd == sysModules) = false ∧ IDict prog w o (dpT ws D) ∧ DOk ws D
def DpC (f : Addr) (prog : Program) (w : World) (K : Frag) (p : Program) (loose : List Str) (mean : ExcName → Option Value) (mg mb : Str → Option Value) : Prop :=
  ∀ (RL : Addr) (vw : List Value) (nn : Nat) (ws : List (Int × Int)) (news : List (Addr × Obj)), (RL, listOf vw.toArray nn) ∈ news → DatAll news vw (ws.map pairD) → (ws.map (·.2)).Nodup → 1 ≤ ws.length → ws.length < 64 → Fun prog w K p loose mean mg mb 20 f [.ref RL] news (DpOut prog w ws news)
structure DpS where
  vr : List Value
  cr : Nat
  tl : List (Addr × Obj)
  xs : List HIt
  o : Obj
  D : Int → Nat
  od : Int
  t : Tok
def dpLed (dd H : Addr) (news : List (Addr × Obj)) (c : DpS) : List (Addr × Obj) := (dd, c.o) :: (H, listOf c.vr.toArray c.cr) :: (c.tl ++ news)
def dpPs (c : DpS) : List (Str × Value) := [(Str.ofString "order", .int c.od c.t)]
def dpNames : List Str := [Str.ofString "one", Str.ofString "two", Str.ofString "joined", Str.ofString "leaf", Str.ofString "item", Str.ofString "place"]
def dpFacts (dd H : Addr) (news : List (Addr × Obj)) (c : DpS) : Prop := (∀ p ∈ c.tl, p.1 ≠ dd) ∧ (∀ p ∈ c.tl, p.1 ≠ H) ∧ (∀ q ∈ news, ∀ p ∈ c.tl, q.1 < p.1)
def dpP (prog : Program) (w : World) (ws : List (Int × Int)) (c : DpS) : Prop := IDict prog w c.o (dpT ws c.D) ∧ DatAll c.tl c.vr (c.xs.map hitD) ∧ DInv ws c.xs c.D ∧ 1 ≤ c.xs.length
theorem dinv_len {ws : List (Int × Int)} {xs : List HIt} {D : Int → Nat} (h : DInv ws xs D) : xs.length ≤ ws.length := by
  have h1 := h.1.leaves.length_eq
  rw [List.length_map] at h1
  rw [← h1]
  have h2 := h.1.full
  clear h h1
  induction xs with
  | nil => exact Nat.zero_le _
  | cons x xs ih =>
    have hx := full_ne (h2 x (.head _))
    have ih' := ih fun y hy => h2 y (.tail _ hy)
    rw [List.flatMap_cons, List.length_append, List.length_cons]
    have : x.ls ≠ [] := fun e => hx (by rw [e]; rfl)
    have := List.length_pos_iff.mpr this
    omega
theorem allLt_app2 {tl news : List (Addr × Obj)} {X : Nat} (h : AllLt X (tl ++ news)) : ∀ q ∈ news, q.1 < (X : Addr) := fun q hq => allLt_mem h q (List.mem_append.mpr (.inr hq))
theorem off_app {tl news : List (Addr × Obj)} {X : Addr} (h : ∀ p ∈ tl ++ news, p.1 ≠ X) : ∀ p ∈ tl, p.1 ≠ X := fun p hp => h p (List.mem_append.mpr (.inl hp))
theorem dinv_in {ws : List (Int × Int)} {x y : HIt} {r : List HIt} {D : Int → Nat} (h : DInv ws (x :: y :: r) D) : ∀ l ∈ x.ls ++ y.ls, l ∈ ws.map (·.2) := by
  intro l hl
  refine h.1.leaves.mem_iff.mp ?_
  rw [List.flatMap_cons, List.flatMap_cons, ← List.append_assoc]
  exact List.mem_append.mpr (.inl hl)
theorem dinv_in2 {ws : List (Int × Int)} {xs xs1 r : List HIt} {x y : HIt} {D : Int → Nat} (h : DInv ws xs D) (e1 : xs = x :: xs1) (e2 : xs1 = y :: r) : ∀ l ∈ x.ls ++ y.ls, l ∈ ws.map (·.2) := by
  subst e2
  subst e1
  exact dinv_in h
section
variable {prog : Program} {w : World} {A : Around} {E : Value → Shared → Prop} {Q : Flow → Shared → Prop} {s : Shared} {env : Env} {h₀ : Heap} {L : Addr}
theorem dp_while {test : Expr} {body : List Stmt} {pos : Pos} {m₀ : Str → Option Value} {led news tl : List (Addr × Obj)} {dd H : Addr} {o : Obj} {vr : List Value} {cr : Nat} {xs : List HIt} {ws : List (Int × Int)} {od : Int} {t : Tok}
    (F : Fr h₀ L s.heap m₀) (N : News h₀ L s.heap led) (hl : m₀ (Str.ofString "order") = some (.int od t)) (_hH : m₀ (Str.ofString "heap") = some (.ref H)) (_hdd : m₀ (Str.ofString "depths") = some (.ref dd)) (hd : IDict prog w o (dpT ws fun _ => 0)) (hD : DatAll tl vr (xs.map hitD)) (hx : xs.Perm (startH ws)) (hn : (ws.map (·.2)).Nodup) (h1 : 1 ≤ ws.length) (hs : ∀ p ∈ (dd, o) :: (H, listOf vr.toArray cr) :: (tl ++ news), p ∈ led) (o1 : ∀ p ∈ tl, p.1 ≠ dd) (o2 : ∀ p ∈ tl, p.1 ≠ H) (o3 : ∀ q ∈ news, ∀ p ∈ tl, q.1 < p.1) (l1 : ∀ q ∈ news, q.1 < dd) (l2 : ∀ q ∈ news, q.1 < H) (l3 : H ≠ dd)
    (turn : ∀ (vr : List Value) (cr : Nat) (tl : List (Addr × Obj)) (xs : List HIt) (o : Obj) (D : Int → Nat) (od : Int) (t : Tok) (u : Str → Option Value) h tk, (∀ q ∈ news, q.1 < dd) → (∀ q ∈ news, q.1 < H) → H ≠ dd → (∀ p ∈ tl, p.1 ≠ dd) → (∀ p ∈ tl, p.1 ≠ H) → (∀ q ∈ news, ∀ p ∈ tl, q.1 < p.1) → IDict prog w o (dpT ws D) → DatAll tl vr (xs.map hitD) → DInv ws xs D → vr.length = xs.length → 1 ≤ xs.length → xs.length ≤ ws.length →
      Fr h₀ L h (fun y => if y = Str.ofString "order" then some (.int od t) else if dpNames.contains y then u y else m₀ y) → News h₀ L h ((dd, o) :: (H, listOf vr.toArray cr) :: (tl ++ news)) →
      wpAny (model prog w) A (isTrue test env (eval test env)) (fun b s₂ =>
        if b = true then wpAny (model prog w) A (execs body env) (KswPost h₀ L s (dpLed dd H news) dpPs (dpFacts dd H news) dpNames m₀ (dpP prog w ws) (fun c => c.xs.length) Q ⟨vr, cr, tl, xs, o, D, od, t⟩) E s₂ else Q .next s₂) E { s with heap := h, toks := tk })
    (hE : PassesOwn (model prog w) A env E := by passes_own) :
    wpAny (model prog w) A (exec (.While test body [] pos) env) Q E s := by
  have hI := dinv_start hn hx
  refine ksw_while (dpLed dd H news) dpPs (dpFacts dd H news) dpNames (dpP prog w ws) (fun c => c.xs.length) ⟨vr, cr, tl, xs, o, fun _ => 0, od, t⟩ F (fun p hp => N p (hs p hp)) ⟨o1, o2, o3⟩ ?_ ⟨hd, hD, hI, by show 1 ≤ xs.length; rw [hx.length_eq, startH_len]; exact h1⟩ ?_ hE
  · intro q hq
    rw [List.mem_singleton.mp hq]
    exact hl
  · rintro ⟨vr, cr, tl, xs, o, D, od, t⟩ u h tk ⟨f1, f2, f3⟩ ⟨p1, p2, p3, p4⟩ F₁ N₁
    exact turn vr cr tl xs o D od t u h tk l1 l2 l3 f1 f2 f3 p1 p2 p3 (by have := p2.length; rw [List.length_map] at this; exact this) p4 (dinv_len p3) F₁ N₁
theorem dp_end {m₀ m' : Str → Option Value} {news tl news' : List (Addr × Obj)} {dd H It J : Addr} {o o' : Obj} {vr vr' vj : List Value} {cr cr' nj : Nat} {xs xs1 r : List HIt} {x y : HIt} {ws : List (Int × Int)} {D : Int → Nat} {od p : Int} {t t' t1 t2 : Tok} {h' : Heap} {tk : Nat}
    (F : Fr h₀ L h' m') (N : News h₀ L h' news') (hm : m' (Str.ofString "order") = some (.int (od + 1) t')) (hr : ∀ z, (∀ q ∈ [(Str.ofString "order", Value.int (od + 1) t')], z ≠ q.1) → dpNames.contains z = false → m' z = m₀ z)
    (n1 : (dd, o') ∈ news') (n2 : (H, listOf (vr'.take p.toNat ++ Value.ref It :: vr'.drop p.toNat).toArray cr') ∈ news') (n3 : (It, ({ cls := .type "tuple", data := .seq #[.int (x.w + y.w) t1, .int od t2, .ref J] } : Obj)) ∈ news') (n4 : (J, listOf vj.toArray nj) ∈ news') (n5 : ∀ p ∈ tl ++ news, p ∈ news')
    (a1 : It ≠ dd) (a2 : It ≠ H) (a3 : J ≠ dd) (a4 : J ≠ H) (a5 : ∀ q ∈ news, q.1 < It) (a6 : ∀ q ∈ news, q.1 < J) (f1 : ∀ p ∈ tl, p.1 ≠ dd) (f2 : ∀ p ∈ tl, p.1 ≠ H) (f3 : ∀ q ∈ news, ∀ p ∈ tl, q.1 < p.1)
    (hd : IDict prog w o' (dpT ws (upD D (x.ls ++ y.ls)))) (hD : DatAll tl vr' (r.map hitD)) (hI : DInv ws xs D) (e1 : xs = x :: xs1) (e2 : xs1 = y :: r) (hj : IntsAre vj (x.ls ++ y.ls)) (h0 : 0 ≤ p) (_h1 : p ≤ (r.length : Int)) (hz : ∀ z ∈ r.take p.toNat, z.w ≤ x.w + y.w)
    (hst : ¬ p < (r.length : Int) ∨ ∃ z, r[p.toNat]? = some z ∧ ¬ (z.w < x.w + y.w ∨ (z.w = x.w + y.w ∧ z.o < od))) :
    KswEnd h₀ L s (dpLed dd H news) dpPs (dpFacts dd H news) dpNames m₀ (dpP prog w ws) (fun c => c.xs.length) ⟨vr, cr, tl, xs, o, D, od, t⟩ { s with heap := h', toks := tk } := by
  subst e1
  subst e2
  have hlr : vr'.length = r.length := by have := hD.length; rw [List.length_map] at this; exact this
  refine ksw_end (c' := ⟨vr'.take p.toNat ++ Value.ref It :: vr'.drop p.toNat, cr', (It, { cls := .type "tuple", data := .seq #[.int (x.w + y.w) t1, .int od t2, .ref J] }) :: (J, listOf vj.toArray nj) :: tl, r.take p.toNat ++ ⟨x.w + y.w, od, x.ls ++ y.ls⟩ :: r.drop p.toNat, o', upD D (x.ls ++ y.ls), od + 1, t'⟩) F N ?_ ⟨?_, ?_, ?_⟩ ?_ hr ⟨hd, ?_, dinv_step hI od p.toNat hz (fun z hz' => ?_), ?_⟩ ?_
  · intro q hq
    rcases List.mem_cons.mp hq with rfl | hq
    · exact n1
    · rcases List.mem_cons.mp hq with rfl | hq
      · exact n2
      · rcases List.mem_cons.mp hq with rfl | hq
        · exact n3
        · rcases List.mem_cons.mp hq with rfl | hq
          · exact n4
          · exact n5 q hq
  · intro q hq
    rcases List.mem_cons.mp hq with rfl | hq
    · exact a1
    · rcases List.mem_cons.mp hq with rfl | hq
      · exact a3
      · exact f1 q hq
  · intro q hq
    rcases List.mem_cons.mp hq with rfl | hq
    · exact a2
    · rcases List.mem_cons.mp hq with rfl | hq
      · exact a4
      · exact f2 q hq
  · intro q hq z hz'
    rcases List.mem_cons.mp hz' with rfl | hz'
    · exact a5 q hq
    · rcases List.mem_cons.mp hz' with rfl | hz'
      · exact a6 q hq
      · exact f3 q hq z hz'
  · intro q hq
    rw [List.mem_singleton.mp hq]
    exact hm
  · show DatAll _ _ ((r.take p.toNat ++ (⟨x.w + y.w, od, x.ls ++ y.ls⟩ : HIt) :: r.drop p.toNat).map hitD)
    rw [List.map_append, List.map_cons, List.map_take, List.map_drop]
    have hD' := hD.mono (news' := (It, ({ cls := .type "tuple", data := .seq #[.int (x.w + y.w) t1, .int od t2, .ref J] } : Obj)) :: (J, listOf vj.toArray nj) :: tl) fun q hq => .tail _ (.tail _ hq)
    exact datAll_app (datAll_take _ hD') (.cons (hit_make (x := ⟨x.w + y.w, od, x.ls ++ y.ls⟩) (.head _) (.tail _ (.head _)) hj) (datAll_drop _ hD'))
  · rcases hst with h | ⟨z', hz1, hz2⟩
    · have := (List.getElem?_eq_some_iff.mp hz').1
      omega
    · rw [hz'] at hz1
      obtain rfl := Option.some.inj hz1
      omega
  · show 1 ≤ (r.take p.toNat ++ (⟨x.w + y.w, od, x.ls ++ y.ls⟩ : HIt) :: r.drop p.toNat).length
    rw [List.length_append, List.length_cons]
    omega
  · show (r.take p.toNat ++ (⟨x.w + y.w, od, x.ls ++ y.ls⟩ : HIt) :: r.drop p.toNat).length < (x :: y :: r).length
    rw [List.length_append, List.length_cons, List.length_take, List.length_drop, List.length_cons, List.length_cons]
    omega
theorem dp_ret {m : Str → Option Value} {ws : List (Int × Int)} {news tl : List (Addr × Obj)} {dd H : Addr} {o : Obj} {vr : List Value} {cr : Nat} {xs : List HIt} {D : Int → Nat} {Q : Value → Shared → Prop} {h : Heap} {tk : Nat}
    (hret : ∀ r news' h' tk', DpOut prog w ws news r news' → Fr h₀ L h' m → News h₀ L h' news' → Q r { s with heap := h', toks := tk' }) (F : Fr h₀ L h m) (N : News h₀ L h ((dd, o) :: (H, listOf vr.toArray cr) :: (tl ++ news))) (l1 : ∀ q ∈ news, q.1 < dd) (l2 : ∀ q ∈ news, q.1 < H) (l3 : H ≠ dd) (lo : (dd == sysModules) = false)
    (f1 : ∀ p ∈ tl, p.1 ≠ dd) (f3 : ∀ q ∈ news, ∀ p ∈ tl, q.1 < p.1) (hd : IDict prog w o (dpT ws D)) (hI : DInv ws xs D) (h1 : 1 ≤ xs.length) (h2 : ¬ 1 < (xs.length : Int)) : Q (.ref dd) { s with heap := h, toks := tk } := by
  obtain ⟨x, rfl⟩ : ∃ x, xs = [x] := List.length_eq_one_iff.mp (by omega)
  refine hret _ _ _ _ ⟨dd, o, (H, listOf vr.toArray cr) :: tl, D, rfl, rfl, l1, fun p hp => ?_, fun q hq p hp => ?_, lo, hd, dok_of hI⟩ F N
  · rcases List.mem_cons.mp hp with rfl | hp
    · exact l3
    · exact f1 p hp
  · rcases List.mem_cons.mp hp with rfl | hp
    · exact l2 q hq
    · exact f3 q hq p hp
end
theorem dinv_sz {ws : List (Int × Int)} {xs xs1 r : List HIt} {x y : HIt} {D : Int → Nat} (h : DInv ws xs D) (e1 : xs = x :: xs1) (e2 : xs1 = y :: r) (h64 : ws.length < 64) : x.ls.length + y.ls.length ≤ 16777216 := by
  subst e2
  subst e1
  have h1 := h.1.leaves.length_eq
  rw [List.length_map, List.flatMap_cons, List.flatMap_cons, List.length_append, List.length_append] at h1
  omega
section
variable {prog : Program} {w : World} {A : Around} {E : Value → Shared → Prop} {s : Shared} {h₀ : Heap} {L : Addr} {m : Str → Option Value} {news : List (Addr × Obj)}
/-- two lists of ints by + -/
theorem add_two {l b : Addr} {vs us : List Value} {n k : Nat} {ns ms : List Int} {Q : Value → Shared → Prop} (F : Fr h₀ L s.heap m) (N : News h₀ L s.heap news) (hl : (l, listOf vs.toArray n) ∈ news) (hb : (b, listOf us.toArray k) ∈ news) (hi : IntsAre vs ns) (hj : IntsAre us ms) (hz : ns.length + ms.length ≤ 16777216)
    (h : ∀ D h', Fr h₀ L h' m → News h₀ L h' ((D, listOf (vs ++ us).toArray 0) :: news) → (∀ q ∈ news, q.1 < D) → IntsAre (vs ++ us) (ns ++ ms) → Q (.ref D) { s with heap := h' }) :
    wpAny (model prog w) A (binaryOp .Add (.ref l) (.ref b)) Q E s := by
  refine add_arrays_ints (hsz := by rw [sizeLine_eq]; exact hz) (its := vs.toArray) (its2 := us.toArray) F N (PySem.IsL.isList (n := n) (N _ hl).1) (PySem.IsL.isList (n := k) (N _ hb).1) (by simpa using hi) (by simpa using hj) fun h' F' N' hI => ?_
  exact h _ h' F' N' (fun q hq => Heap.lt_size (N q hq).1) hI
end
section
variable {prog : Program} {w : World} {A : Around} {E : Value → Shared → Prop} {s : Shared} {h₀ : Heap} {L d : Addr} {m : Str → Option Value} {news : List (Addr × Obj)} {o : Obj} {c : List (Int × Int)}
/-- max over what yields ints -/
theorem kdu_max {T : String} {r : Addr} {n : Nat} {P : Nat → Value → Prop} {OK : Heap → Prop} {Q : Value → Shared → Prop} (K : KdlSrc prog w T r d n P OK) (hh : A.handled = none) (F : Fr h₀ L s.heap m) (N : News h₀ L s.heap news) (hok : OK s.heap) (val : Nat → Int) (hval : ∀ (i : Nat) (v : Value), P i v → ∃ t : Tok, v = Value.int (val i) t) (hn : 0 < n)
    (h : ∀ (h' : Heap) (tk : Nat) (t' : Tok) (j : Nat), j < n → (∀ i, i < n → val i ≤ val j) → Fr h₀ L h' m → News h₀ L h' news → Q (.int (val j) t') { s with heap := h', toks := tk }) :
    wpAny (model prog w) A (call (.builtin "max") [.ref r]) Q E s := by
  refine call_max_walkS ?_
  obtain ⟨oI, St, hit, W, st⟩ := K.iter A.in1 s hh hok
  refine hit _ _ ⟨s.heap.objs.size, _, _, _, n, P, _, _, rfl, W.toS, st, fun b hb => ?_, hn, CmpOf.ints_gt val hval, fun v s' hP hm => ?_⟩
  · show b < (s.heap.push oI).objs.size
    rw [size_push']
    rcases List.mem_cons.mp hb with e | hb
    · rw [e]; exact Nat.lt_succ_self _
    · rw [List.mem_singleton.mp hb]; exact Nat.lt_succ_of_lt (K.there _ hok).2
  · have hk : ∀ b o, s.heap.get? b = some o → s'.heap.get? b = some o := fun b o e =>
      hm.heap b o (fun hI => absurd (Heap.lt_size e) (by rw [List.mem_singleton.mp hI]; exact Nat.lt_irrefl _)) (Heap.get?_push_of_some _ e)
    obtain ⟨h1, h2⟩ := argBest_gt val (n - 1)
    obtain ⟨t', rfl⟩ := hval _ _ hP
    rw [Moved.eq_with hm]
    exact h s'.heap s'.toks t' _ (by omega) (fun i hi => h2 i (by omega)) (F.keeps hk) fun p hp => ⟨hk _ _ (N p hp).1, (N p hp).2⟩
theorem idict_values {Q : Value → Shared → Prop} (F : Fr h₀ L s.heap m) (N : News h₀ L s.heap news) (hm : (d, o) ∈ news) (hd : IDict prog w o c) (lo : (d == sysModules) = false)
    (h : ∀ (v : Addr) h', Fr h₀ L h' m → News h₀ L h' ((v, { cls := .type "dict_values", data := .fields #[.ref d] }) :: news) → (∀ q ∈ news, q.1 < v) → Q (.ref v) { s with heap := h' }) :
    wpAny (model prog w) A (call (.builtin "dict.values") [.ref d]) Q E s := by
  obtain ⟨kvs, h1, h2⟩ := hd
  exact kdl_view_values F N hm h1 lo h
theorem idict_method {name : Str} {id : String} {pl : Sem Bool} {Q : Value × List Value → Shared → Prop} (hid : dictMethodId name = some id) (N : News h₀ L s.heap news) (hm : (d, o) ∈ news) (hd : IDict prog w o c) (lo : (d == sysModules) = false) (h : Q (.builtin id, [.ref d]) s) :
    wpAny (model prog w) A (getMethod (.ref d) name pl) Q E s := by
  obtain ⟨kvs, h1, h2⟩ := hd
  exact getMethod_tab_any hid (TabAt.ofObj lo (N _ hm).1 h1 h2) h
theorem idict_max {v : Addr} {Q : Value → Shared → Prop} (hh : A.handled = none) (F : Fr h₀ L s.heap m) (N : News h₀ L s.heap ((v, { cls := .type "dict_values", data := .fields #[.ref d] }) :: news)) (hm : (d, o) ∈ news) (hd : IDict prog w o c) (hc : 0 < c.length)
    (h : ∀ h' tk t M, M ∈ c.map (·.2) → (∀ a ∈ c.map (·.2), a ≤ M) → Fr h₀ L h' m → News h₀ L h' news → Q (.int M t) { s with heap := h', toks := tk }) : wpAny (model prog w) A (call (.builtin "max") [.ref v]) Q E s := by
  obtain ⟨kvs, h1, hf⟩ := hd
  have hD : s.heap.DictOf (intKind prog w) d kvs := Heap.dictOf_iff.mpr ⟨o, (N _ (.tail _ hm)).1, h1⟩
  obtain ⟨ep, hat⟩ := hD.dictAt
  have hlen : kvs.length = c.length := by rw [← hf.length, kdfD_length]
  refine kdu_max (kdl_values (knd := PySem.intKind prog w) (kvs := kvs) (ep := ep)) hh F (fun p hp => N p (.tail _ hp)) ⟨⟨_, (N _ (.head _)).1, rfl, rfl⟩, hat⟩ (fun i => ((c[i]?).map (·.2)).getD 0) (fun i x hx => ?_) (by omega) fun h' tk t j hj hall F' N' => ?_
  · obtain ⟨k, hx⟩ := hx
    obtain ⟨p, hp, t, rfl⟩ := kdy_valAt hf hx
    exact ⟨t, by simp [hp]⟩
  · have hj' : j < c.length := by omega
    refine h h' tk t _ ?_ (fun a ha => ?_) F' N'
    · simp only [List.getElem?_eq_getElem hj', Option.map_some, Option.getD_some]
      exact List.mem_map.mpr ⟨_, List.getElem_mem hj', rfl⟩
    · obtain ⟨p, hp, rfl⟩ := List.mem_map.mp ha
      obtain ⟨i, hi, rfl⟩ := List.getElem_of_mem hp
      have := hall i (by omega)
      simpa [List.getElem?_eq_getElem hi] using this
end
section
variable {prog : Program} {w : World} {A : Around} {E : Value → Shared → Prop} {s : Shared} {env : Env} {h₀ : Heap} {x : Str} {body : List Stmt} {Q : Flow → Shared → Prop}
/-- a for over a table of the ledger's -/
theorem di_iter {d : Addr} {od : Obj} {kvs : List (Int × Value)} {m₀ : Str → Option Value} {news : List (Addr × Obj)} (J : Nat → (Str → Option Value) → List (Addr × Obj) → Prop)
    (hh : A.handled = none) (lo : (d == sysModules) = false) (hl : (d, od) ∈ news) (hd : od.IsDictOf (intKind prog w) kvs) (F : Fr h₀ env.locals s.heap m₀) (N : News h₀ env.locals s.heap news) (hj : J 0 m₀ news)
    (turn : ∀ i v m₁ news₁ h tk own, (∃ k y, kvs[i]? = some (k, y) ∧ ∃ t : Tok, v = Value.int k t) → OwnOff own (news₁.map (·.1)) → (d, od) ∈ news₁ → J i m₁ news₁ → Fr h₀ env.locals h (fun y => if y = x then some v else m₁ y) → News h₀ env.locals h (news₁ ++ own) →
      wpAny (model prog w) A (execs body env) (InvPostG h₀ env.locals (fun m' nx => (d, od) ∈ nx ∧ J (i + 1) m' nx) own { s with heap := h, toks := tk } Q) E { s with heap := h, toks := tk })
    (done : ∀ m₁ news₁ h tk, J kvs.length m₁ news₁ → Fr h₀ env.locals h m₁ → News h₀ env.locals h news₁ → Q .next { s with heap := h, toks := tk }) :
    wpAny (model prog w) A (pyIter (.ref d)) (fun it s₂ => LoopAtV prog w A h₀ env x body Q E it s₂) E s := by
  have hod : s.heap.get? d = some od := (N _ hl).1
  have hD : s.heap.DictOf (intKind prog w) d kvs := Heap.dictOf_iff.mpr ⟨od, hod, hd⟩
  obtain ⟨ep, hat⟩ := hD.dictAt
  have hne : d ≠ s.heap.objs.size := Nat.ne_of_lt (Heap.lt_size hod)
  refine wpAny_pyIter_dict lo hat ?_
  have W := Walks.dictKeys (prog := prog) (w := w) (knd := intKind prog w) hh s.heap.objs.size d hne kvs ep
  refine ⟨_, _, _, kvs.length, _, _, m₀, news, (fun i m nx => (d, od) ∈ nx ∧ J i m nx), rfl, W, ?_, ?_, ?_, ⟨⟨_, Heap.get?_push_size _ rfl, rfl, rfl⟩, hat.push _⟩, F.push _, (fun p hp => ⟨Heap.get?_push_of_some _ (N p hp).1, (N p hp).2⟩), ⟨hl, hj⟩, ?_, ?_⟩
  · intro hm
    rcases List.mem_cons.mp hm with e | hm
    · exact absurd F.ns.lt (e ▸ Nat.lt_irrefl _)
    · exact (N _ hl).2.1 ((List.mem_singleton.mp hm).symm)
  · intro b hb
    rw [List.mem_singleton.mp hb]
    exact next_is_new F
  · intro p hp hI
    exact absurd (Heap.lt_size (N p hp).1) ((List.mem_singleton.mp hI) ▸ Nat.lt_irrefl _)
  · rintro i v m₁ news₁ s₁ own ⟨hh', tk', rfl⟩ hin hP ⟨hl₁, hJ⟩ hoff hown hget hfp hst F₁ N₁
    obtain ⟨k, y, hky, hkv⟩ := hP
    have hP' : ∃ k y, kvs[i]? = some (k, y) ∧ ∃ t : Tok, v = Value.int k t := ⟨k, y, hky, Value.isInt_shape hkv⟩
    have hI0 : h₀.get? s.heap.objs.size = none := next_is_new F
    obtain ⟨⟨oI, hoI, _⟩, _⟩ := id hst
    have hIown : (s.heap.objs.size, oI) ∈ own.filter fun p => decide (p.1 = s.heap.objs.size) := List.mem_filter.mpr ⟨hfp _ (List.mem_cons.mpr (.inl rfl)) hI0 _ hoI, by simp⟩
    have hsep : OwnOff (own.filter fun p => decide (p.1 = s.heap.objs.size)) (news₁.map (·.1)) := by
      intro p hp b hb e
      obtain ⟨q, hq, rfl⟩ := List.mem_map.mp hb
      have h1 : p.1 = s.heap.objs.size := by simpa using (List.mem_filter.mp hp).2
      exact hoff q hq (List.mem_singleton.mpr (e ▸ h1))
    have N₂ : News h₀ env.locals hh' (news₁ ++ own.filter fun p => decide (p.1 = s.heap.objs.size)) := fun p hp => N₁ p ((List.mem_append.mp hp).elim (fun h => List.mem_append.mpr (.inr h)) fun h => List.mem_append.mpr (.inl ((List.mem_filter.mp h).1)))
    have hlo : hh'.get? d = some od := (N₁ _ (List.mem_append.mpr (.inr hl₁))).1
    refine wpAny_mono (turn i v m₁ news₁ hh' tk' _ hP' hsep hl₁ hJ F₁ N₂) (fun f s₂ p => ?_) fun _ _ e => e
    have fin : InvEndG h₀ env.locals (fun m' nx => (d, od) ∈ nx ∧ J (i + 1) m' nx) (own.filter fun p => decide (p.1 = s.heap.objs.size)) { s with heap := hh', toks := tk' } s₂ →
        LoopStepU h₀ env.locals [s.heap.objs.size] own (fun m nx => (d, od) ∈ nx ∧ J (i + 1) m nx) { s with heap := hh', toks := tk' } .next s₂ := by
      rintro ⟨h', tk, m', news', nx, e, F', N', hn, ho, ha, hm⟩
      refine ⟨rfl, h', tk, m', nx, e, F', fun p hp => ?_, fun p hp hq => ?_, hm⟩
      · rcases List.mem_append.mp hp with h | h
        · by_cases hI : p.1 = s.heap.objs.size
          · exact N' p (ho p (List.mem_filter.mpr ⟨h, by simpa using hI⟩))
          · have h1 : p.1 = d := by
              rcases List.mem_cons.mp (hown p h) with h2 | h2
              · exact absurd h2 hI
              · exact List.mem_singleton.mp h2
            have h2 : hh'.get? p.1 = some p.2 := hget p h
            rw [h1, hlo] at h2
            have h3 : p = (d, od) := Prod.ext h1 (Option.some.inj h2).symm
            rw [h3]
            exact N' _ (hn _ hm.1)
        · exact N' p (hn p h)
      · exact ha _ hIown p.1 (List.mem_map.mpr ⟨p, hp, rfl⟩) (List.mem_singleton.mp hq).symm
    cases f with
    | ret v => exact .ret p
    | brk => exact .brk p
    | next => exact .next (fin p)
    | cont => exact .cont (fin p)
  · rintro h' tk m' news' F' N' _ ⟨_, hJ⟩
    exact done m' news' h' tk hJ F' N'
end
/-- the signs that stand, with their weights -/
def posW (cs : List Int) (n : Nat) : List (Int × Int) := ((List.range n).filter fun k => decide (0 < cs.getD k 0)).map fun k : Nat => (cs.getD k 0, (k : Int))
theorem posW_succ (cs : List Int) (n : Nat) : posW cs (n + 1) = posW cs n ++ (if 0 < cs.getD n 0 then [(cs.getD n 0, (n : Int))] else []) := by
  unfold posW
  rw [List.range_succ, List.filter_append, List.map_append]
  congr 1
  by_cases h : 0 < cs.getD n 0
  · rw [List.filter_cons, if_pos (by simpa using h), if_pos h]; rfl
  · rw [List.filter_cons, if_neg (by simpa using h), if_neg h]; rfl
theorem posW_len_le (cs : List Int) (n : Nat) : (posW cs n).length ≤ n := by
  unfold posW
  rw [List.length_map]
  exact Nat.le_trans (List.length_filter_le _ _) (by simp)
theorem posW_leaves (cs : List Int) : (posW cs cs.length).map (·.2) = (posIx cs).map fun k : Nat => (k : Int) := by
  unfold posW posIx
  rw [List.map_map]
  rfl
theorem posW_pos (cs : List Int) (n : Nat) : ∀ p ∈ posW cs n, 1 ≤ p.1 := by
  intro p hp
  obtain ⟨k, hk, rfl⟩ := List.mem_map.mp hp
  have := (List.mem_filter.mp hk).2
  have h' : 0 < cs.getD k 0 := by simpa using this
  show 1 ≤ cs.getD k 0
  omega
theorem posIx_nodup (cs : List Int) : (posIx cs).Nodup := List.Nodup.sublist List.filter_sublist List.nodup_range
theorem posW_nodup (cs : List Int) : ((posW cs cs.length).map (·.2)).Nodup := by
  rw [posW_leaves]
  exact List.Pairwise.map _ (fun a b h q => h (Int.ofNat_inj.mp q)) (posIx_nodup cs)
theorem posW_in (cs : List Int) : ∀ l ∈ (posW cs cs.length).map (·.2), 0 ≤ l ∧ l < (cs.length : Int) := by
  intro l hl
  rw [posW_leaves] at hl
  obtain ⟨k, hk, rfl⟩ := List.mem_map.mp hl
  have := List.mem_range.mp (List.mem_filter.mp hk).1
  omega
theorem posW_len (cs : List Int) : (posW cs cs.length).length = (posIx cs).length := by
  have := congrArg List.length (posW_leaves cs)
  simpa using this
structure ClS where
  tl : List (Addr × Obj)
  vr : List Value
  cr : Nat
def clLed (W : Addr) (news : List (Addr × Obj)) (c : ClS) : List (Addr × Obj) := (W, listOf c.vr.toArray c.cr) :: (c.tl ++ news)
def clP (W : Addr) (news : List (Addr × Obj)) (cs : List Int) (i : Nat) (c : ClS) : Prop := DatAll c.tl c.vr ((posW cs i).map pairD) ∧ (∀ p ∈ c.tl, p.1 ≠ W) ∧ (∀ q ∈ news, ∀ p ∈ c.tl, q.1 < p.1)
section
variable {prog : Program} {w : World} {A : Around} {E : Value → Shared → Prop} {s : Shared} {env : Env} {h₀ : Heap} {L : Addr} {body : List Stmt}
theorem cl_for {W r : Addr} {cs : List Int} {m₀ : Str → Option Value} {news : List (Addr × Obj)} {cr : Nat} {e : Int} {t₀ u₀ v₀ : Tok} {Q : Flow → Shared → Prop}
    (hh : A.handled = none) (hr : IsRange s.heap r 0 e 1 t₀ u₀ v₀) (he : e = (cs.length : Int)) (F : Fr h₀ env.locals s.heap m₀) (N : News h₀ env.locals s.heap ((W, listOf #[] cr) :: news)) (_hw : m₀ (Str.ofString "weights") = some (.ref W)) (hoff : ∀ q ∈ news, q.1 < W) (hlen : cs.length ≤ 1000)
    (turn : ∀ (tl : List (Addr × Obj)) (vr : List Value) (cr : Nat) (i : Nat) t h tk own, DatAll tl vr ((posW cs i).map pairD) → vr.length ≤ i → i < cs.length → (0 : Int) ≤ 0 + (i : Int) → 0 + (i : Int) < cs.length → (∀ p ∈ (tl ++ news) ++ own, p.1 ≠ W) → (∀ q ∈ news, ∀ p ∈ tl, q.1 < p.1) → (∀ p ∈ own, ∀ q ∈ tl ++ news, p.1 ≠ q.1) →
      Fr h₀ env.locals h (fun y => if y = Str.ofString "symbol" then some (.int (0 + (i : Int)) t) else m₀ y) → News h₀ env.locals h ((W, listOf vr.toArray cr) :: ((tl ++ news) ++ own)) →
      wpAny (model prog w) A (execs body env) (InvPostG h₀ env.locals (RgJ (clLed W news) (fun _ => []) (Str.ofString "symbol") [] m₀ (clP W news cs) (i + 1)) own { s with heap := h, toks := tk } Q) E { s with heap := h, toks := tk })
    (done : ∀ (tl : List (Addr × Obj)) (vr : List Value) (cr : Nat) (u : Str → Option Value) h tk, DatAll tl vr ((posW cs cs.length).map pairD) → vr.length = (posW cs cs.length).length → (∀ p ∈ tl ++ news, p.1 ≠ W) → (∀ q ∈ news, ∀ p ∈ tl, q.1 < p.1) →
      Fr h₀ env.locals h (fun y => if y = Str.ofString "symbol" then u y else m₀ y) → News h₀ env.locals h ((W, listOf vr.toArray cr) :: (tl ++ news)) → Q .next { s with heap := h, toks := tk }) :
    wpAny (model prog w) A (pyIter (.ref r)) (fun it s₂ => LoopAtV prog w A h₀ env (Str.ofString "symbol") body Q E it s₂) E s := by
  subst he
  have hsz : Builtin.Range.rangeSize 0 (cs.length : Int) 1 = (cs.length : Int) := rangeSize_nat _ _
  have hsm : Builtin.Range.small 0 (cs.length : Int) 1 = true := small_one (by omega) (by omega) (by omega) (by omega)
  have off2 : ∀ {tl : List (Addr × Obj)}, (∀ p ∈ tl, p.1 ≠ W) → ∀ p ∈ tl ++ news, p.1 ≠ W := fun h p hp => (List.mem_append.mp hp).elim (fun q => h p q) fun q => Nat.ne_of_lt (hoff p q)
  refine rg_for (clLed W news) (fun _ => []) [] (clP W news cs) ⟨[], [], cr⟩ hh hr hsm hsz F N (fun _ h => h) (fun _ h => (nomatch h)) ⟨.nil, fun _ h => (nomatch h), fun _ _ _ h => (nomatch h)⟩ ?_ ?_
  · rintro ⟨tl, vr, cr⟩ i t u h tk own hi ⟨p1, p2, p3⟩ hof F₁ N₁
    refine turn tl vr cr i t h tk own p1 (by have q : vr.length = ((posW cs i).map pairD).length := p1.length; rw [List.length_map] at q; have := posW_len_le cs i; omega) hi (by omega) (by omega) (fun p hp => ?_) p3 (fun p hp q hq => hof p hp q (.tail _ hq)) F₁ N₁
    rcases List.mem_append.mp hp with hp | hp
    · exact off2 p2 p hp
    · exact hof p hp _ (.head _)
  · rintro ⟨tl, vr, cr⟩ u h tk ⟨p1, p2, p3⟩ F₁ N₁
    exact done tl vr cr u h tk p1 (by have := p1.length; rw [List.length_map] at this; exact this) (off2 p2) p3 F₁ N₁
theorem cl_no {m₀ m' : Str → Option Value} {news own tl news' : List (Addr × Obj)} {cs : List Int} {W : Addr} {vr : List Value} {cr i : Nat} {s₁ : Shared} {h' : Heap} {tk : Nat}
    (F : Fr h₀ L h' m') (N : News h₀ L h' news') (hr : ∀ z, z ≠ Str.ofString "symbol" → (∀ p ∈ ([] : List (Str × Value)), z ≠ p.1) → ([] : List Str).contains z = false → m' z = m₀ z) (n1 : ∀ p ∈ (W, listOf vr.toArray cr) :: (tl ++ news), p ∈ news') (ho : ∀ p ∈ own, p ∈ news')
    (o1 : ∀ p ∈ (tl ++ news) ++ own, p.1 ≠ W) (o2 : ∀ p ∈ own, ∀ q ∈ tl ++ news, p.1 ≠ q.1) (kL : ∀ q ∈ news, ∀ p ∈ tl, q.1 < p.1) (hD : DatAll tl vr ((posW cs i).map pairD)) (hc : ¬ 0 < cs.getD (0 + (i : Int)).toNat 0) :
    InvEndG h₀ L (RgJ (clLed W news) (fun _ => []) (Str.ofString "symbol") [] m₀ (clP W news cs) (i + 1)) own s₁ { s₁ with heap := h', toks := tk } := by
  have e : (0 + (i : Int)).toNat = i := by omega
  rw [e] at hc
  refine rg_end (c' := (⟨tl, vr, cr⟩ : ClS)) F N n1 ho ?_ (fun _ h => (nomatch h)) hr ⟨?_, fun p hp => o1 p (List.mem_append.mpr (.inl (List.mem_append.mpr (.inl hp)))), kL⟩
  · intro p hp q hq
    rcases List.mem_cons.mp hq with rfl | hq
    · exact o1 p (List.mem_append.mpr (.inr hp))
    · exact o2 p hp q hq
  · show DatAll tl vr ((posW cs (i + 1)).map pairD)
    rw [posW_succ, if_neg hc, List.append_nil]
    exact hD
theorem cl_yes {m₀ m' : Str → Option Value} {news own tl news' : List (Addr × Obj)} {cs : List Int} {W T : Addr} {vr : List Value} {cr' i : Nat} {t1 t2 : Tok} {s₁ : Shared} {h' : Heap} {tk : Nat}
    (F : Fr h₀ L h' m') (N : News h₀ L h' news') (hr : ∀ z, z ≠ Str.ofString "symbol" → (∀ p ∈ ([] : List (Str × Value)), z ≠ p.1) → ([] : List Str).contains z = false → m' z = m₀ z)
    (n1 : (W, listOf (vr.toArray.push (.ref T)) cr') ∈ news') (n2 : (T, ({ cls := .type "tuple", data := .seq #[.int (cs.getD (0 + (i : Int)).toNat 0) t1, .int (0 + (i : Int)) t2] } : Obj)) ∈ news') (n3 : ∀ p ∈ tl ++ news, p ∈ news') (ho : ∀ p ∈ own, p ∈ news')
    (lT : W < T ∧ AllLt T ((tl ++ news) ++ own)) (o1 : ∀ p ∈ (tl ++ news) ++ own, p.1 ≠ W) (o2 : ∀ p ∈ own, ∀ q ∈ tl ++ news, p.1 ≠ q.1) (kL : ∀ q ∈ news, ∀ p ∈ tl, q.1 < p.1) (hD : DatAll tl vr ((posW cs i).map pairD)) (hc : 0 < cs.getD (0 + (i : Int)).toNat 0) :
    InvEndG h₀ L (RgJ (clLed W news) (fun _ => []) (Str.ofString "symbol") [] m₀ (clP W news cs) (i + 1)) own s₁ { s₁ with heap := h', toks := tk } := by
  have ep : vr.toArray.push (Value.ref T) = (vr ++ [Value.ref T]).toArray := by simp
  rw [ep] at n1
  have e : (0 + (i : Int)).toNat = i := by omega
  have e2 : 0 + (i : Int) = (i : Int) := by omega
  rw [e] at hc n2
  rw [e2] at n2
  refine rg_end (c' := (⟨(T, { cls := .type "tuple", data := .seq #[.int (cs.getD i 0) t1, .int (i : Int) t2] }) :: tl, vr ++ [Value.ref T], cr'⟩ : ClS)) F N ?_ ho ?_ (fun _ h => (nomatch h)) hr ⟨?_, ?_, ?_⟩
  · intro p hp
    rcases List.mem_cons.mp hp with rfl | hp
    · exact n1
    · rcases List.mem_cons.mp hp with rfl | hp
      · exact n2
      · exact n3 p hp
  · intro p hp q hq
    have hp' := List.mem_append.mpr (.inr (a := p ∈ tl ++ news) hp)
    rcases List.mem_cons.mp hq with rfl | hq
    · exact o1 p hp'
    · rcases List.mem_cons.mp hq with rfl | hq
      · exact off_allLt lT.2 p hp'
      · exact o2 p hp q hq
  · show DatAll _ (vr ++ [Value.ref T]) ((posW cs (i + 1)).map pairD)
    rw [posW_succ, if_pos hc, List.map_append]
    exact datAll_app (hD.mono fun q hq => .tail _ hq) (.cons (.tuple (vs := [.int _ t1, .int _ t2]) (.head _) (.cons (.int _ _) (.cons (.int _ _) .nil))) .nil)
  · intro p hp
    rcases List.mem_cons.mp hp with rfl | hp
    · exact Nat.ne_of_gt lT.1
    · exact o1 p (List.mem_append.mpr (.inl (List.mem_append.mpr (.inl hp))))
  · intro q hq p hp
    rcases List.mem_cons.mp hp with rfl | hp
    · exact allLt_mem lT.2 q (List.mem_append.mpr (.inl (List.mem_append.mpr (.inr hq))))
    · exact kL q hq p hp
end
theorem halfW_take {ws : List (Int × Int)} {i : Nat} {r : Int × Int} (h : ws[i]? = some r) : halfW (ws.take (i + 1)) = halfW (ws.take i) ++ [(Int.fdiv (r.1 + 1) 2, r.2)] := by
  have e : ws.take (i + 1) = ws.take i ++ [r] := by rw [List.take_add_one, h]; rfl
  rw [e]
  unfold halfW
  rw [List.map_append]
  rfl
/-- an item of the halved weights is made -/
def HcEl (h₀ : Heap) (L : Addr) (m : Str → Option Value) (s : Shared) (led : List (Addr × Obj)) (r : Int × Int) (y : Value) (s₂ : Shared) : Prop :=
  ∃ h' tk T t1 t2, s₂ = { s with heap := h', toks := tk } ∧ y = .ref T ∧ Fr h₀ L h' m ∧ News h₀ L h' ((T, ({ cls := .type "tuple", data := .seq #[.int (Int.fdiv (r.1 + 1) 2) t1, .int r.2 t2] } : Obj)) :: led) ∧ ∀ q ∈ led, q.1 < T
section
variable {prog : Program} {w : World} {A : Around} {E : Value → Shared → Prop} {s : Shared} {h₀ : Heap} {L : Addr} {m : Str → Option Value} {env : Env}
open LCg LCp
theorem hc_src {RL : Addr} {vr : List Value} {nn : Nat} {ws : List (Int × Int)} {led news : List (Addr × Obj)} {elt : Expr} {x x₂ y : Str} {scope : Scope} {cl : List (Str × Addr)} {Q : Flow → Shared → Prop}
    (hh : A.handled = none) (F : Fr h₀ L s.heap m) (N : News h₀ L s.heap news) (hm : (RL, listOf vr.toArray nn) ∈ news) (hD : DatAll led vr (ws.map pairD)) (hs : ∀ p ∈ led, p ∈ news) (hz : ws.length ≤ 1000)
    (turn : ∀ (r : Int × Int) t1 t2 I oI C oC D oD nx m₂ h tk (E' : Value → Shared → Prop), r ∈ ws → NsObj oC m₂ → m₂ x = some (.int r.1 t1) → m₂ x₂ = some (.int r.2 t2) → Fr h₀ L h m → News h₀ L h ((I, oI) :: (C, oC) :: (D, oD) :: nx) →
      wpAny (model prog w) A (eval elt (compEnvC scope cl C env)) (HcEl h₀ L m { s with heap := h, toks := tk } ((I, oI) :: (C, oC) :: (D, oD) :: nx) r) E' { s with heap := h, toks := tk })
    (done : ∀ (ys : List Value) (tl : List (Addr × Obj)) D h tk, ys.length = ws.length → DatAll tl ys ((halfW ws).map pairD) → (∀ q ∈ news, ∀ p ∈ tl, q.1 < p.1) → (∀ p ∈ tl ++ news, p.1 ≠ D) → Fr h₀ L h (fun z => if z = y then some (.ref D) else m z) → News h₀ L h ((D, listOf ys.toArray ys.length) :: (tl ++ news)) → Q .next { s with heap := h, toks := tk }) :
    SrcLP prog w A h₀ L m env elt x x₂ scope cl (fun s₂ => FinA h₀ L m s₂ y Q) (.ref RL) s := by
  have hlen : vr.length = ws.length := by rw [hD.length, List.length_map]
  refine SrcLP.ledger hh F N hm (by rw [List.size_toArray, hlen, sizeLine_eq]; omega) fun g => ?_
  have key : ∀ (k i : Nat) (ys : List Value) (tl : List (Addr × Obj)), i + k = ws.length → DatAll tl ys ((halfW (ws.take i)).map pairD) → (∀ q ∈ news, ∀ p ∈ tl, q.1 < p.1) →
      CompRestP prog w A h₀ L m env elt x x₂ scope cl { s with heap := g } (SrcAt h₀ RL vr.toArray) (fun i v => vr.toArray[i]? = some v) (FinA h₀ L m { s with heap := g } y Q) k i ys (tl ++ news) := by
    intro k
    induction k with
    | zero =>
      intro i ys tl hi hY kL
      refine CompRestP.zero ?_
      intro D h tk F' N' off
      have e : i = ws.length := by omega
      subst e
      rw [List.take_length] at hY
      have hoff : ∀ {l : List (Addr × Obj)}, Off1 D l → ∀ p ∈ l, p.1 ≠ D := by
        intro l
        induction l with
        | nil => intro _ p hp; cases hp
        | cons q l ih =>
          intro ho p hp
          rcases List.mem_cons.mp hp with rfl | hp
          · exact ho.1
          · exact ih ho.2 p hp
      exact done ys tl D h tk (by rw [hY.length, List.length_map]; simp [halfW]) hY kL (hoff off) F' N'
    | succ k ih =>
      intro i ys tl hi hY kL
      refine CompRestP.succ fun v hv => ?_
      obtain ⟨r, T, t1, t2, n, hr, rfl, hT⟩ := pair_at hD (i := i) (v := v) (by simpa using hv)
      refine ⟨T, _, .int r.1 t1, .int r.2 t2, n, rfl, List.mem_append.mpr (.inr (hs _ hT)), rfl, rfl, ?_⟩
      intro I oI C oC D m₂ h tk E' hC hx hx₂ F' N' off ne
      refine wpAny_mono (turn r t1 t2 I oI C oC D _ _ m₂ h tk E' (List.mem_of_getElem? hr) hC hx hx₂ F' N') (fun y' s₂ hy => ?_) fun _ _ e => e
      obtain ⟨h', tk', T', u1, u2, rfl, rfl, F'', N'', lt⟩ := hy
      have offm := off.mem
      refine ⟨h', tk', (T', { cls := .type "tuple", data := .seq #[.int (Int.fdiv (r.1 + 1) 2) u1, .int r.2 u2] }) :: (tl ++ news), rfl, F'', fun p hp => ?_, Off3.of fun p hp => ?_, ?_, ?_⟩
      · refine N'' p ?_
        rcases List.mem_cons.mp hp with rfl | hp
        · exact .tail _ (.head _)
        · rcases List.mem_cons.mp hp with rfl | hp
          · exact .tail _ (.tail _ (.head _))
          · rcases List.mem_cons.mp hp with rfl | hp
            · exact .tail _ (.tail _ (.tail _ (.head _)))
            · rcases List.mem_cons.mp hp with rfl | hp
              · exact .head _
              · exact .tail _ (.tail _ (.tail _ (.tail _ hp)))
      · rcases List.mem_cons.mp hp with rfl | hp
        · exact ⟨Nat.ne_of_gt (lt _ (.head _)), Nat.ne_of_gt (lt _ (.tail _ (.head _))), Nat.ne_of_gt (lt _ (.tail _ (.tail _ (.head _))))⟩
        · exact offm p hp
      · exact .inr ⟨_, .tail _ (List.mem_append.mpr (.inr hm)), rfl, _, rfl⟩
      · refine ih (i + 1) (ys ++ [Value.ref T']) ((T', { cls := .type "tuple", data := .seq #[.int (Int.fdiv (r.1 + 1) 2) u1, .int r.2 u2] }) :: tl) (by omega) ?_ fun q hq p hp => ?_
        · rw [halfW_take hr, List.map_append]
          exact datAll_app (hY.mono fun q hq => .tail _ hq) (.cons (.tuple (vs := [.int _ u1, .int _ u2]) (.head _) (.cons (.int _ _) (.cons (.int _ _) .nil))) .nil)
        · rcases List.mem_cons.mp hp with rfl | hp
          · exact lt q (.tail _ (.tail _ (.tail _ (List.mem_append.mpr (.inr hq)))))
          · exact kL q hq p hp
  have := key vr.toArray.size 0 [] [] (by rw [List.size_toArray, hlen]; omega) .nil fun _ _ _ h => (nomatch h)
  exact this
end
theorem hc_el {h₀ h' : Heap} {L : Addr} {m : Str → Option Value} {s : Shared} {I C D T : Nat} {oI oC oD : Obj} {nx : List (Addr × Obj)} {r : Int × Int} {t1 t2 : Tok} {tk : Nat} (F : Fr h₀ L h' m) (N : News h₀ L h' ((T, ({ cls := .type "tuple", data := .seq #[.int (Int.fdiv (r.1 + 1) 2) t1, .int r.2 t2] } : Obj)) :: (I, oI) :: (C, oC) :: (D, oD) :: nx)) (l1 : I < T ∧ C < T ∧ D < T ∧ AllLt T nx) :
    HcEl h₀ L m s ((I, oI) :: (C, oC) :: (D, oD) :: nx) r (.ref T) { s with heap := h', toks := tk } :=
  ⟨h', tk, T, t1, t2, rfl, rfl, F, N, allLt_mem (show AllLt T ((I, oI) :: (C, oC) :: (D, oD) :: nx) from l1)⟩
/-- the weights are halved till the depths fit -/
structure CwS where
  RW : Addr
  vr : List Value
  cr : Nat
  tl : List (Addr × Obj)
  ws : List (Int × Int)
  dd : Addr
  o : Obj
  D : Int → Nat
def cwLed (news : List (Addr × Obj)) (c : CwS) : List (Addr × Obj) := (c.RW, listOf c.vr.toArray c.cr) :: (c.dd, c.o) :: (c.tl ++ news)
def cwPs (c : CwS) : List (Str × Value) := [(Str.ofString "weights", .ref c.RW), (Str.ofString "depths", .ref c.dd)]
def cwFacts (news : List (Addr × Obj)) (c : CwS) : Prop := (∀ p ∈ (c.RW, listOf c.vr.toArray c.cr) :: (c.dd, c.o) :: c.tl, ∀ q ∈ news, q.1 ≠ p.1) ∧ (c.dd == sysModules) = false
def cwP (prog : Program) (w : World) (ls : List Int) (c : CwS) : Prop := DatAll c.tl c.vr (c.ws.map pairD) ∧ IDict prog w c.o (dpT c.ws c.D) ∧ DOk c.ws c.D ∧ (c.ws.map (·.2)).Perm ls ∧ ∀ p ∈ c.ws, 1 ≤ p.1
theorem leaves_facts {ws : List (Int × Int)} {ls : List Int} (h : (ws.map (·.2)).Perm ls) (hn : ls.Nodup) : (ws.map (·.2)).Nodup ∧ ws.length = ls.length := ⟨h.nodup_iff.mpr hn, by have := h.length_eq; simpa using this⟩
theorem half_facts {ws vs : List (Int × Int)} {ls : List Int} (p : vs.Perm (halfW ws)) (h : (ws.map (·.2)).Perm ls) (hn : ls.Nodup) (hp : ∀ p ∈ ws, 1 ≤ p.1) : (vs.map (·.2)).Perm ls ∧ (vs.map (·.2)).Nodup ∧ vs.length = ls.length ∧ ∀ p ∈ vs, 1 ≤ p.1 := by
  have h1 : (vs.map (·.2)).Perm ls := by
    have := p.map (fun q : Int × Int => q.2)
    rw [halfW_leaves] at this
    exact this.trans h
  exact ⟨h1, (leaves_facts h1 hn).1, (leaves_facts h1 hn).2, fun q hq => halfW_pos hp q (p.mem_iff.mp hq)⟩
theorem half_nodup {ws : List (Int × Int)} {ls : List Int} (h : (ws.map (·.2)).Perm ls) (hn : ls.Nodup) : ((halfW ws).map (·.2)).Nodup := by
  rw [halfW_leaves]
  exact (leaves_facts h hn).1
theorem half_len (ws : List (Int × Int)) : (halfW ws).length = ws.length := by simp [halfW]
section
variable {prog : Program} {w : World} {A : Around} {E : Value → Shared → Prop} {Q : Flow → Shared → Prop} {s : Shared} {env : Env} {h₀ : Heap} {L : Addr}
theorem cw_while {test : Expr} {body : List Stmt} {pos : Pos} {m₀ : Str → Option Value} {led news tl : List (Addr × Obj)} {dd RW : Addr} {o : Obj} {vr : List Value} {cr : Nat} {ws : List (Int × Int)} {D : Int → Nat} {ls : List Int}
    (F : Fr h₀ L s.heap m₀) (N : News h₀ L s.heap led) (hw : m₀ (Str.ofString "weights") = some (.ref RW)) (hdd : m₀ (Str.ofString "depths") = some (.ref dd)) (hD : DatAll tl vr (ws.map pairD)) (hd : IDict prog w o (dpT ws D)) (hO : DOk ws D) (hp : (ws.map (·.2)).Perm ls) (hpos : ∀ p ∈ ws, 1 ≤ p.1) (hn : ls.Nodup)
    (hs : ∀ p ∈ (RW, listOf vr.toArray cr) :: (dd, o) :: (tl ++ news), p ∈ led) (o1 : ∀ p ∈ (RW, listOf vr.toArray cr) :: (dd, o) :: tl, ∀ q ∈ news, q.1 ≠ p.1) (lo : (dd == sysModules) = false)
    (turn : ∀ (RW : Addr) (vr : List Value) (cr : Nat) (tl : List (Addr × Obj)) (ws : List (Int × Int)) (dd : Addr) (o : Obj) (D : Int → Nat) h tk, (∀ p ∈ (RW, listOf vr.toArray cr) :: (dd, o) :: tl, ∀ q ∈ news, q.1 ≠ p.1) → (dd == sysModules) = false → DatAll tl vr (ws.map pairD) → IDict prog w o (dpT ws D) → DOk ws D → (ws.map (·.2)).Perm ls → (∀ p ∈ ws, 1 ≤ p.1) → (dpT ws D).length = ls.length → ws.length = ls.length →
      Fr h₀ L h (fun y => if y = Str.ofString "weights" then some (.ref RW) else if y = Str.ofString "depths" then some (.ref dd) else m₀ y) → News h₀ L h ((RW, listOf vr.toArray cr) :: (dd, o) :: (tl ++ news)) →
      wpAny (model prog w) A (isTrue test env (eval test env)) (fun b s₂ =>
        if b = true then wpAny (model prog w) A (execs body env) (KswPost h₀ L s (cwLed news) cwPs (cwFacts news) [] m₀ (cwP prog w ls) (fun c => (c.ws.map (fun p : Int × Int => p.1)).sum.toNat) Q ⟨RW, vr, cr, tl, ws, dd, o, D⟩) E s₂ else Q .next s₂) E { s with heap := h, toks := tk })
    (hE : PassesOwn (model prog w) A env E := by passes_own) :
    wpAny (model prog w) A (exec (.While test body [] pos) env) Q E s := by
  refine ksw_while (cwLed news) cwPs (cwFacts news) [] (cwP prog w ls) (fun c => (c.ws.map (fun p : Int × Int => p.1)).sum.toNat) ⟨RW, vr, cr, tl, ws, dd, o, D⟩ F (fun p hp => N p (hs p hp)) ⟨o1, lo⟩ ?_ ⟨hD, hd, hO, hp, hpos⟩ ?_ hE
  · intro q hq
    rcases List.mem_cons.mp hq with rfl | hq
    · exact hw
    · rw [List.mem_singleton.mp hq]; exact hdd
  · rintro ⟨RW, vr, cr, tl, ws, dd, o, D⟩ u h tk ⟨f1, f2⟩ ⟨p1, p2, p3, p4, p5⟩ F₁ N₁
    exact turn RW vr cr tl ws dd o D h tk f1 f2 p1 p2 p3 p4 p5 (by rw [dpT_len]; exact (leaves_facts p4 hn).2) (leaves_facts p4 hn).2 F₁ N₁
theorem cw_end {m₀ m' : Str → Option Value} {news tl tl1 news' : List (Addr × Obj)} {RW RW' dd dd' : Addr} {o o' : Obj} {vr vr' : List Value} {cr cr' : Nat} {ws ws' : List (Int × Int)} {D D' : Int → Nat} {ls : List Int} {M lim : Int} {h' : Heap} {tk : Nat}
    (F : Fr h₀ L h' m') (N : News h₀ L h' news') (k1 : m' (Str.ofString "weights") = some (.ref RW')) (k2 : m' (Str.ofString "depths") = some (.ref dd')) (hr : ∀ z, (∀ q ∈ [(Str.ofString "weights", Value.ref RW'), (Str.ofString "depths", Value.ref dd')], z ≠ q.1) → ([] : List Str).contains z = false → m' z = m₀ z)
    (n1 : (RW', listOf vr'.toArray cr') ∈ news') (n2 : (dd', o') ∈ news') (n3 : ∀ p ∈ tl1, p ∈ news') (n4 : ∀ p ∈ news, p ∈ news') (a1 : ∀ q ∈ news, q.1 ≠ RW') (a2 : ∀ q ∈ news, q.1 ≠ dd') (a3 : ∀ p ∈ tl1, ∀ q ∈ news, q.1 ≠ p.1) (lo : (dd' == sysModules) = false)
    (hD : DatAll tl1 vr' (ws'.map pairD)) (hd : IDict prog w o' (dpT ws' D')) (hO' : DOk ws' D') (hO : DOk ws D) (hp : (ws.map (·.2)).Perm ls) (hpos : ∀ p ∈ ws, 1 ≤ p.1) (hn : ls.Nodup) (h64 : ls.length < 64) (hh : ws'.Perm (halfW ws)) (hM : M ∈ (dpT ws D).map (·.2)) (hgt : lim < M) (h8 : 8 ≤ lim) :
    KswEnd h₀ L s (cwLed news) cwPs (cwFacts news) [] m₀ (cwP prog w ls) (fun c => (c.ws.map (fun p : Int × Int => p.1)).sum.toNat) ⟨RW, vr, cr, tl, ws, dd, o, D⟩ { s with heap := h', toks := tk } := by
  have hf := half_facts hh hp hn hpos
  refine ksw_end (c' := ⟨RW', vr', cr', tl1, ws', dd', o', D'⟩) F N ?_ ⟨?_, lo⟩ ?_ hr ⟨hD, hd, hO', hf.1, hf.2.2.2⟩ ?_
  · intro q hq
    rcases List.mem_cons.mp hq with rfl | hq
    · exact n1
    · rcases List.mem_cons.mp hq with rfl | hq
      · exact n2
      · rcases List.mem_append.mp hq with hq | hq
        · exact n3 q hq
        · exact n4 q hq
  · intro p hp' q hq
    rcases List.mem_cons.mp hp' with rfl | hp'
    · exact a1 q hq
    · rcases List.mem_cons.mp hp' with rfl | hp'
      · exact a2 q hq
      · exact a3 p hp' q hq
  · intro q hq
    rcases List.mem_cons.mp hq with rfl | hq
    · exact k1
    · rw [List.mem_singleton.mp hq]; exact k2
  · refine halfW_lt hpos hh fun ho => ?_
    obtain ⟨p, hp1, rfl⟩ := List.mem_map.mp hM
    obtain ⟨x, hx, rfl⟩ := List.mem_map.mp hp1
    have h1 := dok_low hO ho (by have := (leaves_facts hp hn).2; omega) x.2 (List.mem_map.mpr ⟨x, hx, rfl⟩)
    have h2 : lim < ((D x.2 : Nat) : Int) := hgt
    omega
end
/-- the lengths are filled in -/
def FlP (n0 : Nat) (ls : List Int) (D : Int → Nat) (i : Nat) (zs : List Int) : Prop := zs.length = n0 ∧ ∀ k : Nat, k < n0 → zs.getD k 0 = if (k : Int) ∈ ls.take i then ((D k : Nat) : Int) else 0
theorem flP_start (n0 : Nat) (ls : List Int) (D : Int → Nat) : FlP n0 ls D 0 (List.replicate n0 0) := by
  refine ⟨List.length_replicate, fun k hk => ?_⟩
  rw [List.take_zero, if_neg (by simp)]
  simp [List.getD, List.getElem?_replicate, hk]
theorem flP_next {n0 : Nat} {ls zs : List Int} {D : Int → Nat} {i : Nat} {l : Int} (h : FlP n0 ls D i zs) (hl : ls[i]? = some l) (h0 : 0 ≤ l) (h1 : l < (n0 : Int)) : FlP n0 ls D (i + 1) (zs.set l.toNat ((D l : Nat) : Int)) := by
  refine ⟨by rw [List.length_set]; exact h.1, fun k hk => ?_⟩
  have e : ls.take (i + 1) = ls.take i ++ [l] := by rw [List.take_add_one, hl]; rfl
  rw [e]
  have hz := h.1
  by_cases hk2 : l.toNat = k
  · have hkl : (k : Int) = l := by omega
    rw [if_pos (by rw [hkl]; simp)]
    rw [hkl]
    simp [List.getD, List.getElem?_set, hk2, show k < zs.length by omega]
  · have hkl : ¬ (k : Int) = l := by omega
    have h2 := h.2 k hk
    have e2 : (zs.set l.toNat ((D l : Nat) : Int)).getD k 0 = zs.getD k 0 := by simp [List.getD, List.getElem?_set, hk2]
    rw [e2, h2]
    have : ((k : Int) ∈ ls.take i ++ [l]) ↔ ((k : Int) ∈ ls.take i) := by simp [hkl]
    simp only [this]
theorem flP_end {cs zs : List Int} {ls : List Int} {D : Int → Nat} (h : FlP cs.length ls D ls.length zs) (hp : ls.Perm ((posIx cs).map fun k : Nat => (k : Int))) : zs = lensOf cs D := by
  apply List.ext_getElem
  · rw [h.1]; simp [lensOf]
  · intro k h1 h2
    have hk : k < cs.length := by have := h.1; omega
    have h3 := h.2 k hk
    rw [List.take_length] at h3
    have e : zs.getD k 0 = zs[k] := by simp [List.getD, List.getElem?_eq_getElem h1]
    rw [e] at h3
    rw [h3]
    have : ((k : Int) ∈ ls) ↔ 0 < cs.getD k 0 := by
      rw [hp.mem_iff, List.mem_map]
      constructor
      · rintro ⟨j, hj, e⟩
        have e' : j = k := by omega
        subst e'
        simpa using (List.mem_filter.mp hj).2
      · intro hc
        exact ⟨k, List.mem_filter.mpr ⟨List.mem_range.mpr hk, by simpa using hc⟩, rfl⟩
    simp only [this]
    simp [lensOf]
structure FlS where
  vs : List Value
  n : Nat
  zs : List Int
def flLed (g : Obj → List (Addr × Obj)) (c : FlS) : List (Addr × Obj) := g (listOf c.vs.toArray c.n)
def flC (n0 : Nat) (ls : List Int) (D : Int → Nat) (i : Nat) (c : FlS) : Prop := IntsAre c.vs c.zs ∧ FlP n0 ls D i c.zs
theorem off_lt2 {news : List (Addr × Obj)} {W : Addr} (h : ∀ q ∈ news, q.1 < W) : ∀ q ∈ news, q.1 ≠ W := fun q hq => Nat.ne_of_lt (h q hq)
section
variable {prog : Program} {w : World} {A : Around} {E : Value → Shared → Prop} {s : Shared} {env : Env} {h₀ : Heap} {L : Addr} {body : List Stmt} {Q : Flow → Shared → Prop}
theorem fl_at {LN dd : Addr} {o : Obj} {us : List Value} {nU n0 : Nat} {ws : List (Int × Int)} {D : Int → Nat} {m₀ : Str → Option Value} {news : List (Addr × Obj)} {g : Obj → List (Addr × Obj)}
    (hh : A.handled = none) (lo : (dd == sysModules) = false) (_hk : m₀ (Str.ofString "lengths") = some (.ref LN)) (F : Fr h₀ env.locals s.heap m₀) (N : News h₀ env.locals s.heap news) (U : UpdF LN (listOf us.toArray nU) news g) (hm : ∀ o', (dd, o) ∈ g o') (hd : IDict prog w o (dpT ws D)) (hu : IntsAre us (List.replicate n0 0)) (hin : ∀ l ∈ ws.map (·.2), 0 ≤ l ∧ l < (n0 : Int))
    (turn : ∀ (vs : List Value) (n : Nat) (zs : List Int) (i : Nat) (l : Int) (t : Tok) h tk own, IntsAre vs zs → zs.length = n0 → FlP n0 (ws.map (·.2)) D i zs → (ws.map (·.2))[i]? = some l → 0 ≤ l → l < (n0 : Int) → l ∈ ws.map (·.2) → (∀ p ∈ own, p.1 ≠ LN) → (∀ p ∈ own, ∀ o', ∀ q ∈ g o', p.1 ≠ q.1) →
      Fr h₀ env.locals h (fun y => if y = Str.ofString "leaf" then some (.int l t) else m₀ y) → News h₀ env.locals h (g (listOf vs.toArray n) ++ own) →
      wpAny (model prog w) A (execs body env) (InvPostG h₀ env.locals (fun m' nx => (dd, o) ∈ nx ∧ RgJ (flLed g) (fun _ => []) (Str.ofString "leaf") [] m₀ (flC n0 (ws.map (·.2)) D) (i + 1) m' nx) own { s with heap := h, toks := tk } Q) E { s with heap := h, toks := tk })
    (done : ∀ (vs : List Value) (n : Nat) (zs : List Int) (u : Str → Option Value) h tk, IntsAre vs zs → FlP n0 (ws.map (·.2)) D (ws.map (·.2)).length zs → Fr h₀ env.locals h (fun y => if y = Str.ofString "leaf" then u y else m₀ y) → News h₀ env.locals h (g (listOf vs.toArray n)) → Q .next { s with heap := h, toks := tk }) :
    wpAny (model prog w) A (pyIter (.ref dd)) (fun it s₂ => LoopAtV prog w A h₀ env (Str.ofString "leaf") body Q E it s₂) E s := by
  obtain ⟨kvs, h1, hf⟩ := hd
  obtain ⟨pre, post, e, hg, a, c⟩ := U.split
  have e0 : news = g (listOf us.toArray nU) := by rw [hg]; exact e
  have hLN : ∀ o', (LN, o') ∈ g o' := fun o' => by rw [hg]; exact List.mem_append.mpr (.inr (.head _))
  have hlen : kvs.length = (ws.map (·.2)).length := by rw [← hf.length, kdfD_length, dpT_len, List.length_map]
  refine di_iter (RgJ (flLed g) (fun _ => []) (Str.ofString "leaf") [] m₀ (flC n0 (ws.map (·.2)) D)) hh lo (by rw [e0]; exact hm _) h1 F N ⟨⟨us, nU, List.replicate n0 0⟩, e0, ⟨hu, flP_start _ _ _⟩, fun _ h => (nomatch h), fun _ _ _ _ => rfl⟩ ?_ ?_
  · rintro i v m₁ nx h tk own ⟨k, y, hky, t, rfl⟩ hoff' hmem ⟨⟨vs, n, zs⟩, rfl, ⟨p1, p2⟩, q1, q2⟩ F₁ N₁
    have hl : (ws.map (·.2))[i]? = some k := by
      obtain ⟨dv, hd', _⟩ := hf.at hky
      have e : (dpT ws D)[i]?.map (fun p => (PyData.int p.1, PyData.int p.2)) = some (PyData.int k, dv) := by rw [← List.getElem?_map]; exact hd'
      have e2 : ((dpT ws D).map (·.1))[i]? = some k := by
        rw [List.getElem?_map]
        cases hc : (dpT ws D)[i]? with
        | none => rw [hc] at e; cases e
        | some p =>
          rw [hc] at e
          have e1 : PyData.int p.1 = PyData.int k := congrArg Prod.fst (Option.some.inj e)
          injection e1 with e1
          rw [← e1]; rfl
      rw [dpT_keys] at e2
      exact e2
    have hk := hin k (List.mem_of_getElem? hl)
    have hof : ∀ p ∈ own, ∀ q ∈ g (listOf vs.toArray n), p.1 ≠ q.1 := fun p hp q hq => hoff' p hp q.1 (List.mem_map.mpr ⟨q, hq, rfl⟩)
    refine turn vs n zs i k t h tk own p1 p2.1 p2 hl hk.1 hk.2 (List.mem_of_getElem? hl) (fun p hp => hof p hp _ (hLN _)) (fun p hp o' q hq => ?_) (kst_fr q1 q2 F₁) N₁
    rw [hg] at hq
    have hof' : ∀ q ∈ pre ++ (LN, listOf vs.toArray n) :: post, p.1 ≠ q.1 := fun q hq => hof p hp q (by rw [hg]; exact hq)
    rcases List.mem_append.mp hq with hq | hq
    · exact hof' q (List.mem_append.mpr (.inl hq))
    · rcases List.mem_cons.mp hq with rfl | hq
      · exact hof' (LN, listOf vs.toArray n) (List.mem_append.mpr (.inr (.head _)))
      · exact hof' q (List.mem_append.mpr (.inr (.tail _ hq)))
  · rintro m₁ nx h tk ⟨⟨vs, n, zs⟩, rfl, ⟨p1, p2⟩, q1, q2⟩ F₁ N₁
    rw [hlen] at p2
    exact done vs n zs m₁ h tk p1 p2 (kst_frOut q1 q2 F₁) N₁
theorem fl_end {dd : Addr} {o : Obj} {m₀ m' : Str → Option Value} {own news' : List (Addr × Obj)} {g : Obj → List (Addr × Obj)} {n0 n' i : Nat} {ls zs : List Int} {D : Int → Nat} {vs' : List Value} {l : Int} {s₁ : Shared} {h' : Heap} {tk : Nat}
    (F : Fr h₀ L h' m') (N : News h₀ L h' news') (hr : ∀ z, z ≠ Str.ofString "leaf" → (∀ p ∈ ([] : List (Str × Value)), z ≠ p.1) → ([] : List Str).contains z = false → m' z = m₀ z) (n1 : ∀ p ∈ g (listOf vs'.toArray n'), p ∈ news') (ho : ∀ p ∈ own, p ∈ news') (hm : (dd, o) ∈ g (listOf vs'.toArray n')) (o2 : ∀ p ∈ own, ∀ o', ∀ q ∈ g o', p.1 ≠ q.1)
    (hv : IntsAre vs' (zs.set l.toNat ((D l : Nat) : Int))) (hF : FlP n0 ls D i zs) (hl : ls[i]? = some l) (h0 : 0 ≤ l) (h1 : l < (n0 : Int)) :
    InvEndG h₀ L (fun m' nx => (dd, o) ∈ nx ∧ RgJ (flLed g) (fun _ => []) (Str.ofString "leaf") [] m₀ (flC n0 ls D) (i + 1) m' nx) own s₁ { s₁ with heap := h', toks := tk } := by
  refine ls_end (c' := (⟨vs', n', _⟩ : FlS)) F N n1 ho hm ?_ (fun _ h => (nomatch h)) hr ⟨hv, flP_next hF hl h0 h1⟩
  intro p hp q hq
  exact o2 p hp _ q hq
end
theorem leaves_in {cs : List Int} {ws : List (Int × Int)} (hp : (ws.map (·.2)).Perm ((posW cs cs.length).map (·.2))) : ∀ l ∈ ws.map (·.2), 0 ≤ l ∧ l < (cs.length : Int) := fun l hl => posW_in cs l (hp.mem_iff.mp hl)
/-- what code_lengths hands back -/
def LenOk (cs : List Int) (lim : Int) (ls : List Int) : Prop :=
  ∃ D : Int → Nat, ls = lensOf cs D ∧ (∀ i ∈ posIx cs, 1 ≤ D (i : Nat) ∧ ((D (i : Nat) : Nat) : Int) ≤ lim) ∧ (2 ≤ (posIx cs).length → ∀ B : Nat, lim ≤ B → krSum B ((posIx cs).map fun i : Nat => D i) = 2 ^ B) ∧ ((posIx cs).length = 1 → ∀ i ∈ posIx cs, D (i : Nat) = 1)
theorem lenOk_many {cs : List Int} {lim : Int} {ws : List (Int × Int)} {D : Int → Nat} {M : Int} (hO : DOk ws D) (hp : (ws.map (·.2)).Perm ((posIx cs).map fun k : Nat => (k : Int))) (h2 : 2 ≤ ws.length) (hM : ∀ a ∈ (dpT ws D).map (·.2), a ≤ M) (hle : ¬ lim < M) : LenOk cs lim (lensOf cs D) := by
  have hF : FullOn ((posIx cs).map fun k : Nat => (k : Int)) D := fullOn_perm hO.1 hp
  have hl : 2 ≤ ((posIx cs).map fun k : Nat => (k : Int)).length := by rw [← hp.length_eq, List.length_map]; exact h2
  have hD : ∀ l ∈ (posIx cs).map fun k : Nat => (k : Int), ((D l : Nat) : Int) ≤ lim := by
    intro l hl
    obtain ⟨x, hx, rfl⟩ := List.mem_map.mp (hp.mem_iff.mpr hl)
    have := hM ((D x.2 : Nat) : Int) (List.mem_map.mpr ⟨(x.2, ((D x.2 : Nat) : Int)), List.mem_map.mpr ⟨x, hx, rfl⟩, rfl⟩)
    omega
  refine ⟨D, rfl, fun i hi => ⟨fullOn_pos hF hl _ (List.mem_map.mpr ⟨i, hi, rfl⟩), hD _ (List.mem_map.mpr ⟨i, hi, rfl⟩)⟩, fun _ B hB => ?_, fun h1 => ?_⟩
  · have := fullOn_kr hF (B := B) fun l hl => by have := hD l hl; omega
    rw [List.map_map] at this
    exact this
  · rw [List.length_map] at hl
    omega
theorem lenOk_none {cs : List Int} {lim : Int} (h : (posIx cs).length = 0) : LenOk cs lim (List.replicate cs.length 0) := by
  have hn : posIx cs = [] := List.length_eq_zero_iff.mp h
  refine ⟨fun _ => 0, ?_, ?_, fun h2 => by omega, fun h1 => by omega⟩
  rotate_left
  · intro i hi
    rw [hn] at hi
    cases hi
  apply List.ext_getElem
  · simp [lensOf]
  · intro k h1 h2
    have : ¬ 0 < cs.getD k 0 := fun q => by
      have hk : k < cs.length := by simpa using h1
      have : k ∈ posIx cs := List.mem_filter.mpr ⟨List.mem_range.mpr hk, by simpa using q⟩
      rw [hn] at this
      cases this
    simp [lensOf]
theorem lenOk_one {cs zs : List Int} {lim : Int} {p : Int × Int} (h : posW cs cs.length = [p]) (h1 : 1 ≤ lim) (hz : zs = (List.replicate cs.length 0).set p.2.toNat 1) : LenOk cs lim zs := by
  have hn : (posIx cs).map (fun k : Nat => (k : Int)) = [p.2] := by rw [← posW_leaves, h]; rfl
  obtain ⟨j, hj⟩ : ∃ j, posIx cs = [j] := List.length_eq_one_iff.mp (by have := congrArg List.length hn; simpa using this)
  rw [hj] at hn
  have hjp : (j : Int) = p.2 := by simpa using hn
  refine ⟨fun _ => 1, ?_, fun i _ => ⟨Nat.le_refl _, h1⟩, fun h2 => by rw [hj] at h2; simp at h2, fun _ _ _ => rfl⟩
  rw [hz, ← hjp]
  have hjl : j < cs.length := by
    have : j ∈ posIx cs := by rw [hj]; simp
    exact List.mem_range.mp (List.mem_filter.mp this).1
  apply List.ext_getElem
  · simp [lensOf]
  · intro k k1 k2
    have hk : k < cs.length := by simpa using k1
    have hmem : 0 < cs.getD k 0 ↔ k = j := by
      have : k ∈ posIx cs ↔ k = j := by rw [hj]; simp
      rw [← this]
      simp [posIx, hk]
    simp only [lensOf, List.getElem_map, List.getElem_range, hmem, List.getElem_set, List.getElem_replicate, Int.toNat_natCast]
    by_cases e : j = k
    · subst e; simp
    · have e' : ¬ k = j := fun q => e q.symm
      simp [e, e']
def ClOut (cs : List Int) (lim : Int) (news : List (Addr × Obj)) (r : Value) (news' : List (Addr × Obj)) : Prop := ∃ R vs n ls, r = .ref R ∧ news' = (R, listOf vs.toArray n) :: news ∧ IntsAre vs ls ∧ LenOk cs lim ls
def ClC (f : Addr) (prog : Program) (w : World) (K : Frag) (p : Program) (loose : List Str) (mean : ExcName → Option Value) (mg mb : Str → Option Value) : Prop :=
  ∀ (RC : Addr) (vc : List Value) (nc : Nat) (cs : List Int) (lim : Int) (tlm : Tok) (news : List (Addr × Obj)), (RC, listOf vc.toArray nc) ∈ news → IntsAre vc cs → cs.length ≤ 1000 → (posIx cs).length < 64 → 8 ≤ lim → lim ≤ 15 → Fun prog w K p loose mean mg mb 40 f [.ref RC, .int lim tlm] news (ClOut cs lim news)
theorem cl_ret {s : Shared} {h₀ : Heap} {L : Addr} {m : Str → Option Value} {cs ls : List Int} {lim : Int} {news led : List (Addr × Obj)} {R : Addr} {vs : List Value} {n : Nat} {Q : Value → Shared → Prop} {h : Heap} {tk : Nat}
    (hret : ∀ r news' h' tk', ClOut cs lim news r news' → Fr h₀ L h' m → News h₀ L h' news' → Q r { s with heap := h', toks := tk' }) (F : Fr h₀ L h m) (N : News h₀ L h led) (hR : (R, listOf vs.toArray n) ∈ led) (hs : ∀ p ∈ news, p ∈ led) (hI : IntsAre vs ls) (hL : LenOk cs lim ls) : Q (.ref R) { s with heap := h, toks := tk } := by
  refine hret _ _ _ _ ⟨R, vs, n, ls, rfl, rfl, hI, hL⟩ F fun p hp => N p ?_
  rcases List.mem_cons.mp hp with rfl | hp
  · exact hR
  · exact hs p hp
theorem rep0_fill {us : List Value} {cs : List Int} (h : IntsAre us (List.replicate (Int.toNat (cs.length : Int)) [(0 : Int)]).flatten) : IntsAre us (List.replicate cs.length 0) := by
  have e : ∀ n : Nat, (List.replicate n [(0 : Int)]).flatten = List.replicate n 0 := by
    intro n
    induction n with
    | zero => rfl
    | succ n ih => rw [List.replicate_succ, List.flatten_cons, ih]; rfl
  rw [Int.toNat_natCast, e] at h
  exact h
theorem sort_facts {ws ws' : List (Int × Int)} (p : ws'.Perm ws) (hn : (ws.map (·.2)).Nodup) : (ws'.map (·.2)).Nodup ∧ ws'.length = ws.length ∧ (ws'.map (·.2)).Perm (ws.map (·.2)) := ⟨(p.map _).nodup_iff.mpr hn, p.length_eq, p.map _⟩
theorem sort_pos {ws ws' : List (Int × Int)} (p : ws'.Perm ws) (h : ∀ q ∈ ws, 1 ≤ q.1) : ∀ q ∈ ws', 1 ≤ q.1 := fun q hq => h q (p.mem_iff.mp hq)
theorem ne_all {led news : List (Addr × Obj)} {D : Addr} (h : ∀ p ∈ led, p.1 ≠ D) (hs : ∀ q ∈ news, q ∈ led) : ∀ q ∈ news, q.1 ≠ D := fun q hq => h q (hs q hq)
theorem ne_allLt {led news : List (Addr × Obj)} {D : Addr} (h : ∀ p ∈ led, p.1 < D) (hs : ∀ q ∈ news, q ∈ led) : ∀ q ∈ news, q.1 ≠ D := fun q hq => Nat.ne_of_lt (h q (hs q hq))
theorem ne_allTl {led news tl : List (Addr × Obj)} (h : ∀ q ∈ led, ∀ p ∈ tl, q.1 < p.1) (hs : ∀ q ∈ news, q ∈ led) : ∀ p ∈ tl, ∀ q ∈ news, q.1 ≠ p.1 := fun p hp q hq => Nat.ne_of_lt (h q (hs q hq) p hp)
theorem cw_off {RW LN dd : Addr} {oR oL o : Obj} {tl tl2 news led : List (Addr × Obj)} (h1 : RW ≠ LN) (h2 : ∀ q ∈ news, q.1 ≠ RW) (h3 : ∀ q ∈ led, q.1 < dd) (hm : (LN, oL) ∈ led) (hs : ∀ q ∈ news, q ∈ led) (h4 : ∀ q ∈ led, ∀ p ∈ tl2, q.1 < p.1) (h5 : ∀ p ∈ tl, p.1 ≠ LN) (h6 : ∀ q ∈ news, ∀ p ∈ tl, q.1 < p.1) :
    ∀ p ∈ (RW, oR) :: (dd, o) :: (tl2 ++ tl), ∀ q ∈ (LN, oL) :: news, q.1 ≠ p.1 := by
  have inl : ∀ q ∈ (LN, oL) :: news, q ∈ led := fun q hq => by
    rcases List.mem_cons.mp hq with rfl | hq
    · exact hm
    · exact hs q hq
  intro p hp q hq
  rcases List.mem_cons.mp hp with rfl | hp
  · rcases List.mem_cons.mp hq with rfl | hq
    · exact Ne.symm h1
    · exact h2 q hq
  · rcases List.mem_cons.mp hp with rfl | hp
    · exact Nat.ne_of_lt (h3 q (inl q hq))
    · rcases List.mem_append.mp hp with hp | hp
      · exact Nat.ne_of_lt (h4 q (inl q hq) p hp)
      · rcases List.mem_cons.mp hq with rfl | hq
        · exact Ne.symm (h5 p hp)
        · exact Nat.ne_of_lt (h6 q hq p hp)
theorem tl_off {tl news : List (Addr × Obj)} {X : Nat} (h : AllLt X (tl ++ news)) : ∀ p ∈ tl, p.1 ≠ (X : Addr) := fun p hp => Nat.ne_of_lt (allLt_mem h p (List.mem_append.mpr (.inl hp)))
theorem posW_in1 {cs : List Int} {p : Int × Int} (h : posW cs cs.length = [p]) : 0 ≤ p.2 ∧ p.2 < (cs.length : Int) := posW_in cs p.2 (by rw [h]; exact .head _)
section
variable {prog : Program} {w : World} {A : Around} {E : Value → Shared → Prop} {s : Shared} {h₀ : Heap} {L : Addr} {m : Str → Option Value} {news : List (Addr × Obj)}
theorem shl_lim {k : Int} {t u : Tok} {Q : Value → Shared → Prop} (h8 : 8 ≤ k) (h15 : k ≤ 15) (h : ∀ v t tk, 256 ≤ v → Q (.int v t) { s with toks := tk }) : wpAny (model prog w) A (binaryOp .LShift (.int 1 t) (.int k u)) Q E s := by
  refine lshift_int_small (by omega) (by omega) (by decide) (h _ _ _ ?_)
  have e : k = 8 ∨ k = 9 ∨ k = 10 ∨ k = 11 ∨ k = 12 ∨ k = 13 ∨ k = 14 ∨ k = 15 := by omega
  rcases e with rfl | rfl | rfl | rfl | rfl | rfl | rfl | rfl <;> decide
theorem set_upd {D : Addr} {vs : List Value} {n : Nat} {ns : List Int} {k x : Int} {t u : Tok} {g : Obj → List (Addr × Obj)} {Q : Unit → Shared → Prop} (F : Fr h₀ L s.heap m) (N : News h₀ L s.heap news) (U : UpdF D (listOf vs.toArray n) news g) (hi : IntsAre vs ns) (h0 : 0 ≤ k) (h1 : k < ns.length) (hz : ns.length ≤ 1000000)
    (h : ∀ h' vs', Fr h₀ L h' m → News h₀ L h' (g (listOf (List.toArray vs') n)) → IntsAre vs' (ns.set k.toNat x) → Q () { s with heap := h' }) :
    wpAny (model prog w) A (setItem (.ref D) (.int k t) (.int x u)) Q E s := by
  obtain ⟨pre, post, rfl, hg, a, c⟩ := U.split
  exact ksa_set F N (upd_mid a c) hi h0 h1 (by omega) fun h' F' N' hi' _ _ => h h' _ F' (by rw [hg]; exact N') hi'
theorem pair_first {W : Addr} {vr : List Value} {n : Nat} {ws : List (Int × Int)} {tl : List (Addr × Obj)} {value slice : Expr} {u : Tok} {Q : Value → Shared → Prop} (N : News h₀ L s.heap news) (hm : (W, listOf vr.toArray n) ∈ news) (hD : DatAll tl vr (ws.map pairD)) (h1 : (ws.length : Int) = 1)
    (h : ∀ p T t1 t2 c, ws = [p] → (T, ({ cls := .type "tuple", data := .seq #[.int p.1 t1, .int p.2 t2] c } : Obj)) ∈ tl → Q (.ref T) s)
    (hs : subscripted slice false (.ref W) (.int 0 u) = operate [.ref W, .int 0 u] (getItem (.ref W) (.int 0 u)) := by with_unfolding_all rfl) (hg : ∀ r, letTemporaryGo value (.ref W) r = pure () := by intro _; with_unfolding_all rfl) :
    wpAny (model prog w) A (subscriptTail value slice (.ref W) (.int 0 u)) Q E s := by
  obtain ⟨p, rfl⟩ : ∃ p, ws = [p] := List.length_eq_one_iff.mp (by omega)
  have hl : s.heap.IsList W vr.toArray := PySem.IsL.isList (n := n) (N _ hm).1
  have hlen : vr.length = 1 := by rw [hD.length]; rfl
  obtain ⟨v, hv⟩ : ∃ v, vr[0]? = some v := ⟨_, List.getElem?_eq_getElem (by omega)⟩
  obtain ⟨r, T, t1, t2, c, hr, rfl, hT⟩ := pair_at hD hv
  have er : p = r := by simpa using hr
  subst er
  refine item_list hl (by decide) (by decide) (x := Value.ref T) (by simpa using hv) ?_ hs hg
  exact h _ T t1 t2 c rfl hT
theorem tup2_item1 {value slice : Expr} {a : Addr} {o : Obj} {x : Value} {y : Int} {t : Tok} {n : Nat} {u : Tok} {Q : Value → Shared → Prop} (N : News h₀ L s.heap news) (hm : (a, o) ∈ news) (ho : o = { cls := .type "tuple", data := .seq #[x, .int y t] n }) (h : Q (.int y t) s)
    (hs : subscripted slice false (.ref a) (.int 1 u) = operate [.ref a, .int 1 u] (getItem (.ref a) (.int 1 u)) := by with_unfolding_all rfl) (hg : ∀ r, letTemporaryGo value (.ref a) r = pure () := by intro _; with_unfolding_all rfl) :
    wpAny (model prog w) A (subscriptTail value slice (.ref a) (.int 1 u)) Q E s := by
  subst ho
  exact item_tuple (j := 1) (x := .int y t) ⟨_, N.get hm, rfl, n, rfl⟩ (by decide) (by decide) rfl rfl h hs hg
end
section
variable {prog : Program} {w : World} {A : Around} {E : Value → Shared → Prop} {s : Shared} {h₀ : Heap} {L : Addr} {m : Str → Option Value} {news : List (Addr × Obj)}
/-- [0] * n -/
theorem mul_zeros {l : Addr} {t u : Tok} {k n : Nat} {Q : Value → Shared → Prop} (F : Fr h₀ L s.heap m) (N : News h₀ L s.heap news) (hl : (l, listOf #[.int 0 t] k) ∈ news) (hz : n ≤ 100000)
    (h : ∀ D us h', Fr h₀ L h' m → News h₀ L h' ((D, listOf (List.toArray us) 0) :: news) → (∀ p ∈ news, p.1 < D) → IntsAre us (List.replicate n 0) → Q (.ref D) { s with heap := h' }) : wpAny (model prog w) A (binaryOp .Mult (.ref l) (.int (n : Int) u)) Q E s := by
  refine KM.mul (vs := [.int 0 t]) (ns := [0]) F N (PySem.IsL.isList (n := k) (N _ hl).1) (.cons _ _ .nil) (by omega) (by omega) (by simp; omega) fun D h' F' N' l1 i1 _ _ _ _ _ => ?_
  refine h D _ h' F' N' l1 ?_
  have e : ∀ n : Nat, (List.replicate n [(0 : Int)]).flatten = List.replicate n 0 := by
    intro n
    induction n with
    | zero => rfl
    | succ n ih => rw [List.replicate_succ, List.flatten_cons, ih]; rfl
  rw [Int.toNat_natCast, e] at i1
  exact i1
end
section
variable {prog : Program} {w : World} {A : Around} {E : Value → Shared → Prop} {Q : Flow → Shared → Prop} {s : Shared} {env : Env} {h₀ : Heap} {L : Addr}
theorem cw_start {test : Expr} {body : List Stmt} {pos : Pos} {m₀ : Str → Option Value} {led led0 rest tl1 tl2 : List (Addr × Obj)} {dd RW LN : Addr} {o : Obj} {vr us : List Value} {cr nU : Nat} {ws : List (Int × Int)} {D : Int → Nat} {cs : List Int}
    (F : Fr h₀ L s.heap m₀) (N : News h₀ L s.heap led) (k1 : m₀ (Str.ofString "weights") = some (.ref RW)) (k2 : m₀ (Str.ofString "depths") = some (.ref dd)) (_k3 : m₀ (Str.ofString "lengths") = some (.ref LN)) (h6 : ∀ q ∈ rest, ∀ p ∈ tl1, q.1 < p.1) (hD : DatAll tl1 vr (ws.map pairD)) (hd : IDict prog w o (dpT ws D)) (hO : DOk ws D) (hp : (ws.map (·.2)).Perm ((posW cs cs.length).map (·.2))) (hpos : ∀ p ∈ ws, 1 ≤ p.1)
    (hl1 : 1 ≤ (posW cs cs.length).length) (h64 : (posW cs cs.length).length < 64) (h3 : ∀ q ∈ led0, q.1 < dd) (h4 : ∀ q ∈ led0, ∀ p ∈ tl2, q.1 < p.1) (hm : (LN, listOf us.toArray nU) ∈ led0) (hs0 : ∀ q ∈ rest, q ∈ led0) (h1 : RW ≠ LN) (h2 : ∀ q ∈ rest, q.1 ≠ RW) (h5 : ∀ p ∈ tl1, p.1 ≠ LN) (h7 : ∀ q ∈ rest, q.1 < LN)
    (hs : ∀ p ∈ (RW, listOf vr.toArray cr) :: (dd, o) :: ((tl2 ++ tl1) ++ (LN, listOf us.toArray nU) :: rest), p ∈ led) (lo : (dd == sysModules) = false)
    (turn : ∀ (RW : Addr) (vr : List Value) (cr : Nat) (tl : List (Addr × Obj)) (ws : List (Int × Int)) (dd : Addr) (o : Obj) (D : Int → Nat) h tk, RW ≠ LN → dd ≠ LN → (∀ p ∈ tl, p.1 ≠ LN) → (∀ q ∈ rest, q.1 < LN) → (dd == sysModules) = false → DatAll tl vr (ws.map pairD) → IDict prog w o (dpT ws D) → DOk ws D → (ws.map (·.2)).Perm ((posW cs cs.length).map (·.2)) → (∀ p ∈ ws, 1 ≤ p.1) → 0 < (dpT ws D).length → ws.length = (posW cs cs.length).length →
      Fr h₀ L h (fun y => if y = Str.ofString "weights" then some (.ref RW) else if y = Str.ofString "depths" then some (.ref dd) else m₀ y) → News h₀ L h ((RW, listOf vr.toArray cr) :: (dd, o) :: (tl ++ (LN, listOf us.toArray nU) :: rest)) →
      wpAny (model prog w) A (isTrue test env (eval test env)) (fun b s₂ =>
        if b = true then wpAny (model prog w) A (execs body env) (KswPost h₀ L s (cwLed ((LN, listOf us.toArray nU) :: rest)) cwPs (cwFacts ((LN, listOf us.toArray nU) :: rest)) [] m₀ (cwP prog w ((posW cs cs.length).map (·.2))) (fun c => (c.ws.map (fun p : Int × Int => p.1)).sum.toNat) Q ⟨RW, vr, cr, tl, ws, dd, o, D⟩) E s₂ else Q .next s₂) E { s with heap := h, toks := tk })
    (hE : PassesOwn (model prog w) A env E := by passes_own) :
    wpAny (model prog w) A (exec (.While test body [] pos) env) Q E s := by
  refine cw_while (tl := tl2 ++ tl1) (news := (LN, listOf us.toArray nU) :: rest) F N k1 k2 (hD.mono fun p hp => List.mem_append.mpr (.inr hp)) hd hO hp hpos (posW_nodup cs) hs (cw_off h1 h2 h3 hm hs0 h4 h5 h6) lo ?_ hE
  intro RW vr cr tl ws dd o D h tk f1 f2 p1 p2 p3 p4 p5 p6 p7 F₁ N₁
  rw [List.length_map] at p6 p7
  exact turn RW vr cr tl ws dd o D h tk (Ne.symm (f1 _ (.head _) _ (.head _))) (Ne.symm (f1 _ (.tail _ (.head _)) _ (.head _))) (fun p hp => Ne.symm (f1 p (.tail _ (.tail _ hp)) _ (.head _))) h7 f2 p1 p2 p3 p4 p5 (by omega) p7 F₁ N₁
end
theorem lenOk_fin {cs zs : List Int} {lim : Int} {ws : List (Int × Int)} {D : Int → Nat} {M : Int} (hO : DOk ws D) (hp : (ws.map (·.2)).Perm ((posW cs cs.length).map (·.2))) (hP : FlP cs.length (ws.map (·.2)) D (ws.map (·.2)).length zs) (h2 : 2 ≤ ws.length) (hM : ∀ a ∈ (dpT ws D).map (·.2), a ≤ M) (hle : ¬ lim < M) : LenOk cs lim zs := by
  rw [posW_leaves] at hp
  rw [flP_end hP hp]
  exact lenOk_many hO hp h2 hM hle
theorem updF_app {D : Addr} {o : Obj} {l : List (Addr × Obj)} {g : Obj → List (Addr × Obj)} : ∀ {tl : List (Addr × Obj)}, (∀ p ∈ tl, p.1 ≠ D) → UpdF D o l g → UpdF D o (tl ++ l) (fun o' => tl ++ g o')
  | [], _, u => u
  | p :: tl, h, u => .tail (h p (.head _)) (updF_app (fun q hq => h q (.tail _ hq)) u)
open PySem.SeqAt
section
variable {prog : Program} {w : World} {A : Around} {E : Value → Shared → Prop} {s : Shared} {h₀ : Heap} {L : Addr} {news : List (Addr × Obj)}
theorem getItem_bool {l : Addr} {items : Array Value} {b : Bool} {x : Value} {Q : Value → Shared → Prop} (hl : s.heap.IsList l items) (hx : items[(if b then 1 else 0 : Nat)]? = some x) (h : Q x s) : wpAny (model prog w) A (getItem (.ref l) (.bool b)) Q E s := by
  obtain ⟨o, ho, hc, ne, hd⟩ := id hl
  unfold getItem
  try with_reducible refine wpAny_holding ?_
  first | refine wpAny_bind (wpAny_pure ?_) | skip
  refine wpAny_bind (wpAny_sequenceKey hl.typeIs (by decide) ?_)
  refine wpAny_bind (wpAny_callSpecial?_slot (name := Str.ofString "__getitem__") hl.typeIs slot_list_getitem
    (wpAny_call_entry slot_list_getitem hl.typeIs entry_list_getitem ?_ (args_list_getitem _ _)))
  show wpAny _ _ (Builtin.List.listSubscript? (.bool b) >>= _) _ _ s
  refine wpAny_bind ?_
  unfold Builtin.List.listSubscript?
  refine wpAny_bind (wpAny_specialOf (T := "bool") (PySem.typeIs_bool s b) PySem.F.slot_bool_index.lookup ?_)
  show wpAny _ _ (asIndex (.bool b) >>= _) _ _ s
  refine wpAny_bind (wpAny_of_eq (a := (if b then 1 else 0 : Int)) rfl ?_)
  cases b
  · show wpAny _ _ (if (!Builtin.List.listFitsIndex 0) = true then _ else _) _ _ s
    rw [if_neg (by decide)]
    refine wpAny_pure ?_
    have hx' : items[0]? = some x := hx
    show wpAny _ _ ((seqItemAt l 0 >>= fun r => pure (r.map (0, ·))) >>= _) _ _ s
    refine wpAny_bind (wpAny_bind (wpAny_seqItemAt ho hd (wpAny_pure ?_)))
    rw [hx']
    first
      | exact wpAny_bind (wpAny_pure (wpAny_pure ⟨x, rfl, wpAny_pure h⟩))
      | exact wpAny_pure ⟨x, rfl, wpAny_pure h⟩
  · show wpAny _ _ (if (!Builtin.List.listFitsIndex 1) = true then _ else _) _ _ s
    rw [if_neg (by decide)]
    refine wpAny_pure ?_
    have hx' : items[1]? = some x := hx
    show wpAny _ _ ((seqItemAt l 1 >>= fun r => pure (r.map (1, ·))) >>= _) _ _ s
    refine wpAny_bind (wpAny_bind (wpAny_seqItemAt ho hd (wpAny_pure ?_)))
    rw [hx']
    first
      | exact wpAny_bind (wpAny_pure (wpAny_pure ⟨x, rfl, wpAny_pure h⟩))
      | exact wpAny_pure ⟨x, rfl, wpAny_pure h⟩
/-- an item of two by a bool -/
theorem item_bool {value slice : Expr} {l : Addr} {x0 x1 : Value} {n : Nat} {b : Bool} {Q : Value → Shared → Prop} (N : News h₀ L s.heap news) (hm : (l, listOf #[x0, x1] n) ∈ news) (h0 : b = false → Q x0 s) (h1 : b = true → Q x1 s)
    (hs : subscripted slice false (.ref l) (.bool b) = operate [.ref l, .bool b] (getItem (.ref l) (.bool b)) := by with_unfolding_all rfl) (hg : ∀ r, letTemporaryGo value (.ref l) r = pure () := by intro _; with_unfolding_all rfl) :
    wpAny (model prog w) A (subscriptTail value slice (.ref l) (.bool b)) Q E s := by
  have hl : s.heap.IsList l #[x0, x1] := PySem.IsL.isList (n := n) (N _ hm).1
  refine subscriptTail_builtin hl.typeIs slot_list_getitem.lookup ?_ hs hg
  cases b
  · exact getItem_bool hl rfl (h0 rfl)
  · exact getItem_bool hl rfl (h1 rfl)
end
/-- an int or a bool as data -/
inductive AtomIs : Value → PyData → Prop
  | int (i : Int) (t : Tok) : AtomIs (.int i t) (.int i)
  | bool (b : Bool) : AtomIs (.bool b) (.bool b)
theorem AtomIs.reads {h : Heap} {v : Value} {d : PyData} (a : AtomIs v d) : Reads h v d [] := by
  cases a
  · exact .int _ _
  · exact .bool _
theorem eqv_int (i j : Int) : PyData.eqv (.int i) (.int j) = decide (i = j) := by
  rw [PyData.eqv]
  by_cases h : i = j <;> simp [h]
theorem eqv_bool (a b : Bool) : PyData.eqv (.bool a) (.bool b) = (a == b) := by rw [PyData.eqv]
theorem eqv_bool_f (a : Bool) : (PyData.eqv (.bool a) (.bool false) = true) = (a = false) := by rw [eqv_bool]; cases a <;> simp
theorem eqv_bool_t (a : Bool) : (PyData.eqv (.bool a) (.bool true) = true) = (a = true) := by rw [eqv_bool]; cases a <;> simp
theorem eqv_bool_f0 (a : Bool) : (PyData.eqv (.bool a) (.bool false) = false) = (a = true) := by rw [eqv_bool]; cases a <;> simp
theorem eqv_bool_t0 (a : Bool) : (PyData.eqv (.bool a) (.bool true) = false) = (a = false) := by rw [eqv_bool]; cases a <;> simp
theorem eqv_int1 (i j : Int) : (PyData.eqv (.int i) (.int j) = true) = (i = j) := by rw [eqv_int]; simp
theorem eqv_int0 (i j : Int) : (PyData.eqv (.int i) (.int j) = false) = (i ≠ j) := by rw [eqv_int]; simp
section
variable {prog : Program} {w : World} {A : Around} {E : Value → Shared → Prop} {s : Shared} {h₀ : Heap} {L : Addr} {news : List (Addr × Obj)}
theorem shaped2 {v0 v1 : Value} {d0 d1 : PyData} (r0 : AtomIs v0 d0) (r1 : AtomIs v1 d1) : shaped (.list [d0, d1]) = true := by
  cases r0 <;> cases r1 <;> rfl
theorem shaped1 {v0 : Value} {d0 : PyData} (r0 : AtomIs v0 d0) : shaped (.list [d0]) = true := by
  cases r0 <;> rfl
theorem eq_list2 {a b : Addr} {n k : Nat} {v0 v1 w0 w1 : Value} {d0 d1 e0 e1 : PyData} {Q : Value → Shared → Prop} (hu : A.units + 64 < cLine) (N : News h₀ L s.heap news) (ha : (a, listOf #[v0, v1] n) ∈ news) (hb : (b, listOf #[w0, w1] k) ∈ news) (r0 : AtomIs v0 d0) (r1 : AtomIs v1 d1) (q0 : AtomIs w0 e0) (q1 : AtomIs w1 e1)
    (h1 : PyData.eqv d0 e0 = true → PyData.eqv d1 e1 = true → Q (.bool true) s) (h0 : PyData.eqv d0 e0 = false ∨ PyData.eqv d1 e1 = false → Q (.bool false) s) : wpAny (model prog w) A (compareOp .Eq (.ref a) (.ref b)) Q E s := by
  refine eq_dataH (da := .list [d0, d1]) (db := .list [e0, e1]) (.list (N _ ha).1 rfl rfl (.cons r0.reads (.cons r1.reads .nil))) (.list (N _ hb).1 rfl rfl (.cons q0.reads (.cons q1.reads .nil))) (shaped2 r0 r1) (shaped2 q0 q1) hu ?_
  have e : PyData.eqv (.list [d0, d1]) (.list [e0, e1]) = (PyData.eqv d0 e0 && PyData.eqv d1 e1) := by
    rw [PyData.eqv, PyData.eqvAll, PyData.eqvAll, PyData.eqvAll, Bool.and_true]
  rw [e]
  cases x : PyData.eqv d0 e0
  · exact h0 (.inl x)
  · cases y : PyData.eqv d1 e1
    · exact h0 (.inr y)
    · exact h1 x y
theorem eq_list1 {a b : Addr} {n k : Nat} {v0 w0 : Value} {d0 e0 : PyData} {Q : Value → Shared → Prop} (hu : A.units + 64 < cLine) (N : News h₀ L s.heap news) (ha : (a, listOf #[v0] n) ∈ news) (hb : (b, listOf #[w0] k) ∈ news) (r0 : AtomIs v0 d0) (q0 : AtomIs w0 e0)
    (h1 : PyData.eqv d0 e0 = true → Q (.bool true) s) (h0 : PyData.eqv d0 e0 = false → Q (.bool false) s) : wpAny (model prog w) A (compareOp .Eq (.ref a) (.ref b)) Q E s := by
  refine eq_dataH (da := .list [d0]) (db := .list [e0]) (.list (N _ ha).1 rfl rfl (.cons r0.reads .nil)) (.list (N _ hb).1 rfl rfl (.cons q0.reads .nil)) (shaped1 r0) (shaped1 q0) hu ?_
  have e : PyData.eqv (.list [d0]) (.list [e0]) = PyData.eqv d0 e0 := by
    rw [PyData.eqv, PyData.eqvAll, PyData.eqvAll, Bool.and_true]
  rw [e]
  cases x : PyData.eqv d0 e0
  · exact h0 x
  · exact h1 x
end
section
variable {prog : Program} {w : World} {A : Around} {E : Value → Shared → Prop} {s : Shared} {h₀ : Heap} {L : Addr} {news : List (Addr × Obj)}
theorem item_true {value slice : Expr} {l : Addr} {x0 x1 : Value} {n : Nat} {Q : Value → Shared → Prop} (N : News h₀ L s.heap news) (hm : (l, listOf #[x0, x1] n) ∈ news) (h : Q x1 s)
    (hs : subscripted slice false (.ref l) (.bool true) = operate [.ref l, .bool true] (getItem (.ref l) (.bool true)) := by with_unfolding_all rfl) (hg : ∀ r, letTemporaryGo value (.ref l) r = pure () := by intro _; with_unfolding_all rfl) :
    wpAny (model prog w) A (subscriptTail value slice (.ref l) (.bool true)) Q E s := item_bool N hm (fun e => nomatch e) (fun _ => h) hs hg
theorem item_false {value slice : Expr} {l : Addr} {x0 x1 : Value} {n : Nat} {Q : Value → Shared → Prop} (N : News h₀ L s.heap news) (hm : (l, listOf #[x0, x1] n) ∈ news) (h : Q x0 s)
    (hs : subscripted slice false (.ref l) (.bool false) = operate [.ref l, .bool false] (getItem (.ref l) (.bool false)) := by with_unfolding_all rfl) (hg : ∀ r, letTemporaryGo value (.ref l) r = pure () := by intro _; with_unfolding_all rfl) :
    wpAny (model prog w) A (subscriptTail value slice (.ref l) (.bool false)) Q E s := item_bool N hm (fun _ => h) (fun e => nomatch e) hs hg
end
section
variable {prog : Program} {w : World} {A₀ : Around} {E : Value → Shared → Prop} {s' : Shared} {h₀ h : Heap} {outer : List Env} {L e t : Addr} {m : Str → Option Value} {env : Env}
  {vs : List Value} {b₀ : Stmt} {suite : List Stmt} {pos np : Pos} {rest : List ExceptHandler} {Q : Flow → Shared → Prop} {news : List (Addr × Obj)} {KF : Frag} {C : Addr} {bmB : List Value} {newId : String}
  {p : Program} {loose : List Str} {mg mb : Str → Option Value} {x : Str}
/-- an own exception caught by its own name, in whatever frame -/
theorem caught_own (hf : env.frame = some L) (K : Below A₀ h₀ outer h₀) (F : Fr h₀ L h m) (hsm : h.UpToSlots s'.heap) (R : RaisedK h₀ (env :: outer) e (.ref C) t vs news s'.heap)
    (X : KF.In h₀) (T : TopRead p loose mg mb h₀) (ey : nsIn KF mainGlobals x = some (some (.ref C))) (q : excIn KF C bmB newId = true)
    (hname : ∀ (s₁ : Shared) (A₁ : Around) (Q₁ : Value → Shared → Prop) (E₁ : Value → Shared → Prop), Fr h₀ L s₁.heap m → Q₁ (.ref C) s₁ → wpAny (model prog w) A₁ (eval (.Name x np) env) Q₁ E₁ s₁)
    (hbase : bmB.contains (.type "BaseException") = true)
    (k : ∀ h', Fr h₀ L h' m → News h₀ L h' news → wpAny (model prog w) ((A₀.deeper env).mark (some (.ref e))) (execs (b₀ :: suite) env) Q E { s' with heap := h' })
    (hE : PassesOwnAt (model prog w) ((A₀.deeper env).mark (some (.ref e))) (A₀.deeper env) env E := by passes_own) :
    wpAny (model prog w) (A₀.deeper env) (noteFrame (.ref e) env)
      (fun _ s₂ => wpAny (model prog w) (A₀.deeper env) (setFlight (.ref e) none) (fun _ s₃ =>
        wpAny (model prog w) (A₀.deeper env) (handleBy (.ref e) env (.ExceptHandler (some (.Name x np)) none (b₀ :: suite) pos :: rest)) Q E s₃) E s₂) E s' := by
  obtain ⟨⟨B, hB, hl, hfl, hnew⟩, htup⟩ := R
  have hL : B.get? L = none := by
    obtain ⟨_, ⟨L', _, hf', hn', _⟩, _⟩ := hfl.2.2.1
    rw [hf] at hf'
    obtain rfl : L = L' := Option.some.inj hf'
    exact hn'
  refine wpAny_looks_onW (Around.frames_deeper K.stack) hf hfl fun h₄ hheld₄ hsm₄ => ?_
  refine wpAny_landsW hheld₄ fun h₅ hheld hsm₅' => ?_
  have hheld' := flyingW_base hB hheld
  have F₅ := F.of_stays hheld'.1 (hsm.trans (hsm₄.trans hsm₅'))
  obtain ⟨ob, hob, hobc⟩ := hheld'.there
  refine wpAny_handleBy_cons (codeAny_handlers_test (hname _ _ _ _ F₅ ?_)) (by intro q; cases q)
  obtain ⟨bm, N, nm, qn, bs, hdct, sn, sub, ab, col, dd, k0, k1, k2, k3, k5, mN, hC, hN, hni, TL⟩ := ((own_of_in X T ey q).keeps F₅.keep).obj
  refine wpAny_excMatches_sub_self hC hob hobc (TL.hasType hbase) (codeAny_handlers_suite ?_)
  refine lands_againW hheld fun h₆ hfl₆ hsm₆ => ?_
  have F₆ := F.of_stays (flyingW_base hB hfl₆).1 ((hsm.trans (hsm₄.trans hsm₅')).trans hsm₆)
  exact wpAny_passesOwnAt hE (k h₆ F₆ fun q hq => ⟨hfl₆.1 _ _ (hl q hq).1, (fun z => by have := (hl q hq).1; rw [z, hL] at this; cases this), (hl q hq).2⟩)
end
open LSm
/-- an element of a comprehension that is a bool -/
def ElB (news : List (Addr × Obj)) (b : Bool) (y : Value) (news' : List (Addr × Obj)) : Prop := news' = news ∧ y = .bool b
section
variable {prog : Program} {w : World} {A : Around} {h₀ : Heap} {L : Addr} {m : Str → Option Value} {env : Env} {elt : Expr} {x : Str} {scope : Scope} {cl : List (Str × Addr)} {s : Shared} {S : List (Addr × Obj) → Prop} {Fin : List Value → List (Addr × Obj) → Prop} {news : List (Addr × Obj)}
theorem cmpBL {vs : List Value} {ns : List Int} (g : Int → Bool) (hi : IntsAre vs ns)
    (turn : ∀ k t I oI C oC D m₂ ys h tk (E' : Value → Shared → Prop), k ∈ ns → LCg.NsObj oC m₂ → m₂ x = some (.int k t) → Fr h₀ L h m → News h₀ L h ((I, oI) :: (C, oC) :: (D, LCg.lst ys) :: news) → LCg.Off3 I C D news → ((@Ne Nat I C) ∧ (@Ne Nat I D) ∧ (@Ne Nat C D)) →
      wpAny (model prog w) A (eval elt (compEnvC scope cl C env)) (LCg.CompEnd h₀ L m { s with heap := h, toks := tk } I oI C oC D (LCg.lst ys) S (fun y news' => ElB news (g k) y news')) E' { s with heap := h, toks := tk })
    (fin : ∀ ys, BoolsAre ys (ns.map g) → Fin ys news) : LCg.CompRest prog w A h₀ L m env elt x scope cl s S (fun i v => vs.toArray[i]? = some v) Fin vs.toArray.size 0 [] news := by
  have hl : vs.toArray.size = ns.length := by rw [List.size_toArray]; exact IntsAre.length hi
  have key : ∀ (j i : Nat) (ys : List Value), i + j = ns.length → BoolsAre ys ((ns.take i).map g) → LCg.CompRest prog w A h₀ L m env elt x scope cl s S (fun i v => vs.toArray[i]? = some v) Fin j i ys news := by
    intro j
    induction j with
    | zero =>
      intro i ys hi' hy
      rw [List.take_of_length_le (by omega)] at hy
      exact LCg.CompRest.zero (fin ys hy)
    | succ j ih =>
      intro i ys hi' hy
      refine LCg.CompRest.succ ?_
      rintro v I oI C oC D m₂ h tk E' hv hC hx F N off ne
      obtain ⟨k, t, rfl, hk⟩ := IntsAre.at hi i v (by simpa using hv)
      refine wpAny_mono (turn _ t I oI C oC D m₂ ys h tk E' (List.mem_of_getElem? hk) hC hx F N off ne) (fun y s₂ hq => ?_) fun _ _ e => e
      obtain ⟨h', tk', nw, e, F', N', off', hS, hn, hy'⟩ := hq
      rw [hn] at N' off' hS
      refine ⟨h', tk', news, e, F', N', off', hS, ?_⟩
      rw [hy']
      refine ih (i + 1) _ (by omega) ?_
      rw [List.take_add_one, hk]
      simpa using kbo_app hy (.cons (g k) .nil)
  rw [hl]
  exact key ns.length 0 [] (by omega) (by simp only [List.take_zero, List.map_nil]; exact .nil)
theorem pos_list {vs : List Value} {ns : List Int} (hi : IntsAre vs ns)
    (turn : ∀ k t I oI C oC D m₂ ys h tk (E' : Value → Shared → Prop), k ∈ ns → LCg.NsObj oC m₂ → m₂ x = some (.int k t) → Fr h₀ L h m → News h₀ L h ((I, oI) :: (C, oC) :: (D, LCg.lst ys) :: news) → LCg.Off3 I C D news → ((@Ne Nat I C) ∧ (@Ne Nat I D) ∧ (@Ne Nat C D)) →
      wpAny (model prog w) A (eval elt (compEnvC scope cl C env)) (LCg.CompEnd h₀ L m { s with heap := h, toks := tk } I oI C oC D (LCg.lst ys) S (fun y news' => ElB news (decide (0 < k)) y news')) E' { s with heap := h, toks := tk })
    (fin : ∀ ys, BoolsAre ys (ns.map fun k => decide (0 < k)) → Fin ys news) : LCg.CompRest prog w A h₀ L m env elt x scope cl s S (fun i v => vs.toArray[i]? = some v) Fin vs.toArray.size 0 [] news := cmpBL _ hi turn fin
theorem endB {I C D : Addr} {oI oC oD : Obj} {y : Value} {h' : Heap} {tk : Nat} {all : List (Addr × Obj)} {b : Bool}
    (F : Fr h₀ L h' m) (N : News h₀ L h' all) (sub : ∀ p ∈ (I, oI) :: (C, oC) :: (D, oD) :: news, p ∈ all) (off : LCg.Off3 I C D news) (hS : S news) (hy : y = .bool b) :
    LCg.CompEnd h₀ L m s I oI C oC D oD S (fun y news' => ElB news b y news') y { s with heap := h', toks := tk } := LCg.CompEnd.intro F N news sub off hS ⟨rfl, hy⟩
end
theorem posIx_le (cs : List Int) : (posIx cs).length ≤ cs.length := by
  unfold posIx
  exact Nat.le_trans (List.length_filter_le _ _) (by simp)
theorem split_lim {prog : Program} {w : World} {A : Around} {E : Value → Shared → Prop} {s : Shared} {f : Addr} {x : Value} {lim : Int} {t : Tok} {Q : Value → Shared → Prop} (h1 : 8 ≤ lim → lim ≤ 15 → wpAny (model prog w) A (call (.ref f) [x, .int lim t]) Q E s) (h2 : lim < 8 → wpAny (model prog w) A (call (.ref f) [x, .int lim t]) Q E s) (h3 : 15 < lim → wpAny (model prog w) A (call (.ref f) [x, .int lim t]) Q E s) : wpAny (model prog w) A (call (.ref f) [x, .int lim t]) Q E s := by
  by_cases h : lim < 8
  · exact h2 h
  · by_cases h' : 15 < lim
    · exact h3 h'
    · exact h1 (by omega) (by omega)
/-- the counts are laid -/
structure LcS where
  vs : List Value
  n : Nat
  cs : List Int
def lcLed (g : Obj → List (Addr × Obj)) (c : LcS) : List (Addr × Obj) := g (listOf c.vs.toArray c.n)
def lcP (i : Nat) (c : LcS) : Prop := IntsAre c.vs c.cs ∧ c.cs.length = i
section
variable {prog : Program} {w : World} {A : Around} {E : Value → Shared → Prop} {s : Shared} {env : Env} {h₀ : Heap} {L : Addr} {body : List Stmt} {Q : Flow → Shared → Prop}
theorem lc_for {CL r : Addr} {many : Int} {nU : Nat} {m₀ : Str → Option Value} {news : List (Addr × Obj)} {t₀ u₀ v₀ : Tok} {g : Obj → List (Addr × Obj)}
    (hh : A.handled = none) (hr : IsRange s.heap r 0 many 1 t₀ u₀ v₀) (h0 : 0 ≤ many) (h1 : many ≤ 1000) (F : Fr h₀ env.locals s.heap m₀) (N : News h₀ env.locals s.heap news) (_hc : m₀ (Str.ofString "counts") = some (.ref CL)) (U : UpdF CL (listOf #[] nU) news g)
    (turn : ∀ (vs : List Value) (n : Nat) (cs : List Int) (i : Nat) (t : Tok) (u : Str → Option Value) h tk own, IntsAre vs cs → cs.length = i → (i : Int) < many → vs.length ≤ 1000 → (∀ p ∈ own, p.1 ≠ CL) → (∀ p ∈ own, ∀ o', ∀ q ∈ g o', p.1 ≠ q.1) →
      Fr h₀ env.locals h (fun y => if y = Str.ofString "k" then some (.int (0 + (i : Int)) t) else if ([Str.ofString "count"] : List Str).contains y then u y else m₀ y) → News h₀ env.locals h (g (listOf vs.toArray n) ++ own) →
      wpAny (model prog w) A (execs body env) (InvPostG h₀ env.locals (RgJ (lcLed g) (fun _ => []) (Str.ofString "k") [Str.ofString "count"] m₀ lcP (i + 1)) own { s with heap := h, toks := tk } Q) E { s with heap := h, toks := tk })
    (done : ∀ (vs : List Value) (n : Nat) (cs : List Int) (u : Str → Option Value) h tk, IntsAre vs cs → (cs.length : Int) = many → Fr h₀ env.locals h (fun y => if y = Str.ofString "k" then u y else if ([Str.ofString "count"] : List Str).contains y then u y else m₀ y) → News h₀ env.locals h (g (listOf vs.toArray n)) → Q .next { s with heap := h, toks := tk }) :
    wpAny (model prog w) A (pyIter (.ref r)) (fun it s₂ => LoopAtV prog w A h₀ env (Str.ofString "k") body Q E it s₂) E s := by
  obtain ⟨pre, post, e, hg, a, c⟩ := U.split
  have e0 : news = g (listOf #[] nU) := by rw [hg]; exact e
  have hCL : ∀ o', (CL, o') ∈ g o' := fun o' => by rw [hg]; exact List.mem_append.mpr (.inr (.head _))
  obtain ⟨k, rfl⟩ : ∃ k : Nat, many = (k : Int) := ⟨many.toNat, by omega⟩
  have hsz : Builtin.Range.rangeSize 0 (k : Int) 1 = (k : Int) := rangeSize_nat _ _
  have hsm : Builtin.Range.small 0 (k : Int) 1 = true := small_one (by omega) (by omega) (by omega) (by omega)
  refine rg_for (lcLed g) (fun _ => []) [Str.ofString "count"] lcP ⟨[], nU, []⟩ hh hr hsm hsz F N (fun p hp => by rw [e0]; exact hp) (fun _ h => (nomatch h)) ⟨.nil, rfl⟩ ?_ ?_
  · rintro ⟨vs, n, cs⟩ i t u h tk own hi ⟨p1, p2⟩ hof F₁ N₁
    refine turn vs n cs i t u h tk own p1 p2 (by omega) (by have q : vs.length = cs.length := IntsAre.length p1; have q2 : cs.length = i := p2; omega) (fun p hp => hof p hp _ (hCL _)) (fun p hp o' q hq => ?_) F₁ N₁
    rw [hg] at hq
    have hof' : ∀ q ∈ pre ++ (CL, listOf vs.toArray n) :: post, p.1 ≠ q.1 := fun q hq => hof p hp q (by show q ∈ g _; rw [hg]; exact hq)
    rcases List.mem_append.mp hq with hq | hq
    · exact hof' q (List.mem_append.mpr (.inl hq))
    · rcases List.mem_cons.mp hq with rfl | hq
      · exact hof' (CL, listOf vs.toArray n) (List.mem_append.mpr (.inr (.head _)))
      · exact hof' q (List.mem_append.mpr (.inr (.tail _ hq)))
  · rintro ⟨vs, n, cs⟩ u h tk ⟨p1, p2⟩ F₁ N₁
    have p2' : cs.length = k := p2
    exact done vs n cs u h tk p1 (by omega) F₁ N₁
theorem lc_end {m₀ m' : Str → Option Value} {own news' : List (Addr × Obj)} {g : Obj → List (Addr × Obj)} {vs : List Value} {n' i : Nat} {cs : List Int} {x : Int} {t : Tok} {s₁ : Shared} {h' : Heap} {tk : Nat}
    (F : Fr h₀ L h' m') (N : News h₀ L h' news') (hr : ∀ z, z ≠ Str.ofString "k" → (∀ p ∈ ([] : List (Str × Value)), z ≠ p.1) → ([Str.ofString "count"] : List Str).contains z = false → m' z = m₀ z) (n1 : ∀ p ∈ g (listOf (vs.toArray.push (.int x t)) n'), p ∈ news') (ho : ∀ p ∈ own, p ∈ news') (o2 : ∀ p ∈ own, ∀ o', ∀ q ∈ g o', p.1 ≠ q.1)
    (hv : IntsAre vs cs) (hi : cs.length = i) : InvEndG h₀ L (RgJ (lcLed g) (fun _ => []) (Str.ofString "k") [Str.ofString "count"] m₀ lcP (i + 1)) own s₁ { s₁ with heap := h', toks := tk } := by
  have ep : vs.toArray.push (.int x t) = (vs ++ [Value.int x t]).toArray := by simp
  rw [ep] at n1
  refine rg_end (c' := (⟨vs ++ [Value.int x t], n', cs ++ [x]⟩ : LcS)) F N n1 ho (fun p hp q hq => o2 p hp _ q hq) (fun _ h => (nomatch h)) hr ⟨?_, by show (cs ++ [x]).length = i + 1; rw [List.length_append, hi]; rfl⟩
  show IntsAre (vs ++ [Value.int x t]) (cs ++ [x])
  exact IntsAre.append hv (.cons _ _ .nil)
end
theorem okLen {cs : List Int} {lim : Int} {ls : List Int} {N : Int} (h : LenOk cs lim ls) (e : (cs.length : Int) = N) : (ls.length : Int) = N := by
  obtain ⟨D, rfl, _⟩ := h
  unfold lensOf
  simp only [List.length_map, List.length_range]
  exact e
theorem okSize {n : Nat} {x : Int} (h : (n : Int) = x.fmod 21) : n ≤ 20 := by
  have : x.fmod 21 < 21 := Int.fmod_lt_of_pos _ (by decide)
  omega
open LSm in
theorem readsAll_bools {h : Heap} : ∀ {vs : List Value} {bs : List Bool}, BoolsAre vs bs → ReadsAll h vs (bs.map PyData.bool) []
  | _, _, .nil => .nil
  | _, _, .cons b r => by
    have := ReadsAll.cons (Reads.bool (h := h) b) (readsAll_bools (h := h) r)
    simpa using this
theorem canLay_bools : ∀ bs : List Bool, PyData.canLayAll0 (bs.map PyData.bool) = true
  | [] => by simp [PyData.canLayAll0]
  | n :: r => by simp [PyData.canLayAll0, PyData.canLay0, canLay_bools r]
theorem depth_bools : ∀ bs : List Bool, PyData.depthAll (bs.map PyData.bool) ≤ 1
  | [] => by simp [PyData.depthAll]
  | n :: r => by
    have := depth_bools r
    simp only [List.map_cons, PyData.depthAll, PyData.depth]
    omega
theorem shaped_bools (bs : List Bool) : shaped (.list (bs.map PyData.bool)) = true := by
  have h1 := depth_bools bs
  have h2 : PyData.depth (.list (bs.map PyData.bool)) ≤ 64 := by simp only [PyData.depth]; omega
  show (PyData.canLay0 (.list (bs.map PyData.bool)) && decide (PyData.depth (.list (bs.map PyData.bool)) ≤ 64)) = true
  rw [Bool.and_eq_true]
  exact ⟨by simp only [PyData.canLay0]; exact canLay_bools bs, decide_eq_true h2⟩
theorem eqv_bools : ∀ a b : List Bool, PyData.eqvAll (a.map PyData.bool) (b.map PyData.bool) = decide (a = b)
  | [], [] => by simp [PyData.eqvAll]
  | [], _ :: _ => by simp [PyData.eqvAll]
  | _ :: _, [] => by simp [PyData.eqvAll]
  | a :: r, b :: t => by
    simp only [List.map_cons, PyData.eqvAll, eqv_bool, eqv_bools r t]
    by_cases h : a = b <;> by_cases h' : r = t <;> simp [h, h']
/-- two and more, one, none -/
def roomV (n : Nat) (lim : Int) : Int := if n = 0 then 0 else if n = 1 then 2 ^ (lim - 1).toNat else 2 ^ lim.toNat
def roomF (lim : Int) (l : List Int) (k : Int) : List Int := if 0 < k then l ++ [2 ^ (lim - k).toNat] else l
theorem roomF_fold (lim : Int) : ∀ (ls acc : List Int), ls.foldl (roomF lim) acc = acc ++ (ls.filter fun l => decide (0 < l)).map fun l => (2 : Int) ^ (lim - l).toNat
  | [], acc => by simp
  | k :: ls, acc => by
    rw [List.foldl_cons, roomF_fold lim ls]
    by_cases h : 0 < k
    · rw [List.filter_cons, if_pos (by simpa using h)]
      simp [roomF, h]
    · rw [List.filter_cons, if_neg (by simpa using h)]
      simp [roomF, h]
theorem lenOk_room {cs ls : List Int} {lim : Int} (h : LenOk cs lim ls) (h0 : 0 ≤ lim) : (ls.foldl (roomF lim) []).sum = roomV (posIx cs).length lim := by
  obtain ⟨D, rfl, h1, h2, h3⟩ := h
  have hp := lens_room (cs := cs) (D := D) (fun i hi => (h1 i hi).1) lim.toNat
  rw [roomF_fold, List.nil_append]
  have e : ((lensOf cs D).filter fun l => decide (0 < l)).map (fun l => (2 : Int) ^ (lim - l).toNat) = ((lensOf cs D).filter fun l => decide (0 < l)).map fun l => (2 : Int) ^ (lim.toNat - l.toNat) := by
    refine List.map_congr_left fun l hl => ?_
    have hl' : 0 < l := by simpa using (List.mem_filter.mp hl).2
    have : (lim - l).toNat = lim.toNat - l.toNat := by omega
    rw [this]
  rw [e, hp]
  unfold roomV
  by_cases c0 : (posIx cs).length = 0
  · rw [if_pos c0, List.length_eq_zero_iff.mp c0]; rfl
  · rw [if_neg c0]
    by_cases c1 : (posIx cs).length = 1
    · rw [if_pos c1]
      obtain ⟨j, hj⟩ := List.length_eq_one_iff.mp c1
      have hD := h3 c1 j (by rw [hj]; exact .head _)
      rw [hj]
      show ((krSum lim.toNat [D (j : Int)] : Nat) : Int) = _
      rw [hD]
      have e2 : (lim - 1).toNat = lim.toNat - 1 := by omega
      rw [e2]
      simp [krSum]
    · rw [if_neg c1]
      rw [h2 (by omega) lim.toNat (by omega)]
      simp
theorem lenOk_bools {cs ls : List Int} {lim : Int} (h : LenOk cs lim ls) : (ls.map fun k => decide (0 < k)) = cs.map fun k => decide (0 < k) := by
  obtain ⟨D, rfl, h1, _⟩ := h
  exact lens_bools fun i hi => (h1 i hi).1
theorem lenOk_le {cs ls : List Int} {lim : Int} (h : LenOk cs lim ls) (h0 : 0 ≤ lim) : ∀ a ∈ ls, 0 ≤ a ∧ a ≤ lim := by
  obtain ⟨D, rfl, h1, _⟩ := h
  intro a ha
  obtain ⟨i, hi, rfl⟩ := List.mem_map.mp ha
  have hi' : i < cs.length := List.mem_range.mp hi
  by_cases c : 0 < cs.getD i 0
  · have := (h1 i (List.mem_filter.mpr ⟨hi, by simpa using c⟩)).2
    rw [if_pos c]
    omega
  · rw [if_neg c]
    omega
theorem posIx_filter (cs : List Int) : (cs.filter fun c => decide (0 < c)).length = (posIx cs).length := by
  have e : ∀ (l : List Int) (k : Nat) (f : Nat → Int), (∀ i, i < l.length → f (k + i) = l.getD i 0) → ((List.range' k l.length).filter fun i => decide (0 < f i)).length = (l.filter fun c => decide (0 < c)).length := by
    intro l
    induction l with
    | nil => intro k f _; rfl
    | cons a l ih =>
      intro k f hf
      have h0 := hf 0 (by simp)
      have h1 := ih (k + 1) f (fun i hi => by
        have := hf (i + 1) (by simpa using hi)
        rw [show k + 1 + i = k + (i + 1) by omega, this]
        simp)
      have e0 : f k = a := by simpa using h0
      rw [List.length_cons, List.range'_succ, List.filter_cons, List.filter_cons, e0]
      by_cases h : 0 < a
      · rw [if_pos (by simpa using h), if_pos (by simpa using h), List.length_cons, List.length_cons, h1]
      · rw [if_neg (by simpa using h), if_neg (by simpa using h), h1]
  have := e cs 0 (fun i => cs.getD i 0) (fun i _ => by simp)
  rw [← this, ← List.range_eq_range']
  rfl
def posF (l : List Int) (k : Int) : List Int := if 0 < k then l ++ [k] else l
theorem posF_fold : ∀ (ls acc : List Int), ls.foldl posF acc = acc ++ ls.filter fun l => decide (0 < l)
  | [], acc => by simp
  | k :: ls, acc => by
    rw [List.foldl_cons, posF_fold ls]
    by_cases h : 0 < k
    · rw [List.filter_cons, if_pos (by simpa using h)]
      simp [posF, h]
    · rw [List.filter_cons, if_neg (by simpa using h)]
      simp [posF, h]
theorem posF_len (cs : List Int) : (cs.foldl posF []).length = (posIx cs).length := by
  rw [posF_fold, List.nil_append, posIx_filter]
theorem roomV_0 {n : Nat} {lim : Int} (h : n = 0) : roomV n lim = 0 := by unfold roomV; rw [if_pos h]
theorem roomV_1 {n : Nat} {lim : Int} (h : n = 1) : roomV n lim = 2 ^ (lim - 1).toNat := by unfold roomV; rw [if_neg (by omega), if_pos h]
theorem roomV_2 {n : Nat} {lim : Int} (h : 2 ≤ n) : roomV n lim = 2 ^ lim.toNat := by unfold roomV; rw [if_neg (by omega), if_neg (by omega)]
open LSm
section
variable {prog : Program} {w : World} {A : Around} {E : Value → Shared → Prop} {s : Shared} {h₀ : Heap} {L : Addr} {m : Str → Option Value} {news : List (Addr × Obj)}
theorem ne_bools {a b : Addr} {ys zs : List Value} {bs cs : List Bool} {n k : Nat} {Q : Value → Shared → Prop} (hu : A.units + 64 < cLine) (N : News h₀ L s.heap news) (ha : (a, listOf ys.toArray n) ∈ news) (hb : (b, listOf zs.toArray k) ∈ news) (p : BoolsAre ys bs) (q : BoolsAre zs cs) (e : bs = cs)
    (h : Q (.bool false) s) : wpAny (model prog w) A (compareOp .NotEq (.ref a) (.ref b)) Q E s := by
  subst e
  refine ne_dataH (reads_list_at (N.get ha) rfl rfl (readsAll_bools p)) (reads_list_at (N.get hb) rfl rfl (readsAll_bools q)) (shaped_bools bs) (shaped_bools bs) hu ?_
  have e : PyData.eqv (.list (bs.map PyData.bool)) (.list (bs.map PyData.bool)) = true := by
    rw [PyData.eqv, eqv_bools]; simp
  rw [e]
  exact h
/-- the greatest of nought and the lengths -/
theorem max_ok {D : Addr} {vs : List Value} {n : Nat} {cs ls : List Int} {lim : Int} {Q : Value → Shared → Prop} (hh : A.handled = none) (F : Fr h₀ L s.heap m) (N : News h₀ L s.heap news) (hm : (D, listOf vs.toArray n) ∈ news) (hi : IntsAre vs (0 :: ls)) (hL : LenOk cs lim ls) (h0 : 0 ≤ lim)
    (h : ∀ h' M t tk, Fr h₀ L h' m → News h₀ L h' news → M ≤ lim → Q (.int M t) { s with heap := h', toks := tk }) : wpAny (model prog w) A (call (.builtin "max") [.ref D]) Q E s := by
  refine kso_max F N (PySem.IsL.isList (n := n) (N _ hm).1) hi (by simp) hh fun h' M t tk F' N' hM _ => h h' M t tk F' N' ?_
  rcases List.mem_cons.mp hM with rfl | hM
  · exact h0
  · exact (lenOk_le hL h0 M hM).2
theorem sum_room {D : Addr} {vs : List Value} {n : Nat} {cs ls : List Int} {lim : Int} {Q : Value → Shared → Prop} (hh : A.handled = none) (F : Fr h₀ L s.heap m) (N : News h₀ L s.heap news) (hm : (D, listOf vs.toArray n) ∈ news) (hi : IntsAre vs (ls.foldl (roomF lim) [])) (hL : LenOk cs lim ls) (h0 : 0 ≤ lim)
    (h : ∀ h' t tk, Fr h₀ L h' m → News h₀ L h' news → Q (.int (roomV (posIx cs).length lim) t) { s with heap := h', toks := tk }) : wpAny (model prog w) A (call (.builtin "sum") [.ref D]) Q E s := by
  refine LSm.sum_ints F N hh (PySem.IsL.isList (n := n) (N _ hm).1) hi fun h' tk t' F' N' => ?_
  rw [lenOk_room hL h0]
  exact h h' t' tk F' N'
theorem add_zero {l b : Addr} {t : Tok} {us : List Value} {n k : Nat} {ms : List Int} {Q : Value → Shared → Prop} (F : Fr h₀ L s.heap m) (N : News h₀ L s.heap news) (hl : (l, listOf #[.int 0 t] n) ∈ news) (hb : (b, listOf us.toArray k) ∈ news) (hj : IntsAre us ms) (hz : ms.length ≤ 1000000)
    (h : ∀ D h' vs, Fr h₀ L h' m → News h₀ L h' ((D, listOf (List.toArray vs) 0) :: news) → (∀ q ∈ news, q.1 < D) → IntsAre vs (0 :: ms) → Q (.ref D) { s with heap := h' }) : wpAny (model prog w) A (binaryOp .Add (.ref l) (.ref b)) Q E s :=
  add_two (vs := [.int 0 t]) F N hl hb (.cons 0 t .nil) hj (by simp only [List.length_cons, List.length_nil]; omega) fun D h' F' N' l1 i => h D h' _ F' N' l1 i
theorem len_pos {D : Addr} {vs : List Value} {n : Nat} {cs : List Int} {Q : Value → Shared → Prop} (N : News h₀ L s.heap news) (hm : (D, listOf vs.toArray n) ∈ news) (hi : IntsAre vs (cs.foldl posF [])) (hz : cs.length ≤ 1000000) (h : ∀ t k, Q (.int ((posIx cs).length : Nat) t) { s with toks := k }) : wpAny (model prog w) A (call (.builtin "len") [.ref D]) Q E s := by
  have e := posF_len cs
  have hz' : (cs.foldl posF []).length ≤ 1000000 := by rw [e]; exact Nat.le_trans (posIx_le cs) hz
  refine len_at N hm hi hz' fun t k => ?_
  rw [e]
  exact h t k
theorem eq_room {n : Nat} {lim x : Int} {t u : Tok} {Q : Value → Shared → Prop} (e : roomV n lim = x) (h : Q (.bool true) s) : wpAny (model prog w) A (compareOp .Eq (.int (roomV n lim) t) (.int x u)) Q E s := by
  rw [e]
  refine PyProof.Rows.eq_int ?_
  simpa using h
theorem min_there {n : Nat} {t u : Tok} {Q : Value → Shared → Prop} (hh : A.handled = none) (F : Fr h₀ L s.heap m) (N : News h₀ L s.heap news)
    (h0 : n = 0 → ∀ h' t tk, Fr h₀ L h' m → News h₀ L h' news → Q (.int 0 t) { s with heap := h', toks := tk })
    (h1 : n = 1 → ∀ h' t tk, Fr h₀ L h' m → News h₀ L h' news → Q (.int 1 t) { s with heap := h', toks := tk })
    (h2 : 2 ≤ n → ∀ h' t tk, Fr h₀ L h' m → News h₀ L h' news → Q (.int 2 t) { s with heap := h', toks := tk }) : wpAny (model prog w) A (call (.builtin "min") [.int (n : Int) t, .int 2 u]) Q E s := by
  refine min_two_N hh F N fun h' tk F' N' => ?_
  by_cases c : (2 : Int) < n
  · simp only [if_pos c]
    exact h2 (by omega) h' u tk F' N'
  · simp only [if_neg c]
    by_cases c2 : n = 2
    · subst c2; exact h2 (by omega) h' t tk F' N'
    · by_cases c1 : n = 1
      · subst c1; exact h1 rfl h' t tk F' N'
      · obtain rfl : n = 0 := by omega
        exact h0 rfl h' t tk F' N'
end
section
open LCg LCt
variable {prog : Program} {w : World} {A : Around} {h₀ : Heap} {L : Addr} {m : Str → Option Value} {env : Env} {ct elt : Expr} {x : Str} {scope : Scope} {cl : List (Str × Addr)} {s : Shared} {S : List (Addr × Obj) → Prop} {Fin : List Value → List (Addr × Obj) → Prop} {news : List (Addr × Obj)}
theorem room_list {vs : List Value} {ns cs : List Int} {lim : Int} (hi : IntsAre vs ns) (hL : LenOk cs lim ns) (h0 : 0 ≤ lim)
    (turn : ∀ k t I oI C oC D m₂ ys l h tk (E' : Value → Shared → Prop), 0 ≤ k → k ≤ lim → IntsAre ys l → LCg.NsObj oC m₂ → m₂ x = some (.int k t) → Fr h₀ L h m → News h₀ L h ((I, oI) :: (C, oC) :: (D, LCg.lst ys) :: news) → LCg.Off3 I C D news → ((@Ne Nat I C) ∧ (@Ne Nat I D) ∧ (@Ne Nat C D)) →
      wpAny (model prog w) A (isTrue ct (compEnvC scope cl C env) (eval ct (compEnvC scope cl C env))) (fun b s' => if b = true then wpAny (model prog w) A (eval elt (compEnvC scope cl C env)) (LCg.CompEnd h₀ L m { s with heap := h, toks := tk } I oI C oC D (LCg.lst ys) S (fun y news' => KCiEl news l (roomF lim l k) y news')) E' s'
        else LCg.CompEnd h₀ L m { s with heap := h, toks := tk } I oI C oC D (LCg.lst ys) S (fun _ news' => KCiNo news l (roomF lim l k) news') Value.none s') E' { s with heap := h, toks := tk })
    (fin : ∀ ys, IntsAre ys (ns.foldl (roomF lim) []) → ys.length ≤ vs.toArray.size → Fin ys news) : LCt.CompRestT prog w A h₀ L m env ct elt x scope cl s S (fun i v => vs.toArray[i]? = some v) Fin vs.toArray.size 0 [] news :=
  kci_list (roomF lim) hi (fun k t I oI C oC D m₂ ys l h tk E' a b c d e f g i _ => turn k t I oI C oC D m₂ ys l h tk E' (lenOk_le hL h0 k a).1 (lenOk_le hL h0 k a).2 b c d e f g i) fin (fun l k => by unfold roomF; split <;> simp)
theorem cnt_list {vs : List Value} {ns : List Int} (hi : IntsAre vs ns)
    (turn : ∀ k t I oI C oC D m₂ ys l h tk (E' : Value → Shared → Prop), k ∈ ns → IntsAre ys l → LCg.NsObj oC m₂ → m₂ x = some (.int k t) → Fr h₀ L h m → News h₀ L h ((I, oI) :: (C, oC) :: (D, LCg.lst ys) :: news) → LCg.Off3 I C D news → ((@Ne Nat I C) ∧ (@Ne Nat I D) ∧ (@Ne Nat C D)) →
      wpAny (model prog w) A (isTrue ct (compEnvC scope cl C env) (eval ct (compEnvC scope cl C env))) (fun b s' => if b = true then wpAny (model prog w) A (eval elt (compEnvC scope cl C env)) (LCg.CompEnd h₀ L m { s with heap := h, toks := tk } I oI C oC D (LCg.lst ys) S (fun y news' => KCiEl news l (posF l k) y news')) E' s'
        else LCg.CompEnd h₀ L m { s with heap := h, toks := tk } I oI C oC D (LCg.lst ys) S (fun _ news' => KCiNo news l (posF l k) news') Value.none s') E' { s with heap := h, toks := tk })
    (fin : ∀ ys, IntsAre ys (ns.foldl posF []) → ys.length ≤ vs.toArray.size → Fin ys news) : LCt.CompRestT prog w A h₀ L m env ct elt x scope cl s S (fun i v => vs.toArray[i]? = some v) Fin vs.toArray.size 0 [] news :=
  kci_list posF hi (fun k t I oI C oC D m₂ ys l h tk E' a b c d e f g i _ => turn k t I oI C oC D m₂ ys l h tk E' a b c d e f g i) fin (fun l k => by unfold posF; split <;> simp)
theorem room_el {l : List Int} {lim k : Int} {t : Tok} {y : Value} {news' : List (Addr × Obj)} (h : 0 < k) (hn : news' = news) (hy : y = .int (2 ^ (lim - k).toNat) t) : KCiEl news l (roomF lim l k) y news' := kci_el (by unfold roomF; rw [if_pos h]) hn hy
theorem room_no {l : List Int} {lim k : Int} {news' : List (Addr × Obj)} (h : ¬ 0 < k) (hn : news' = news) : KCiNo news l (roomF lim l k) news' := kci_no (by unfold roomF; rw [if_neg h]) hn
theorem cnt_el {l : List Int} {k : Int} {t : Tok} {y : Value} {news' : List (Addr × Obj)} (h : 0 < k) (hn : news' = news) (hy : y = .int k t) : KCiEl news l (posF l k) y news' := kci_el (by unfold posF; rw [if_pos h]) hn hy
theorem cnt_no {l : List Int} {k : Int} {news' : List (Addr × Obj)} (h : ¬ 0 < k) (hn : news' = news) : KCiNo news l (posF l k) news' := kci_no (by unfold posF; rw [if_neg h]) hn
variable {I C D : Addr} {oI oC oD : Obj} {y : Value} {h' : Heap} {tk : Nat} {all : List (Addr × Obj)}
theorem end_room {l : List Int} {lim k : Int} {t : Tok} (F : Fr h₀ L h' m) (N : News h₀ L h' all) (off : LCg.Off3 I C D news) (sub : ∀ p ∈ (I, oI) :: (C, oC) :: (D, oD) :: news, p ∈ all) (hS : S news) (h : 0 < k) (hy : y = .int (2 ^ (lim - k).toNat) t) :
    LCg.CompEnd h₀ L m s I oI C oC D oD S (fun y news' => KCiEl news l (roomF lim l k) y news') y { s with heap := h', toks := tk } := LCg.CompEnd.intro F N news sub off hS (room_el h rfl hy)
theorem end_roomN {l : List Int} {lim k : Int} (F : Fr h₀ L h' m) (N : News h₀ L h' all) (off : LCg.Off3 I C D news) (sub : ∀ p ∈ (I, oI) :: (C, oC) :: (D, oD) :: news, p ∈ all) (hS : S news) (h : ¬ 0 < k) :
    LCg.CompEnd h₀ L m s I oI C oC D oD S (fun _ news' => KCiNo news l (roomF lim l k) news') y { s with heap := h', toks := tk } := LCg.CompEnd.intro F N news sub off hS (room_no h rfl)
theorem end_cnt {l : List Int} {k : Int} {t : Tok} (F : Fr h₀ L h' m) (N : News h₀ L h' all) (off : LCg.Off3 I C D news) (sub : ∀ p ∈ (I, oI) :: (C, oC) :: (D, oD) :: news, p ∈ all) (hS : S news) (h : 0 < k) (hy : y = .int k t) :
    LCg.CompEnd h₀ L m s I oI C oC D oD S (fun y news' => KCiEl news l (posF l k) y news') y { s with heap := h', toks := tk } := LCg.CompEnd.intro F N news sub off hS (cnt_el h rfl hy)
theorem end_cntN {l : List Int} {k : Int} (F : Fr h₀ L h' m) (N : News h₀ L h' all) (off : LCg.Off3 I C D news) (sub : ∀ p ∈ (I, oI) :: (C, oC) :: (D, oD) :: news, p ∈ all) (hS : S news) (h : ¬ 0 < k) :
    LCg.CompEnd h₀ L m s I oI C oC D oD S (fun _ news' => KCiNo news l (posF l k) news') y { s with heap := h', toks := tk } := LCg.CompEnd.intro F N news sub off hS (cnt_no h rfl)
end
open LSm
/-- an element of a comprehension: an int above nought -/
def ElP (news : List (Addr × Obj)) (y : Value) (news' : List (Addr × Obj)) : Prop := news' = news ∧ ∃ (k : Int) (t : Tok), y = .int k t ∧ 0 < k
section
variable {prog : Program} {w : World} {A : Around} {h₀ : Heap} {L : Addr} {m : Str → Option Value} {env : Env} {elt : Expr} {x : Str} {scope : Scope} {cl : List (Str × Addr)} {s : Shared} {S : List (Addr × Obj) → Prop} {Fin : List Value → List (Addr × Obj) → Prop} {news : List (Addr × Obj)}
theorem posK_range {n : Nat} {a : Int}
    (turn : ∀ k t I oI C oC D m₂ ys h tk (E' : Value → Shared → Prop), a ≤ k → k < a + (n : Int) → LCg.NsObj oC m₂ → m₂ x = some (.int k t) → Fr h₀ L h m → News h₀ L h ((I, oI) :: (C, oC) :: (D, LCg.lst ys) :: news) → LCg.Off3 I C D news → ((@Ne Nat I C) ∧ (@Ne Nat I D) ∧ (@Ne Nat C D)) →
      wpAny (model prog w) A (eval elt (compEnvC scope cl C env)) (LCg.CompEnd h₀ L m { s with heap := h, toks := tk } I oI C oC D (LCg.lst ys) S (fun y news' => ElP news y news')) E' { s with heap := h, toks := tk })
    (fin : ∀ ys zs, IntsAre ys zs → zs.length = n → (∀ z ∈ zs, 0 < z) → Fin ys news) : LCg.CompRest prog w A h₀ L m env elt x scope cl s S (fun i v => ∃ t, v = .int (a + (i : Int)) t) Fin n 0 [] news := by
  have key : ∀ (j i : Nat) (ys : List Value) (zs : List Int), i + j = n → IntsAre ys zs → zs.length = i → (∀ z ∈ zs, 0 < z) → LCg.CompRest prog w A h₀ L m env elt x scope cl s S (fun i v => ∃ t, v = .int (a + (i : Int)) t) Fin j i ys news := by
    intro j
    induction j with
    | zero =>
      intro i ys zs hi hy hl hz
      exact LCg.CompRest.zero (fin ys zs hy (by omega) hz)
    | succ j ih =>
      intro i ys zs hi hy hl hz
      refine LCg.CompRest.succ ?_
      intro v I oI C oC D m₂ h tk E' hv hC hx F N off ne
      obtain ⟨t, rfl⟩ := hv
      refine wpAny_mono (turn _ t I oI C oC D m₂ ys h tk E' (by omega) (by omega) hC hx F N off ne) (fun y s₂ hq => ?_) fun _ _ e => e
      obtain ⟨h', tk', nw, e, F', N', off', hS, hn, k, u, hy', hk⟩ := hq
      rw [hn] at N' off' hS
      refine ⟨h', tk', news, e, F', N', off', hS, ?_⟩
      rw [hy']
      refine ih (i + 1) _ (zs ++ [k]) (by omega) (by simpa using IntsAre.append hy (.cons k u .nil)) (by simp [hl]) ?_
      intro z h
      rcases List.mem_append.mp h with h | h
      · exact hz z h
      · rw [List.mem_singleton.mp h]; exact hk
  exact key n 0 [] [] (by omega) .nil rfl (fun _ h => nomatch h)
theorem endP {I C D : Addr} {oI oC oD : Obj} {y : Value} {h' : Heap} {tk : Nat} {all : List (Addr × Obj)} {k : Int} {t : Tok}
    (F : Fr h₀ L h' m) (N : News h₀ L h' all) (off : LCg.Off3 I C D news) (sub : ∀ p ∈ (I, oI) :: (C, oC) :: (D, oD) :: news, p ∈ all) (hS : S news) (hk : 0 < k) (hy : y = .int k t) :
    LCg.CompEnd h₀ L m s I oI C oC D oD S (fun y news' => ElP news y news') y { s with heap := h', toks := tk } := LCg.CompEnd.intro F N news sub off hS ⟨rfl, k, t, hy, hk⟩
end
theorem posL_app (a b : List Int) : (posIx (a ++ b)).length = (posIx a).length + (posIx b).length := by
  rw [← posIx_filter, ← posIx_filter, ← posIx_filter, List.filter_append, List.length_append]
theorem posL_zero (n : Nat) : (posIx (List.replicate n (0 : Int))).length = 0 := by
  rw [← posIx_filter, List.filter_eq_nil_iff.mpr]
  · rfl
  · intro z hz
    rw [List.eq_of_mem_replicate hz]
    decide
theorem posL_all {zs : List Int} (h : ∀ z ∈ zs, 0 < z) : (posIx zs).length = zs.length := by
  rw [← posIx_filter, List.filter_eq_self.mpr]
  intro z hz
  exact decide_eq_true (h z hz)
theorem pow_pos' {b : Int} (hb : 0 < b) (n : Nat) : 0 < b ^ n := Int.pow_pos hb
/-- two to the bound -/
def PowIs (v lim : Int) : Prop := v = 2 ^ lim.toNat
section
variable {prog : Program} {w : World} {A : Around} {E : Value → Shared → Prop} {s : Shared} {h₀ : Heap} {L : Addr} {m : Str → Option Value} {news : List (Addr × Obj)}
theorem mul_zerosI {l : Addr} {t u : Tok} {k : Nat} {n : Int} {Q : Value → Shared → Prop} (F : Fr h₀ L s.heap m) (N : News h₀ L s.heap news) (hl : (l, listOf #[.int 0 t] k) ∈ news) (h0 : 0 ≤ n) (hz : n ≤ 100000)
    (h : ∀ D us h', Fr h₀ L h' m → News h₀ L h' ((D, listOf (List.toArray us) 0) :: news) → (∀ p ∈ news, p.1 < D) → IntsAre us (List.replicate n.toNat 0) → Q (.ref D) { s with heap := h' }) : wpAny (model prog w) A (binaryOp .Mult (.ref l) (.int n u)) Q E s := by
  obtain ⟨n, rfl⟩ : ∃ k : Nat, n = (k : Int) := ⟨n.toNat, by omega⟩
  exact mul_zeros F N hl (by omega) h
/-- nought and some, and the pad behind -/
theorem add_pads {l b : Addr} {vs us : List Value} {n k x y : Nat} {zs : List Int} {Q : Value → Shared → Prop} (F : Fr h₀ L s.heap m) (N : News h₀ L s.heap news) (hl : (l, listOf vs.toArray n) ∈ news) (hb : (b, listOf us.toArray k) ∈ news) (hi : IntsAre vs (List.replicate x 0 ++ zs)) (hj : IntsAre us (List.replicate y 0)) (hp : ∀ z ∈ zs, 0 < z) (hz : x + zs.length + y ≤ 16777216)
    (h : ∀ D h' ws cs, Fr h₀ L h' m → News h₀ L h' ((D, listOf (List.toArray ws) 0) :: news) → (∀ q ∈ news, q.1 < D) → IntsAre ws cs → cs.length = x + zs.length + y → (posIx cs).length = zs.length → Q (.ref D) { s with heap := h' }) :
    wpAny (model prog w) A (binaryOp .Add (.ref l) (.ref b)) Q E s := by
  refine add_two F N hl hb hi hj (by simp only [List.length_append, List.length_replicate]; omega) fun D h' F' N' l1 hI => ?_
  exact h D h' _ _ F' N' l1 hI (by simp only [List.length_append, List.length_replicate]) (by rw [posL_app, posL_app, posL_zero, posL_zero, posL_all hp]; omega)
theorem pow_lim {lim : Int} {t u : Tok} {Q : Value → Shared → Prop} (h8 : 8 ≤ lim) (h9 : lim ≤ 9) (h : ∀ v t tk, PowIs v lim → 256 ≤ v → v ≤ 512 → Q (.int v t) { s with toks := tk }) : wpAny (model prog w) A (binaryOp .Pow (.int 2 t) (.int lim u)) Q E s := by
  have e : lim = 8 ∨ lim = 9 := by omega
  refine pow_int_small (by omega) (by omega) (by decide) (h _ _ _ rfl ?_ ?_) <;> rcases e with rfl | rfl <;> decide
theorem shl_pow {v lim : Int} {t u : Tok} {Q : Value → Shared → Prop} (h8 : 8 ≤ lim) (h9 : lim ≤ 9) (hv : PowIs v lim) (h : ∀ t tk, Q (.int v t) { s with toks := tk }) : wpAny (model prog w) A (binaryOp .LShift (.int 1 t) (.int lim u)) Q E s := by
  have e : (1 : Int) * 2 ^ lim.toNat = v := by rw [hv, Int.one_mul]
  refine lshift_int_small (by omega) (by omega) (by decide) ?_
  rw [e]
  exact h _ _
/-- the greatest of the lengths -/
theorem max_le {D : Addr} {vs : List Value} {n : Nat} {cs ls : List Int} {lim : Int} {Q : Value → Shared → Prop} (hh : A.handled = none) (F : Fr h₀ L s.heap m) (N : News h₀ L s.heap news) (hm : (D, listOf vs.toArray n) ∈ news) (hi : IntsAre vs ls) (hL : LenOk cs lim ls) (h0 : 0 ≤ lim) (hne : 0 < ls.length)
    (h : ∀ h' M t tk, Fr h₀ L h' m → News h₀ L h' news → M ≤ lim → Q (.int M t) { s with heap := h', toks := tk }) : wpAny (model prog w) A (call (.builtin "max") [.ref D]) Q E s := by
  refine kso_max F N (PySem.IsL.isList (n := n) (N _ hm).1) hi (by simpa [← List.length_pos_iff] using hne) hh fun h' M t tk F' N' hM _ => h h' M t tk F' N' ?_
  exact (lenOk_le hL h0 M hM).2
end
/-- the room that the codes fill, in 2 ^ -15 -/
def krV (ls : List Int) : Int := (ls.map fun l => if 0 < l then (2 : Int) ^ (15 - l).toNat else 0).sum
theorem krV_app (a : List Int) (l : Int) : krV (a ++ [l]) = krV a + (if 0 < l then (2 : Int) ^ (15 - l).toNat else 0) := by
  unfold krV; rw [List.map_append, List.sum_append]; simp
theorem krV_fold (ls : List Int) : krV ls = (ls.foldl (roomF 15) []).sum := by
  rw [roomF_fold, List.nil_append]
  unfold krV
  induction ls with
  | nil => rfl
  | cons l ls ih =>
    rw [List.map_cons, List.sum_cons, ih, List.filter_cons]
    by_cases h : 0 < l
    · rw [if_pos h, if_pos (by simpa using h), List.map_cons, List.sum_cons]
    · rw [if_neg h, if_neg (by simpa using h)]; omega
theorem krV_full {cs ls : List Int} {lim : Int} (h : LenOk cs lim ls) (h0 : 0 ≤ lim) (h15 : lim ≤ 15) (h2 : 2 ≤ (posIx cs).length) : krV ls = 32768 := by
  have h' : LenOk cs 15 ls := by
    obtain ⟨D, e, h1, h3, h4⟩ := h
    exact ⟨D, e, fun i hi => ⟨(h1 i hi).1, by have := (h1 i hi).2; omega⟩, fun q B hB => h3 q B (by omega), h4⟩
  rw [krV_fold, lenOk_room h' (by decide), roomV_2 h2]
  rfl
theorem lenOk_15 {cs ls : List Int} {lim : Int} (h : LenOk cs lim ls) (h0 : 0 ≤ lim) (h15 : lim ≤ 15) : ∀ l ∈ ls, 0 ≤ l ∧ l ≤ 15 := fun l hl => by
  have := lenOk_le h h0 l hl
  omega
theorem okLenN {cs : List Int} {lim : Int} {ls : List Int} (h : LenOk cs lim ls) : ls.length = cs.length := by
  obtain ⟨D, rfl, _⟩ := h
  simp [lensOf]
theorem kr_yes {T l : Int} (h : 0 < l) : T + 1 * 2 ^ (15 - l).toNat = T + (if 0 < l then (2 : Int) ^ (15 - l).toNat else 0) := by rw [if_pos h, Int.one_mul]
theorem kr_no {T l : Int} (h : ¬ 0 < l) : T = T + (if 0 < l then (2 : Int) ^ (15 - l).toNat else 0) := by rw [if_neg h, Int.add_zero]
structure KrS where
  T : Int
  t : Tok
def krPs (c : KrS) : List (Str × Value) := [(Str.ofString "total", .int c.T c.t)]
def krP (ls : List Int) (i : Nat) (c : KrS) : Prop := c.T = krV (ls.take i)
section
variable {prog : Program} {w : World} {A : Around} {E : Value → Shared → Prop} {s : Shared} {env : Env} {h₀ : Heap} {L : Addr} {body : List Stmt} {Q : Flow → Shared → Prop}
theorem kr_for {J : Addr} {vj : List Value} {nj : Nat} {ls : List Int} {m₀ : Str → Option Value} {news : List (Addr × Obj)} {t₀ : Tok}
    (hh : A.handled = none) (hj : IntsAre vj ls) (h15 : ∀ l ∈ ls, 0 ≤ l ∧ l ≤ 15) (F : Fr h₀ env.locals s.heap m₀) (N : News h₀ env.locals s.heap news) (hdd : m₀ (Str.ofString "total") = some (.int 0 t₀)) (hJ : (J, listOf vj.toArray nj) ∈ news)
    (turn : ∀ (T : Int) (t : Tok) (i : Nat) (l : Int) (t2 : Tok) h tk own, T = krV (ls.take i) → ls[i]? = some l → 0 ≤ l → l ≤ 15 → (∀ p ∈ own, ∀ q ∈ news, p.1 ≠ q.1) →
      Fr h₀ env.locals h (fun y => if y = Str.ofString "length" then some (.int l t2) else if y = Str.ofString "total" then some (.int T t) else m₀ y) → News h₀ env.locals h (news ++ own) →
      wpAny (model prog w) A (execs body env) (InvPostG h₀ env.locals (fun m' nx => (J, listOf vj.toArray nj) ∈ nx ∧ RgJ (fun _ => news) krPs (Str.ofString "length") [] m₀ (krP ls) (i + 1) m' nx) own { s with heap := h, toks := tk } Q) E { s with heap := h, toks := tk })
    (done : ∀ (t : Tok) (u : Str → Option Value) h tk, Fr h₀ env.locals h (fun y => if y = Str.ofString "length" then u y else if y = Str.ofString "total" then some (.int (krV ls) t) else m₀ y) → News h₀ env.locals h news → Q .next { s with heap := h, toks := tk }) :
    wpAny (model prog w) A (pyIter (.ref J)) (fun it s₂ => LoopAtV prog w A h₀ env (Str.ofString "length") body Q E it s₂) E s := by
  refine ls_for (fun _ => news) krPs [] (krP ls) ⟨0, t₀⟩ hh hJ (fun _ => hJ) F N (fun p hp => hp) ?_ rfl ?_ ?_
  · intro p hp
    rw [List.mem_singleton.mp hp]
    exact hdd
  · rintro ⟨T, t⟩ i v u h tk own hv p1 hof F₁ N₁
    obtain ⟨l, t2, rfl, hl⟩ := intsAre_at hj hv
    have hb := h15 l (List.mem_of_getElem? hl)
    exact turn T t i l t2 h tk own p1 hl hb.1 hb.2 hof F₁ N₁
  · rintro ⟨T, t⟩ u h tk p1 F₁ N₁
    have p1' : T = krV (ls.take vj.length) := p1
    rw [hj.length, List.take_length] at p1'
    subst p1'
    exact done t u h tk F₁ N₁
theorem kr_end {J : Addr} {oJ : Obj} {ls : List Int} {m₀ m' : Str → Option Value} {own news news' : List (Addr × Obj)} {i : Nat} {l T T' : Int} {t : Tok} {s₁ : Shared} {h' : Heap} {tk : Nat}
    (F : Fr h₀ L h' m') (N : News h₀ L h' news') (hT : m' (Str.ofString "total") = some (.int T' t)) (hr : ∀ z, z ≠ Str.ofString "length" → (∀ p ∈ [(Str.ofString "total", Value.int T' t)], z ≠ p.1) → ([] : List Str).contains z = false → m' z = m₀ z) (n1 : ∀ p ∈ news, p ∈ news') (ho : ∀ p ∈ own, p ∈ news') (hJ : (J, oJ) ∈ news) (o2 : ∀ p ∈ own, ∀ q ∈ news, p.1 ≠ q.1)
    (hv : T = krV (ls.take i)) (hl : ls[i]? = some l) (hs : T' = T + (if 0 < l then (2 : Int) ^ (15 - l).toNat else 0)) :
    InvEndG h₀ L (fun m' nx => (J, oJ) ∈ nx ∧ RgJ (fun _ => news) krPs (Str.ofString "length") [] m₀ (krP ls) (i + 1) m' nx) own s₁ { s₁ with heap := h', toks := tk } := by
  refine ls_end (c' := (⟨T', t⟩ : KrS)) F N n1 ho hJ o2 ?_ hr ?_
  · intro p hp
    rw [List.mem_singleton.mp hp]
    exact hT
  · show T' = krV (ls.take (i + 1))
    have e : ls.take (i + 1) = ls.take i ++ [l] := by rw [List.take_add_one, hl]; rfl
    rw [e, krV_app, hs, hv]
end
def KrC (f : Addr) (prog : Program) (w : World) (K : Frag) (p : Program) (loose : List Str) (mean : ExcName → Option Value) (mg mb : Str → Option Value) : Prop :=
  ∀ (RC : Addr) (vc : List Value) (nc : Nat) (ls : List Int) (news : List (Addr × Obj)), (RC, listOf vc.toArray nc) ∈ news → IntsAre vc ls → ls.length ≤ 1000 → (∀ l ∈ ls, 0 ≤ l ∧ l ≤ 15) → Fun prog w K p loose mean mg mb 20 f [.ref RC] news (fun r news' => news' = news ∧ ∃ t, r = .int (krV ls) t)
theorem kr_ret {s : Shared} {h₀ : Heap} {L : Addr} {m : Str → Option Value} {ls : List Int} {T : Int} {t : Tok} {news led : List (Addr × Obj)} {Q : Value → Shared → Prop} {h : Heap} {tk : Nat}
    (hret : ∀ r news' h' tk', (news' = news ∧ ∃ t, r = .int (krV ls) t) → Fr h₀ L h' m → News h₀ L h' news' → Q r { s with heap := h', toks := tk' }) (F : Fr h₀ L h m) (N : News h₀ L h led) (hs : ∀ p ∈ news, p ∈ led) (hT : T = krV ls) : Q (.int T t) { s with heap := h, toks := tk } := by
  subst hT
  exact hret _ _ _ _ ⟨rfl, t, rfl⟩ F fun p hp => N p (hs p hp)
/-- the kraft sum of the lengths is the whole room -/
theorem eq_full {prog : Program} {w : World} {A : Around} {E : Value → Shared → Prop} {s : Shared} {ls : List Int} {x : Int} {t u : Tok} {Q : Value → Shared → Prop} (e : krV ls = x) (h : Q (.bool true) s) : wpAny (model prog w) A (compareOp .Eq (.int (krV ls) t) (.int x u)) Q E s := by
  rw [e]
  refine PyProof.Rows.eq_int ?_
  simpa using h
section
variable {prog : Program} {w : World} {A₀ : Around} {E : Value → Shared → Prop} {s' : Shared} {h₀ h : Heap} {outer : List Env} {L e t : Addr} {m : Str → Option Value} {env : Env}
  {vs : List Value} {b₀ : Stmt} {suite : List Stmt} {pos np : Pos} {rest : List ExceptHandler} {Q : Flow → Shared → Prop} {news : List (Addr × Obj)} {KF : Frag} {C : Addr} {bmB : List Value} {newId : String}
  {p : Program} {loose : List Str} {mg mb : Str → Option Value} {x n : Str}
/-- an own exception caught by its own name and kept under a name, in whatever frame -/
theorem caught_ownN (hf : env.frame = some L) (hloc : env.locals = L) (K : Below A₀ h₀ outer h₀) (F : Fr h₀ L h m) (hsm : h.UpToSlots s'.heap) (R : RaisedK h₀ (env :: outer) e (.ref C) t vs news s'.heap)
    (X : KF.In h₀) (T : TopRead p loose mg mb h₀) (ey : nsIn KF mainGlobals x = some (some (.ref C))) (q : excIn KF C bmB newId = true)
    (hname : ∀ (s₁ : Shared) (A₁ : Around) (Q₁ : Value → Shared → Prop) (E₁ : Value → Shared → Prop), Fr h₀ L s₁.heap m → Q₁ (.ref C) s₁ → wpAny (model prog w) A₁ (eval (.Name x np) env) Q₁ E₁ s₁)
    (hbase : bmB.contains (.type "BaseException") = true) (hlo : env.kindOf n = some .local) (hp : (env.scope.kind == .class || (env.scope.kind == .module && env.locals != env.globals)) = false)
    (k : ∀ h' news₂ tk, Fr h₀ L h' (fun y => if y = n then some (.ref e) else m y) → News h₀ L h' (news₂ ++ news) → Got news₂ e t (.ref C) vs →
      wpAny (model prog w) ((A₀.deeper env).mark (some (.ref e))) (execs (b₀ :: suite) env)
        (fun f s₄ => wpAny (model prog w) (A₀.deeper env) (do bindName env n .none; unbindBehindTheSuite env n pos) (fun _ s₅ => Q f s₅) E s₄)
        (AsSuiteRaised (model prog w) ((A₀.deeper env).mark (some (.ref e))) env n pos (notedBy (model prog w) ((A₀.deeper env).mark (some (.ref e))) env (cameBackBy (model prog w) (A₀.deeper env) env E)))
        { s' with heap := h', toks := tk }) :
    wpAny (model prog w) (A₀.deeper env) (noteFrame (.ref e) env)
      (fun _ s₂ => wpAny (model prog w) (A₀.deeper env) (setFlight (.ref e) none) (fun _ s₃ =>
        wpAny (model prog w) (A₀.deeper env) (handleBy (.ref e) env (.ExceptHandler (some (.Name x np)) (some n) (b₀ :: suite) pos :: rest)) Q E s₃) E s₂) E s' := by
  obtain ⟨⟨B, hB, hl, hfl, hnew⟩, htup⟩ := R
  have hL : B.get? L = none := by
    obtain ⟨_, ⟨L', _, hf', hn', _⟩, _⟩ := hfl.2.2.1
    rw [hf] at hf'
    obtain rfl : L = L' := Option.some.inj hf'
    exact hn'
  refine wpAny_looks_onW (Around.frames_deeper K.stack) hf hfl fun h₄ hheld₄ hsm₄ => ?_
  refine wpAny_landsW hheld₄ fun h₅ hheld hsm₅' => ?_
  have hsm₅ := hsm₄.trans hsm₅'
  have hheld' := flyingW_base hB hheld
  have F₅ := F.of_stays hheld'.1 (hsm.trans hsm₅)
  obtain ⟨ob, hob, hobc⟩ := hheld'.there
  refine wpAny_handleBy_cons (codeAny_handlers_test (hname _ _ _ _ F₅ ?_)) (by intro q; cases q)
  obtain ⟨bm, N, nm, qn, bs, hdct, sn, sub, ab, col, dd, k0, k1, k2, k3, k5, mN, hC, hN, hni, TL⟩ := ((own_of_in X T ey q).keeps F₅.keep).obj
  refine wpAny_excMatches_sub_self hC hob hobc (TL.hasType hbase) (codeAny_handlers_suite_as ?_)
  refine lands_againW hheld fun h₆ hfl₆ hsm₆ => ?_
  have hfl₆' := flyingW_base hB hfl₆
  have F₆ := F.of_stays hfl₆'.1 ((hsm.trans hsm₅).trans hsm₆)
  obtain ⟨oe, ws, hoe, hoec, hoed, hoe0⟩ := hfl₆'.first
  obtain ⟨ot, nt, hot, hotc, hotd⟩ := (htup.of_slots hsm₅).of_slots hsm₆
  have N₆ := News.more F₆ (News.more F₆ News.nil hot (fun es n q => by rw [hotd] at q; cases q) (fresh_of_stays hB hnew)) hoe (fun es n q => by rw [hoed] at q; cases q) hfl₆'.2.1
  have Nl : News h₀ L h₆ news := fun q hq => ⟨hfl₆.1 _ _ (hl q hq).1, (fun z => by have := (hl q hq).1; rw [z, hL] at this; cases this), (hl q hq).2⟩
  have Na : News h₀ L h₆ (_ ++ news) := fun q hq => (List.mem_append.mp hq).elim (N₆ q) (Nl q)
  refine wpAny_storeName_local (m := m) hlo (by rw [hloc]; exact F₆.ns) (fun h₇ hn hs => ?_) hp
  rw [hloc] at hn hs
  exact k h₇ _ _ (F₆.set hn hs) (Na.set hs) ⟨oe, ot, ws, nt, .head _, .tail _ (.head _), hoec, hoed, hoe0, hotc, hotd⟩
/-- the name that an exception was kept under goes -/
theorem name_goes {M : Model} {A : Around} {s : Shared} {m : Str → Option Value} {Q : Unit → Shared → Prop} (hloc : env.locals = L) (F : Fr h₀ L s.heap m) (N : News h₀ L s.heap news) (hlo : env.kindOf n = some .local) (hp : (env.scope.kind == .class || (env.scope.kind == .module && env.locals != env.globals)) = false)
    (k : ∀ h' v tk, Fr h₀ L h' (fun y => if y = n then v else m y) → News h₀ L h' news → Q () { s with heap := h', toks := tk }) :
    wpAny M A (do bindName env n .none; unbindBehindTheSuite env n pos) Q E s := by
  refine wpAny_nameGoes_keeps hlo (by rw [hloc]; exact F.ns) hp fun h' v hn hs => ?_
  rw [hloc] at hn hs
  exact k h' v _ (F.set hn hs) (N.set hs)
end
section
open Builtin Builtin.Str Builtin.BaseException Builtin.Exceptions
variable {prog : Program} {w : World} {A : Around} {E : Value → Shared → Prop} {s : Shared} {h₀ : Heap} {L e t C : Addr} {news : List (Addr × Obj)} {KF : Frag} {msg : Str} {u : Tok} {bmB : List Value} {newId : String} {p : Program} {loose : List Str} {mg mb : Str → Option Value} {x : Str} {m : Str → Option Value}
theorem bexc_str_own {oe ot : Obj} {ws : Array Value} {nt : Nat} {Q : Fin → Shared → Prop} (he : s.heap.get? e = some oe) (hd : oe.data = .fields ws) (h0 : ws[0]? = some (.ref t)) (ht : s.heap.get? t = some ot) (htd : ot.data = .seq #[.str msg u] nt) (hq : Q (.done (.ret (.str msg u))) s) :
    wpAny (model prog w) A (Builtin.«BaseException.__str__» ⟨[.ref e], []⟩) Q E s := by
  unfold Builtin.«BaseException.__str__»
  have key : ∀ {Q : Value × List Value → Shared → Prop}, Q (.ref t, [.str msg u]) s → wpAny (model prog w) A (bexcArgs (.ref e)) Q E s := by
    intro Q hq
    unfold bexcArgs
    exact wpAny_bind (wpAny_field he hd h0 (wpAny_bind (wpAny_seqItems ht htd (wpAny_pure hq))))
  repeat (first | with_reducible refine key ?_ | wp_step)
  exact hq
theorem check_bexc {M : Model} {oe : Obj} {Q : Unit → Shared → Prop} (X : KF.In h₀) (F : Fr h₀ L s.heap m) (T : TopRead p loose mg mb h₀) (he : s.heap.get? e = some oe) (hc : oe.cls = .ref C) (ey : nsIn KF mainGlobals x = some (some (.ref C))) (q : excIn KF C bmB newId = true) (hbase : bmB.contains (.type "BaseException") = true) (hq : Q () s) :
    wpAny M A (checkBuiltinCall "BaseException.__str__" ⟨[.ref e], []⟩) Q E s := by
  have hk : builtinKind "BaseException.__str__" = some .slot := by kernel_rfl
  have hsp : splitId "BaseException.__str__" = some ("BaseException", "__str__") := by kernel_rfl
  simp only [checkBuiltinCall, hk, hsp]
  obtain ⟨bm, N', nm, qn, bs, hdct, sn, sub, ab, col, dd, k0, k1, k2, k3, k5, mN, hC, hN, hni, TL⟩ := ((own_of_in X T ey q).keeps F.keep).obj
  obtain ⟨hp, g, d, tk, os⟩ := s
  refine wpAny_bind ?_
  unfold isInstance
  refine wpAny_bind (wpAny_bind (wpAny_load he (wpAny_pure ?_)))
  rw [hc]
  refine wpAny_isSubtype_exc hC ?_
  rw [List.contains_cons, TL.hasType hbase, Bool.or_true]
  simp only [Bool.not_true, Bool.false_eq_true, if_false]
  have ha := PySem.F.args_bexc_str (.ref e)
  cases hsig : Manifest.signature? "BaseException.__str__" with
  | none => exact wpAny_pure hq
  | some sig =>
    simp only [argsOk, hsig] at ha
    have h2 : Bind.checkArgs "BaseException.__str__" sig ⟨[.ref e], []⟩ = pure () := ha
    show wpAny _ _ (Bind.checkArgs "BaseException.__str__" sig ⟨[.ref e], []⟩) _ _ _
    rw [h2]
    exact wpAny_pure hq
theorem str_own_of {Q : Value → Shared → Prop} (hu : A.units < cLine) (X : KF.In h₀) (F : Fr h₀ L s.heap m) (T : TopRead p loose mg mb h₀) (N : News h₀ L s.heap news) (G : Got news e t (.ref C) [.str msg u]) (ey : nsIn KF mainGlobals x = some (some (.ref C))) (q : excIn KF C bmB newId = true) (hbase : bmB.contains (.type "BaseException") = true)
    (hs : findIn KF (.ref C) "__str__" = some (some (.builtin "BaseException.__str__"))) (hq : Q (.str msg u) s) : wpAny (model prog w) A (PySem.Builtin.Str.strOf (.ref e)) Q E s := by
  obtain ⟨oe, ot, ws, nt, h1, h2, hc, hd, h0, htc, htd⟩ := G
  have he := N.get h1
  have ht := N.get h2
  unfold PySem.Builtin.Str.strOf
  rw [show isExactStr (.ref e) = false from rfl]
  refine wpAny_bind (m := cRoomFor _ _) (wpAny_cRoomFor hu ?_)
  refine wpAny_bind (m := callSpecial? (.ref e) (Str.ofString "__str__")) ?_
  refine wpAny_bind (wpAny_bind (wpAny_bind (wpAny_load he (wpAny_pure ?_))))
  rw [hc]
  refine (looks_findIn (X.keeps F.keep) hs).here ?_
  refine wpAny_holding (wpAny_bind (wpAny_of_eq (PySem.F.excStr_ValueError.str.bind _) ?_))
  refine wpAny_bind (wpAny_call (codeAny_call_builtin PySem.F.excStr_ValueError.str.plain PySem.F.entry_bexc_str ?_))
  refine check_bexc X F T he hc ey q hbase ?_
  refine bexc_str_own he hd h0 ht htd ?_
  exact wpAny_pure (wpAny_pure hq)
end
section
variable {prog : Program} {w : World} {A : Around} {E : Value → Shared → Prop} {s : Shared} {h₀ : Heap} {L e t C : Addr} {news nw : List (Addr × Obj)} {KF : Frag} {msg : Str} {u : Tok} {bmB : List Value} {newId : String} {p : Program} {loose : List Str} {mg mb : Str → Option Value} {x : Str} {m : Str → Option Value}
theorem str_own {Q : Value → Shared → Prop} (hu : A.units + 2 < cLine) (X : KF.In h₀) (F : Fr h₀ L s.heap m) (T : TopRead p loose mg mb h₀) (N : News h₀ L s.heap news) (su : ∀ p ∈ nw, p ∈ news) (G : Got nw e t (.ref C) [.str msg u]) (ey : nsIn KF mainGlobals x = some (some (.ref C))) (q : excIn KF C bmB newId = true) (hbase : bmB.contains (.type "BaseException") = true)
    (hs : findIn KF (.ref C) "__str__" = some (some (.builtin "BaseException.__str__"))) (hq : Q (.str msg u) s) : wpAny (model prog w) A (call (.type "str") [.ref e]) Q E s := by
  have N' : News h₀ L s.heap nw := fun p hp => N p (su p hp)
  refine callType_codes (T := "str") (Bi := Builtin.«object.__init__») (Q₁ := fun r s₁ => ∃ y u, r = .str y u ∧ Q r s₁) PySem.F.called_str (PySem.F.typeCall_str_1 _) PySem.F.entry_object_init ?_ ?_
  · refine codeAny_of_tree ?_
    show wpAny _ A.in1.in1 (do checkBuiltinCall "str.__new__" ⟨[.type "str", .ref e], []⟩; again (.builtin "str.__new__" ⟨[.type "str", .ref e], []⟩)) _ _ s
    refine wpAny_bind (wpAny_of_eq (PySem.F.newCall_str_1 _) (wpAny_pure ⟨plainId_quiet (by decide +kernel) _, codeAny_builtin PySem.F.entry_str_new ?_⟩))
    rw [Around.under_plainId (by decide +kernel) _]
    rw [str_new_tree]
    refine wpAny_bind (wpAny_pure ?_)
    refine wpAny_bind (wpAny_of_eq isSubtype_str_str ?_)
    exact wpAny_bind (str_own_of (Q := fun r s₁ => _) (by show A.units + 1 + 1 < cLine; omega) X F T N' G ey q hbase hs (wpAny_pure ⟨_, _, rfl, hq⟩))
  · rintro obj s₁ ⟨y, u, rfl, hq⟩
    exact ⟨typeIs_str _ _ _, PySem.F.args_object_init_2 _ _, object_init_meets PySem.F.called_str.init.lookup PySem.F.called_str.made (by decide) prog w A.in1 _ s₁ ⟨typeIs_str _ _ _, rfl, hq⟩⟩
end
set_option maxRecDepth 100000 in
set_option maxHeartbeats 0 in
open_top hd for PySem.Challenge.rw_ui0507_11
end Mine
local macro_rules | `(tactic| walk_at $s:str) => `(tactic| k_extra $s)
local macro_rules | `(tactic| k_mem) => `(tactic| kcf_m)
set_option maxRecDepth 100000 in
set_option maxHeartbeats 8000000 in
theorem Mine.dp_ctr {w : World} {p : Program} {loose : List Str} {mean : ExcName → Option Value} {mg mb : Str → Option Value} : Mine.DpC 46 PySem.Challenge.rw_ui0507_11.row.prog w (Mine.hd.heap_39 w.params) p loose mean mg mb := by
  k_with_none
  k_with "mine ne" => ((try dsimp only); first | assumption | k_ne | (refine Ne.symm ?_; assumption))
  k_with "mine off" => first | exact List.forall_mem_nil _ | assumption | exact Mine.off_lt (by assumption) | exact Mine.off_gt (by assumption) | (refine' List.forall_mem_cons.mpr ⟨?a_z1, ?b_z1⟩; (case a_z1 => walk_at "mine ne"); (case b_z1 => walk_at "mine off")) | (refine' List.forall_mem_append.mpr ⟨?a_z1, ?b_z1⟩; (case a_z1 => walk_at "mine off"); (case b_z1 => walk_at "mine off"))
  k_with "mine upd" => first | (refine' Upd.head ?a_z2; (case a_z2 => walk_at "mine off")) | (refine' Upd.tail ?a_z2 ?b_z2; (case a_z2 => walk_at "mine ne"); (case b_z2 => walk_at "mine upd"))
  k_with "mine size" => ((try law_lens); (simp only [List.size_toArray, Array.size_push, Array.size_append, List.length_append, List.length_cons, List.length_nil, List.length_take, List.length_drop, List.length_replicate, sizeLine_eq]); omega)
  k_with "call builtin:list.append" => (k_here; (with_reducible show wpAny _ _ (call (Value.builtin "list.append") [Value.ref _, _]) _ _ _); k_dflt (refine' append_K ?k1_z4 ?k2_z4 ?k3_z4 ?_ ?z_z4; (case k1_z4 => k_asm); (case k2_z4 => k_asm); (case k3_z4 => walk_at "mine upd"); (case z_z4 => walk_at "mine size"); k_whole); intro h' F' N'; (try k_sweep))
  k_with "mine updF" => first | (refine' UpdF.head ?a_z5; (case a_z5 => walk_at "mine off")) | (refine' UpdF.tail ?a_z5 ?b_z5; (case a_z5 => walk_at "mine ne"); (case b_z5 => walk_at "mine updF"))
  k_with "call builtin:list.extend" => (k_here; (with_reducible show wpAny _ _ (call (Value.builtin "list.extend") [Value.ref _, Value.ref _]) _ _ _); k_dflt (refine' Mine.extend_U ?k1_z6 ?k2_z6 ?kb_z6 ?k3_z6 ?z_z6 ?_; (case k1_z6 => k_asm); (case k2_z6 => k_asm); (case kb_z6 => k_mem); (case k3_z6 => walk_at "mine updF"); (case z_z6 => walk_at "mine size"); k_whole); intro h' n' F' N'; (try dsimp only at N'); (try k_sweep))
  k_with "mine upd" => first | (refine' Upd.head ?a_z7; (case a_z7 => walk_at "mine off")) | (refine' Upd.tail ?a_z7 ?b_z7; (case a_z7 => walk_at "mine ne"); (case b_z7 => walk_at "mine upd")) | (refine' Mine.upd_app ?a_z7 ?b_z7; (case a_z7 => first | with_reducible assumption | exact Mine.off_kL (by with_reducible assumption)); (case b_z7 => walk_at "mine upd"))
  k_with "mine off" => first | exact List.forall_mem_nil _ | assumption | exact Mine.off_lt (by assumption) | exact Mine.off_gt (by assumption) | exact Mine.off_allLt (And.right (by assumption)) | (refine' List.forall_mem_cons.mpr ⟨?a_z8, ?b_z8⟩; (case a_z8 => walk_at "mine ne"); (case b_z8 => walk_at "mine off")) | (refine' List.forall_mem_append.mpr ⟨?a_z8, ?b_z8⟩; (case a_z8 => walk_at "mine off"); (case b_z8 => walk_at "mine off"))
  k_with "mine enter" => (refine' code_def ?k1_z9 ?k2_z9 ?k3_z9 ?k4_z9 ?k5_z9 ?kA_z9 ?kF_z9 ?kK_z9 ?k6_z9 ?k7_z9 ?k8_z9 ?k9_z9 ?kB_z9 ?_ ?c2_z9 ?c3_z9 ?c4_z9 ?c5_z9; (case kA_z9 => exact rfl); (case kF_z9 => exact rfl); (case kK_z9 => first | assumption | exact rfl); (case k1_z9 => k_asm); (case k2_z9 => k_asm); (case k3_z9 => k_asm); (case k4_z9 => k_asm); (case k5_z9 => k_asm); (case k6_z9 => k_is); (case k7_z9 => k_is); (case k8_z9 => ktr_room); (case k9_z9 => first | exact BindsTo.of_eq rfl | exact binds_K (by k_in) rfl (by k_is) rfl rfl rfl); (case c5_z9 => decide); (case kB_z9 => exact locs rfl); (case c2_z9 => exact rfl); (case c3_z9 => exact rfl); (case c4_z9 => exact rfl); k_whole; intro g' L' h' FG' F' N' B' X' T'; (try dsimp only); (try k_lift B'); (try k_fold))
  k_with "mine bnd" => first | with_reducible assumption | omega
  k_with "call builtin:len" => (k_here; (with_reducible show wpAny _ _ (call (Value.builtin "len") [Value.ref _]) _ _ _); k_dflt (refine' Mine.len_at ?N_z11 ?m_z11 ?v_z11 ?z_z11 ?_; (case N_z11 => k_asm); (case m_z11 => kcf_m); (case v_z11 => with_reducible assumption); (case z_z11 => omega); k_whole); intro t9 k9)
  k_with "subscriptTail" => (k_here; (with_reducible show wpAny _ _ (subscriptTail _ _ (Value.ref _) (Value.int _ _)) _ _ _); k_dflt (refine' Mine.item_at ?N_z12 ?m_z12 ?v_z12 ?h0_z12 ?h1_z12 ?h2_z12 ?_; (case N_z12 => k_asm); (case m_z12 => kcf_m); (case v_z12 => with_reducible assumption); (case h0_z12 => omega); (case h1_z12 => omega); (case h2_z12 => omega); k_whole); intro t9)
  k_with "mine room" => first | ktr_room | ktr_units | ((simp only [units_in1, units_deeper, Around.mark_units, units_caller]); first | decide | omega)
  k_with "newTuple" => (k_here; k_dflt (refine' kup_newTuple ?F_z14 ?N_z14 ?_ ?z_z14; (case F_z14 => k_asm); (case N_z14 => k_asm); (case z_z14 => kmk_size)); intro D' h' F' N' l1; (try k_lt l1); (try k_sweep))
  k_with "call type:list" => (k_here; (with_reducible show wpAny _ _ (call (Value.type "list") [Value.bytes _ _]) _ _ _); k_dflt (refine' Mine.list_B ?hh_z15 ?F_z15 ?N_z15 ?b_z15 ?z_z15 ?_; (case hh_z15 => exact rfl); (case F_z15 => k_asm); (case N_z15 => k_asm); (case b_z15 => with_reducible assumption); (case z_z15 => omega); k_whole); intro D' c9 h' tk9 vs9 F' N' l1 i1; (try k_lt l1))
  k_with "exec For Tuple Name cons nil" => (k_here; (rename Fr _ _ _ _ => lF'); (with_unfolding_all refine' For_turns lF' ?_; k_whole))
  k_with "mine ltn" => first | with_reducible assumption | exact Mine.allLt_mem (by with_reducible assumption) | exact Mine.lt_all2 (by with_reducible assumption) | exact Mine.allLt_app2 (And.right (And.right (by with_reducible assumption))) | exact Mine.allLt_app2 (And.right (And.right (And.right (by with_reducible assumption))))
  k_with "pyIter ref" => (k_here; (with_reducible show wpAny _ _ (pyIter (Value.ref _)) (fun it s₂ => TurnsAt _ _ _ _ _ _ _ _ _ it s₂) _ _); ((rename Fr _ _ _ _ => lF'); (rename News _ _ _ _ => lN'); (with_unfolding_all refine' Mine.hb_for ?hh_z18 lF' lN' ?hD_z18 ?hm_z18 ?ho_z18 ?hoff_z18 ?tn_z18 ?dn_z18; (case hh_z18 => exact rfl); (case ho_z18 => exact rfl); (case hD_z18 => with_reducible assumption); (case hm_z18 => with_reducible assumption); (case hoff_z18 => walk_at "mine ltn")); (all_goals (try clear lF' lN')); (case' tn_z18 => (intro tl9 vr9 cr9 to9 i9 r9 T9 t1 t2 u9 h9 tk9 own9 kD kl ki kr o1 kL o2 kT kF kN; (try k_fold))); (case' dn_z18 => (intro tl9 vr9 cr9 to9 u9 h9 tk9 kD kl o1 kL kF kN; (try k_unfold); (try dsimp only)))))
  k_with "pyIter ref" => (k_here; (with_reducible show wpAny _ _ (pyIter (Value.ref _)) (fun it s₂ => TurnsAt _ _ _ _ _ _ _ _ _ it s₂) _ _); ((rename Fr _ _ _ _ => lF'); (rename News _ _ _ _ => lN'); (with_unfolding_all refine' Mine.dz_for ?hh_z19 lF' lN' ?hd_z19 ?hD_z19 ?hm_z19 ?hoff_z19 ?tz_z19 ?dz_z19; (case hh_z19 => exact rfl); (case hd_z19 => with_reducible assumption); (case hD_z19 => (refine DatAll.mono ?_ hD; kcf_all)); (case hm_z19 => kcf_m); (case hoff_z19 => walk_at "mine ltn")); (all_goals (try clear lF' lN')); (case' tz_z19 => (intro o9 i9 r9 T9 t1 t2 u9 h9 tk9 own9 kI ki kr o1 o2 kT kF kN; (try k_fold))); (case' dz_z19 => (intro o9 u9 h9 tk9 kI kF kN; (try k_unfold); (try dsimp only)))))
  k_with "InvEndG" => (k_here; (rename Fr _ _ _ _ => lF'); (rename News _ _ _ _ => lN'); with_unfolding_all refine' Mine.hb_end lF' lN' ?k2_z20 ?k1_z20 ?n1_z20 ?n2_z20 ?n3_z20 ?n4_z20 ?n5_z20 ?l1_z20 ?l2_z20 ?o1_z20 ?o2_z20 ?j0_z20 ?j1_z20 ?j2_z20; (case k2_z20 => exact rfl); (case j1_z20 => with_reducible assumption); (case j2_z20 => with_reducible assumption); (case n1_z20 => kcf_m); (case n2_z20 => kcf_m); (case n3_z20 => kcf_m); (case n4_z20 => kcf_all); (case n5_z20 => kcf_all); (case l1_z20 => first | with_reducible assumption | exact And.right (by with_reducible assumption)); (case l2_z20 => with_reducible assumption); (case o1_z20 => with_reducible assumption); (case o2_z20 => with_reducible assumption); (case j0_z20 => with_reducible assumption); (case k1_z20 => (unfold Mine.wlNames; with_unfolding_all ksw_same)))
  k_with "InvEndG" => (k_here; (rename Fr _ _ _ _ => lF'); (rename News _ _ _ _ => lN'); with_unfolding_all refine' Mine.dz_end lF' lN' ?k1_z21 ?n1_z21 ?n2_z21 ?o1_z21 ?o2_z21 ?j0_z21 ?j1_z21 ?j2_z21; (case j2_z21 => with_reducible assumption); (case j0_z21 => with_reducible assumption); (case j1_z21 => with_reducible assumption); (case n1_z21 => kcf_all); (case n2_z21 => kcf_all); (case o1_z21 => with_reducible assumption); (case o2_z21 => with_reducible assumption); (case k1_z21 => (unfold Mine.wlNames; with_unfolding_all ksw_same)))
  k_with "InvEndG" => (k_here; (rename Fr _ _ _ _ => lF'); (rename News _ _ _ _ => lN'); with_unfolding_all refine' Mine.up_end lF' lN' ?k1_z22 ?n1_z22 ?n2_z22 ?n3_z22 ?o2_z22 ?j0_z22 ?j1_z22 ?j2_z22; (case j1_z22 => with_reducible assumption); (case j0_z22 => with_reducible assumption); (case j2_z22 => with_reducible assumption); (case n1_z22 => kcf_all); (case n2_z22 => kcf_all); (case n3_z22 => kcf_m); (case o2_z22 => with_reducible assumption); (case k1_z22 => (intro z h1 h2 _; simp only [h1, if_false])))
  k_with "setItem ref int" => (k_here; (with_reducible show wpAny _ _ (setItem (Value.ref _) (Value.int _ _) (Value.int _ _)) _ _ _); k_dflt (refine' Mine.idict_set ?F_z23 ?N_z23 ?U_z23 ?d_z23 ?z_z23 ?_; (case F_z23 => k_asm); (case N_z23 => k_asm); (case U_z23 => walk_at "mine updF"); (case d_z23 => with_reducible assumption); (case z_z23 => first | exact Mine.dpT_smallT (by with_reducible assumption) _ _ | exact Mine.dpT_small (by with_reducible assumption) _); k_whole); intro h' o' k9 F' N' kI'; (try dsimp only at N'); (try k_sweep))
  k_with "subscriptTail" => (k_here; (with_reducible show wpAny _ _ (subscriptTail _ _ (Value.ref _) (Value.int _ _)) _ _ _); k_dflt (refine' Mine.dep_item ?N_z24 ?m_z24 ?d_z24 ?lo_z24 ?k_z24 ?_; (case N_z24 => k_asm); (case m_z24 => kcf_m); (case d_z24 => with_reducible assumption); (case lo_z24 => with_reducible assumption); (case k_z24 => with_reducible assumption); k_whole); intro t9 k9)
  k_with "getMethod ref" => (k_here; (with_reducible show wpAny _ _ (getMethod (Value.ref _) (Str.ofString "sort") _) _ _ _); k_dflt (refine' kl_method ?N_z25 ?m_z25 PySem.F.slot_list_sort PySem.F.type_list_sort ?_; (case N_z25 => k_asm); (case m_z25 => kcf_m); k_whole))
  k_with "call builtin:list.sort" => (k_here; k_dflt (refine' Mine.hsort ?F_z26 ?N_z26 ?U_z26 ?D_z26 ?s_z26 ?z_z26 ?_; (case F_z26 => k_asm); (case N_z26 => k_asm); (case U_z26 => walk_at "mine updF"); (case D_z26 => with_reducible assumption); (case s_z26 => kcf_all); (case z_z26 => with_reducible assumption); k_whole); intro vr8 xs8 c8 h' tk' kl8 kp kD8 F' N'; (try dsimp only at N'); (try k_sweep))
  k_with "exec While Compare cons nil" => (k_here; (rename Fr _ _ _ _ => lF'); (rename News _ _ _ _ => lN'); (with_unfolding_all refine' Mine.dp_while lF' lN' ?k1_z27 ?k2_z27 ?k3_z27 ?hd_z27 ?hD_z27 ?hx_z27 ?hn_z27 ?h1_z27 ?hs_z27 ?o1_z27 ?o2_z27 ?o3_z27 ?y1_z27 ?y2_z27 ?y3_z27 ?_; (case y1_z27 => exact Mine.allLt_app2 (And.right (by with_reducible assumption))); (case y2_z27 => with_reducible assumption); (case y3_z27 => walk_at "mine ne"); (case k1_z27 => exact rfl); (case k2_z27 => exact rfl); (case k3_z27 => exact rfl); (case hx_z27 => with_reducible assumption); (case hd_z27 => with_reducible assumption); (case hD_z27 => with_reducible assumption); (case hn_z27 => with_reducible assumption); (case h1_z27 => with_reducible assumption); (case hs_z27 => kcf_all); (case o1_z27 => exact Mine.off_app (by first | with_reducible assumption | exact Mine.off_allLt (And.right (by with_reducible assumption)))); (case o2_z27 => exact Mine.off_app (by with_reducible assumption)); (case o3_z27 => with_reducible assumption); k_whole); (clear lF' lN'); intro vr9 cr9 tl9 xs9 o9 D9 od9 t9 u9 h9 tk9 y1 y2 y3 f1 f2 f3 kI kD kInv kl k1 k64 kF kN; (try k_fold))
  k_with "call builtin:len" => (k_here; (with_reducible show wpAny _ _ (call (Value.builtin "len") [Value.ref _]) _ _ _); k_dflt (refine' Mine.len_any ?N_z28 ?m_z28 (by with_reducible assumption) ?z_z28 ?_; (case N_z28 => k_asm); (case m_z28 => kcf_m); (case z_z28 => omega); k_whole); intro t9 k9)
  k_with "call builtin:list.pop" => (k_here; (with_reducible show wpAny _ _ (call (Value.builtin "list.pop") [Value.ref _, Value.int 0 _]) _ _ _); k_dflt (refine' Mine.pop_hit ?F_z29 ?N_z29 ?U_z29 ?D_z29 ?l_z29 ?z_z29 ?_; (case F_z29 => k_asm); (case N_z29 => k_asm); (case U_z29 => walk_at "mine updF"); (case D_z29 => with_reducible assumption); (case l_z29 => omega); (case z_z29 => omega); k_whole); intro x8 xs8 vr8 T8 t1 t2 k8 LA8 vs8 nn8 h' n' e8 kl8 kD8 kT8 kA8 kV8 F' N'; (have kz8 := congrArg List.length e8); (rw [List.length_cons] at kz8); (try dsimp only at N'); (try k_sweep))
  k_with "subscriptTail Name Constant ref int" => (k_here; first | ((with_reducible show wpAny _ _ (subscriptTail _ _ (Value.ref _) (Value.int 0 _)) _ _ _); k_dflt (refine' Mine.tup3_item0 ?N_z30 ?m_z30 ?p_z30 ?_; (case N_z30 => k_asm); (case m_z30 => kcf_m); (case p_z30 => exact rfl); k_whole)) | ((with_reducible show wpAny _ _ (subscriptTail _ _ (Value.ref _) (Value.int 2 _)) _ _ _); k_dflt (refine' Mine.tup3_item2 ?N_z30 ?m_z30 ?p_z30 ?_; (case N_z30 => k_asm); (case m_z30 => kcf_m); (case p_z30 => exact rfl); k_whole)))
  k_with "exec For Name Name cons nil" => (k_here; (rename Fr _ _ _ _ => lF'); (with_unfolding_all refine' For_invVF lF' ?k1_z31 ?k2_z31 ?_; (case k1_z31 => exact rfl); (case k2_z31 => exact rfl); k_whole))
  k_with "pyIter ref" => (k_here; (with_reducible show wpAny _ _ (pyIter (Value.ref _)) (fun it s₂ => LoopAtV _ _ _ _ _ _ _ _ _ it s₂) _ _); ((rename Fr _ _ _ _ => lF'); (rename News _ _ _ _ => lN'); (with_unfolding_all refine' Mine.up_for ?hh_z32 ?hj_z32 lF' lN' ?q0_z32 ?U_z32 ?hJ_z32 ?hd_z32 ?hin_z32 ?tu_z32 ?du_z32; (case hh_z32 => exact rfl); (case q0_z32 => exact rfl); (case hj_z32 => with_reducible assumption); (case hd_z32 => with_reducible assumption); (case U_z32 => walk_at "mine updF"); (case hJ_z32 => (intro _; kcf_m)); (case hin_z32 => exact Mine.dinv_in2 (by with_reducible assumption) (by with_reducible assumption) (by with_reducible assumption))); (all_goals (try clear lF' lN')); (case' tu_z32 => (intro o9 i9 l9 t9 h9 tk9 own9 kI kl9 kin o1 o2 kF kN; (try dsimp only [List.cons_append] at kN); (try k_fold))); (case' du_z32 => (intro o9 u9 h9 tk9 kI kF kN; (try dsimp only at kN); (try k_unfold); (try dsimp only)))))
  k_with "exec While BoolOp cons nil" => (k_here; (rename Fr _ _ _ _ => lF'); (rename News _ _ _ _ => lN'); (with_unfolding_all refine' Mine.pl_while lF' lN' ?k1_z33 ?e2_z33 ?e1_z33 ?_; (case k1_z33 => exact rfl); (case e2_z33 => with_reducible assumption); (case e1_z33 => with_reducible assumption); k_whole); (clear lF' lN'); intro p9 t9 h9 tk9 p0 p1 pz kF kN; (try k_fold))
  k_with "subscriptTail Name Name ref int" => (k_here; (with_reducible show wpAny _ _ (subscriptTail _ _ (Value.ref _) (Value.int _ _)) _ _ _); k_dflt (refine' Mine.hit_at ?N_z34 ?m_z34 ?d_z34 ?h0_z34 ?h1_z34 ?z_z34 ?_; (case N_z34 => k_asm); (case m_z34 => kcf_m); (case d_z34 => with_reducible assumption); (case h0_z34 => omega); (case h1_z34 => omega); (case z_z34 => omega); k_whole); intro x7 T7 t1 t2 c7 LA7 kx7 kT7)
  k_with "subscriptTail" => (k_here; (with_reducible show wpAny _ _ (subscriptTail _ (Expr.Slice _ _ _ _) (Value.ref _) (Value.ref _)) _ _ _); (rename Fr _ _ _ _ => F'); (rename News _ _ _ _ => N'); (refine Mine.slice_two (s := ⟨_, _, _, _, _⟩) F' N' (by kcf_m) rfl ?_); intro D' h' F' N' l1; (try k_lt l1))
  k_with "compareOp Lt ref ref" => (k_here; k_dflt (refine' Mine.lt_tup ?u_z36 ?N_z36 ?a_z36 ?ea_z36 ?b_z36 ?eb_z36 ?_; (case N_z36 => k_asm); (case a_z36 => kcf_m); (case b_z36 => kcf_m); (case ea_z36 => exact rfl); (case eb_z36 => exact rfl); (case u_z36 => walk_at "mine room"); k_whole))
  k_with "call builtin:list.insert" => (k_here; k_dflt (refine' Mine.ins_at ?F_z37 ?N_z37 ?U_z37 ?h0_z37 ?h1_z37 ?z_z37 ?_; (case F_z37 => k_asm); (case N_z37 => k_asm); (case U_z37 => walk_at "mine updF"); (case h0_z37 => omega); (case h1_z37 => omega); (case z_z37 => omega); k_whole); intro h' n' F' N'; (try dsimp only at N'); (try k_sweep))
  k_with "KswEnd" => (k_here; (rename Fr _ _ _ _ => lF'); (rename News _ _ _ _ => lN'); with_unfolding_all (refine' Mine.pl_end lF' lN' ?k1_z38 ?k2_z38 ?n1_z38 ?j1_z38 ?j2_z38 ?j3_z38 ?j4_z38 ?j5_z38; (case k1_z38 => exact rfl); (case k2_z38 => ksw_same); (case j4_z38 => with_reducible assumption); (case j5_z38 => with_reducible assumption); (case n1_z38 => kcf_all); (case j1_z38 => omega); (case j2_z38 => omega); (case j3_z38 => with_reducible assumption)))
  k_with "KswEnd" => (k_here; (rename Fr _ _ _ _ => lF'); (rename News _ _ _ _ => lN'); with_unfolding_all (refine' Mine.dp_end lF' lN' ?k1_z39 ?k2_z39 ?n1_z39 ?n2_z39 ?n3_z39 ?n4_z39 ?n5_z39 ?a1_z39 ?a2_z39 ?a3_z39 ?a4_z39 ?a5_z39 ?a6_z39 ?f1_z39 ?f2_z39 ?f3_z39 ?hd_z39 ?hD_z39 ?hI_z39 ?e1_z39 ?e2_z39 ?hj_z39 ?h0_z39 ?h1_z39 ?hz_z39 ?hst_z39; (case k1_z39 => exact rfl); (case k2_z39 => (unfold Mine.dpNames; with_unfolding_all ksw_same)); (case e2_z39 => with_reducible assumption); (case e1_z39 => with_reducible assumption); (case hI_z39 => with_reducible assumption); (case hd_z39 => with_reducible assumption); (case hD_z39 => with_reducible assumption); (case hj_z39 => with_reducible assumption); (case hz_z39 => with_reducible assumption); (case n2_z39 => kcf_m); (case n1_z39 => kcf_m); (case n3_z39 => kcf_m); (case n4_z39 => kcf_m); (case n5_z39 => kcf_all); (case h0_z39 => omega); (case h1_z39 => omega); (case hst_z39 => first | exact Or.inl (by with_reducible assumption) | exact Or.inl (by omega) | exact Or.inr ⟨_, by with_reducible assumption, by with_reducible assumption⟩); (case a1_z39 => walk_at "mine ne"); (case a2_z39 => walk_at "mine ne"); (case a3_z39 => walk_at "mine ne"); (case a4_z39 => walk_at "mine ne"); (case a5_z39 => walk_at "mine ltn"); (case a6_z39 => walk_at "mine ltn"); (case f1_z39 => with_reducible assumption); (case f2_z39 => with_reducible assumption); (case f3_z39 => with_reducible assumption)))
  k_with "binaryOp Add ref ref" => (k_here; k_dflt (refine' Mine.add_two ?F_z40 ?N_z40 ?l_z40 ?b_z40 ?i_z40 ?j_z40 ?z_z40 ?_; (case F_z40 => k_asm); (case N_z40 => k_asm); (case l_z40 => kcf_m); (case b_z40 => kcf_m); (case i_z40 => with_reducible assumption); (case j_z40 => with_reducible assumption); (case z_z40 => exact Mine.dinv_sz (by with_reducible assumption) (by with_reducible assumption) (by with_reducible assumption) (by with_reducible assumption)); k_whole); intro D' h' F' N' l1 kJ; (try k_lt l1); (try k_sweep))
  k_fill
  w_top off
  (
  unfold Mine.DpC
  intro RL vw nn ws news hRL hD hn h1 h64
  unfold Mine.Fun
  intro dp un gd cn cs a ccd cl outer A₀ base h₀ L m s Q E B F X N T hk hd hu hret
  refine wpAny_call ?_
  k_dflt (walk_at "mine enter"))
  k_steps
  all_goals first | exact Mine.dp_ret hret (by with_reducible assumption) (by with_reducible assumption) (by walk_at "mine ltn") (by walk_at "mine ltn") (by walk_at "mine ne") (by with_reducible assumption) (by with_reducible assumption) (by with_reducible assumption) (by with_reducible assumption) (by with_reducible assumption) (by with_reducible assumption) (by with_reducible assumption)
set_option maxRecDepth 100000 in
set_option maxHeartbeats 8000000 in
theorem Mine.cl_ctr {w : World} {p : Program} {loose : List Str} {mean : ExcName → Option Value} {mg mb : Str → Option Value} (cDP : Mine.DpC 46 PySem.Challenge.rw_ui0507_11.row.prog w (Mine.hd.heap_39 w.params) p loose mean mg mb) : Mine.ClC 52 PySem.Challenge.rw_ui0507_11.row.prog w (Mine.hd.heap_39 w.params) p loose mean mg mb := by
  k_with_none
  k_with "mine ne" => ((try dsimp only); first | assumption | k_ne | (refine Ne.symm ?_; assumption))
  k_with "mine off" => first | exact List.forall_mem_nil _ | assumption | exact Mine.off_lt (by assumption) | exact Mine.off_gt (by assumption) | (refine' List.forall_mem_cons.mpr ⟨?a_z1, ?b_z1⟩; (case a_z1 => walk_at "mine ne"); (case b_z1 => walk_at "mine off")) | (refine' List.forall_mem_append.mpr ⟨?a_z1, ?b_z1⟩; (case a_z1 => walk_at "mine off"); (case b_z1 => walk_at "mine off"))
  k_with "mine upd" => first | (refine' Upd.head ?a_z2; (case a_z2 => walk_at "mine off")) | (refine' Upd.tail ?a_z2 ?b_z2; (case a_z2 => walk_at "mine ne"); (case b_z2 => walk_at "mine upd"))
  k_with "mine size" => ((try law_lens); (simp only [List.size_toArray, Array.size_push, Array.size_append, List.length_append, List.length_cons, List.length_nil, List.length_take, List.length_drop, List.length_replicate, sizeLine_eq]); omega)
  k_with "call builtin:list.append" => (k_here; (with_reducible show wpAny _ _ (call (Value.builtin "list.append") [Value.ref _, _]) _ _ _); k_dflt (refine' append_K ?k1_z4 ?k2_z4 ?k3_z4 ?_ ?z_z4; (case k1_z4 => k_asm); (case k2_z4 => k_asm); (case k3_z4 => walk_at "mine upd"); (case z_z4 => walk_at "mine size"); k_whole); intro h' F' N'; (try k_sweep))
  k_with "mine updF" => first | (refine' UpdF.head ?a_z5; (case a_z5 => walk_at "mine off")) | (refine' UpdF.tail ?a_z5 ?b_z5; (case a_z5 => walk_at "mine ne"); (case b_z5 => walk_at "mine updF"))
  k_with "call builtin:list.extend" => (k_here; (with_reducible show wpAny _ _ (call (Value.builtin "list.extend") [Value.ref _, Value.ref _]) _ _ _); k_dflt (refine' Mine.extend_U ?k1_z6 ?k2_z6 ?kb_z6 ?k3_z6 ?z_z6 ?_; (case k1_z6 => k_asm); (case k2_z6 => k_asm); (case kb_z6 => k_mem); (case k3_z6 => walk_at "mine updF"); (case z_z6 => walk_at "mine size"); k_whole); intro h' n' F' N'; (try dsimp only at N'); (try k_sweep))
  k_with "mine upd" => first | (refine' Upd.head ?a_z7; (case a_z7 => walk_at "mine off")) | (refine' Upd.tail ?a_z7 ?b_z7; (case a_z7 => walk_at "mine ne"); (case b_z7 => walk_at "mine upd")) | (refine' Mine.upd_app ?a_z7 ?b_z7; (case a_z7 => first | with_reducible assumption | exact Mine.off_kL (by with_reducible assumption)); (case b_z7 => walk_at "mine upd"))
  k_with "mine off" => first | exact List.forall_mem_nil _ | assumption | exact Mine.off_lt (by assumption) | exact Mine.off_gt (by assumption) | exact Mine.off_allLt (And.right (by assumption)) | (refine' List.forall_mem_cons.mpr ⟨?a_z8, ?b_z8⟩; (case a_z8 => walk_at "mine ne"); (case b_z8 => walk_at "mine off")) | (refine' List.forall_mem_append.mpr ⟨?a_z8, ?b_z8⟩; (case a_z8 => walk_at "mine off"); (case b_z8 => walk_at "mine off"))
  k_with "mine enter" => (refine' code_def ?k1_z9 ?k2_z9 ?k3_z9 ?k4_z9 ?k5_z9 ?kA_z9 ?kF_z9 ?kK_z9 ?k6_z9 ?k7_z9 ?k8_z9 ?k9_z9 ?kB_z9 ?_ ?c2_z9 ?c3_z9 ?c4_z9 ?c5_z9; (case kA_z9 => exact rfl); (case kF_z9 => exact rfl); (case kK_z9 => first | assumption | exact rfl); (case k1_z9 => k_asm); (case k2_z9 => k_asm); (case k3_z9 => k_asm); (case k4_z9 => k_asm); (case k5_z9 => k_asm); (case k6_z9 => k_is); (case k7_z9 => k_is); (case k8_z9 => ktr_room); (case k9_z9 => first | exact BindsTo.of_eq rfl | exact binds_K (by k_in) rfl (by k_is) rfl rfl rfl); (case c5_z9 => decide); (case kB_z9 => exact locs rfl); (case c2_z9 => exact rfl); (case c3_z9 => exact rfl); (case c4_z9 => exact rfl); k_whole; intro g' L' h' FG' F' N' B' X' T'; (try dsimp only); (try k_lift B'); (try k_fold))
  k_with "mine bnd" => first | with_reducible assumption | omega
  k_with "call builtin:len" => (k_here; (with_reducible show wpAny _ _ (call (Value.builtin "len") [Value.ref _]) _ _ _); k_dflt (refine' Mine.len_at ?N_z11 ?m_z11 ?v_z11 ?z_z11 ?_; (case N_z11 => k_asm); (case m_z11 => kcf_m); (case v_z11 => with_reducible assumption); (case z_z11 => omega); k_whole); intro t9 k9)
  k_with "subscriptTail" => (k_here; (with_reducible show wpAny _ _ (subscriptTail _ _ (Value.ref _) (Value.int _ _)) _ _ _); k_dflt (refine' Mine.item_at ?N_z12 ?m_z12 ?v_z12 ?h0_z12 ?h1_z12 ?h2_z12 ?_; (case N_z12 => k_asm); (case m_z12 => kcf_m); (case v_z12 => with_reducible assumption); (case h0_z12 => omega); (case h1_z12 => omega); (case h2_z12 => omega); k_whole); intro t9)
  k_with "mine room" => first | ktr_room | ktr_units | ((simp only [units_in1, units_deeper, Around.mark_units, units_caller]); first | decide | omega)
  k_with "newTuple" => (k_here; k_dflt (refine' kup_newTuple ?F_z14 ?N_z14 ?_ ?z_z14; (case F_z14 => k_asm); (case N_z14 => k_asm); (case z_z14 => kmk_size)); intro D' h' F' N' l1; (try k_lt l1); (try k_sweep))
  k_with "call type:list" => (k_here; (with_reducible show wpAny _ _ (call (Value.type "list") [Value.bytes _ _]) _ _ _); k_dflt (refine' Mine.list_B ?hh_z15 ?F_z15 ?N_z15 ?b_z15 ?z_z15 ?_; (case hh_z15 => exact rfl); (case F_z15 => k_asm); (case N_z15 => k_asm); (case b_z15 => with_reducible assumption); (case z_z15 => omega); k_whole); intro D' c9 h' tk9 vs9 F' N' l1 i1; (try k_lt l1))
  k_with "exec For Name Call cons nil" => (k_here; (rename Fr _ _ _ _ => lF'); (with_unfolding_all refine' For_invVF lF' ?k1_z16 ?k2_z16 ?_; (case k1_z16 => exact rfl); (case k2_z16 => exact rfl); k_whole))
  k_with "exec For Name Name cons nil" => (k_here; (rename Fr _ _ _ _ => lF'); (with_unfolding_all refine' For_invVF lF' ?k1_z17 ?k2_z17 ?_; (case k1_z17 => exact rfl); (case k2_z17 => exact rfl); k_whole))
  k_with "mine ltn" => first | with_reducible assumption | exact Mine.allLt_mem (by with_reducible assumption)
  k_with "pyIter ref" => (k_here; (with_reducible show wpAny _ _ (pyIter (Value.ref _)) (fun it s₂ => LoopAtV _ _ _ _ _ _ _ _ _ it s₂) _ _); ((rename Fr _ _ _ _ => lF'); (rename News _ _ _ _ => lN'); (rename IsRange _ _ _ _ _ _ _ _ => rgX); (with_unfolding_all refine' Mine.cl_for ?hh_z19 rgX ?he_z19 lF' lN' ?hw_z19 ?hoff_z19 ?hlen_z19 ?tn_z19 ?dn_z19); (case he_z19 => exact rfl); (case hw_z19 => exact rfl); (case hlen_z19 => with_reducible assumption); (case hh_z19 => with_unfolding_all exact rfl); (case hoff_z19 => walk_at "mine ltn")); (all_goals (try clear lF' lN')); (case' tn_z19 => (intro tl9 vr9 cr9 i9 t9 h9 tk9 own9 kD kl ki ki0 ki1 o1 kL o2 kF kN; (try k_fold))); (case' dn_z19 => (intro tl9 vr9 cr9 u9 h9 tk9 kD kl o1 kL kF kN; (try k_unfold); (try dsimp only))))
  k_with "InvEndG" => (k_here; (rename Fr _ _ _ _ => lF'); (rename News _ _ _ _ => lN'); with_unfolding_all refine' Mine.cl_yes lF' lN' ?k1_z20 ?n1_z20 ?n2_z20 ?n3_z20 ?n4_z20 ?l1_z20 ?o1_z20 ?o2_z20 ?j0_z20 ?j1_z20 ?j2_z20; (case j1_z20 => with_reducible assumption); (case j2_z20 => with_reducible assumption); (case n1_z20 => kcf_m); (case n2_z20 => kcf_m); (case n3_z20 => kcf_all); (case n4_z20 => kcf_all); (case l1_z20 => with_reducible assumption); (case o1_z20 => with_reducible assumption); (case o2_z20 => with_reducible assumption); (case j0_z20 => with_reducible assumption); (case k1_z20 => (intro z h1 h2 _; simp only [h1, if_false])))
  k_with "InvEndG" => (k_here; (rename Fr _ _ _ _ => lF'); (rename News _ _ _ _ => lN'); with_unfolding_all refine' Mine.cl_no lF' lN' ?k1_z21 ?n1_z21 ?n2_z21 ?o1_z21 ?o2_z21 ?j0_z21 ?j1_z21 ?j2_z21; (case j1_z21 => with_reducible assumption); (case j2_z21 => with_reducible assumption); (case n1_z21 => kcf_all); (case n2_z21 => kcf_all); (case o1_z21 => with_reducible assumption); (case o2_z21 => with_reducible assumption); (case j0_z21 => with_reducible assumption); (case k1_z21 => (intro z h1 h2 _; simp only [h1, if_false])))
  k_with "call builtin:len" => (k_here; (with_reducible show wpAny _ _ (call (Value.builtin "len") [Value.ref _]) _ _ _); k_dflt (refine' Mine.len_any ?N_z22 ?m_z22 (by with_reducible assumption) ?z_z22 ?_; (case N_z22 => k_asm); (case m_z22 => kcf_m); (case z_z22 => omega); k_whole); intro t9 k9)
  k_with "call builtin:len" => (k_here; (with_reducible show wpAny _ _ (call (Value.builtin "len") [Value.ref _]) _ _ _); k_dflt (refine' Mine.len_at ?N_z23 ?m_z23 ?v_z23 ?z_z23 ?_; (case N_z23 => k_asm); (case m_z23 => kcf_m); (case v_z23 => with_reducible assumption); (case z_z23 => omega); k_whole); intro t9 k9)
  k_with "binaryOp LShift int int" => (k_here; k_dflt (refine' Mine.shl_lim ?a_z24 ?b_z24 ?_; (case a_z24 => with_reducible assumption); (case b_z24 => with_reducible assumption); k_whole); intro v9 t9 k9 kv9)
  k_with "binaryOp Mult ref int" => (k_here; k_dflt (refine' Mine.mul_zeros ?F_z25 ?N_z25 ?l_z25 ?z_z25 ?_; (case F_z25 => k_asm); (case N_z25 => k_asm); (case l_z25 => kcf_m); (case z_z25 => omega); k_whole); intro D' us9 h' F' N' l1 kU; (try k_lt l1); (try k_sweep))
  k_with "subscriptTail" => (k_here; (with_reducible show wpAny _ _ (subscriptTail _ _ (Value.ref _) (Value.int 1 _)) _ _ _); k_dflt (refine' Mine.tup2_item1 ?N_z26 ?m_z26 ?p_z26 ?_; (case N_z26 => k_asm); (case m_z26 => kcf_m); (case p_z26 => exact rfl); k_whole))
  k_with "subscriptTail Name Constant ref int" => (k_here; (with_reducible show wpAny _ _ (subscriptTail _ _ (Value.ref _) (Value.int 0 _)) _ _ _); k_dflt (refine' Mine.pair_first ?N_z27 ?m_z27 ?d_z27 ?l_z27 ?_; (case N_z27 => k_asm); (case m_z27 => kcf_m); (case d_z27 => with_reducible assumption); (case l_z27 => with_reducible assumption); k_whole); intro p9 T9 t1 t2 c9 kp9 kT9)
  k_with "setItem ref int" => (k_here; k_dflt (refine' Mine.set_upd ?F_z28 ?N_z28 ?U_z28 ?i_z28 ?h0_z28 ?h1_z28 ?z_z28 ?_; (case F_z28 => k_asm); (case N_z28 => k_asm); (case U_z28 => walk_at "mine updF"); (case i_z28 => with_reducible assumption); (case h0_z28 => first | omega | exact And.left (Mine.posW_in1 (by with_reducible assumption))); (case h1_z28 => first | omega | (rw [List.length_replicate]; exact And.right (Mine.posW_in1 (by with_reducible assumption)))); (case z_z28 => first | omega | (rw [List.length_replicate]; omega)); k_whole); intro h' vs8 F' N' kV8; (try dsimp only at N'); (try k_sweep))
  k_with "getMethod ref" => (k_here; (with_reducible show wpAny _ _ (getMethod (Value.ref _) (Str.ofString "sort") _) _ _ _); k_dflt (refine' kl_method ?N_z29 ?m_z29 PySem.F.slot_list_sort PySem.F.type_list_sort ?_; (case N_z29 => k_asm); (case m_z29 => kcf_m); k_whole))
  k_with "call builtin:list.sort" => (k_here; k_dflt (refine' Mine.psort ?F_z30 ?N_z30 ?U_z30 ?D_z30 ?s_z30 ?hn_z30 ?z_z30 ?_; (case F_z30 => k_asm); (case N_z30 => k_asm); (case U_z30 => walk_at "mine updF"); (case D_z30 => with_reducible assumption); (case s_z30 => kcf_all); (case hn_z30 => first | exact Mine.posW_nodup _ | exact Mine.half_nodup (by with_reducible assumption) (Mine.posW_nodup _)); (case z_z30 => first | omega | (rw [Mine.half_len]; omega)); k_whole); intro vr8 ws8 c8 h' tk' kl8 kp8 kD8 F' N'; first | (have kf8 := Mine.sort_facts kp8 (Mine.posW_nodup _); have kq8 := Mine.sort_pos kp8 (Mine.posW_pos _ _); obtain ⟨kf8, kg8, kh8⟩ := kf8; (try dsimp only at N'); (try k_sweep)) | (have kf8 := Mine.half_facts kp8 (by with_reducible assumption) (Mine.posW_nodup _) (by with_reducible assumption); obtain ⟨kh8, kf8, kg8, kq8⟩ := kf8; (rw [List.length_map] at kg8); (try dsimp only at N'); (try k_sweep)))
  k_with "call ref" => (k_here; (with_reducible show wpAny _ _ (call (Value.ref 46) [Value.ref _]) _ _ _); k_dflt ((rename Mine.DpC _ _ _ _ _ _ _ _ _ => cDP); refine' Mine.Fun.use ?kC_z31 ?k1_z31 ?k2_z31 ?k3_z31 ?k4_z31 ?k5_z31 ?kK_z31 ?kd_z31 ?ku_z31 ?_; (case k2_z31 => k_asm); (case k4_z31 => k_asm); (case kC_z31 => (refine' cDP _ _ _ _ _ ?l1_z31 ?l2_z31 ?l3_z31 ?l4_z31 ?l5_z31; (case l1_z31 => kcf_m); (case l2_z31 => (refine DatAll.mono ?_ (by with_reducible assumption); kcf_all)); (case l3_z31 => with_reducible assumption); (case l4_z31 => omega); (case l5_z31 => omega))); ((case k1_z31 => k_asm); (case k3_z31 => k_asm); (case k5_z31 => k_asm); (case kK_z31 => first | exact rfl | assumption); (case kd_z31 => first | ktr_room | (simp only [depth_in1, depth_deeper, Around.mark_depth, depth_caller]; omega)); (case ku_z31 => walk_at "mine room")); k_whole); (intro r9 nw9 h' tk9 kR F' N'); (unfold Mine.DpOut at kR); (obtain ⟨dd9, o9, tl8, D9, e1, e2, l1, s4, s5, lo9, kI, kO⟩ := kR); (subst e1); (subst e2))
  k_with "exec While Compare cons nil" => (k_here; (rename Fr _ _ _ _ => lF'); (rename News _ _ _ _ => lN'); (with_unfolding_all refine' Mine.cw_start lF' lN' ?k1_z32 ?k2_z32 ?k3_z32 ?h6_z32 ?hD_z32 ?hd_z32 ?hO_z32 ?hp_z32 ?hq_z32 ?hl_z32 ?hx_z32 ?h3_z32 ?h4_z32 ?hm_z32 ?h0_z32 ?h1_z32 ?h2_z32 ?h5_z32 ?h7_z32 ?hs_z32 ?lo_z32 ?_; (case h7_z32 => exact Mine.allLt_app2 (And.right (And.right (by with_reducible assumption)))); (case k1_z32 => exact rfl); (case k2_z32 => exact rfl); (case k3_z32 => exact rfl); (case hp_z32 => with_reducible assumption); (case hD_z32 => with_reducible assumption); (case h6_z32 => with_reducible assumption); (case hd_z32 => with_reducible assumption); (case hO_z32 => with_reducible assumption); (case hq_z32 => with_reducible assumption); (case hl_z32 => omega); (case hx_z32 => omega); (case h3_z32 => with_reducible assumption); (case h4_z32 => with_reducible assumption); (case hm_z32 => kcf_m); (case h0_z32 => kcf_all); (case h1_z32 => walk_at "mine ne"); (case h2_z32 => exact Mine.off_lt2 (by walk_at "mine ltn")); (case h5_z32 => exact Mine.tl_off (And.right (And.right (by with_reducible assumption)))); (case hs_z32 => kcf_all); (case lo_z32 => with_reducible assumption); k_whole); (clear lF' lN'); intro RW9 vr9 cr9 tl9 ws9 dd9 o9 D9 h9 tk9 kn1 kn2 kn3 kn4 lo9 kD9 kI9 kO9 kh9 kq9 kd9 kw9 kF kN; (try k_fold))
  k_with "getMethod ref" => (k_here; (with_reducible show wpAny _ _ (getMethod (Value.ref _) (Str.ofString "values") _) _ _ _); k_dflt (refine' Mine.idict_method ?i_z33 ?N_z33 ?m_z33 ?d_z33 ?lo_z33 ?_; (case i_z33 => exact rfl); (case N_z33 => k_asm); (case m_z33 => kcf_m); (case d_z33 => with_reducible assumption); (case lo_z33 => with_reducible assumption); k_whole))
  k_with "call builtin:dict.values" => (k_here; k_dflt (refine' Mine.idict_values ?F_z34 ?N_z34 ?m_z34 ?d_z34 ?lo_z34 ?_; (case F_z34 => k_asm); (case N_z34 => k_asm); (case m_z34 => kcf_m); (case d_z34 => with_reducible assumption); (case lo_z34 => with_reducible assumption); k_whole); intro v9 h' F' N' l1)
  k_with "call builtin:max" => (k_here; k_dflt (refine' Mine.idict_max ?hh_z35 ?F_z35 ?N_z35 ?m_z35 ?d_z35 ?c_z35 ?_; (case hh_z35 => exact rfl); (case F_z35 => k_asm); (case N_z35 => k_asm); (case m_z35 => kcf_m); (case d_z35 => with_reducible assumption); (case c_z35 => with_reducible assumption); k_whole); intro h' tk9 t9 M9 kM1 kM2 F' N')
  k_with "SrcLP" => (k_here; k_dflt (refine' Mine.hc_src ?hh_z36 ?F_z36 ?N_z36 ?m_z36 ?D_z36 ?s_z36 ?z_z36 ?tc_z36 ?dc_z36; (case hh_z36 => exact rfl); (case F_z36 => k_asm); (case N_z36 => k_asm); (case m_z36 => kcf_m); (case D_z36 => with_reducible assumption); (case s_z36 => kcf_all); (case z_z36 => omega)); (case' tc_z36 => (intro r9 t1 t2 I9 oI9 C9 oC9 Dc9 oD9 nx9 m9 h9 tk9 E9 kr9 hC9 hx9 hy9 kF kN)); (case' dc_z36 => (intro ys9 tl9 Dn9 h9 tk9 kyl kY kYl kYo kF kN; (try k_unfold); (try dsimp only))))
  k_with "HcEl" => (k_here; with_unfolding_all (refine' Mine.hc_el ?F_z37 ?N_z37 ?l_z37; (case F_z37 => k_asm); (case N_z37 => k_asm); (case l_z37 => with_reducible assumption)))
  k_with "pyIter ref" => (k_here; (with_reducible show wpAny _ _ (pyIter (Value.ref _)) (fun it s₂ => LoopAtV _ _ _ _ _ _ _ _ _ it s₂) _ _); ((rename Fr _ _ _ _ => lF'); (rename News _ _ _ _ => lN'); (with_unfolding_all refine' Mine.fl_at ?hh_z38 ?lo_z38 ?hk_z38 lF' lN' ?U_z38 ?hm_z38 ?hd_z38 ?hu_z38 ?hin_z38 ?tf_z38 ?df_z38); (case hh_z38 => exact rfl); (case hk_z38 => exact rfl); (case hd_z38 => with_reducible assumption); (case hu_z38 => with_reducible assumption); (case lo_z38 => with_reducible assumption); (case U_z38 => walk_at "mine updF"); (case hm_z38 => (intro _; kcf_m)); (case hin_z38 => exact Mine.leaves_in (by with_reducible assumption))); (all_goals (try clear lF' lN')); (case' tf_z38 => (intro vs9 n9 zs9 i9 l9 t9 h9 tk9 own9 kV kz kP kl9 k0 k1 kin o1 o2 kF kN; (try simp only [List.cons_append, List.append_assoc] at kN); (try k_fold))); (case' df_z38 => (intro vs9 n9 zs9 u9 h9 tk9 kV kP kF kN; (try dsimp only at kN); (try k_unfold); (try dsimp only))))
  k_with "subscriptTail" => (k_here; (with_reducible show wpAny _ _ (subscriptTail _ _ (Value.ref _) (Value.int _ _)) _ _ _); k_dflt (refine' Mine.dep_item ?N_z39 ?m_z39 ?d_z39 ?lo_z39 ?k_z39 ?_; (case N_z39 => k_asm); (case m_z39 => kcf_m); (case d_z39 => with_reducible assumption); (case lo_z39 => with_reducible assumption); (case k_z39 => with_reducible assumption); k_whole); intro t9 k9)
  k_with "InvEndG" => (k_here; (rename Fr _ _ _ _ => lF'); (rename News _ _ _ _ => lN'); with_unfolding_all refine' Mine.fl_end lF' lN' ?k1_z40 ?n1_z40 ?n2_z40 ?n3_z40 ?o2_z40 ?j0_z40 ?j1_z40 ?j2_z40 ?j3_z40 ?j4_z40; (case j2_z40 => with_reducible assumption); (case j1_z40 => with_reducible assumption); (case j0_z40 => with_reducible assumption); (case n1_z40 => kcf_all); (case n2_z40 => kcf_all); (case n3_z40 => kcf_m); (case o2_z40 => with_reducible assumption); (case j3_z40 => with_reducible assumption); (case j4_z40 => with_reducible assumption); (case k1_z40 => (intro z h1 h2 _; simp only [h1, if_false])))
  k_with "KswEnd" => (k_here; (rename Fr _ _ _ _ => lF'); (rename News _ _ _ _ => lN'); with_unfolding_all (refine' Mine.cw_end lF' lN' ?k1_z41 ?k2_z41 ?k3_z41 ?n1_z41 ?n2_z41 ?n3_z41 ?n4_z41 ?a1_z41 ?a2_z41 ?a3_z41 ?lo_z41 ?hD_z41 ?hd_z41 ?hO_z41 ?hP_z41 ?hp_z41 ?hq_z41 ?hn_z41 ?hx_z41 ?hh_z41 ?hM_z41 ?hg_z41 ?h8_z41; (case k1_z41 => exact rfl); (case k2_z41 => exact rfl); (case k3_z41 => ksw_same); (case hM_z41 => with_reducible assumption); (case hg_z41 => with_reducible assumption); (case h8_z41 => with_reducible assumption); (case hP_z41 => with_reducible assumption); (case hp_z41 => with_reducible assumption); (case hq_z41 => with_reducible assumption); (case hn_z41 => exact Mine.posW_nodup _); (case hx_z41 => (rw [List.length_map]; omega)); (case hh_z41 => with_reducible assumption); (case hd_z41 => with_reducible assumption); (case hO_z41 => with_reducible assumption); (case hD_z41 => with_reducible assumption); (case lo_z41 => with_reducible assumption); (case n1_z41 => kcf_m); (case n2_z41 => kcf_m); (case n3_z41 => kcf_all); (case n4_z41 => kcf_all); (case a1_z41 => exact Mine.ne_all (by with_reducible assumption) (by kcf_all)); (case a2_z41 => exact Mine.ne_allLt (by with_reducible assumption) (by kcf_all)); (case a3_z41 => exact Mine.ne_allTl (by with_reducible assumption) (by kcf_all))))
  k_with "mine updF" => first | (refine' UpdF.head ?a_z42; (case a_z42 => walk_at "mine off")) | (refine' UpdF.tail ?a_z42 ?b_z42; (case a_z42 => walk_at "mine ne"); (case b_z42 => walk_at "mine updF")) | (refine' Mine.updF_app ?a_z42 ?b_z42; (case a_z42 => with_reducible assumption); (case b_z42 => walk_at "mine updF"))
  k_fill
  w_top off
  (
  unfold Mine.ClC
  intro RC vc nc cs lim tlm news hRC hvc hcl hpl h8 h15
  unfold Mine.Fun
  intro dp un gd cn csc a ccd cl outer A₀ base h₀ L m s Q E B F X N T hk hd hu hret
  (have hpw := Mine.posW_len cs)
  refine wpAny_call ?_
  k_dflt (walk_at "mine enter"))
  k_steps
  all_goals first | exact Mine.cl_ret hret (by with_reducible assumption) (by with_reducible assumption) (by kcf_m) (by kcf_all) (by with_reducible assumption) (Mine.lenOk_none (by omega)) | exact Mine.cl_ret hret (by with_reducible assumption) (by with_reducible assumption) (by kcf_m) (by kcf_all) (by with_reducible assumption) (Mine.lenOk_one (by with_reducible assumption) (by omega) rfl) | exact Mine.cl_ret hret (by with_reducible assumption) (by with_reducible assumption) (by kcf_m) (by kcf_all) (by with_reducible assumption) (Mine.lenOk_fin (by with_reducible assumption) (by with_reducible assumption) (by with_reducible assumption) (by omega) (by with_reducible assumption) (by with_reducible assumption))
set_option maxRecDepth 100000 in
set_option maxHeartbeats 8000000 in
theorem Mine.kr_ctr {w : World} {p : Program} {loose : List Str} {mean : ExcName → Option Value} {mg mb : Str → Option Value} : Mine.KrC 59 PySem.Challenge.rw_ui0507_11.row.prog w (Mine.hd.heap_39 w.params) p loose mean mg mb := by
  k_with_none
  k_with "mine ne" => ((try dsimp only); first | assumption | k_ne | (refine Ne.symm ?_; assumption))
  k_with "mine off" => first | exact List.forall_mem_nil _ | assumption | exact Mine.off_lt (by assumption) | exact Mine.off_gt (by assumption) | (refine' List.forall_mem_cons.mpr ⟨?a_z1, ?b_z1⟩; (case a_z1 => walk_at "mine ne"); (case b_z1 => walk_at "mine off")) | (refine' List.forall_mem_append.mpr ⟨?a_z1, ?b_z1⟩; (case a_z1 => walk_at "mine off"); (case b_z1 => walk_at "mine off"))
  k_with "mine upd" => first | (refine' Upd.head ?a_z2; (case a_z2 => walk_at "mine off")) | (refine' Upd.tail ?a_z2 ?b_z2; (case a_z2 => walk_at "mine ne"); (case b_z2 => walk_at "mine upd"))
  k_with "mine size" => ((try law_lens); (simp only [List.size_toArray, Array.size_push, Array.size_append, List.length_append, List.length_cons, List.length_nil, List.length_take, List.length_drop, List.length_replicate, sizeLine_eq]); omega)
  k_with "call builtin:list.append" => (k_here; (with_reducible show wpAny _ _ (call (Value.builtin "list.append") [Value.ref _, _]) _ _ _); k_dflt (refine' append_K ?k1_z4 ?k2_z4 ?k3_z4 ?_ ?z_z4; (case k1_z4 => k_asm); (case k2_z4 => k_asm); (case k3_z4 => walk_at "mine upd"); (case z_z4 => walk_at "mine size"); k_whole); intro h' F' N'; (try k_sweep))
  k_with "mine updF" => first | (refine' UpdF.head ?a_z5; (case a_z5 => walk_at "mine off")) | (refine' UpdF.tail ?a_z5 ?b_z5; (case a_z5 => walk_at "mine ne"); (case b_z5 => walk_at "mine updF"))
  k_with "call builtin:list.extend" => (k_here; (with_reducible show wpAny _ _ (call (Value.builtin "list.extend") [Value.ref _, Value.ref _]) _ _ _); k_dflt (refine' Mine.extend_U ?k1_z6 ?k2_z6 ?kb_z6 ?k3_z6 ?z_z6 ?_; (case k1_z6 => k_asm); (case k2_z6 => k_asm); (case kb_z6 => k_mem); (case k3_z6 => walk_at "mine updF"); (case z_z6 => walk_at "mine size"); k_whole); intro h' n' F' N'; (try dsimp only at N'); (try k_sweep))
  k_with "mine upd" => first | (refine' Upd.head ?a_z7; (case a_z7 => walk_at "mine off")) | (refine' Upd.tail ?a_z7 ?b_z7; (case a_z7 => walk_at "mine ne"); (case b_z7 => walk_at "mine upd")) | (refine' Mine.upd_app ?a_z7 ?b_z7; (case a_z7 => first | with_reducible assumption | exact Mine.off_kL (by with_reducible assumption)); (case b_z7 => walk_at "mine upd"))
  k_with "mine off" => first | exact List.forall_mem_nil _ | assumption | exact Mine.off_lt (by assumption) | exact Mine.off_gt (by assumption) | exact Mine.off_allLt (And.right (by assumption)) | (refine' List.forall_mem_cons.mpr ⟨?a_z8, ?b_z8⟩; (case a_z8 => walk_at "mine ne"); (case b_z8 => walk_at "mine off")) | (refine' List.forall_mem_append.mpr ⟨?a_z8, ?b_z8⟩; (case a_z8 => walk_at "mine off"); (case b_z8 => walk_at "mine off"))
  k_with "mine enter" => (refine' code_def ?k1_z9 ?k2_z9 ?k3_z9 ?k4_z9 ?k5_z9 ?kA_z9 ?kF_z9 ?kK_z9 ?k6_z9 ?k7_z9 ?k8_z9 ?k9_z9 ?kB_z9 ?_ ?c2_z9 ?c3_z9 ?c4_z9 ?c5_z9; (case kA_z9 => exact rfl); (case kF_z9 => exact rfl); (case kK_z9 => first | assumption | exact rfl); (case k1_z9 => k_asm); (case k2_z9 => k_asm); (case k3_z9 => k_asm); (case k4_z9 => k_asm); (case k5_z9 => k_asm); (case k6_z9 => k_is); (case k7_z9 => k_is); (case k8_z9 => ktr_room); (case k9_z9 => first | exact BindsTo.of_eq rfl | exact binds_K (by k_in) rfl (by k_is) rfl rfl rfl); (case c5_z9 => decide); (case kB_z9 => exact locs rfl); (case c2_z9 => exact rfl); (case c3_z9 => exact rfl); (case c4_z9 => exact rfl); k_whole; intro g' L' h' FG' F' N' B' X' T'; (try dsimp only); (try k_lift B'); (try k_fold))
  k_with "mine bnd" => first | with_reducible assumption | omega
  k_with "call builtin:len" => (k_here; (with_reducible show wpAny _ _ (call (Value.builtin "len") [Value.ref _]) _ _ _); k_dflt (refine' Mine.len_at ?N_z11 ?m_z11 ?v_z11 ?z_z11 ?_; (case N_z11 => k_asm); (case m_z11 => kcf_m); (case v_z11 => with_reducible assumption); (case z_z11 => omega); k_whole); intro t9 k9)
  k_with "subscriptTail" => (k_here; (with_reducible show wpAny _ _ (subscriptTail _ _ (Value.ref _) (Value.int _ _)) _ _ _); k_dflt (refine' Mine.item_at ?N_z12 ?m_z12 ?v_z12 ?h0_z12 ?h1_z12 ?h2_z12 ?_; (case N_z12 => k_asm); (case m_z12 => kcf_m); (case v_z12 => with_reducible assumption); (case h0_z12 => omega); (case h1_z12 => omega); (case h2_z12 => omega); k_whole); intro t9)
  k_with "mine room" => first | ktr_room | ktr_units | ((simp only [units_in1, units_deeper, Around.mark_units, units_caller]); first | decide | omega)
  k_with "newTuple" => (k_here; k_dflt (refine' kup_newTuple ?F_z14 ?N_z14 ?_ ?z_z14; (case F_z14 => k_asm); (case N_z14 => k_asm); (case z_z14 => kmk_size)); intro D' h' F' N' l1; (try k_lt l1); (try k_sweep))
  k_with "call type:list" => (k_here; (with_reducible show wpAny _ _ (call (Value.type "list") [Value.bytes _ _]) _ _ _); k_dflt (refine' Mine.list_B ?hh_z15 ?F_z15 ?N_z15 ?b_z15 ?z_z15 ?_; (case hh_z15 => exact rfl); (case F_z15 => k_asm); (case N_z15 => k_asm); (case b_z15 => with_reducible assumption); (case z_z15 => omega); k_whole); intro D' c9 h' tk9 vs9 F' N' l1 i1; (try k_lt l1))
  k_with "exec For Name Name cons nil" => (k_here; (rename Fr _ _ _ _ => lF'); (with_unfolding_all refine' For_invVF lF' ?k1_z16 ?k2_z16 ?_; (case k1_z16 => exact rfl); (case k2_z16 => exact rfl); k_whole))
  k_with "pyIter ref" => (k_here; (with_reducible show wpAny _ _ (pyIter (Value.ref _)) (fun it s₂ => LoopAtV _ _ _ _ _ _ _ _ _ it s₂) _ _); ((rename Fr _ _ _ _ => lF'); (rename News _ _ _ _ => lN'); (with_unfolding_all refine' Mine.kr_for ?hh_z17 ?hj_z17 ?hb_z17 lF' lN' ?q0_z17 ?hJ_z17 ?tu_z17 ?du_z17; (case hh_z17 => exact rfl); (case q0_z17 => exact rfl); (case hj_z17 => with_reducible assumption); (case hb_z17 => with_reducible assumption); (case hJ_z17 => kcf_m))); (all_goals (try clear lF' lN')); (case' tu_z17 => (intro T9 t9 i9 l9 t2 h9 tk9 own9 kT kl9 k0 k15 o2 kF kN; (try dsimp only [List.cons_append] at kN); (try k_fold))); (case' du_z17 => (intro t9 u9 h9 tk9 kF kN; (try dsimp only at kN); (try k_unfold); (try dsimp only))))
  k_with "InvEndG" => (k_here; (rename Fr _ _ _ _ => lF'); (rename News _ _ _ _ => lN'); with_unfolding_all refine' Mine.kr_end lF' lN' ?hT_z18 ?k1_z18 ?n1_z18 ?n2_z18 ?n3_z18 ?o2_z18 ?j0_z18 ?j1_z18 ?hs_z18; (case hT_z18 => exact rfl); (case j1_z18 => with_reducible assumption); (case j0_z18 => with_reducible assumption); (case n1_z18 => kcf_all); (case n2_z18 => kcf_all); (case n3_z18 => kcf_m); (case o2_z18 => with_reducible assumption); (case hs_z18 => first | exact Mine.kr_yes (by with_reducible assumption) | exact Mine.kr_no (by with_reducible assumption)); (case k1_z18 => (intro z h1 h2 _; have h3 := h2 _ (.head _); simp only [h1, h3, if_false])))
  k_fill
  w_top off
  (
  unfold Mine.KrC
  intro RC vc nc ls news hRC hvc hcl hpl
  unfold Mine.Fun
  intro dp un gd cn csc a ccd cl outer A₀ base h₀ L m s Q E B F X N T hk hd hu hret
  refine wpAny_call ?_
  k_dflt (walk_at "mine enter"))
  k_steps
  all_goals first | exact Mine.kr_ret hret (by with_reducible assumption) (by with_reducible assumption) (by kcf_all) (by with_reducible rfl)
theorem Mine.cl_all {w : World} {p : Program} {loose : List Str} {mean : ExcName → Option Value} {mg mb : Str → Option Value} : Mine.ClC 52 PySem.Challenge.rw_ui0507_11.row.prog w (Mine.hd.heap_39 w.params) p loose mean mg mb := Mine.cl_ctr Mine.dp_ctr
set_option maxRecDepth 100000 in
set_option maxHeartbeats 60000000 in
theorem PySem.Challenge.cw_ui0507_11_holds : PySem.Challenge.rw_ui0507_11.Holds :=
  Mine.hd (by
  k_with_none
  k_with "mine ne" => ((try dsimp only); first | assumption | k_ne | (refine Ne.symm ?_; assumption))
  k_with "mine off" => first | exact List.forall_mem_nil _ | assumption | exact Mine.off_lt (by assumption) | exact Mine.off_gt (by assumption) | (refine' List.forall_mem_cons.mpr ⟨?a_z1, ?b_z1⟩; (case a_z1 => walk_at "mine ne"); (case b_z1 => walk_at "mine off")) | (refine' List.forall_mem_append.mpr ⟨?a_z1, ?b_z1⟩; (case a_z1 => walk_at "mine off"); (case b_z1 => walk_at "mine off"))
  k_with "mine upd" => first | (refine' Upd.head ?a_z2; (case a_z2 => walk_at "mine off")) | (refine' Upd.tail ?a_z2 ?b_z2; (case a_z2 => walk_at "mine ne"); (case b_z2 => walk_at "mine upd"))
  k_with "mine size" => ((try law_lens); (simp only [List.size_toArray, Array.size_push, Array.size_append, List.length_append, List.length_cons, List.length_nil, List.length_take, List.length_drop, List.length_replicate, sizeLine_eq]); omega)
  k_with "call builtin:list.append" => (k_here; (with_reducible show wpAny _ _ (call (Value.builtin "list.append") [Value.ref _, _]) _ _ _); k_dflt (refine' append_K ?k1_z4 ?k2_z4 ?k3_z4 ?_ ?z_z4; (case k1_z4 => k_asm); (case k2_z4 => k_asm); (case k3_z4 => walk_at "mine upd"); (case z_z4 => walk_at "mine size"); k_whole); intro h' F' N'; (try k_sweep))
  k_with "mine updF" => first | (refine' UpdF.head ?a_z5; (case a_z5 => walk_at "mine off")) | (refine' UpdF.tail ?a_z5 ?b_z5; (case a_z5 => walk_at "mine ne"); (case b_z5 => walk_at "mine updF"))
  k_with "call builtin:list.extend" => (k_here; (with_reducible show wpAny _ _ (call (Value.builtin "list.extend") [Value.ref _, Value.ref _]) _ _ _); k_dflt (refine' Mine.extend_U ?k1_z6 ?k2_z6 ?kb_z6 ?k3_z6 ?z_z6 ?_; (case k1_z6 => k_asm); (case k2_z6 => k_asm); (case kb_z6 => k_mem); (case k3_z6 => walk_at "mine updF"); (case z_z6 => walk_at "mine size"); k_whole); intro h' n' F' N'; (try dsimp only at N'); (try k_sweep))
  k_with "mine upd" => first | (refine' Upd.head ?a_z7; (case a_z7 => walk_at "mine off")) | (refine' Upd.tail ?a_z7 ?b_z7; (case a_z7 => walk_at "mine ne"); (case b_z7 => walk_at "mine upd")) | (refine' Mine.upd_app ?a_z7 ?b_z7; (case a_z7 => first | with_reducible assumption | exact Mine.off_kL (by with_reducible assumption)); (case b_z7 => walk_at "mine upd"))
  k_with "mine off" => first | exact List.forall_mem_nil _ | assumption | exact Mine.off_lt (by assumption) | exact Mine.off_gt (by assumption) | exact Mine.off_allLt (And.right (by assumption)) | (refine' List.forall_mem_cons.mpr ⟨?a_z8, ?b_z8⟩; (case a_z8 => walk_at "mine ne"); (case b_z8 => walk_at "mine off")) | (refine' List.forall_mem_append.mpr ⟨?a_z8, ?b_z8⟩; (case a_z8 => walk_at "mine off"); (case b_z8 => walk_at "mine off"))
  k_with "mine enter" => (refine' code_def ?k1_z9 ?k2_z9 ?k3_z9 ?k4_z9 ?k5_z9 ?kA_z9 ?kF_z9 ?kK_z9 ?k6_z9 ?k7_z9 ?k8_z9 ?k9_z9 ?kB_z9 ?_ ?c2_z9 ?c3_z9 ?c4_z9 ?c5_z9; (case kA_z9 => exact rfl); (case kF_z9 => exact rfl); (case kK_z9 => first | assumption | exact rfl); (case k1_z9 => k_asm); (case k2_z9 => k_asm); (case k3_z9 => k_asm); (case k4_z9 => k_asm); (case k5_z9 => k_asm); (case k6_z9 => k_is); (case k7_z9 => k_is); (case k8_z9 => ktr_room); (case k9_z9 => first | exact BindsTo.of_eq rfl | exact binds_K (by k_in) rfl (by k_is) rfl rfl rfl); (case c5_z9 => decide); (case kB_z9 => exact locs rfl); (case c2_z9 => exact rfl); (case c3_z9 => exact rfl); (case c4_z9 => exact rfl); k_whole; intro g' L' h' FG' F' N' B' X' T'; (try dsimp only); (try k_lift B'); (try k_fold))
  k_with "mine bnd" => first | with_reducible assumption | omega
  k_with "call builtin:len" => (k_here; (with_reducible show wpAny _ _ (call (Value.builtin "len") [Value.ref _]) _ _ _); k_dflt (refine' Mine.len_at ?N_z11 ?m_z11 ?v_z11 ?z_z11 ?_; (case N_z11 => k_asm); (case m_z11 => kcf_m); (case v_z11 => with_reducible assumption); (case z_z11 => omega); k_whole); intro t9 k9)
  k_with "subscriptTail" => (k_here; (with_reducible show wpAny _ _ (subscriptTail _ _ (Value.ref _) (Value.int _ _)) _ _ _); k_dflt (refine' Mine.item_at ?N_z12 ?m_z12 ?v_z12 ?h0_z12 ?h1_z12 ?h2_z12 ?_; (case N_z12 => k_asm); (case m_z12 => kcf_m); (case v_z12 => with_reducible assumption); (case h0_z12 => omega); (case h1_z12 => omega); (case h2_z12 => omega); k_whole); intro t9)
  k_with "mine room" => first | ktr_room | ktr_units | ((simp only [units_in1, units_deeper, Around.mark_units, units_caller]); first | decide | omega)
  k_with "newTuple" => (k_here; k_dflt (refine' kup_newTuple ?F_z14 ?N_z14 ?_ ?z_z14; (case F_z14 => k_asm); (case N_z14 => k_asm); (case z_z14 => kmk_size)); intro D' h' F' N' l1; (try k_lt l1); (try k_sweep))
  k_with "call type:list" => (k_here; (with_reducible show wpAny _ _ (call (Value.type "list") [Value.bytes _ _]) _ _ _); k_dflt (refine' Mine.list_B ?hh_z15 ?F_z15 ?N_z15 ?b_z15 ?z_z15 ?_; (case hh_z15 => exact rfl); (case F_z15 => k_asm); (case N_z15 => k_asm); (case b_z15 => with_reducible assumption); (case z_z15 => omega); k_whole); intro D' c9 h' tk9 vs9 F' N' l1 i1; (try k_lt l1))
  k_with "exec For Name Call cons nil" => (k_here; (rename Fr _ _ _ _ => lF'); (with_unfolding_all refine' For_invVF lF' ?k1_z16 ?k2_z16 ?_; (case k1_z16 => exact rfl); (case k2_z16 => exact rfl); k_whole))
  k_with "mine ltn" => first | with_reducible assumption | exact Mine.allLt_mem (by with_reducible assumption) | exact List.forall_mem_nil _ | (refine' List.forall_mem_cons.mpr ⟨?a_z17, ?b_z17⟩; (case a_z17 => ((try dsimp only); (show @LT.lt Nat _ _ _); first | with_reducible assumption | omega)); (case b_z17 => walk_at "mine ltn"))
  k_with "pyIter ref" => (k_here; (with_reducible show wpAny _ _ (pyIter (Value.ref _)) (fun it s₂ => LoopAtV _ _ _ _ _ _ _ _ _ it s₂) _ _); ((rename Fr _ _ _ _ => lF'); (rename News _ _ _ _ => lN'); (rename IsRange _ _ _ _ _ _ _ _ => rgX); (with_unfolding_all refine' Mine.cl_for ?hh_z18 rgX ?he_z18 lF' lN' ?hw_z18 ?hoff_z18 ?hlen_z18 ?tn_z18 ?dn_z18); (case he_z18 => exact rfl); (case hw_z18 => exact rfl); (case hlen_z18 => with_reducible assumption); (case hh_z18 => with_unfolding_all exact rfl); (case hoff_z18 => walk_at "mine ltn")); (all_goals (try clear lF' lN')); (case' tn_z18 => (intro tl9 vr9 cr9 i9 t9 h9 tk9 own9 kD kl ki ki0 ki1 o1 kL o2 kF kN; (try k_fold))); (case' dn_z18 => (intro tl9 vr9 cr9 u9 h9 tk9 kD kl o1 kL kF kN; (try k_unfold); (try dsimp only))))
  k_with "InvEndG" => (k_here; (rename Fr _ _ _ _ => lF'); (rename News _ _ _ _ => lN'); with_unfolding_all refine' Mine.cl_yes lF' lN' ?k1_z19 ?n1_z19 ?n2_z19 ?n3_z19 ?n4_z19 ?l1_z19 ?o1_z19 ?o2_z19 ?j0_z19 ?j1_z19 ?j2_z19; (case j1_z19 => with_reducible assumption); (case j2_z19 => with_reducible assumption); (case n1_z19 => kcf_m); (case n2_z19 => kcf_m); (case n3_z19 => kcf_all); (case n4_z19 => kcf_all); (case l1_z19 => with_reducible assumption); (case o1_z19 => with_reducible assumption); (case o2_z19 => with_reducible assumption); (case j0_z19 => with_reducible assumption); (case k1_z19 => (intro z h1 h2 _; simp only [h1, if_false])))
  k_with "InvEndG" => (k_here; (rename Fr _ _ _ _ => lF'); (rename News _ _ _ _ => lN'); with_unfolding_all refine' Mine.cl_no lF' lN' ?k1_z20 ?n1_z20 ?n2_z20 ?o1_z20 ?o2_z20 ?j0_z20 ?j1_z20 ?j2_z20; (case j1_z20 => with_reducible assumption); (case j2_z20 => with_reducible assumption); (case n1_z20 => kcf_all); (case n2_z20 => kcf_all); (case o1_z20 => with_reducible assumption); (case o2_z20 => with_reducible assumption); (case j0_z20 => with_reducible assumption); (case k1_z20 => (intro z h1 h2 _; simp only [h1, if_false])))
  k_with "call builtin:len" => (k_here; (with_reducible show wpAny _ _ (call (Value.builtin "len") [Value.ref _]) _ _ _); k_dflt (refine' Mine.len_any ?N_z21 ?m_z21 (by with_reducible assumption) ?z_z21 ?_; (case N_z21 => k_asm); (case m_z21 => kcf_m); (case z_z21 => omega); k_whole); intro t9 k9)
  k_with "call builtin:len" => (k_here; (with_reducible show wpAny _ _ (call (Value.builtin "len") [Value.ref _]) _ _ _); k_dflt (refine' Mine.len_at ?N_z22 ?m_z22 ?v_z22 ?z_z22 ?_; (case N_z22 => k_asm); (case m_z22 => kcf_m); (case v_z22 => with_reducible assumption); (case z_z22 => omega); k_whole); intro t9 k9)
  k_with "binaryOp LShift int int" => (k_here; (try k_fmods); k_dflt (refine' Mine.shl_pow ?a_z23 ?b_z23 ?v_z23 ?_; (case v_z23 => with_reducible assumption); (case a_z23 => l_fact); (case b_z23 => l_fact); k_whole); intro t9 k9)
  k_with "binaryOp Pow int int" => (k_here; (with_reducible show wpAny _ _ (binaryOp Operator.Pow (Value.int 2 _) (Value.int _ _)) _ _ _); (try k_fmods); k_dflt (refine' Mine.pow_lim ?a_z24 ?b_z24 ?_; (case a_z24 => l_fact); (case b_z24 => l_fact); k_whole); intro v9 t9 k9 kv9 kva kvb)
  k_with "binaryOp Mult ref int" => (k_here; (try k_fmods); k_dflt (refine' Mine.mul_zerosI ?F_z25 ?N_z25 ?l_z25 ?y_z25 ?z_z25 ?_; (case F_z25 => k_asm); (case N_z25 => k_asm); (case l_z25 => kcf_m); (case y_z25 => l_fact); (case z_z25 => l_fact); k_whole); intro D' us9 h' F' N' l1 kU; (try k_lt l1); (try k_sweep))
  k_with "binaryOp Add ref ref" => (k_here; k_dflt (refine' Mine.add_two ?F_z26 ?N_z26 ?l_z26 ?b_z26 ?i_z26 ?j_z26 ?z_z26 ?_; (case F_z26 => k_asm); (case N_z26 => k_asm); (case l_z26 => kcf_m); (case b_z26 => kcf_m); (case i_z26 => with_reducible assumption); (case j_z26 => with_reducible assumption); (case z_z26 => ((simp only [List.length_replicate]); (try k_fmods); l_fact)); k_whole); intro D' h' F' N' l1 kJ; (try k_lt l1); (try k_sweep))
  k_with "binaryOp Add ref ref" => (k_here; k_dflt (refine' Mine.add_pads ?F_z27 ?N_z27 ?l_z27 ?b_z27 ?i_z27 ?j_z27 ?p_z27 ?z_z27 ?_; (case F_z27 => k_asm); (case N_z27 => k_asm); (case l_z27 => kcf_m); (case b_z27 => kcf_m); (case i_z27 => with_reducible assumption); (case j_z27 => with_reducible assumption); (case p_z27 => with_reducible assumption); (case z_z27 => ((try k_fmods); l_fact)); k_whole); intro D' h' vs9 cs9 F' N' l1 kI9 kl9 kp9; (have kw9 := Mine.posW_len cs9); (have kz9 : cs9.length ≤ 1000 := by l_fact); (try k_lt l1); (try k_sweep))
  k_with "CompSrc" => (k_here; k_dflt (refine LCg.CompSrc.range (by rfl) (by k_asm) (by k_asm) (by assumption) (by exact small_one (by l_bnd) (by l_bnd) (by l_bnd) (by l_bnd)) (by exact rangeSize_nat _ _) (by (rw [sizeLine_eq]; l_fact)) ?_; intro g'; (refine' Mine.posK_range ?_ ?_); (focus (intro k' t' I' oI' C' oC' D' m' ys' h' tk' E' hlo' hhi' hC' hx' F' N' off' ne'; (try (simp only [LCg.Off3, and_true] at off')); (try k_fold))); rotate_left; (focus (intro ys9 zs9 kI9 kl9 kp9)); rotate_left))
  k_with "CompEnd int" => (k_here; (try k_fmods); refine' Mine.endP ?F_z29 ?N_z29 ?o_z29 ?su_z29 ?sr_z29 ?p_z29 ?y_z29; (case F_z29 => with_reducible assumption); (case N_z29 => with_reducible assumption); (case o_z29 => first | assumption | (simp only [LCg.Off3, and_true]; done) | (simp only [LCg.Off3, and_true]; assumption)); (case su_z29 => kcf_all); (case sr_z29 => first | exact True.intro | lcg_src | assumption); (case y_z29 => exact rfl); (case p_z29 => first | exact Int.pow_pos (by decide) | l_fact))
  k_with "call ref" => (k_here; (with_reducible show wpAny _ _ (call (Value.ref 52) [Value.ref _, Value.int _ _]) _ _ _); k_dflt (refine wpAny_call ?_; walk_at "mine enter"))
  k_with "call ref" => (k_here; (with_reducible show wpAny _ _ (call (Value.ref 52) [Value.ref _, Value.int _ _]) _ _ _); k_dflt ((rename Mine.ClC _ _ _ _ _ _ _ _ _ => cCL); refine' Mine.Fun.use ?kC_z31 ?k1_z31 ?k2_z31 ?k3_z31 ?k4_z31 ?k5_z31 ?kK_z31 ?kd_z31 ?ku_z31 ?_; (case k2_z31 => k_asm); (case k4_z31 => k_asm); (case kC_z31 => (refine' cCL _ _ _ _ _ _ _ ?l1_z31 ?l2_z31 ?l3_z31 ?l4_z31 ?l5_z31 ?l6_z31; (case l1_z31 => kcf_m); (case l2_z31 => with_reducible assumption); (case l3_z31 => l_fact); (case l4_z31 => l_fact); (case l5_z31 => l_fact); (case l6_z31 => l_fact))); ((case k1_z31 => k_asm); (case k3_z31 => k_asm); (case k5_z31 => k_asm); (case kK_z31 => first | exact rfl | assumption); (case kd_z31 => first | ktr_room | (simp only [depth_in1, depth_deeper, Around.mark_depth, depth_caller]; omega)); (case ku_z31 => walk_at "mine room")); k_whole); (intro r9 nw9 h' tk9 kR F' N'); (unfold Mine.ClOut at kR); (obtain ⟨R9, vs8, n8, ls9, e1, e2, kI8, kL8⟩ := kR); (have kl8 := Mine.okLenN kL8); (subst e1); (subst e2))
  k_with "call ref" => (k_here; (with_reducible show wpAny _ _ (call (Value.ref 59) [Value.ref _]) _ _ _); k_dflt ((rename Mine.KrC _ _ _ _ _ _ _ _ _ => cKR); refine' Mine.Fun.use ?kC_z32 ?k1_z32 ?k2_z32 ?k3_z32 ?k4_z32 ?k5_z32 ?kK_z32 ?kd_z32 ?ku_z32 ?_; (case k2_z32 => k_asm); (case k4_z32 => k_asm); (case kC_z32 => (refine' cKR _ _ _ _ _ ?l1_z32 ?l2_z32 ?l3_z32 ?l4_z32; (case l1_z32 => kcf_m); (case l2_z32 => with_reducible assumption); (case l3_z32 => l_fact); (case l4_z32 => exact Mine.lenOk_15 (by with_reducible assumption) (by l_fact) (by l_fact)))); ((case k1_z32 => k_asm); (case k3_z32 => k_asm); (case k5_z32 => k_asm); (case kK_z32 => first | exact rfl | assumption); (case kd_z32 => first | ktr_room | (simp only [depth_in1, depth_deeper, Around.mark_depth, depth_caller]; omega)); (case ku_z32 => walk_at "mine room")); k_whole); (intro r9 nw9 h' tk9 kR F' N'); (obtain ⟨e2, t9, e1⟩ := kR); (subst e1); (subst e2))
  k_with "noteFrame ref" => (k_here; (rename RaisedK _ _ _ _ _ _ _ _ => rkX); (refine' Mine.caught_ownN (bmB := [.type "ValueError", .type "Exception", .type "BaseException", .type "object"]) (newId := "ValueError.__new__") ?hf_z33 ?hl_z33 ?K_z33 ?F_z33 ?U_z33 ?R_z33 ?X_z33 ?T_z33 ?ey_z33 ?q_z33 ?nm_z33 ?hb_z33 ?lo_z33 ?hp_z33 ?_; (case hf_z33 => rfl); (case hl_z33 => rfl); (case lo_z33 => rfl); (case hp_z33 => rfl); (case K_z33 => assumption); (case R_z33 => exact rkX); (case F_z33 => assumption); (case U_z33 => assumption); (case X_z33 => k_asm); (case T_z33 => k_asm); (case ey_z33 => k_is); (case q_z33 => k_exc); (case nm_z33 => (intro s₁ A₁ Q₁ E₁ F₁ h₁; (with_unfolding_all exact nameX_K F₁ (by k_asm) (by k_asm) (by k_is) h₁))); (case hb_z33 => rfl); k_whole); intro h' nw9 tk9 F' N' kG9; (try k_sweep))
  k_with "call type:str" => (k_here; (with_reducible show wpAny _ _ (call (Value.type "str") [Value.ref _]) _ _ _); (rename Got _ _ _ _ _ => gX); k_dflt (refine' Mine.str_own (x := Str.ofString "LimitError") (bmB := [.type "ValueError", .type "Exception", .type "BaseException", .type "object"]) (newId := "ValueError.__new__") ?hu_z34 ?X_z34 ?F_z34 ?T_z34 ?N_z34 ?su_z34 gX ?ey_z34 ?q_z34 ?hb_z34 ?hs_z34 ?_; (case F_z34 => k_asm); (case N_z34 => k_asm); (case X_z34 => k_asm); (case T_z34 => k_asm); (case su_z34 => kcf_all); (case ey_z34 => k_is); (case q_z34 => k_exc); (case hb_z34 => rfl); (case hs_z34 => first | k_is | kernel_rfl | with_unfolding_all rfl); (case hu_z34 => walk_at "mine room"); k_whole))
  k_with "bind" => (k_here; (with_reducible show wpAny _ _ (do bindName _ _ Value.none; unbindBehindTheSuite _ _ _) _ _ _); k_dflt (refine' Mine.name_goes ?hl_z35 ?F_z35 ?N_z35 ?lo_z35 ?hp_z35 ?_; (case F_z35 => k_asm); (case N_z35 => k_asm); (case hl_z35 => rfl); (case lo_z35 => rfl); (case hp_z35 => rfl); k_whole); intro h' v9 tk9 F' N'; (try k_sweep))
  k_with "mine atom" => first | exact Mine.AtomIs.int _ _ | exact Mine.AtomIs.bool _
  k_with "exec Try" => (k_here; refine wpAny_Try_except ?_)
  k_with "eval ListComp" => (k_here; (with_reducible show wpAny _ _ (eval (Expr.ListComp (Expr.Compare _ _ _ _) _ _ _) _) _ _ _); k_dflt (refine LCg.ListComp_U (F₀ := by k_asm) (by with_unfolding_all rfl) (by decide) (by rfl) (by decide) (by rfl) ?_))
  k_with "CompSrc" => (k_here; (with_reducible show LCg.CompSrc _ _ _ _ _ _ _ (PySem.Expr.Compare _ _ _ _) _ _ _ _ _ _); (try kcf_lens); k_dflt (refine LCg.CompSrc.ledger (by rfl) (by k_asm) (by k_asm) (by k_mem) (by kcf_size) ?_; intro g'; (refine' Mine.pos_list ?hI9_z39 ?_ ?_); (case hI9_z39 => with_reducible assumption); (focus (intro k' t' I' oI' C' oC' D' m' ys' h' tk' E' hk' hC' hx' F' N' off' ne'; (try (simp only [LCg.Off3, and_true] at off')); (try k_fold))); rotate_left; (focus (intro ys9 hB9)); rotate_left))
  k_with "CompEnd" => (refine Mine.endB (by assumption) (by assumption) (by kcf_all) (by first | assumption | (simp only [LCg.Off3, and_true]; done) | (simp only [LCg.Off3, and_true]; assumption)) (by first | exact True.intro | lcg_src | assumption) rfl)
  k_with "compareOp NotEq ref ref" => (k_here; k_dflt (refine' Mine.ne_bools ?u_z41 ?N_z41 ?a_z41 ?b_z41 ?p_z41 ?q_z41 ?e_z41 ?_; (case N_z41 => k_asm); (case a_z41 => kcf_m); (case b_z41 => kcf_m); (case p_z41 => with_reducible assumption); (case q_z41 => with_reducible assumption); (case e_z41 => exact Mine.lenOk_bools (by with_reducible assumption)); (case u_z41 => ke_room); k_whole))
  k_with "ElB" => (exact ⟨rfl, rfl⟩)
  k_with "call builtin:max" => (k_here; (with_reducible show wpAny _ _ (call (Value.builtin _) [Value.ref _]) _ _ _); k_dflt (refine' Mine.max_le ?hh_z43 ?F_z43 ?N_z43 ?m_z43 ?i_z43 ?L_z43 ?z_z43 ?ne_z43 ?_; (case hh_z43 => exact rfl); (case F_z43 => k_asm); (case N_z43 => k_asm); (case m_z43 => kcf_m); (case i_z43 => with_reducible assumption); (case L_z43 => with_reducible assumption); (case z_z43 => l_fact); (case ne_z43 => l_fact); k_whole); intro h' M9 t9 tk9 F' N' kM9; (try k_sweep))
  k_with "compareOp Eq int int" => (k_here; (with_reducible show wpAny _ _ (compareOp CmpOp.Eq (Value.int (Mine.krV _) _) _) _ _ _); k_dflt (refine' Mine.eq_full ?e_z44 ?_; (case e_z44 => exact Mine.krV_full (by with_reducible assumption) (by l_fact) (by l_fact) (by l_fact)); k_whole))
  k_with "execs cons Assign cons" => (k_here; (with_reducible refine wpAny_execs_cons ?_); (try dsimp only))
  w_strict (k_go0; (all_goals try k_fold); (refine Mine.bring (fun prog w K p loose mean mg mb => Mine.ClC 52 prog w K p loose mean mg mb ∧ Mine.KrC 59 prog w K p loose mean mg mb) (by assumption) (by assumption) ?ctr ?_); (case ctr => exact ⟨Mine.cl_all, Mine.kr_ctr⟩); rintro ⟨cCL0, cKR0⟩; k_steps; (all_goals (try k_data)); all_goals w_report))
