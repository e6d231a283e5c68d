import PyProof.Rows.All
import Wide.All
import OpenK.AllK
import Wide.FinOn
import PySem.Challenge.RW_ui0507_18
open PySem PySem.W PyProof.Rows PySem.Spec PySem.Calls
set_option Elab.async false
set_option compiler.extract_closed false
set_option genSizeOf false
set_option genInjectivity false
namespace Mine
/-- what a def does, wherever it is called: from the ledger news and the arguments vs it comes back with r and the ledger news' that R tells -/
def Fun (prog : Program) (w : World) (K : Frag) (p : Program) (loose : List Str) (mean : ExcName → Option Value) (mg mb : Str → Option Value) (k : Nat) (f : Addr) (vs : List Value) (news : List (Addr × Obj)) (R : Value → List (Addr × Obj) → Prop) : Prop :=
  ∀ (dp un : Nat) (gd : Option (List Code)) (cn : Str) (cs : Scope) (a : Addr) (ccd : Value) (cl : List (Str × Addr)) (outer : List Env) (A₀ : Around) (base h₀ : Heap) (L : Addr) (m : Str → Option Value) (s : Shared) (Q E : Value → Shared → Prop),
    Below A₀ base outer h₀ → Fr h₀ L s.heap m → K.In h₀ → News h₀ L s.heap news → Top p loose mean mg mb h₀ → cs.kind = .function → dp + k < recursionLimit → un + 8 * k < cLine →
    (∀ r news' h' tk', R r news' → Fr h₀ L h' m → News h₀ L h' news' → Q r { s with heap := h', toks := tk' }) →
    wpAny (model prog w) (ktrTop dp un gd cn cs L a ccd cl outer) (call (.ref f) vs) Q E s
theorem bring {α : Type} {prog : Program} {w : World} {A : Around} {tree : Sem α} {Q : α → Shared → Prop} {E : Value → Shared → Prop} {s : Shared} {K : Frag} {h₀ : Heap} {p : Program} {loose : List Str} {mean : ExcName → Option Value} {mg mb : Str → Option Value}
    (C : Program → World → Frag → Program → List Str → (ExcName → Option Value) → (Str → Option Value) → (Str → Option Value) → Prop) (_X : K.In h₀) (_T : Top p loose mean mg mb h₀) (ctr : C prog w K p loose mean mg mb) (h : C prog w K p loose mean mg mb → wpAny (model prog w) A tree Q E s) : wpAny (model prog w) A tree Q E s := h ctr
section
variable {prog : Program} {w : World} {A : Around} {E : Value → Shared → Prop} {s : Shared} {env : Env} {h₀ : Heap} {target : Expr} {body : List Stmt} {Q : Flow → Shared → Prop}
/-- a for over a list of the ledger's, its target whatever it is -/
theorem turns_list {l : Addr} {vs : List Value} {nn : Nat} {m₀ : Str → Option Value} {news : List (Addr × Obj)} (J : Nat → (Str → Option Value) → List (Addr × Obj) → Prop)
    (hh : A.handled = none) (hl : (l, listOf vs.toArray nn) ∈ news) (F : Fr h₀ env.locals s.heap m₀) (N : News h₀ env.locals s.heap news) (hj : J 0 m₀ news) (hJl : ∀ i m nx, J i m nx → (l, listOf vs.toArray nn) ∈ nx)
    (turn : ∀ i v m₁ news₁ h tk own, vs[i]? = some v → OwnOff own (news₁.map (·.1)) → J i m₁ news₁ → Fr h₀ env.locals h m₁ → News h₀ env.locals h (news₁ ++ own) →
      wpAny (model prog w) A (assign target env v) (fun _ s₃ => wpAny (model prog w) A (execs body env) (InvPostG h₀ env.locals (J (i + 1)) own { s with heap := h, toks := tk } Q) E s₃) E { s with heap := h, toks := tk })
    (done : ∀ m₁ news₁ h tk, J vs.length m₁ news₁ → Fr h₀ env.locals h m₁ → News h₀ env.locals h news₁ → Q .next { s with heap := h, toks := tk }) :
    wpAny (model prog w) A (pyIter (.ref l)) (fun it s₂ => TurnsAt prog w A h₀ env target body Q E it s₂) E s := by
  have hol : s.heap.get? l = some (listOf vs.toArray nn) := (N _ hl).1
  have hls : s.heap.IsList l vs.toArray := ⟨_, hol, rfl, nn, rfl⟩
  have hne : l ≠ s.heap.objs.size := Nat.ne_of_lt (Heap.lt_size hol)
  refine wpAny_pyIter_list hls ?_
  have W := Walks.list (prog := prog) (w := w) hh s.heap.objs.size l hne vs.toArray
  have hlen : vs.toArray.size = vs.length := by simp
  rw [hlen] at W
  refine ⟨_, _, _, vs.length, _, _, _, m₀, news, J, rfl, KTurns.ofWalks W fun i v s Q E st q => letGo_listiter st.1 q, ?_, ?_, ?_, ⟨⟨_, Heap.get?_push_size _ rfl, rfl, rfl⟩, hls.at fun o e => Heap.get?_push_of_some _ e⟩, F.push _, (fun p hp => ⟨Heap.get?_push_of_some _ (N p hp).1, (N p hp).2⟩), hj, ?_, ?_⟩
  · intro hm
    rcases List.mem_cons.mp hm with e | hm
    · exact absurd F.ns.lt (e ▸ Nat.lt_irrefl _)
    · exact (N _ hl).2.1 ((List.mem_singleton.mp hm).symm)
  · intro b hb
    rw [List.mem_singleton.mp hb]
    exact next_is_new F
  · intro p hp hI
    exact absurd (Heap.lt_size (N p hp).1) ((List.mem_singleton.mp hI) ▸ Nat.lt_irrefl _)
  · intro i v m₁ news₁ hh' tk' own hin hP hJ hoff hown hget hfp hst F₁ N₁
    have hl₁ := hJl _ _ _ hJ
    have hP' : vs[i]? = some v := by simpa using hP
    have hI0 : h₀.get? s.heap.objs.size = none := next_is_new F
    obtain ⟨⟨oI, hoI, _⟩, _⟩ := id hst
    have hIown : (s.heap.objs.size, oI) ∈ own.filter fun p => decide (p.1 = s.heap.objs.size) := List.mem_filter.mpr ⟨hfp _ (List.mem_cons.mpr (.inl rfl)) hI0 _ hoI, by simp⟩
    have hsep : OwnOff (own.filter fun p => decide (p.1 = s.heap.objs.size)) (news₁.map (·.1)) := by
      intro p hp b hb e
      obtain ⟨q, hq, rfl⟩ := List.mem_map.mp hb
      have h1 : p.1 = s.heap.objs.size := by simpa using (List.mem_filter.mp hp).2
      exact hoff q hq (List.mem_singleton.mpr (e ▸ h1))
    have N₂ : News h₀ env.locals hh' (news₁ ++ own.filter fun p => decide (p.1 = s.heap.objs.size)) := fun p hp => N₁ p ((List.mem_append.mp hp).elim (fun h => List.mem_append.mpr (.inr h)) fun h => List.mem_append.mpr (.inl ((List.mem_filter.mp h).1)))
    have hlo : hh'.get? l = some (listOf vs.toArray nn) := (N₁ _ (List.mem_append.mpr (.inr hl₁))).1
    refine wpAny_mono (turn i v m₁ news₁ hh' tk' _ hP' hsep hJ F₁ N₂) (fun _ s₃ p3 => wpAny_mono p3 (fun f s₂ p => ?_) fun _ _ e => e) fun _ _ e => e
    have fin : InvEndG h₀ env.locals (J (i + 1)) (own.filter fun p => decide (p.1 = s.heap.objs.size)) { s with heap := hh', toks := tk' } s₂ →
        LoopStepU h₀ env.locals [s.heap.objs.size] own (J (i + 1)) { s with heap := hh', toks := tk' } .next s₂ := by
      rintro ⟨h', tk, m', news', nx, e, F', N', hn, ho, ha, hm⟩
      refine ⟨rfl, h', tk, m', nx, e, F', fun p hp => ?_, fun p hp hq => ?_, hm⟩
      · rcases List.mem_append.mp hp with h | h
        · by_cases hI : p.1 = s.heap.objs.size
          · exact N' p (ho p (List.mem_filter.mpr ⟨h, by simpa using hI⟩))
          · have h1 : p.1 = l := by
              rcases List.mem_cons.mp (hown p h) with h2 | h2
              · exact absurd h2 hI
              · exact List.mem_singleton.mp h2
            have h2 : hh'.get? p.1 = some p.2 := hget p h
            rw [h1, hlo] at h2
            have h3 : p = (l, listOf vs.toArray nn) := Prod.ext h1 (Option.some.inj h2).symm
            rw [h3]
            exact N' _ (hn _ (hJl _ _ _ hm))
        · exact N' p (hn p h)
      · exact ha _ hIown p.1 (List.mem_map.mpr ⟨p, hp, rfl⟩) (List.mem_singleton.mp hq).symm
    cases f with
    | ret v => exact p
    | brk => exact p
    | next => exact fin p
    | cont => exact fin p
  · rintro h' tk m' news' F' N' _ hJ
    exact done m' news' h' tk hJ F' N'
end
section
variable {prog : Program} {w : World} {K : Frag} {p : Program} {loose : List Str} {mean : ExcName → Option Value} {mg mb : Str → Option Value} {k : Nat} {f : Addr} {vs : List Value} {news : List (Addr × Obj)} {R : Value → List (Addr × Obj) → Prop}
theorem Fun.use {dp un : Nat} {gd : Option (List Code)} {cn : Str} {cs : Scope} {a : Addr} {ccd : Value} {cl : List (Str × Addr)} {outer : List Env} {A₀ : Around} {base h₀ : Heap} {L : Addr} {m : Str → Option Value} {s : Shared} {Q E : Value → Shared → Prop}
    (C : Fun prog w K p loose mean mg mb k f vs news R) (B : Below A₀ base outer h₀) (F : Fr h₀ L s.heap m) (X : K.In h₀) (N : News h₀ L s.heap news) (T : Top p loose mean mg mb h₀) (hk : cs.kind = .function) (hd : dp + k < recursionLimit) (hu : un + 8 * k < cLine)
    (ret : ∀ r news' h' tk', R r news' → Fr h₀ L h' m → News h₀ L h' news' → Q r { s with heap := h', toks := tk' }) :
    wpAny (model prog w) (ktrTop dp un gd cn cs L a ccd cl outer) (call (.ref f) vs) Q E s := C _ _ _ _ _ _ _ _ _ _ _ _ _ _ _ _ _ B F X N T hk hd hu ret
end
/-- the ledger with o at O -/
def put (O : Addr) (o : Obj) (news : List (Addr × Obj)) : List (Addr × Obj) := news.map fun p => if p.1 = O then (O, o) else p
theorem put_nil {O : Addr} {o : Obj} : put O o [] = [] := rfl
theorem put_hit {O : Addr} {o o' : Obj} {r : List (Addr × Obj)} : put O o ((O, o') :: r) = (O, o) :: put O o r := by simp [put]
theorem put_miss {O : Addr} {o : Obj} {q : Addr × Obj} {r : List (Addr × Obj)} (h : q.1 ≠ O) : put O o (q :: r) = q :: put O o r := by simp [put, h]
theorem put_off {O : Addr} {o : Obj} {r : List (Addr × Obj)} (h : ∀ q ∈ r, q.1 ≠ O) : put O o r = r := by
  induction r with
  | nil => rfl
  | cons q r ih => rw [put_miss (h q (.head _)), ih fun x hx => h x (.tail _ hx)]
theorem mem_put {O : Addr} {o : Obj} {news : List (Addr × Obj)} {q : Addr × Obj} (h : q ∈ put O o news) : q = (O, o) ∨ (q.1 ≠ O ∧ q ∈ news) := by
  obtain ⟨x, hx, rfl⟩ := List.mem_map.mp h
  by_cases e : x.1 = O
  · rw [if_pos e]; exact .inl rfl
  · rw [if_neg e]; exact .inr ⟨e, hx⟩
section
variable {prog : Program} {w : World} {A : Around} {E : Value → Shared → Prop} {s : Shared} {h₀ : Heap} {L D b : Addr} {m : Str → Option Value} {news : List (Addr × Obj)} {its its2 : Array Value} {n n2 : Nat}
/-- extend by a list of the ledger's -/
theorem extend_U {g : Obj → List (Addr × Obj)} {Q : Value → Shared → Prop} (F : Fr h₀ L s.heap m) (N : News h₀ L s.heap news) (hb : (b, listOf its2 n2) ∈ news) (U : UpdF D (listOf its n) news g) (hz : its.size + its2.size ≤ sizeLine)
    (h : ∀ h' n', Fr h₀ L h' m → News h₀ L h' (g (listOf (its ++ its2) n')) → Q .none { s with heap := h' }) : wpAny (model prog w) A (call (.builtin "list.extend") [.ref D, .ref b]) Q E s := by
  obtain ⟨pre, post, rfl, hg, a, c⟩ := U.split
  obtain ⟨ys, rfl⟩ : ∃ ys : List Value, its = ys.toArray := ⟨its.toList, by rw [Array.toArray_toList]⟩
  refine extend_in F N a c (N _ hb).1 (fun h' n' F' N' => h h' n' F' ?_) (by rw [List.size_toArray] at hz; exact hz)
  rw [hg]
  have e : ys.toArray ++ its2 = (ys ++ its2.toList).toArray := by simp
  rw [e]
  exact N'
end
theorem off_lt {l : List (Addr × Obj)} {D : Addr} (h : ∀ p ∈ l, p.1 < D) : ∀ p ∈ l, p.1 ≠ D := fun p hp => Nat.ne_of_lt (h p hp)
theorem off_gt {l : List (Addr × Obj)} {D : Addr} (h : ∀ p ∈ l, D < p.1) : ∀ p ∈ l, p.1 ≠ D := fun p hp => Nat.ne_of_gt (h p hp)
/-- what holds ahead of turn i of a for -/
def RgJ {σ : Type} (Led : σ → List (Addr × Obj)) (ps : σ → List (Str × Value)) (x : Str) (stored : List Str) (m₀ : Str → Option Value) (P : Nat → σ → Prop) (i : Nat) (m : Str → Option Value) (nx : List (Addr × Obj)) : Prop :=
  ∃ c, nx = Led c ∧ P i c ∧ (∀ p ∈ ps c, m p.1 = some p.2) ∧ (∀ z, z ≠ x → (∀ p ∈ ps c, z ≠ p.1) → stored.contains z = false → m z = m₀ z)
theorem rg_end {σ : Type} {Led : σ → List (Addr × Obj)} {ps : σ → List (Str × Value)} {x : Str} {stored : List Str} {m₀ m' : Str → Option Value} {P : Nat → σ → Prop} {i : Nat} {h₀ h' : Heap} {L : Addr} {own news' : List (Addr × Obj)} {s₁ : Shared} {tk : Nat} (c' : σ)
    (F : Fr h₀ L h' m') (N : News h₀ L h' news') (hn : ∀ p ∈ Led c', p ∈ news') (ho : ∀ p ∈ own, p ∈ news') (ha : ∀ p ∈ own, ∀ q ∈ Led c', p.1 ≠ q.1) (hk : ∀ p ∈ ps c', m' p.1 = some p.2) (hr : ∀ z, z ≠ x → (∀ p ∈ ps c', z ≠ p.1) → stored.contains z = false → m' z = m₀ z) (hp : P i c') :
    InvEndG h₀ L (RgJ Led ps x stored m₀ P i) own s₁ { s₁ with heap := h', toks := tk } :=
  InvEndG.intro F N ⟨c', rfl, hp, hk, hr⟩ (fun p hp b hb => by obtain ⟨q, hq, rfl⟩ := List.mem_map.mp hb; exact ha p hp q hq) hn ho
section
variable {prog : Program} {w : World} {A : Around} {E : Value → Shared → Prop} {s : Shared} {env : Env} {h₀ : Heap} {x : Str} {body : List Stmt} {Q : Flow → Shared → Prop}
/-- a for over a range -/
theorem rg_for {σ : Type} {r : Addr} {a₀ b₀ : Int} {t₀ u₀ v₀ : Tok} {n : Nat} {m₀ : Str → Option Value} {news : List (Addr × Obj)} (Led : σ → List (Addr × Obj)) (ps : σ → List (Str × Value)) (stored : List Str) (P : Nat → σ → Prop) (c₀ : σ)
    (hh : A.handled = none) (hr : IsRange s.heap r a₀ b₀ 1 t₀ u₀ v₀) (hsmall : Builtin.Range.small a₀ b₀ 1 = true) (hsz : Builtin.Range.rangeSize a₀ b₀ 1 = (n : Int)) (F : Fr h₀ env.locals s.heap m₀) (N : News h₀ env.locals s.heap news) (hn : ∀ p ∈ Led c₀, p ∈ news) (hk : ∀ p ∈ ps c₀, m₀ p.1 = some p.2) (hp : P 0 c₀)
    (turn : ∀ (c : σ) (i : Nat) t (u : Str → Option Value) h tk own, i < n → P i c → (∀ p ∈ own, ∀ q ∈ Led c, p.1 ≠ q.1) →
      Fr h₀ env.locals h (fun y => if y = x then some (.int (a₀ + i) t) else kstB (fun z => if stored.contains z then u z else m₀ z) (ps c) y) → News h₀ env.locals h (Led c ++ own) →
      wpAny (model prog w) A (execs body env) (InvPostG h₀ env.locals (RgJ Led ps x stored m₀ P (i + 1)) own { s with heap := h, toks := tk } Q) E { s with heap := h, toks := tk })
    (done : ∀ (c : σ) (u : Str → Option Value) h tk, P n c → Fr h₀ env.locals h (fun y => if y = x then u y else kstB (fun z => if stored.contains z then u z else m₀ z) (ps c) y) → News h₀ env.locals h (Led c) → Q .next { s with heap := h, toks := tk }) :
    wpAny (model prog w) A (pyIter (.ref r)) (fun it s₂ => LoopAtV prog w A h₀ env x body Q E it s₂) E s := by
  refine wpAny_pyIter_range hr hsmall ?_
  have W : Walks prog w A s.heap.objs.size [s.heap.objs.size] [s.heap.objs.size] n (fun i v => i < n ∧ ∃ t, v = .int (a₀ + i * 1) t)
      (fun i h => IsRangeIter h s.heap.objs.size (a₀ + (i : Nat) * 1) ((n : Int) - (i : Nat)) 1) := (Walks.range hh _ a₀ 1 n).bound
  refine kdr_loop (RgJ Led ps x stored m₀ P) W (fun _ h => h) (fun _ h => h) ?_ ?_ ?_ ?_ (by show IsRangeIter _ _ _ _ _; rw [hsz]; simpa using Heap.get?_push_size _ rfl) (F.push _) (fun p hp => ⟨Heap.get?_push_of_some _ (N p (hn p hp)).1, (N p (hn p hp)).2⟩) ⟨c₀, rfl, hp, hk, fun _ _ _ _ => rfl⟩ ?_ ?_
  · intro i h hi b hb
    rw [List.mem_singleton.mp hb]
    exact ⟨_, hi⟩
  · intro hm
    exact absurd F.ns.lt ((List.mem_singleton.mp hm) ▸ Nat.lt_irrefl _)
  · intro b hb
    rw [List.mem_singleton.mp hb]
    exact next_is_new F
  · intro p hp hI
    exact absurd (Heap.lt_size (N p (hn p hp)).1) ((List.mem_singleton.mp hI) ▸ Nat.lt_irrefl _)
  · rintro i v m₁ nx h tk own hi ⟨_, t, rfl⟩ hoff ⟨c, rfl, hp', h1, h2⟩ F₁ N₁
    have e1 : a₀ + (i : Int) * 1 = a₀ + (i : Int) := by omega
    rw [e1] at F₁
    exact turn c i t m₁ h tk own hi hp' (fun p hp q hq => hoff p hp q.1 (List.mem_map.mpr ⟨q, hq, rfl⟩)) (kst_fr h1 h2 F₁) N₁
  · rintro m₁ nx h tk ⟨c, rfl, hp', h1, h2⟩ F₁ N₁
    exact done c m₁ h tk hp' (kst_frOut h1 h2 F₁) N₁
/-- a for over a list of the ledger's, by a name -/
theorem ls_for {σ : Type} {l : Addr} {vs : List Value} {nn : Nat} {m₀ : Str → Option Value} {news : List (Addr × Obj)} (Led : σ → List (Addr × Obj)) (ps : σ → List (Str × Value)) (stored : List Str) (P : Nat → σ → Prop) (c₀ : σ)
    (hh : A.handled = none) (hl : (l, listOf vs.toArray nn) ∈ news) (hlL : ∀ c, (l, listOf vs.toArray nn) ∈ Led c) (F : Fr h₀ env.locals s.heap m₀) (N : News h₀ env.locals s.heap news) (hn : ∀ p ∈ Led c₀, p ∈ news) (hk : ∀ p ∈ ps c₀, m₀ p.1 = some p.2) (hp : P 0 c₀)
    (turn : ∀ (c : σ) (i : Nat) v (u : Str → Option Value) h tk own, vs[i]? = some v → P i c → (∀ p ∈ own, ∀ q ∈ Led c, p.1 ≠ q.1) →
      Fr h₀ env.locals h (fun y => if y = x then some v else kstB (fun z => if stored.contains z then u z else m₀ z) (ps c) y) → News h₀ env.locals h (Led c ++ own) →
      wpAny (model prog w) A (execs body env) (InvPostG h₀ env.locals (fun m' nx => (l, listOf vs.toArray nn) ∈ nx ∧ RgJ Led ps x stored m₀ P (i + 1) m' nx) own { s with heap := h, toks := tk } Q) E { s with heap := h, toks := tk })
    (done : ∀ (c : σ) (u : Str → Option Value) h tk, P vs.length c → Fr h₀ env.locals h (fun y => if y = x then u y else kstB (fun z => if stored.contains z then u z else m₀ z) (ps c) y) → News h₀ env.locals h (Led c) → Q .next { s with heap := h, toks := tk }) :
    wpAny (model prog w) A (pyIter (.ref l)) (fun it s₂ => LoopAtV prog w A h₀ env x body Q E it s₂) E s := by
  refine kdl_iter (RgJ Led ps x stored m₀ P) hh (hlL c₀) F (fun p hp => N p (hn p hp)) ⟨c₀, rfl, hp, hk, fun _ _ _ _ => rfl⟩ ?_ ?_
  · rintro i v m₁ nx h tk own hi hoff hm ⟨c, rfl, hp', h1, h2⟩ F₁ N₁
    exact turn c i v m₁ h tk own hi hp' (fun p hp q hq => hoff p hp q.1 (List.mem_map.mpr ⟨q, hq, rfl⟩)) (kst_fr h1 h2 F₁) N₁
  · rintro m₁ nx h tk ⟨c, rfl, hp', h1, h2⟩ F₁ N₁
    exact done c m₁ h tk hp' (kst_frOut h1 h2 F₁) N₁
theorem ls_end {σ : Type} {Led : σ → List (Addr × Obj)} {ps : σ → List (Str × Value)} {x : Str} {stored : List Str} {m₀ m' : Str → Option Value} {P : Nat → σ → Prop} {i : Nat} {h' : Heap} {L l : Addr} {ol : Obj} {own news' : List (Addr × Obj)} {s₁ : Shared} {tk : Nat} (c' : σ)
    (F : Fr h₀ L h' m') (N : News h₀ L h' news') (hn : ∀ p ∈ Led c', p ∈ news') (ho : ∀ p ∈ own, p ∈ news') (hl : (l, ol) ∈ Led c') (ha : ∀ p ∈ own, ∀ q ∈ Led c', p.1 ≠ q.1) (hk : ∀ p ∈ ps c', m' p.1 = some p.2) (hr : ∀ z, z ≠ x → (∀ p ∈ ps c', z ≠ p.1) → stored.contains z = false → m' z = m₀ z) (hp : P i c') :
    InvEndG h₀ L (fun m' nx => (l, ol) ∈ nx ∧ RgJ Led ps x stored m₀ P i m' nx) own s₁ { s₁ with heap := h', toks := tk } :=
  InvEndG.intro F N ⟨hl, c', rfl, hp, hk, hr⟩ (fun p hp b hb => by obtain ⟨q, hq, rfl⟩ := List.mem_map.mp hb; exact ha p hp q hq) hn ho
end
/-- an object of the ledger's is set anew -/
theorem news_put {h₀ h h' : Heap} {L D : Addr} {o o' : Obj} {news : List (Addr × Obj)} (N : News h₀ L h news) (hm : (D, o) ∈ news) (hs : Heap.SameBut D h h') (ho : h'.get? D = some o') : News h₀ L h' (put D o' news) := by
  intro q hq
  rcases mem_put hq with rfl | ⟨hne, hq⟩
  · exact ⟨ho, (N _ hm).2.1, (N _ hm).2.2⟩
  · exact ⟨(hs.2 _ hne).trans (N q hq).1, (N q hq).2⟩
theorem flat_one (n : Nat) (v : Int) : (List.replicate n [v]).flatten = List.replicate n v := by
  induction n with
  | zero => rfl
  | succ k ih => rw [List.replicate_succ, List.flatten_cons, ih]; rfl
theorem in_app {a b : List Int} (ha : KBa.In a) (hb : KBa.In b) : KBa.In (a ++ b) := fun n hn => (List.mem_append.mp hn).elim (ha n) (hb n)
theorem in_rep {n : Nat} {v : Int} (h0 : 0 ≤ v) (h1 : v < 256) : KBa.In (List.replicate n v) := fun k hk => by rw [List.eq_of_mem_replicate hk]; exact ⟨h0, h1⟩
/-- the pairs that are counted, one by one -/
def cntL : List Int → List (Int × Int)
  | [] => []
  | [_] => []
  | [a, b] => [(a, b)]
  | a :: b :: c :: r => (a, b) :: (if a = b ∧ b = c then cntL (c :: r) else cntL (b :: c :: r))
/-- the row with b for each x y -/
def rpl (x y b : Int) : List Int → List Int
  | [] => []
  | [a] => [a]
  | a :: c :: r => if a = x ∧ c = y then b :: rpl x y b r else a :: rpl x y b (c :: r)
/-- how many are replaced -/
def rcn (x y : Int) : List Int → Nat
  | [] => 0
  | [_] => 0
  | a :: c :: r => if a = x ∧ c = y then rcn x y r + 1 else rcn x y (c :: r)
theorem rpl_len (x y b : Int) : ∀ l : List Int, (rpl x y b l).length + rcn x y l = l.length
  | [] => rfl
  | [_] => rfl
  | a :: c :: r => by
    unfold rpl rcn
    split
    · have := rpl_len x y b r; simp only [List.length_cons]; omega
    · have := rpl_len x y b (c :: r); simp only [List.length_cons] at this ⊢; omega
theorem rcn_cons (x y a : Int) : ∀ l : List Int, rcn x y l ≤ rcn x y (a :: l) ∧ rcn x y (a :: l) ≤ rcn x y l + 1
  | [] => by simp [rcn]
  | b :: l => by
    have ih := rcn_cons x y b l
    rw [show rcn x y (a :: b :: l) = if a = x ∧ b = y then rcn x y l + 1 else rcn x y (b :: l) from rfl]
    split <;> omega
theorem rcn_app (x y : Int) (l2 : List Int) : ∀ l1 : List Int, rcn x y l1 + rcn x y l2 ≤ rcn x y (l1 ++ l2)
  | [] => by simp [rcn]
  | [a] => by have := (rcn_cons x y a l2).1; simp [rcn]; omega
  | a :: b :: r => by
    show rcn x y (a :: b :: r) + _ ≤ rcn x y (a :: b :: (r ++ l2))
    rw [show rcn x y (a :: b :: r) = if a = x ∧ b = y then rcn x y r + 1 else rcn x y (b :: r) from rfl, show rcn x y (a :: b :: (r ++ l2)) = if a = x ∧ b = y then rcn x y (r ++ l2) + 1 else rcn x y (b :: (r ++ l2)) from rfl]
    split
    · have := rcn_app x y l2 r; omega
    · exact rcn_app x y l2 (b :: r)
theorem rcn_pow (x y : Int) (u t : List Int) (hu : 1 ≤ rcn x y u) : ∀ k : Nat, k ≤ rcn x y ((List.replicate k u).flatten ++ t)
  | 0 => Nat.zero_le _
  | k + 1 => by
    rw [List.replicate_succ, List.flatten_cons, List.append_assoc]
    have h1 := rcn_app x y ((List.replicate k u).flatten ++ t) u
    have h2 := rcn_pow x y u t hu k
    omega
theorem cnt_rcn (x y : Int) : ∀ l : List Int, (cntL l).count (x, y) = rcn x y l
  | [] => rfl
  | [_] => rfl
  | [a, b] => by
    simp only [cntL, rcn, List.count_cons, List.count_nil, beq_iff_eq, Prod.mk.injEq]
    split <;> simp
  | a :: b :: c :: r => by
    have h1 := cnt_rcn x y (c :: r)
    have h2 := cnt_rcn x y (b :: c :: r)
    rw [show rcn x y (a :: b :: c :: r) = if a = x ∧ b = y then rcn x y (c :: r) + 1 else rcn x y (b :: c :: r) from rfl]
    have h3 : rcn x y (b :: c :: r) = if b = x ∧ c = y then rcn x y r + 1 else rcn x y (c :: r) := rfl
    rw [show cntL (a :: b :: c :: r) = (a, b) :: (if a = b ∧ b = c then cntL (c :: r) else cntL (b :: c :: r)) from rfl, List.count_cons]
    by_cases hs : a = b ∧ b = c
    · rw [if_pos hs, h1]
      obtain ⟨rfl, rfl⟩ := hs
      by_cases hp : a = x ∧ a = y
      · obtain ⟨rfl, rfl⟩ := hp; simp
      · rw [if_neg hp, h3, if_neg hp]
        simp only [beq_iff_eq, Prod.mk.injEq]
        rw [if_neg hp]; rfl
    · rw [if_neg hs, h2]
      by_cases hp : a = x ∧ b = y
      · obtain ⟨rfl, rfl⟩ := hp
        have h4 : rcn a b (b :: c :: r) = rcn a b (c :: r) := by
          rw [h3, if_neg]
          rintro ⟨q1, q2⟩
          exact hs ⟨q1.symm, q2.symm⟩
        simp [h4]
      · rw [if_neg hp]
        simp only [beq_iff_eq, Prod.mk.injEq]
        rw [if_neg hp]; rfl
theorem cntL_mem : ∀ (l : List Int) (p : Int × Int), p ∈ cntL l → p.1 ∈ l ∧ p.2 ∈ l
  | [], _, h => (nomatch h)
  | [_], _, h => (nomatch h)
  | [a, b], p, h => by rw [List.mem_singleton.mp h]; simp
  | a :: b :: c :: r, p, h => by
    unfold cntL at h
    rcases List.mem_cons.mp h with rfl | h
    · simp
    · split at h
      · have := cntL_mem (c :: r) p h; exact ⟨.tail _ (.tail _ this.1), .tail _ (.tail _ this.2)⟩
      · have := cntL_mem (b :: c :: r) p h; exact ⟨.tail _ this.1, .tail _ this.2⟩
theorem cntL_len : ∀ l : List Int, (cntL l).length ≤ l.length - 1
  | [] => Nat.le_refl _
  | [_] => Nat.le_refl _
  | [a, b] => Nat.le_refl _
  | a :: b :: c :: r => by
    unfold cntL
    split
    · have := cntL_len (c :: r); simp only [List.length_cons] at this ⊢; omega
    · have := cntL_len (b :: c :: r); simp only [List.length_cons] at this ⊢; omega
theorem rpl_mem (x y b : Int) : ∀ (l : List Int) (v : Int), v ∈ rpl x y b l → v = b ∨ v ∈ l
  | [], _, h => (nomatch h)
  | [_], _, h => .inr h
  | a :: c :: r, v, h => by
    unfold rpl at h
    split at h
    · rcases List.mem_cons.mp h with h | h
      · exact .inl h
      · exact (rpl_mem x y b r v h).imp id fun h => .tail _ (.tail _ h)
    · rcases List.mem_cons.mp h with h | h
      · exact .inr (h ▸ .head _)
      · exact (rpl_mem x y b (c :: r) v h).imp id fun h => .tail _ h
/-- one rule undone -/
def lenOne (b x y : Int) (row : List Int) : List Int := row.flatMap fun v => if v = b then [x, y] else [v]
theorem lenOne_rpl (x y b : Int) : ∀ l : List Int, b ∉ l → lenOne b x y (rpl x y b l) = l
  | [], _ => rfl
  | [a], h => by
    have : a ≠ b := fun e => h (e ▸ .head _)
    simp [rpl, lenOne, this]
  | a :: c :: r, h => by
    have ha : a ≠ b := fun e => h (e ▸ .head _)
    unfold rpl
    split
    · rename_i e
      have ih := lenOne_rpl x y b r fun q => h (.tail _ (.tail _ q))
      unfold lenOne at ih ⊢
      rw [List.flatMap_cons, ih, if_pos rfl, e.1, e.2]; rfl
    · have ih := lenOne_rpl x y b (c :: r) fun q => h (.tail _ q)
      unfold lenOne at ih ⊢
      rw [List.flatMap_cons, ih, if_neg ha]; rfl
abbrev PRule := Int × Int × Int
def lenAll (rules : List PRule) (row : List Int) : List Int := rules.reverse.foldl (fun row r => lenOne r.1 r.2.1 r.2.2 row) row
theorem lenAll_snoc (rules : List PRule) (r : PRule) (row : List Int) : lenAll (rules ++ [r]) row = lenAll rules (lenOne r.1 r.2.1 r.2.2 row) := by simp [lenAll]
/-- how many bytes a sign stands for -/
def szUp (s : Int → Int) (r : PRule) : Int → Int := fun v => if v = r.1 then s r.2.1 + s r.2.2 else s v
def szAll (rules : List PRule) : Int → Int := rules.foldl szUp fun _ => 1
theorem szUp_rpl (s : Int → Int) (x y b : Int) : ∀ l : List Int, b ∉ l → ((rpl x y b l).map (szUp s (b, x, y))).sum = (l.map s).sum
  | [], _ => rfl
  | [a], h => by
    have : a ≠ b := fun e => h (e ▸ .head _)
    simp [rpl, szUp, this]
  | a :: c :: r, h => by
    have ha : a ≠ b := fun e => h (e ▸ .head _)
    unfold rpl
    split
    · rename_i e
      have ih := szUp_rpl s x y b r fun q => h (.tail _ (.tail _ q))
      simp only [List.map_cons, List.sum_cons] at ih ⊢
      rw [ih, e.1, e.2]
      simp only [szUp, if_true]
      omega
    · have ih := szUp_rpl s x y b (c :: r) fun q => h (.tail _ q)
      rw [List.map_cons, List.sum_cons, ih]
      simp only [szUp, if_neg ha, List.map_cons, List.sum_cons]
/-- what holds of rules and row between the rounds -/
structure PInv (data : List Int) (k : Nat) (rules : List PRule) (row : List Int) : Prop where
  back : lenAll rules row = data
  size : (row.map (szAll rules)).sum = (data.length : Int)
  bytes : ∀ v ∈ row, 0 ≤ v ∧ v < 256
  rbytes : ∀ r ∈ rules, (0 ≤ r.1 ∧ r.1 < 256) ∧ (0 ≤ r.2.1 ∧ r.2.1 < 256) ∧ (0 ≤ r.2.2 ∧ r.2.2 < 256)
  alph : ∃ al : List Int, al.length ≤ 5 + rules.length ∧ ∀ v ∈ row, v ∈ al
  first : rules.length = 0 → row = data
  len : row.length ≤ data.length
  len1 : 1 ≤ rules.length → row.length + k + 4 * (rules.length - 1) ≤ data.length
theorem pinv_start {data : List Int} {k : Nat} (hb : ∀ v ∈ data, 0 ≤ v ∧ v < 256) (ha : ∃ al : List Int, al.length ≤ 5 ∧ ∀ v ∈ data, v ∈ al) : PInv data k [] data := by
  refine ⟨rfl, ?_, hb, fun _ h => (nomatch h), by obtain ⟨al, h1, h2⟩ := ha; exact ⟨al, h1, h2⟩, fun _ => rfl, Nat.le_refl _, fun h => absurd h (by decide)⟩
  have e : szAll [] = fun _ => 1 := rfl
  rw [e]
  clear hb ha
  induction data with
  | nil => rfl
  | cons a r ih => rw [List.map_cons, List.sum_cons, ih, List.length_cons]; omega
theorem pinv_step {data : List Int} {k : Nat} {rules : List PRule} {row : List Int} (h : PInv data k rules row) {x y b : Int} (hb : b ∉ row) (hb0 : 0 ≤ b) (hb1 : b < 256) (hx : x ∈ row) (hy : y ∈ row)
    (h4 : 4 ≤ rcn x y row) (hk : rules.length = 0 → k ≤ rcn x y row) : PInv data k (rules ++ [(b, x, y)]) (rpl x y b row) := by
  have hl := rpl_len x y b row
  refine ⟨?_, ?_, ?_, ?_, ?_, fun e => ?_, ?_, fun _ => ?_⟩
  · rw [lenAll_snoc]; show lenAll rules (lenOne b x y _) = _; rw [lenOne_rpl x y b row hb, h.back]
  · have e : szAll (rules ++ [(b, x, y)]) = szUp (szAll rules) (b, x, y) := by simp [szAll]
    rw [e, szUp_rpl _ x y b row hb, h.size]
  · intro v hv
    rcases rpl_mem x y b row v hv with rfl | hv
    · exact ⟨hb0, hb1⟩
    · exact h.bytes v hv
  · intro r hr
    rcases List.mem_append.mp hr with hr | hr
    · exact h.rbytes r hr
    · rw [List.mem_singleton.mp hr]; exact ⟨⟨hb0, hb1⟩, h.bytes x hx, h.bytes y hy⟩
  · obtain ⟨al, h1, h2⟩ := h.alph
    refine ⟨b :: al, by simp only [List.length_cons, List.length_append, List.length_nil]; omega, fun v hv => ?_⟩
    rcases rpl_mem x y b row v hv with rfl | hv
    · exact .head _
    · exact .tail _ (h2 v hv)
  · simp at e
  · have := h.len; omega
  · rw [List.length_append, List.length_singleton]
    have h0 := h.len
    rcases Nat.eq_zero_or_pos rules.length with e | e
    · have := hk e; omega
    · have := h.len1 e; omega
/-- at most so many kinds of pairs -/
theorem nodup_sub_len {α : Type} [DecidableEq α] : ∀ {a b : List α}, a.Nodup → (∀ x ∈ a, x ∈ b) → a.length ≤ b.length
  | [], _, _, _ => Nat.zero_le _
  | x :: a, b, hn, h => by
    obtain ⟨hx, hn⟩ := List.nodup_cons.mp hn
    have hb := h x (.head _)
    have := nodup_sub_len (a := a) (b := b.erase x) hn fun y hy => (List.mem_erase_of_ne (fun e => hx (by rw [← e]; exact hy))).mpr (h y (.tail _ hy))
    rw [List.length_erase_of_mem hb] at this
    have := List.length_pos_of_mem hb
    simp only [List.length_cons]
    omega
theorem pinv_kinds {data : List Int} {k : Nat} {rules : List PRule} {row : List Int} (h : PInv data k rules row) (hd : data.length ≤ 72 + k) {ps : List (Int × Int)} (hn : ps.Nodup) (hp : ∀ p ∈ ps, p ∈ cntL row) : ps.length < 64 := by
  have h1 : ps.length ≤ row.length - 1 := Nat.le_trans (nodup_sub_len hn hp) (cntL_len row)
  rcases Nat.lt_or_ge rules.length 3 with h3 | h3
  · obtain ⟨al, a1, a2⟩ := h.alph
    have h2 : ps.length ≤ (al.flatMap fun x => al.map fun y => (x, y)).length := nodup_sub_len hn fun p hp' => by
      have := cntL_mem row p (hp p hp')
      exact List.mem_flatMap.mpr ⟨p.1, a2 _ this.1, List.mem_map.mpr ⟨p.2, a2 _ this.2, rfl⟩⟩
    have e : (al.flatMap fun x => al.map fun y => (x, y)).length = al.length * al.length := by
      rw [List.length_flatMap]
      have : ∀ l : List Int, (l.map fun x => (al.map fun y => (x, y)).length).sum = l.length * al.length := by
        intro l
        induction l with
        | nil => simp
        | cons a l ih => rw [List.map_cons, List.sum_cons, ih, List.length_map, List.length_cons, Nat.succ_mul]; omega
      exact this al
    rw [e] at h2
    have : al.length * al.length ≤ 7 * 7 := Nat.mul_le_mul (by omega) (by omega)
    omega
  · have := h.len1 (by omega)
    omega
/-- a number in groups of seven bits, the lowest first -/
def vint (n : Nat) : List Int := if n < 128 then [(n : Int)] else (128 + (n % 128 : Nat) : Int) :: vint (n / 128)
termination_by n
decreasing_by omega
theorem vint_small {n : Nat} (h : n < 128) : vint n = [(n : Int)] := by rw [vint, if_pos h]
theorem vint_big {n : Nat} (h : ¬ n < 128) : vint n = (128 + (n % 128 : Nat) : Int) :: vint (n / 128) := by rw [vint, if_neg h]
theorem vint_len : ∀ n : Nat, 0 < (vint n).length ∧ (vint n).length ≤ n + 1 := by
  intro n
  induction n using Nat.strongRecOn with
  | ind n ih =>
    by_cases h : n < 128
    · rw [vint_small h]; simp
    · rw [vint_big h, List.length_cons]
      have := ih (n / 128) (by omega)
      omega
/-- two numbers whose bits do not meet -/
theorem or_apart {a : Int} {b : Int} {k : Nat} (h0 : 0 ≤ a) (h1 : a < 2 ^ k) (hb : 0 ≤ b) : Builtin.bitOr a (b * 2 ^ k) = a + b * 2 ^ k := by
  obtain ⟨x, rfl⟩ := Int.eq_ofNat_of_zero_le h0
  obtain ⟨y, rfl⟩ := Int.eq_ofNat_of_zero_le hb
  have e : ((y : Int) * 2 ^ k) = ((y * 2 ^ k : Nat) : Int) := by simp
  have hx : x < 2 ^ k := by
    have e2 : ((2 ^ k : Nat) : Int) = (2 : Int) ^ k := by simp
    rw [← e2] at h1
    exact Int.ofNat_lt.mp h1
  rw [e, bitOr_and, bitAnd_pp (Int.natCast_nonneg _) (Int.natCast_nonneg _)]
  have z : x &&& y * 2 ^ k = 0 := by
    refine Nat.eq_of_testBit_eq fun i => ?_
    rw [Nat.testBit_and, Nat.zero_testBit]
    by_cases hi : i < k
    · rw [← Nat.shiftLeft_eq, Nat.testBit_shiftLeft]
      simp [Nat.not_le.mpr hi]
    · have hxi : x.testBit i = false := Nat.testBit_lt_two_pow (Nat.lt_of_lt_of_le hx (Nat.pow_le_pow_right (by decide) (by omega)))
      rw [hxi]; rfl
  rw [Int.toNat_natCast, Int.toNat_natCast, z]
  simp
theorem or_128 {x : Int} (h0 : 0 ≤ x) (h1 : x < 128) : Builtin.bitOr 128 x = 128 + x := by
  rw [bitOr_comm]
  have := or_apart (a := x) (b := 1) (k := 7) h0 (by simpa using h1) (by decide)
  simp at this
  rw [this]; omega
theorem vint_one {n : Nat} (h : n < 128) : (vint n).length = 1 := by rw [vint_small h]; rfl
theorem vint_in : ∀ n : Nat, KBa.In (vint n) := by
  intro n
  induction n using Nat.strongRecOn with
  | ind n ih =>
    by_cases h : n < 128
    · rw [vint_small h]
      intro x hx
      rw [List.mem_singleton.mp hx]
      omega
    · rw [vint_big h]
      intro x hx
      rcases List.mem_cons.mp hx with rfl | hx
      · omega
      · exact ih (n / 128) (by omega) x hx
structure NbS where
  m : Nat
  t : Tok
  vs : List Value
  cn : Nat
  os : List Int
def nbLed (O : Addr) (news : List (Addr × Obj)) (c : NbS) : List (Addr × Obj) := (O, listOf c.vs.toArray c.cn) :: news
def nbPs (c : NbS) : List (Str × Value) := [(Str.ofString "number", .int c.m c.t)]
def nbFacts (c : NbS) : Prop := IntsAre c.vs c.os
def nbP (n : Nat) (c : NbS) : Prop := c.os ++ vint c.m = vint n
def nbMu (c : NbS) : Nat := c.m
theorem nb_len {n m : Nat} {os : List Int} (h : os ++ vint m = vint n) : (os.length : Int) ≤ n := by
  have h1 := congrArg List.length h
  have h2 := vint_len n
  have h3 := vint_len m
  rw [List.length_append] at h1
  omega
section
variable {prog : Program} {w : World} {A : Around} {E : Value → Shared → Prop} {Q : Flow → Shared → Prop} {s : Shared} {env : Env} {h₀ : Heap} {L : Addr}
theorem nb_while {test : Expr} {body : List Stmt} {pos : Pos} {m₀ : Str → Option Value} {x : Int} {news : List (Addr × Obj)} {O : Addr} {t : Tok}
    (F : Fr h₀ L s.heap m₀) (N : News h₀ L s.heap ((O, listOf #[] 0) :: news)) (hi : m₀ (Str.ofString "number") = some (.int x t)) (_hO : m₀ (Str.ofString "out") = some (.ref O)) (hx : 0 ≤ x)
    (turn : ∀ (m : Nat) (t : Tok) (vs : List Value) (cn : Nat) (os : List Int) (u : Str → Option Value) h tk,
      IntsAre vs os → vs.length = os.length → os ++ vint m = vint x.toNat → (os.length : Int) ≤ x.toNat →
      Fr h₀ L h (fun y => if y = Str.ofString "number" then some (.int m t) else if ([] : List Str).contains y then u y else m₀ y) → News h₀ L h ((O, listOf vs.toArray cn) :: news) →
      wpAny (model prog w) A (isTrue test env (eval test env)) (fun b s₂ =>
        if b = true then wpAny (model prog w) A (execs body env) (KswPost h₀ L s (nbLed O news) nbPs nbFacts [] m₀ (nbP x.toNat) nbMu Q ⟨m, t, vs, cn, os⟩) E s₂ else Q .next s₂) E { s with heap := h, toks := tk })
    (hE : PassesOwn (model prog w) A env E := by passes_own) :
    wpAny (model prog w) A (exec (.While test body [] pos) env) Q E s := by
  refine ksw_while (nbLed O news) nbPs nbFacts [] (nbP x.toNat) nbMu ⟨x.toNat, t, [], 0, []⟩ F N .nil ?_ rfl ?_ hE
  · intro p hp
    rw [List.mem_singleton.mp hp]
    show m₀ _ = some (.int ((x.toNat : Nat) : Int) t)
    rw [Int.toNat_of_nonneg hx]
    exact hi
  · rintro ⟨m, t, vs, cn, os⟩ u h tk f1 p1 F₁ N₁
    exact turn m t vs cn os u h tk f1 f1.length p1 (nb_len p1) F₁ N₁
theorem nb_end {m₀ m' : Str → Option Value} {O : Addr} {news : List (Addr × Obj)} {vs : List Value} {cn n' : Nat} {os : List Int} {m n : Nat} {t t' ty : Tok} {h' : Heap} {tk : Nat}
    (F : Fr h₀ L h' m') (N : News h₀ L h' ((O, listOf (vs.toArray.push (.int (Builtin.bitOr 128 (Builtin.bitAnd m 127)) ty)) n') :: news))
    (hm : m' (Str.ofString "number") = some (.int ((m : Int).fdiv (2 ^ (7 : Int).toNat)) t')) (hr : ∀ z, (∀ p ∈ [(Str.ofString "number", Value.int ((m : Int).fdiv (2 ^ (7 : Int).toNat)) t')], z ≠ p.1) → ([] : List Str).contains z = false → m' z = m₀ z)
    (kI : IntsAre vs os) (kE : os ++ vint m = vint n) (h : (128 : Int) ≤ m) :
    KswEnd h₀ L s (nbLed O news) nbPs nbFacts [] m₀ (nbP n) nbMu ⟨m, t, vs, cn, os⟩ { s with heap := h', toks := tk } := by
  have ex : (m : Int).fdiv (2 ^ (7 : Int).toNat) = ((m / 128 : Nat) : Int) := by
    have : ((2 : Int) ^ (7 : Int).toNat) = 128 := by decide
    rw [this, Int.fdiv_eq_ediv_of_nonneg _ (by decide)]
    omega
  have ey : Builtin.bitOr 128 (Builtin.bitAnd m 127) = (128 + (m % 128 : Nat) : Int) := by
    rw [bitAnd_m7]
    rw [or_128 (by omega) (by omega)]
    omega
  rw [ey] at N
  rw [ex] at hm hr
  have ea : vs.toArray.push (.int (128 + (m % 128 : Nat) : Int) ty) = (vs ++ [Value.int (128 + (m % 128 : Nat) : Int) ty]).toArray := by simp
  rw [ea] at N
  refine ksw_end (c' := ⟨m / 128, t', vs ++ [Value.int (128 + (m % 128 : Nat) : Int) ty], n', os ++ [(128 + (m % 128 : Nat) : Int)]⟩) F N (fun _ h => h) (kI.append (.cons _ _ .nil)) ?_ hr ?_ ?_
  · intro q hq
    rw [List.mem_singleton.mp hq]
    exact hm
  · show (os ++ [(128 + (m % 128 : Nat) : Int)]) ++ vint (m / 128) = vint n
    rw [← kE, vint_big (n := m) (by omega)]
    simp
  · show m / 128 < m
    omega
end
def NbOut (ns : List Int) (news : List (Addr × Obj)) (r : Value) (news' : List (Addr × Obj)) : Prop := ∃ b t, r = .bytes b t ∧ news' = news ∧ KBw.bInts b = ns
def NbC (f : Addr) (prog : Program) (w : World) (K : Frag) (p : Program) (loose : List Str) (mean : ExcName → Option Value) (mg mb : Str → Option Value) : Prop :=
  ∀ (x : Int) (t : Tok) (news : List (Addr × Obj)), 0 ≤ x → x ≤ 1000000 → Fun prog w K p loose mean mg mb 20 f [.int x t] news (NbOut (vint x.toNat) news)
theorem nb_ints {n m : Nat} {vs : List Value} {os : List Int} {t : Tok} (kI : IntsAre vs os) (kE : os ++ vint m = vint n) (h : ¬ (128 : Int) ≤ m) : IntsAre (vs ++ [.int (m : Int) t]) (vint n) := by
  rw [← kE, vint_small (by omega)]
  exact kI.append (.cons _ _ .nil)
theorem num_done {h₀ h : Heap} {L O : Addr} {o : Obj} {news : List (Addr × Obj)} (N : News h₀ L h ((O, o) :: news)) : News h₀ L h news := fun q hq => N q (.tail _ hq)
/-- read_number: how far it is -/
structure RnS where
  i : Nat
  v : Nat
  q : Nat
  m : Nat
  ta : Tok
  tv : Tok
  ts : Tok
def rnPs (c : RnS) : List (Str × Value) := [(Str.ofString "at", .int c.i c.ta), (Str.ofString "value", .int c.v c.tv), (Str.ofString "shift", .int c.q c.ts)]
def rnP (ks rest : List Int) (n e : Nat) (c : RnS) : Prop := ks.drop c.i = vint c.m ++ rest ∧ c.v + c.m * 2 ^ c.q = n ∧ c.v < 2 ^ c.q ∧ (c.q = 0 ∨ 0 < c.m) ∧ c.i + (vint c.m).length = e
def rnMu (c : RnS) : Nat := c.m
theorem rn_facts {ks rest : List Int} {i v q m n e : Nat} (h1 : ks.drop i = vint m ++ rest) (h2 : v + m * 2 ^ q = n) (h3 : v < 2 ^ q) (h4 : q = 0 ∨ 0 < m) (h5 : i + (vint m).length = e) (hn : n < 2 ^ 60) :
    (i : Int) < ks.length ∧ (q : Int) ≤ 60 ∧
    ((ks.getD (i : Int).toNat 0 < 128 ∧ 0 ≤ ks.getD (i : Int).toNat 0 ∧ (¬ ks.getD (i : Int).toNat 0 = 0 ∨ ¬ (q : Int) > 0) ∧ Builtin.bitOr (v : Int) (Builtin.bitAnd (ks.getD (i : Int).toNat 0) 127 * 2 ^ (q : Int).toNat) = n ∧ (i : Int) + 1 = e) ∨
     (128 ≤ ks.getD (i : Int).toNat 0 ∧ ks.getD (i : Int).toNat 0 ≤ 255 ∧ (q : Int) + 7 ≤ 63 ∧ ks.drop (i + 1) = vint (m / 128) ++ rest ∧ m / 128 < m ∧ 0 < m / 128 ∧ (v + m % 128 * 2 ^ q) + m / 128 * 2 ^ (q + 7) = n ∧ v + m % 128 * 2 ^ q < 2 ^ (q + 7) ∧ Builtin.bitOr (v : Int) (Builtin.bitAnd (ks.getD (i : Int).toNat 0) 127 * 2 ^ (q : Int).toNat) = ((v + m % 128 * 2 ^ q : Nat) : Int) ∧ i + 1 + (vint (m / 128)).length = e)) := by
  have e0 : (i : Int).toNat = i := by omega
  have eq : (q : Int).toNat = q := by omega
  rw [e0, eq]
  have hlt : i < ks.length := by
    rcases Nat.lt_or_ge i ks.length with h | h
    · exact h
    · rw [List.drop_eq_nil_of_le h] at h1
      have h6 := congrArg List.length h1
      have := vint_len m
      rw [List.length_append, List.length_nil] at h6
      omega
  have hd : ks.drop i = ks[i] :: ks.drop (i + 1) := List.drop_eq_getElem_cons hlt
  have hg : ks.getD i 0 = ks[i] := by simp [List.getD, List.getElem?_eq_getElem hlt]
  rw [hg]
  have hq60 : q ≤ 60 := by
    rcases Nat.lt_or_ge 60 q with h | h
    · rcases h4 with h4 | h4
      · omega
      · have h7 : 2 ^ 60 ≤ 2 ^ q := Nat.pow_le_pow_right (by decide) (by omega)
        have h8 : 1 * 2 ^ q ≤ m * 2 ^ q := Nat.mul_le_mul_right _ h4
        omega
    · exact h
  have orE : ∀ y : Nat, y < 128 → ∀ b : Int, b % 128 = y → Builtin.bitOr (v : Int) (Builtin.bitAnd b 127 * 2 ^ q) = ((v + y * 2 ^ q : Nat) : Int) := by
    intro y hy b hb
    rw [bitAnd_m7, hb, or_apart (by omega) (by rw [show ((2 : Int) ^ q) = ((2 ^ q : Nat) : Int) by simp]; omega) (by omega)]
    simp
  refine ⟨by omega, by omega, ?_⟩
  by_cases hm : m < 128
  · left
    rw [vint_small hm, hd] at h1
    injection h1 with a1 a2
    rw [vint_small hm] at h5
    simp only [List.length_singleton] at h5
    refine ⟨by omega, by omega, by omega, ?_, by omega⟩
    rw [orE m hm ks[i] (by omega), h2]
  · right
    rw [vint_big hm, hd] at h1
    injection h1 with a1 a2
    rw [vint_big hm] at h5
    simp only [List.length_cons] at h5
    have e7 : 2 ^ (q + 7) = 128 * 2 ^ q := by rw [Nat.pow_add]; omega
    have hdm : 128 * (m / 128) + m % 128 = m := Nat.div_add_mod m 128
    have h2' : (v + m % 128 * 2 ^ q) + m / 128 * 2 ^ (q + 7) = n := by
      rw [← h2, e7]
      have : m * 2 ^ q = (128 * (m / 128) + m % 128) * 2 ^ q := by rw [hdm]
      rw [this, Nat.add_mul, Nat.mul_comm 128 (m / 128), Nat.mul_assoc]
      omega
    have hpos : 0 < m / 128 := by omega
    have hq7 : q + 7 ≤ 60 := by
      rcases Nat.lt_or_ge 60 (q + 7) with h | h
      · have h7 : 2 ^ 60 ≤ 2 ^ (q + 7) := Nat.pow_le_pow_right (by decide) (by omega)
        have h8 : 1 * 2 ^ (q + 7) ≤ m / 128 * 2 ^ (q + 7) := Nat.mul_le_mul_right _ hpos
        omega
      · exact h
    refine ⟨by omega, by omega, by omega, a2, by omega, hpos, h2', ?_, ?_, by omega⟩
    · rw [e7]
      have : m % 128 * 2 ^ q ≤ 127 * 2 ^ q := Nat.mul_le_mul_right _ (by omega)
      omega
    · exact orE (m % 128) (by omega) ks[i] (by omega)
section
variable {prog : Program} {w : World} {A : Around} {E : Value → Shared → Prop} {Q : Flow → Shared → Prop} {s : Shared} {env : Env} {h₀ : Heap} {L : Addr}
theorem rn_while {test : Expr} {body : List Stmt} {pos : Pos} {m₀ : Str → Option Value} {ks rest : List Int} {a n : Nat} {news : List (Addr × Obj)} {ta tv ts tb : Tok} {b : Array UInt8} {x : Int}
    (F : Fr h₀ L s.heap m₀) (N : News h₀ L s.heap news) (hi : m₀ (Str.ofString "at") = some (.int x ta)) (hv : m₀ (Str.ofString "value") = some (.int 0 tv)) (hs : m₀ (Str.ofString "shift") = some (.int 0 ts)) (_hd : m₀ (Str.ofString "data") = some (.bytes b tb)) (_hb : KBw.bInts b = ks)
    (hx : x = (a : Int)) (hk : ks.drop a = vint n ++ rest) (hn : n < 2 ^ 60)
    (turn : ∀ (i v q m : Nat) (ta tv ts : Tok) (u : Str → Option Value) h tk,
      (i : Int) < ks.length → (q : Int) ≤ 60 →
      ((ks.getD (i : Int).toNat 0 < 128 ∧ 0 ≤ ks.getD (i : Int).toNat 0 ∧ (¬ ks.getD (i : Int).toNat 0 = 0 ∨ ¬ (q : Int) > 0) ∧ Builtin.bitOr (v : Int) (Builtin.bitAnd (ks.getD (i : Int).toNat 0) 127 * 2 ^ (q : Int).toNat) = n ∧ (i : Int) + 1 = (a + (vint n).length : Nat)) ∨
       (128 ≤ ks.getD (i : Int).toNat 0 ∧ ks.getD (i : Int).toNat 0 ≤ 255 ∧ (q : Int) + 7 ≤ 63 ∧ ks.drop (i + 1) = vint (m / 128) ++ rest ∧ m / 128 < m ∧ 0 < m / 128 ∧ (v + m % 128 * 2 ^ q) + m / 128 * 2 ^ (q + 7) = n ∧ v + m % 128 * 2 ^ q < 2 ^ (q + 7) ∧ Builtin.bitOr (v : Int) (Builtin.bitAnd (ks.getD (i : Int).toNat 0) 127 * 2 ^ (q : Int).toNat) = ((v + m % 128 * 2 ^ q : Nat) : Int) ∧ i + 1 + (vint (m / 128)).length = a + (vint n).length)) →
      Fr h₀ L h (fun y => if y = Str.ofString "at" then some (.int i ta) else if y = Str.ofString "value" then some (.int v tv) else if y = Str.ofString "shift" then some (.int q ts) else if ([Str.ofString "byte"] : List Str).contains y then u y else m₀ y) → News h₀ L h news →
      wpAny (model prog w) A (isTrue test env (eval test env)) (fun b s₂ =>
        if b = true then wpAny (model prog w) A (execs body env) (KswPost h₀ L s (fun _ => news) rnPs (fun _ => True) [Str.ofString "byte"] m₀ (rnP ks rest n (a + (vint n).length)) rnMu Q ⟨i, v, q, m, ta, tv, ts⟩) E s₂ else Q .next s₂) E { s with heap := h, toks := tk })
    (hE : PassesOwn (model prog w) A env E := by passes_own) :
    wpAny (model prog w) A (exec (.While test body [] pos) env) Q E s := by
  refine ksw_while (fun _ => news) rnPs (fun _ => True) [Str.ofString "byte"] (rnP ks rest n (a + (vint n).length)) rnMu ⟨a, 0, 0, n, ta, tv, ts⟩ F N trivial ?_ ⟨hk, by simp, by simp, .inl rfl, rfl⟩ ?_ hE
  · intro p hp
    rcases List.mem_cons.mp hp with rfl | hp
    · rw [hx] at hi; exact hi
    · rcases List.mem_cons.mp hp with rfl | hp
      · exact hv
      · rw [List.mem_singleton.mp hp]
        exact hs
  · rintro ⟨i, v, q, m, ta, tv, ts⟩ u h tk _ ⟨p1, p2, p3, p4, p5⟩ F₁ N₁
    have hf := rn_facts p1 p2 p3 p4 p5 hn
    exact turn i v q m ta tv ts u h tk hf.1 hf.2.1 hf.2.2 F₁ N₁
theorem rn_end {m₀ m' : Str → Option Value} {news : List (Addr × Obj)} {ks rest : List Int} {i v q m n e : Nat} {y : Int} {ta tv ts ta' tv' ts' : Tok} {h' : Heap} {tk : Nat}
    (F : Fr h₀ L h' m') (N : News h₀ L h' news)
    (hm1 : m' (Str.ofString "at") = some (.int ((i : Int) + 1) ta')) (hm2 : m' (Str.ofString "value") = some (.int (Builtin.bitOr (v : Int) (Builtin.bitAnd y 127 * 2 ^ (q : Int).toNat)) tv')) (hm3 : m' (Str.ofString "shift") = some (.int ((q : Int) + 7) ts'))
    (hr : ∀ z, (∀ p ∈ [(Str.ofString "at", Value.int ((i : Int) + 1) ta'), (Str.ofString "value", Value.int (Builtin.bitOr (v : Int) (Builtin.bitAnd y 127 * 2 ^ (q : Int).toNat)) tv'), (Str.ofString "shift", Value.int ((q : Int) + 7) ts')], z ≠ p.1) → ([Str.ofString "byte"] : List Str).contains z = false → m' z = m₀ z)
    (k1 : ks.drop (i + 1) = vint (m / 128) ++ rest) (k2 : m / 128 < m) (k3 : 0 < m / 128) (k4 : (v + m % 128 * 2 ^ q) + m / 128 * 2 ^ (q + 7) = n) (k5 : v + m % 128 * 2 ^ q < 2 ^ (q + 7)) (k6 : Builtin.bitOr (v : Int) (Builtin.bitAnd y 127 * 2 ^ (q : Int).toNat) = ((v + m % 128 * 2 ^ q : Nat) : Int)) (k7 : i + 1 + (vint (m / 128)).length = e) :
    KswEnd h₀ L s (fun _ => news) rnPs (fun _ => True) [Str.ofString "byte"] m₀ (rnP ks rest n e) rnMu ⟨i, v, q, m, ta, tv, ts⟩ { s with heap := h', toks := tk } := by
  rw [k6] at hm2 hr
  refine ksw_end (c' := ⟨i + 1, v + m % 128 * 2 ^ q, q + 7, m / 128, ta', tv', ts'⟩) F N (fun _ h => h) trivial ?_ hr ⟨k1, k4, k5, .inr k3, k7⟩ k2
  intro p hp
  rcases List.mem_cons.mp hp with rfl | hp
  · exact hm1
  · rcases List.mem_cons.mp hp with rfl | hp
    · exact hm2
    · rw [List.mem_singleton.mp hp]
      exact hm3
end
def RnOut (n e : Int) (news : List (Addr × Obj)) (r : Value) (news' : List (Addr × Obj)) : Prop := ∃ T x y t1 t2, r = .ref T ∧ news' = (T, { cls := .type "tuple", data := .seq #[.int x t1, .int y t2] }) :: news ∧ (∀ q ∈ news, q.1 < T) ∧ x = n ∧ y = e
def RnC (f : Addr) (prog : Program) (w : World) (K : Frag) (p : Program) (loose : List Str) (mean : ExcName → Option Value) (mg mb : Str → Option Value) : Prop :=
  ∀ (b : Array UInt8) (ks rest : List Int) (n a : Nat) (x : Int) (tb t : Tok) (news : List (Addr × Obj)), KBw.bInts b = ks → x = (a : Int) → ks.drop a = vint n ++ rest → n < 2 ^ 60 → ks.length ≤ 1000000 → Fun prog w K p loose mean mg mb 20 f [.bytes b tb, .int x t] news (RnOut n (a + (vint n).length : Nat) news)
theorem rn_ret {h₀ h : Heap} {L T : Addr} {m : Str → Option Value} {s : Shared} {Q : Value → Shared → Prop} {n e x y : Int} {t1 t2 : Tok} {news : List (Addr × Obj)} {tk : Nat}
    (hret : ∀ r news' h' tk', RnOut n e news r news' → Fr h₀ L h' m → News h₀ L h' news' → Q r { s with heap := h', toks := tk' })
    (N : News h₀ L h ((T, { cls := .type "tuple", data := .seq #[.int x t1, .int y t2] }) :: news)) (F : Fr h₀ L h m) (l1 : ∀ q ∈ news, q.1 < T) (hx : x = n) (hy : y = e) : Q (.ref T) { s with heap := h, toks := tk } :=
  hret _ _ _ _ ⟨_, _, _, _, _, rfl, rfl, l1, hx, hy⟩ F N
section
open Builtin
theorem take_eq {b : Array UInt8} {t : Tok} {id : String} : Bytes.takeBuffer? id (.bytes b t) 0 = pure (some (b, none)) := by
  have e0 : ((0 : Int) == Bytes.fullReadOnly) = false := by decide
  unfold Bytes.takeBuffer?
  rw [KBy.special_eq KBy.look_buffer, KBy.own_buffer, e0, KBy.buffer_eq]
  kernel_rfl
theorem takeQ_eq {b : Array UInt8} {t : Tok} {id : String} : Bytes.takeBufferQuiet? id (.bytes b t) 0 = pure (some (b, none)) := by
  unfold Bytes.takeBufferQuiet?
  rw [take_eq]
  rfl
theorem joined_snoc (bs : List (Array UInt8)) (b : Array UInt8) : Bytes.joined #[] (bs ++ [b]) = Bytes.joined #[] bs ++ b := by
  unfold Bytes.joined
  rw [List.zipIdx_append, List.foldl_append]
  simp
theorem joined_len : ∀ (bs : List (Array UInt8)), (Bytes.joined #[] bs).size = (bs.map Array.size).sum := by
  intro bs
  have key : ∀ n, n ≤ bs.length → (Bytes.joined #[] (bs.take n)).size = ((bs.take n).map Array.size).sum := by
    intro n
    induction n with
    | zero => intro _; rfl
    | succ n ih =>
      intro hn
      have e : bs.take (n + 1) = bs.take n ++ [bs[n]] := by rw [List.take_add_one]; simp [List.getElem?_eq_getElem (show n < bs.length by omega)]
      rw [e, joined_snoc, Array.size_append, ih (by omega), List.map_append, List.sum_append]
      simp
  simpa using key bs.length (Nat.le_refl _)
theorem fold_size : ∀ (bs : List (Array UInt8)) (n : Nat), (bs.foldl (fun a b => a + b.size) n) = n + (bs.map Array.size).sum
  | [], n => by simp
  | b :: bs, n => by rw [List.foldl_cons, fold_size bs, List.map_cons, List.sum_cons]; omega
section
variable {prog : Program} {w : World} {A : Around} {E : Value → Shared → Prop} {s : Shared}
theorem jlg : ∀ (taken : List (Value × Option Value)) (keep : List Value) {Q : Unit → Shared → Prop}, (∀ p ∈ taken, p.2 = none) → Q () s → wpAny (model prog w) A (Bytes.joinLetGo taken keep) Q E s
  | [], _, Q, _, h => wpAny_pure h
  | (x, u) :: r, keep, Q, hn, h => by
    have hu : u = none := hn _ (.head _)
    subst hu
    unfold Bytes.joinLetGo
    exact wpAny_bind (wpAny_letGo (jlg r keep (fun p hp => hn p (.tail _ hp)) h))
/-- what the loop of a join has taken -/
def JoinI (vs : List Value) (bs : List (Array UInt8)) (s₀ : Shared) (l : List Nat) (b : Array (Array UInt8) × List (Value × Option Value)) (s' : Shared) : Prop :=
  s' = s₀ ∧ ∃ i, l = List.range' i (vs.length - i) ∧ i ≤ vs.length ∧ b.1.toList = bs.take i ∧ (∀ p ∈ b.2, p.2 = none ∧ p.1.onHeap = false)
theorem bjoin_wp {l : Addr} {its : Array Value} {t0 : Tok} {vs : List Value} {bs : List (Array UInt8)} {R : Value → Shared → Prop} (hi : s.heap.IsList l its) (hv : its.toList = vs)
    (hb : ∀ (i : Nat) (v : Value), vs[i]? = some v → ∃ t : Tok, v = Value.bytes (bs.getD i #[]) t) (hl : bs.length = vs.length) (hz : (bs.map Array.size).sum ≤ sizeLine)
    (h : ∀ t k, R (.bytes (Bytes.joined #[] bs) t) { s with toks := k }) :
    wpAny (model prog w) A (Builtin.«bytes.join» ⟨[.bytes #[] t0, .ref l], []⟩) (fun fin s' => ∃ v, fin = .done (.ret v) ∧ R v s') E s := by
  obtain ⟨o, ho, hc, n, hd⟩ := id hi
  have hT : s.TypeIs (.ref l) "list" := ⟨o, ho, hc⟩
  have hsz : its.size = vs.length := by rw [← hv]; simp
  show wpAny _ _ (Bytes.joinM .bytes _) _ _ _
  unfold Bytes.joinM
  dsimp only
  refine wpAny_bind (m := selfAndOne _ _) (wpAny_pure ?_)
  dsimp only
  rw [if_pos (by rfl)]
  refine wpAny_bind ?_
  unfold Bytes.joinItems
  refine wpAny_bind (wpAny_typeOf hT ?_)
  rw [if_pos (by rfl)]
  refine wpAny_pure ?_
  refine wpAny_bind (wpAny_seqItems ho hd ?_)
  dsimp only
  rw [if_pos (by rfl)]
  obtain ⟨xs⟩ := its
  obtain rfl : xs = vs := hv
  rcases xs with _ | ⟨x, _ | ⟨y, r⟩⟩
  rotate_left
  · obtain ⟨t, hx⟩ := hb 0 x rfl
    obtain ⟨b, hbs⟩ : ∃ b, bs = [b] := List.length_eq_one_iff.mp hl
    subst hx
    show wpAny (model prog w) A (typeOf (Value.bytes (bs.getD 0 #[]) t) >>= fun r => if (r == Value.type "bytes") = true then (rule "bytes.join.one-item" >>= fun _ => ret (Value.bytes (bs.getD 0 #[]) t)) else _) _ _ _
    refine wpAny_bind (wpAny_typeOf (T := "bytes") (s := s) rfl ?_)
    rw [if_pos (by rfl)]
    refine wpAny_bind (wpAny_rule (wpAny_pure ⟨_, rfl, ?_⟩))
    have := h t s.toks
    rw [hbs] at this ⊢
    simpa [Bytes.joined] using this
  all_goals
    show wpAny (model prog w) A (forIn [:_] (#[], []) _ >>= _) _ _ _
    generalize hits : (⟨_⟩ : Array Value) = its at *
    have hv := congrArg Array.toList hits
    dsimp only at hv
    rw [hv] at hb hl hsz
    obtain ⟨vs, hvs⟩ : ∃ vs, vs = its.toList := ⟨_, rfl⟩
    rw [← hvs] at hb hl hsz
    replace hv := hvs.symm
    refine wpAny_bind ?_
    rw [Std.Legacy.Range.forIn_eq_forIn_range']
    refine wpAny_forIn_list _ (JoinI vs bs s) _ ?turn ?fin _ _ ⟨rfl, 0, ?_, Nat.zero_le _, by simp, fun _ h => (nomatch h)⟩
    case turn =>
      rintro i rest ⟨ps, tk⟩ s' ⟨rfl, j, hlj, hj, hp, ht⟩
      have hlt : j < vs.length := by
        rcases Nat.lt_or_ge j vs.length with q | q
        · exact q
        · rw [Nat.sub_eq_zero_of_le q] at hlj; cases hlj
      obtain ⟨r, hr⟩ : ∃ r, vs.length - j = r + 1 := ⟨vs.length - j - 1, by omega⟩
      rw [hr, List.range'_succ] at hlj
      injection hlj with hij hrest
      subst hij
      obtain ⟨t, hx⟩ := hb i vs[i] (List.getElem?_eq_getElem hlt)
      have hget : its.getD i Value.none = Value.bytes (bs.getD i #[]) t := by
        rw [← hx]
        have hlt' : i < its.size := by omega
        simp only [Array.getD, hlt', dif_pos]
        show its[i] = _
        simp [← hv]
      refine wpAny_bind (wpAny_seqItems ho hd ?_)
      dsimp only at hp ht ⊢
      have hany : (Bytes.Kind.bytes == Bytes.Kind.bytearray || tk.any fun x => x.fst.onHeap) = false := by
        have : (tk.any fun x => x.fst.onHeap) = false := by
          rw [List.any_eq_false]
          intro p hp'
          rw [(ht p hp').2]
          exact Bool.false_ne_true
        rw [this]; rfl
      rw [if_neg (by rw [hany]; exact Bool.false_ne_true), hget]
      refine wpAny_bind (wpAny_holding (wpAny_of_eq takeQ_eq ?_))
      dsimp only
      refine wpAny_bind (wpAny_seqItems ho hd ?_)
      dsimp only
      rw [if_neg (by simp)]
      refine wpAny_pure ⟨rfl, i + 1, ?_, hlt, ?_, ?_⟩
      · show rest = _
        rw [hrest]; congr 1; omega
      · have hb' : i < bs.length := by omega
        show (ps.push _).toList = _
        rw [Array.toList_push, hp, List.take_add_one]
        simp [List.getD, List.getElem?_eq_getElem hb']
      · intro p hp'
        rcases List.mem_append.mp hp' with q | q
        · exact ht p q
        · rw [List.mem_singleton.mp q]; exact ⟨rfl, rfl⟩
    case fin =>
      rintro ⟨ps, tk⟩ s' ⟨rfl, j, hlj, hj, hp, ht⟩
      have hjn : j = vs.length := by
        rcases Nat.lt_or_ge j vs.length with q | q
        · obtain ⟨r, hr⟩ : ∃ r, vs.length - j = r + 1 := ⟨vs.length - j - 1, by omega⟩
          rw [hr, List.range'_succ] at hlj; cases hlj
        · omega
      have hps : ps.toList = bs := by show ps.toList = bs; rw [show ps.toList = bs.take j from hp, hjn, ← hl, List.take_length]
      refine wpAny_bind (wpAny_of_eq (a := #[]) rfl ?_)
      dsimp only
      have hfold : ps.foldl (fun a b => a + b.size) ((#[] : Array UInt8).size * (ps.size - 1)) = (bs.map Array.size).sum := by
        rw [← Array.foldl_toList, hps, fold_size]
        simp
      have hlong : Bytes.tooLong (ps.foldl (fun a b => a + b.size) ((#[] : Array UInt8).size * (ps.size - 1))) = false := by
        rw [hfold]
        unfold Bytes.tooLong
        exact decide_eq_false (by omega)
      rw [if_neg (by rw [hlong]; exact Bool.false_ne_true), hps]
      refine wpAny_bind (m := mkBytes _) (wpAny_mkBytes ?_ (by rw [joined_len]; exact hz))
      refine wpAny_bind (wpAny_holding (wpAny_point ?_))
      refine wpAny_bind (jlg _ _ (fun p hp' => (ht p hp').1) ?_)
      exact wpAny_pure ⟨_, rfl, h _ _⟩
    · rw [hsz]; simp [Std.Legacy.Range.size]
end
end
section
set_option maxRecDepth 100000
theorem slot_bjoin : Slot "bytes" "join" "bytes.join" :=
  .of (owner := "bytes") (n := "join") (by rw [typeLookup_type, builtinLookup_eq_fast]; kernel_rfl) (by decide +kernel) (by decide +kernel) (by decide +kernel)
    (by first | exact .inl (by decide +kernel) | exact .inr (by decide +kernel)) (by rw [isSubtype_type]; kernel_rfl)
theorem type_bjoin : typeOf (.builtin "bytes.join") = pure (.type "method_descriptor") := by show builtinType _ = _; rw [builtinType_eq_fast]; kernel_rfl
theorem entry_bjoin : entryFor table "bytes.join" = some Builtin.«bytes.join» := entryFor_of_tree (by kernel_rfl)
theorem args_bjoin (a b : Value) : argsOk "bytes.join" ⟨[a, b], []⟩ := by
  unfold argsOk; rw [signature?_of (id := "bytes.join") (n := ['n', 'i', 'o', 'j']) (o := ['s', 'e', 't', 'y', 'b']) (by kernel_rfl) FB.owner_bytes]; kernel_rfl
end
/-- the bytes of a list of bytes -/
def BsAre (vs : List Value) (ks : List (List Int)) : Prop := vs.length = ks.length ∧ ∀ (i : Nat) (v : Value), vs[i]? = some v → ∃ b t, v = Value.bytes b t ∧ KBw.bInts b = ks.getD i []
theorem BsAre.nil : BsAre [] [] := ⟨rfl, fun i v h => by simp at h⟩
theorem BsAre.snoc {vs : List Value} {ks : List (List Int)} {b : Array UInt8} {t : Tok} {k : List Int} (h : BsAre vs ks) (hb : KBw.bInts b = k) : BsAre (vs ++ [.bytes b t]) (ks ++ [k]) := by
  refine ⟨by rw [List.length_append, List.length_append, h.1]; rfl, fun i v e => ?_⟩
  rcases Nat.lt_or_ge i vs.length with q | q
  · rw [List.getElem?_append_left q] at e
    obtain ⟨c, u, e1, e2⟩ := h.2 i v e
    have q' : i < ks.length := by rw [← h.1]; exact q
    exact ⟨c, u, e1, by rw [e2]; simp [List.getD, List.getElem?_append_left q']⟩
  · rw [List.getElem?_append_right q] at e
    have hi : i = vs.length := by
      rcases Nat.lt_or_ge (i - vs.length) 1 with w | w
      · omega
      · rw [List.getElem?_eq_none (by simpa using w)] at e; cases e
    subst hi
    simp only [Nat.sub_self, List.getElem?_cons_zero, Option.some.injEq] at e
    exact ⟨b, t, e.symm, by rw [hb]; simp [List.getD, h.1]⟩
theorem BsAre.app {vs us : List Value} {ks js : List (List Int)} (h : BsAre vs ks) (g : BsAre us js) : BsAre (vs ++ us) (ks ++ js) := by
  refine ⟨by rw [List.length_append, List.length_append, h.1, g.1], fun i v e => ?_⟩
  rcases Nat.lt_or_ge i vs.length with q | q
  · rw [List.getElem?_append_left q] at e
    obtain ⟨c, u, e1, e2⟩ := h.2 i v e
    have q' : i < ks.length := by rw [← h.1]; exact q
    exact ⟨c, u, e1, by rw [e2]; simp [List.getD, List.getElem?_append_left q']⟩
  · rw [List.getElem?_append_right q] at e
    obtain ⟨c, u, e1, e2⟩ := g.2 _ v e
    have q' : ks.length ≤ i := by rw [← h.1]; exact q
    exact ⟨c, u, e1, by rw [e2, h.1]; simp [List.getD, List.getElem?_append_right q']⟩
theorem bInts_app (a b : Array UInt8) : KBw.bInts (a ++ b) = KBw.bInts a ++ KBw.bInts b := by simp [KBw.bInts]
theorem bInts_size (a : Array UInt8) : a.size = (KBw.bInts a).length := by simp [KBw.bInts]
theorem BsAre.bs {vs : List Value} {ks : List (List Int)} (h : BsAre vs ks) : ∃ bs : List (Array UInt8), bs.map KBw.bInts = ks ∧ ∀ (i : Nat) (v : Value), vs[i]? = some v → ∃ t : Tok, v = Value.bytes (bs.getD i #[]) t := by
  induction vs generalizing ks with
  | nil => exact ⟨[], by rw [List.length_eq_zero_iff.mp h.1.symm]; rfl, fun i v e => by simp at e⟩
  | cons v vs ih =>
    obtain ⟨k, ks, rfl⟩ : ∃ k r, ks = k :: r := by
      cases ks with
      | nil => exact absurd h.1 (by simp)
      | cons k r => exact ⟨k, r, rfl⟩
    obtain ⟨b, t, e1, e2⟩ := h.2 0 v rfl
    obtain ⟨bs, f1, f2⟩ := ih (ks := ks) ⟨by simpa using h.1, fun i u e => by simpa using h.2 (i + 1) u (by simpa using e)⟩
    refine ⟨b :: bs, by rw [List.map_cons, f1, e2]; rfl, fun i u e => ?_⟩
    cases i with
    | zero =>
      simp only [List.getElem?_cons_zero, Option.some.injEq] at e
      exact ⟨t, by rw [← e, e1]; rfl⟩
    | succ i => simpa using f2 i u (by simpa using e)
theorem joined_ints : ∀ (bs : List (Array UInt8)), KBw.bInts (Builtin.Bytes.joined #[] bs) = (bs.map KBw.bInts).flatten := by
  intro bs
  have key : ∀ n, n ≤ bs.length → KBw.bInts (Builtin.Bytes.joined #[] (bs.take n)) = ((bs.take n).map KBw.bInts).flatten := by
    intro n
    induction n with
    | zero => intro _; rfl
    | succ n ih =>
      intro hn
      have e : bs.take (n + 1) = bs.take n ++ [bs[n]] := by rw [List.take_add_one]; simp [List.getElem?_eq_getElem (show n < bs.length by omega)]
      rw [e, joined_snoc, bInts_app, ih (by omega), List.map_append, List.flatten_append]
      simp
  simpa using key bs.length (Nat.le_refl _)
section
variable {prog : Program} {w : World} {A : Around} {E : Value → Shared → Prop} {s : Shared}
/-- b''.join of a list of bytes -/
theorem bjoin_any {l : Addr} {its : Array Value} {t0 : Tok} {vs : List Value} {ks : List (List Int)} {Q : Value → Shared → Prop} (hi : s.heap.IsList l its) (hv : its.toList = vs) (hb : BsAre vs ks) (hz : ks.flatten.length ≤ 16777216)
    (h : ∀ b t k, KBw.bInts b = ks.flatten → Q (.bytes b t) { s with toks := k }) : wpAny (model prog w) A (call (.builtin "bytes.join") [.bytes #[] t0, .ref l]) Q E s := by
  obtain ⟨bs, e1, e2⟩ := hb.bs
  have hl : bs.length = vs.length := by rw [hb.1, ← e1, List.length_map]
  have hs : (bs.map Array.size).sum = ks.flatten.length := by
    rw [← e1, List.length_flatten, List.map_map]
    congr 1
    exact List.map_congr_left fun b _ => bInts_size b
  refine call_meets (S := fun _ R s' => s' = s ∧ ∀ b t k, KBw.bInts b = ks.flatten → R (.ok (.ret (.bytes b t))) { s with toks := k }) slot_bjoin (typeIs_bytes _ _ _) entry_bjoin (args_bjoin _ _) ?_ ⟨rfl, h⟩
  refine .of_wp fun prog w A R s' hS => ?_
  obtain ⟨rfl, h⟩ := hS
  refine bjoin_wp hi hv e2 hl (by rw [hs, sizeLine_eq]; exact hz) fun t k => ?_
  exact h _ t k (by rw [joined_ints, e1])
theorem bjoin_method {M : Model} {b : Array UInt8} {t : Tok} {pl : Sem Bool} {Q : Value × List Value → Shared → Prop} (h : Q (.builtin "bytes.join", [.bytes b t]) s) : wpAny M A (getMethod (.bytes b t) "join" pl) Q E s := by
  with_reducible exact KBd.method_of (.bytes b t) (typeIs_bytes _ _ _) slot_bjoin type_bjoin KBd.noRef h
end
theorem intsAre_at : ∀ {vs : List Value} {ns : List Int} {i : Nat} {v : Value}, IntsAre vs ns → vs[i]? = some v → ∃ (n : Int) (t : Tok), v = .int n t ∧ ns[i]? = some n
  | [], _, _, _, _, e => by simp at e
  | u :: vs, ns, i, v, h, e => by
    cases h with
    | cons n t h =>
      cases i with
      | zero =>
        simp only [List.getElem?_cons_zero, Option.some.injEq] at e
        exact ⟨n, t, e.symm, rfl⟩
      | succ i => simpa using intsAre_at h (by simpa using e)
section
variable {prog : Program} {w : World} {A : Around} {E : Value → Shared → Prop} {s : Shared} {h₀ : Heap} {L R : Addr} {m : Str → Option Value} {news : List (Addr × Obj)} {vs : List Value} {ns : List Int} {n : Nat}
/-- len, an item of a list of ints whose ledger is not written out -/
theorem len_at {Q : Value → Shared → Prop} (N : News h₀ L s.heap news) (hm : (R, listOf vs.toArray n) ∈ news) (hv : IntsAre vs ns) (hz : ns.length ≤ 1000000) (h : ∀ t k, Q (.int (ns.length : Nat) t) { s with toks := k }) : wpAny (model prog w) A (call (.builtin "len") [.ref R]) Q E s := by
  have hl : s.heap.IsList R vs.toArray := PySem.IsL.isList (n := n) (N _ hm).1
  have e : vs.toArray.size = ns.length := by rw [List.size_toArray, hv.length]
  refine len_list hl (by rw [e]; omega) ?_
  rw [e]
  exact h _ _
theorem len_any {Q : Value → Shared → Prop} (N : News h₀ L s.heap news) (hm : (R, listOf vs.toArray n) ∈ news) {k : Nat} (hk : vs.length = k) (hz : k ≤ 1000000) (h : ∀ t k', Q (.int (k : Nat) t) { s with toks := k' }) : wpAny (model prog w) A (call (.builtin "len") [.ref R]) Q E s := by
  have hl : s.heap.IsList R vs.toArray := PySem.IsL.isList (n := n) (N _ hm).1
  have e : vs.toArray.size = k := by rw [List.size_toArray, hk]
  refine len_list hl (by rw [e]; omega) ?_
  rw [e]
  exact h _ _
theorem item_at {value slice : Expr} {k : Int} {u : Tok} {Q : Value → Shared → Prop} (N : News h₀ L s.heap news) (hm : (R, listOf vs.toArray n) ∈ news) (hv : IntsAre vs ns) (h0 : 0 ≤ k) (h1 : k < ns.length) (h2 : ns.length ≤ 1000000) (h : ∀ t, Q (.int (ns.getD k.toNat 0) t) s)
    (hs : subscripted slice false (.ref R) (.int k u) = operate [.ref R, .int k u] (getItem (.ref R) (.int k u)) := by with_unfolding_all rfl) (hg : ∀ r, letTemporaryGo value (.ref R) r = pure () := by intro _; with_unfolding_all rfl) :
    wpAny (model prog w) A (subscriptTail value slice (.ref R) (.int k u)) Q E s := by
  have hl : s.heap.IsList R vs.toArray := PySem.IsL.isList (n := n) (N _ hm).1
  have hlt : k.toNat < vs.length := by rw [hv.length]; omega
  obtain ⟨x, t, e, hx⟩ := intsAre_at hv (List.getElem?_eq_getElem hlt)
  refine item_list hl h0 (by omega) (x := vs[k.toNat]) (by simp [hlt]) ?_ hs hg
  rw [e]
  have ex : ns.getD k.toNat 0 = x := by rw [List.getD, hx]; rfl
  rw [← ex]
  exact h t
end
theorem upd_app {D : Addr} {o o' : Obj} {l l' : List (Addr × Obj)} : ∀ {tl : List (Addr × Obj)}, (∀ p ∈ tl, p.1 ≠ D) → Upd D o o' l l' → Upd D o o' (tl ++ l) (tl ++ l')
  | [], _, u => u
  | p :: tl, h, u => .tail (h p (.head _)) (upd_app (fun q hq => h q (.tail _ hq)) u)
theorem off_kL {D : Addr} {o : Obj} {r tl : List (Addr × Obj)} (h : ∀ q ∈ (D, o) :: r, ∀ p ∈ tl, q.1 < p.1) : ∀ p ∈ tl, p.1 ≠ D := fun p hp => Nat.ne_of_gt (h _ (.head _) p hp)
theorem ltNat {a b : Nat} (h : a < b) : @LT.lt Nat instLTNat a b := h
theorem off_allLt {D : Nat} : ∀ {l : List (Addr × Obj)}, AllLt D l → ∀ p ∈ l, p.1 ≠ D
  | [], _, _, hp => (nomatch hp)
  | q :: r, h, p, hp => by
    rcases List.mem_cons.mp hp with rfl | hp
    · exact Nat.ne_of_lt h.1
    · exact off_allLt h.2 p hp
/-- a token: a byte, or a copy of so many from so far behind -/
inductive LTok where
  | byte (b : Int)
  | copy (d l : Int)
def tokD : LTok → Dat
  | .byte b => .tuple [.str (Str.ofString "byte"), .int b]
  | .copy d l => .tuple [.str (Str.ofString "copy"), .int d, .int l]
def encL : LTok → List Int
  | .byte b => [b]
  | .copy d l => vint d.toNat ++ [l - 3]
def lenL : LTok → Nat
  | .byte _ => 1
  | .copy _ l => l.toNat
def markL : LTok → Nat
  | .byte _ => 0
  | .copy _ _ => 1
def copyN (out : List Int) (d : Nat) : Nat → List Int
  | 0 => out
  | k + 1 => copyN (out ++ [out.getD (out.length - d) 0]) d k
def expL (out : List Int) : LTok → List Int
  | .byte b => out ++ [b]
  | .copy d l => copyN out d.toNat l.toNat
def expAll (ts : List LTok) : List Int := ts.foldl expL []
def okL (out : List Int) : LTok → Prop
  | .byte b => 0 ≤ b ∧ b < 256
  | .copy d l => 1 ≤ d ∧ d ≤ out.length ∧ d ≤ 4096 ∧ 3 ≤ l ∧ l ≤ 258
/-- all are well at their place -/
def okAll : List Int → List LTok → Prop
  | _, [] => True
  | out, t :: r => okL out t ∧ okAll (expL out t) r
theorem copyN_len (d : Nat) : ∀ (k : Nat) (out : List Int), (copyN out d k).length = out.length + k
  | 0, out => rfl
  | k + 1, out => by rw [copyN, copyN_len d k, List.length_append, List.length_singleton]; omega
theorem expL_len (out : List Int) (t : LTok) : (expL out t).length = out.length + lenL t := by
  cases t with
  | byte b => simp [expL, lenL]
  | copy d l => exact copyN_len _ _ _
theorem okAll_app : ∀ (out : List Int) (a : List LTok) (t : LTok), okAll out a → okL (a.foldl expL out) t → okAll out (a ++ [t])
  | out, [], t, _, h => ⟨h, trivial⟩
  | out, x :: a, t, h, h' => ⟨h.1, okAll_app (expL out x) a t h.2 h'⟩
theorem expAll_app (a : List LTok) (t : LTok) : expAll (a ++ [t]) = expL (expAll a) t := by simp [expAll]
theorem take_succ_getD {ns : List Int} {i : Nat} (h : i < ns.length) : ns.take (i + 1) = ns.take i ++ [ns.getD i 0] := by
  rw [List.take_add_one]
  simp [List.getD, List.getElem?_eq_getElem h]
/-- a copy that tells what comes -/
theorem copyN_take {ns : List Int} (d : Nat) (hd : 1 ≤ d) : ∀ (l a : Nat), d ≤ a → a + l ≤ ns.length → (∀ t, t < l → ns.getD (a - d + t) 0 = ns.getD (a + t) 0) → copyN (ns.take a) d l = ns.take (a + l)
  | 0, a, _, _, _ => rfl
  | l + 1, a, hda, hl, h => by
    have e1 : (ns.take a).length = a := by rw [List.length_take]; omega
    have e2 : (ns.take a).getD (a - d) 0 = ns.getD (a - d) 0 := by
      have h1 : a - d < ns.length := by omega
      simp [List.getD, List.getElem?_take, show a - d < a by omega]
    rw [copyN, e1, e2]
    have h0 := h 0 (by omega)
    rw [Nat.add_zero, Nat.add_zero] at h0
    rw [h0, ← take_succ_getD (by omega)]
    rw [copyN_take d hd l (a + 1) (by omega) (by omega) fun t ht => ?_]
    · congr 1; omega
    · have := h (t + 1) (by omega)
      have e3 : a - d + (t + 1) = a + 1 - d + t := by omega
      have e4 : a + (t + 1) = a + 1 + t := by omega
      rw [e3, e4] at this
      exact this
/-- the bytes of a row of tokens: the marks of eight, then these -/
def marksOf : List LTok → Nat
  | [] => 0
  | t :: r => markL t + 2 * marksOf r
def bodyOf (ts : List LTok) : List Int := ts.flatMap encL
def wrt (ts : List LTok) : List Int := if ts = [] then [] else ((marksOf (ts.take 8) : Nat) : Int) :: (bodyOf (ts.take 8) ++ wrt (ts.drop 8))
termination_by ts.length
decreasing_by
  rename_i h
  have := List.length_pos_iff.mpr h
  rw [List.length_drop]; omega
theorem wrt_nil : wrt [] = [] := by rw [wrt, if_pos rfl]
theorem wrt_cons {ts : List LTok} (h : ts ≠ []) : wrt ts = ((marksOf (ts.take 8) : Nat) : Int) :: (bodyOf (ts.take 8) ++ wrt (ts.drop 8)) := by rw [wrt, if_neg h]
theorem marks_lt : ∀ ts : List LTok, marksOf ts < 2 ^ ts.length
  | [] => by simp [marksOf]
  | t :: r => by
    have := marks_lt r
    have h : markL t ≤ 1 := by cases t <;> simp [markL]
    rw [marksOf, List.length_cons, Nat.pow_succ]
    omega
theorem marks_app : ∀ (a : List LTok) (t : LTok), marksOf (a ++ [t]) = marksOf a + markL t * 2 ^ a.length
  | [], t => by simp [marksOf]
  | x :: a, t => by
    rw [List.cons_append, marksOf, marksOf, marks_app a t, List.length_cons, Nat.pow_succ, Nat.mul_add, ← Nat.mul_assoc, ← Nat.mul_assoc, Nat.mul_comm (markL t * 2 ^ a.length) 2, Nat.mul_assoc, Nat.add_assoc]
theorem body_app (a : List LTok) (t : LTok) : bodyOf (a ++ [t]) = bodyOf a ++ encL t := by simp [bodyOf]
theorem lens_exp : ∀ (ts : List LTok) (out : List Int), (ts.foldl expL out).length = out.length + (ts.map lenL).sum
  | [], out => by simp
  | t :: r, out => by
    rw [List.foldl_cons, lens_exp r, expL_len, List.map_cons, List.sum_cons]
    omega
def sumL (ts : List LTok) : Nat := (ts.map lenL).sum
def tokOk : LTok → Prop
  | .byte b => 0 ≤ b ∧ b < 256
  | .copy d l => 1 ≤ d ∧ d ≤ 4096 ∧ 3 ≤ l ∧ l ≤ 258
theorem tokOk_len {t : LTok} (h : tokOk t) : 1 ≤ lenL t := by
  cases t with
  | byte b => exact Nat.le_refl _
  | copy d l => have := h.2.2.1; show 1 ≤ l.toNat; omega
theorem sumL_cons (t : LTok) (r : List LTok) : sumL (t :: r) = lenL t + sumL r := by simp [sumL]
theorem sumL_app (a b : List LTok) : sumL (a ++ b) = sumL a + sumL b := by simp [sumL]
theorem sumL_zero {ts : List LTok} (h : ∀ t ∈ ts, tokOk t) (e : sumL ts = 0) : ts = [] := by
  cases ts with
  | nil => rfl
  | cons t r => have := tokOk_len (h t (.head _)); rw [sumL_cons] at e; omega
theorem marks_bit : ∀ (G : List LTok) (k : Nat) (h : k < G.length), marksOf G / 2 ^ k % 2 = markL G[k]
  | [], k, h => absurd h (Nat.not_lt_zero _)
  | t :: r, 0, _ => by
    have h : markL t ≤ 1 := by cases t <;> simp [markL]
    show (markL t + 2 * marksOf r) / 2 ^ 0 % 2 = markL t
    rw [Nat.pow_zero, Nat.div_one]
    omega
  | t :: r, k + 1, h => by
    have ih := marks_bit r k (by simpa using h)
    have h1 : markL t ≤ 1 := by cases t <;> simp [markL]
    show (markL t + 2 * marksOf r) / 2 ^ (k + 1) % 2 = markL (r[k]'(by simpa using h))
    rw [Nat.pow_succ, Nat.mul_comm (2 ^ k) 2, ← Nat.div_div_eq_div_mul, show (markL t + 2 * marksOf r) / 2 = marksOf r by omega]
    exact ih
/-- ahead of a turn of the outer loop -/
def rdO (ks : List Int) (ts : List LTok) (total : Nat) (a d : Nat) (pre : List LTok) : Prop := ∃ rest, pre ++ rest = ts ∧ ks.drop a = wrt rest ∧ a ≤ ks.length ∧ d + sumL rest = total
/-- ahead of a turn of the inner loop -/
def rdI (ks : List Int) (ts : List LTok) (total M a d k : Nat) (pre : List LTok) : Prop :=
  ∃ p0 G R, p0 ++ (G ++ R) = ts ∧ pre = p0 ++ G.take k ∧ k ≤ G.length ∧ G.length ≤ 8 ∧ (G.length < 8 → R = []) ∧ M = marksOf G ∧ ks.drop a = bodyOf (G.drop k) ++ wrt R ∧ a ≤ ks.length ∧ d + sumL (G.drop k) + sumL R = total
theorem lt_of_drop {ks : List Int} {a : Nat} {x : Int} {r : List Int} (h : ks.drop a = x :: r) : a < ks.length ∧ ks.getD a 0 = x ∧ ks.drop (a + 1) = r := by
  have hl : a < ks.length := by
    rcases Nat.lt_or_ge a ks.length with h1 | h1
    · exact h1
    · rw [List.drop_eq_nil_of_le h1] at h; cases h
  rw [List.drop_eq_getElem_cons hl] at h
  injection h with h1 h2
  exact ⟨hl, by simp [List.getD, List.getElem?_eq_getElem hl, h1], h2⟩
theorem rd_start {ts : List LTok} {ks : List Int} {a : Nat} (h : ks.drop a = wrt ts) (ha : a ≤ ks.length) : rdO ks ts (sumL ts) a 0 [] := ⟨ts, rfl, h, ha, by omega⟩
theorem rd_turn {ks : List Int} {ts : List LTok} {total a d : Nat} {pre : List LTok} (h : rdO ks ts total a d pre) (hd : d < total) :
    a < ks.length ∧ ∃ M : Nat, ks.getD a 0 = (M : Int) ∧ M < 256 ∧ rdI ks ts total M (a + 1) d 0 pre := by
  obtain ⟨rest, h1, h2, h3, h4⟩ := h
  have hne : rest ≠ [] := by rintro rfl; simp [sumL] at h4; omega
  rw [wrt_cons hne] at h2
  obtain ⟨q1, q2, q3⟩ := lt_of_drop h2
  refine ⟨q1, marksOf (rest.take 8), q2, ?_, pre, rest.take 8, rest.drop 8, ?_, ?_, Nat.zero_le _, ?_, ?_, rfl, q3, q1, ?_⟩
  · have := marks_lt (rest.take 8)
    have h8 : (rest.take 8).length ≤ 8 := by rw [List.length_take]; omega
    have := Nat.pow_le_pow_right (show 0 < 2 by decide) h8
    omega
  · rw [List.take_append_drop, h1]
  · simp
  · rw [List.length_take]; omega
  · intro h8
    rw [List.length_take] at h8
    exact List.drop_eq_nil_of_le (by omega)
  · rw [List.drop_zero, Nat.add_assoc, ← sumL_app, List.take_append_drop, h4]
theorem rd_in {ks : List Int} {ts : List LTok} {total M a d k : Nat} {pre : List LTok} (h : rdI ks ts total M a d k pre) (hok : ∀ t ∈ ts, tokOk t) (hk : k < 8) (hd : d < total) :
    a < ks.length ∧
    ((M / 2 ^ k % 2 = 0 ∧ 0 ≤ ks.getD a 0 ∧ ks.getD a 0 < 256 ∧ rdI ks ts total M (a + 1) (d + 1) (k + 1) (pre ++ [.byte (ks.getD a 0)])) ∨
     (M / 2 ^ k % 2 = 1 ∧ ∃ (e l : Nat) (rest : List Int), ks.drop a = vint e ++ rest ∧ e < 5000 ∧ 1 ≤ e ∧ a + (vint e).length < ks.length ∧ 0 ≤ ks.getD (a + (vint e).length) 0 ∧ ks.getD (a + (vint e).length) 0 + 3 = (l : Int) ∧ l ≤ 258 ∧ rdI ks ts total M (a + (vint e).length + 1) (d + l) (k + 1) (pre ++ [.copy e l]))) := by
  obtain ⟨p0, G, R, h1, h2, h3, h4, h5, h6, h7, h8, h9⟩ := h
  have hkl : k < G.length := by
    rcases Nat.lt_or_ge k G.length with q | q
    · exact q
    · have e1 : R = [] := h5 (by omega)
      rw [List.drop_eq_nil_of_le q, e1] at h9
      simp [sumL] at h9
      omega
  have hG : G.drop k = G[k] :: G.drop (k + 1) := List.drop_eq_getElem_cons hkl
  have hm : tokOk G[k] := hok _ (by rw [← h1]; exact List.mem_append.mpr (.inr (List.mem_append.mpr (.inl (List.getElem_mem hkl)))))
  have hb := marks_bit G k hkl
  have ht : G.take (k + 1) = G.take k ++ [G[k]] := by rw [List.take_add_one]; simp [List.getElem?_eq_getElem hkl]
  rw [hG] at h7 h9
  rw [show bodyOf (G[k] :: G.drop (k + 1)) = encL G[k] ++ bodyOf (G.drop (k + 1)) from List.flatMap_cons ..] at h7
  rw [sumL_cons] at h9
  rw [← h6] at hb
  generalize G[k] = t at hm hb h7 h9 ht
  cases t with
  | byte b =>
    rw [show encL (.byte b) = [b] from rfl, List.append_assoc, List.singleton_append] at h7
    obtain ⟨q1, q2, q3⟩ := lt_of_drop h7
    refine ⟨q1, .inl ⟨hb, by rw [q2]; exact hm.1, by rw [q2]; exact hm.2, p0, G, R, h1, ?_, hkl, h4, h5, h6, q3, q1, ?_⟩⟩
    · rw [ht, h2, q2, List.append_assoc]
    · rw [show lenL (.byte b) = 1 from rfl] at h9; omega
  | copy e l =>
    obtain ⟨m1, m2, m3, m4⟩ := hm
    obtain ⟨e, rfl⟩ := Int.eq_ofNat_of_zero_le (show 0 ≤ e by omega)
    obtain ⟨l, rfl⟩ := Int.eq_ofNat_of_zero_le (show 0 ≤ l by omega)
    rw [show encL (.copy e l) = vint e ++ [(l : Int) - 3] from rfl, List.append_assoc, List.append_assoc, List.singleton_append] at h7
    have hl := vint_len e
    have h7' : ks.drop (a + (vint e).length) = ((l : Int) - 3) :: (bodyOf (G.drop (k + 1)) ++ wrt R) := by
      rw [← List.drop_drop, h7, List.drop_left]
    obtain ⟨q1, q2, q3⟩ := lt_of_drop h7'
    refine ⟨by omega, .inr ⟨hb, e, l, _, h7, by omega, by omega, q1, by rw [q2]; omega, by rw [q2]; omega, by omega, p0, G, R, h1, ?_, hkl, h4, h5, h6, q3, q1, ?_⟩⟩
    · rw [ht, h2, List.append_assoc]
    · rw [show lenL (.copy (e : Int) (l : Int)) = l from rfl] at h9; omega
theorem rd_out {ks : List Int} {ts : List LTok} {total M a d k : Nat} {pre : List LTok} (h : rdI ks ts total M a d k pre) (hok : ∀ t ∈ ts, tokOk t) (hx : ¬ (k < 8 ∧ d < total)) : M / 2 ^ k = 0 ∧ rdO ks ts total a d pre := by
  obtain ⟨p0, G, R, h1, h2, h3, h4, h5, h6, h7, h8, h9⟩ := h
  have hk : k = G.length := by
    rcases Nat.lt_or_ge k 8 with q | q
    · have hd : ¬ d < total := fun q' => hx ⟨q, q'⟩
      have e0 : sumL (G.drop k) = 0 := by omega
      have e1 := sumL_zero (fun t ht => hok t (by rw [← h1]; exact List.mem_append.mpr (.inr (List.mem_append.mpr (.inl (List.mem_of_mem_drop ht)))))) e0
      have := congrArg List.length e1
      rw [List.length_drop, List.length_nil] at this
      omega
    · omega
  subst hk
  rw [List.drop_length] at h7 h9
  refine ⟨?_, R, ?_, h7, h8, ?_⟩
  · rw [h6]; exact Nat.div_eq_of_lt (marks_lt G)
  · rw [h2, List.take_length, List.append_assoc, h1]
  · simp [sumL] at h9 ⊢; omega
theorem rd_end {ks : List Int} {ts : List LTok} {total a d : Nat} {pre : List LTok} (h : rdO ks ts total a d pre) (hok : ∀ t ∈ ts, tokOk t) (hx : ¬ d < total) : a = ks.length ∧ d = total ∧ pre = ts := by
  obtain ⟨rest, h1, h2, h3, h4⟩ := h
  have e := sumL_zero (fun t ht => hok t (by rw [← h1]; exact List.mem_append.mpr (.inr ht))) (show sumL rest = 0 by omega)
  subst e
  rw [wrt_nil] at h2
  have := congrArg List.length h2
  rw [List.length_drop, List.length_nil] at this
  exact ⟨by omega, by simp [sumL] at h4; omega, by simpa using h1⟩
/-- how far two places tell the same -/
def sameN (ns : List Int) (p a l : Nat) : Prop := a + l ≤ ns.length ∧ ∀ t, t < l → ns.getD (p + t) 0 = ns.getD (a + t) 0
theorem sameN_zero {ns : List Int} {p a : Nat} (h : a ≤ ns.length) : sameN ns p a 0 := ⟨h, fun _ h => absurd h (Nat.not_lt_zero _)⟩
theorem sameN_succ {ns : List Int} {p a l : Nat} (h : sameN ns p a l) (h2 : a + l + 1 ≤ ns.length) (e : ns.getD (p + l) 0 = ns.getD (a + l) 0) : sameN ns p a (l + 1) :=
  ⟨h2, fun t ht => by rcases Nat.lt_or_ge t l with q | q; exact h.2 t q; rw [show t = l by omega]; exact e⟩
/-- the tokens so far tell the bytes as far as a -/
def tkP (ns : List Int) (a : Nat) (ts : List LTok) : Prop := a ≤ ns.length ∧ okAll [] ts ∧ expAll ts = ns.take a ∧ ts.length ≤ a ∧ sumL ts = a
theorem tk_start (ns : List Int) : tkP ns 0 [] := ⟨Nat.zero_le _, trivial, by simp [expAll], Nat.le_refl _, rfl⟩
theorem tk_byte {ns : List Int} {a : Nat} {ts : List LTok} (h : tkP ns a ts) (ha : a < ns.length) (hb : ∀ v ∈ ns, 0 ≤ v ∧ v < 256) : tkP ns (a + 1) (ts ++ [.byte (ns.getD a 0)]) := by
  obtain ⟨h1, h2, h3, h4, h5⟩ := h
  have hv : ns.getD a 0 ∈ ns := by simp [List.getD, List.getElem?_eq_getElem ha]
  refine ⟨ha, okAll_app _ _ _ h2 (hb _ hv), ?_, ?_, ?_⟩
  · rw [expAll_app, h3, take_succ_getD ha]; rfl
  · rw [List.length_append, List.length_singleton]; omega
  · rw [sumL_app, h5]; rfl
theorem tk_copy {ns : List Int} {a : Nat} {ts : List LTok} (h : tkP ns a ts) {d l : Nat} (hd : 1 ≤ d) (hda : d ≤ a) (hd4 : d ≤ 4096) (hl : 3 ≤ l) (hl2 : l ≤ 258) (hs : sameN ns (a - d) a l) : tkP ns (a + l) (ts ++ [.copy d l]) := by
  obtain ⟨h1, h2, h3, h4, h5⟩ := h
  have e : (ns.take a).length = a := by rw [List.length_take]; omega
  refine ⟨hs.1, okAll_app _ _ _ h2 ?_, ?_, ?_, ?_⟩
  · show 1 ≤ (d : Int) ∧ (d : Int) ≤ ((expAll ts).length : Nat) ∧ _
    rw [h3, e]
    omega
  · rw [expAll_app, h3]
    show copyN (ns.take a) d l = _
    exact copyN_take d hd l a hda hs.1 hs.2
  · rw [List.length_append, List.length_singleton]; omega
  · rw [sumL_app, h5]; show a + (l + 0) = a + l; omega
theorem okAll_tok : ∀ (ts : List LTok) (out : List Int), okAll out ts → ∀ t ∈ ts, tokOk t
  | t :: r, out, h, x, hx => by
    rcases List.mem_cons.mp hx with rfl | hx
    · cases x with
      | byte b => exact h.1
      | copy d l => have h1 : 1 ≤ d ∧ d ≤ out.length ∧ d ≤ 4096 ∧ 3 ≤ l ∧ l ≤ 258 := h.1; exact ⟨h1.1, h1.2.2⟩
    · exact okAll_tok r _ h.2 x hx
  | [], _, _, _, hx => (nomatch hx)
/-- what expand does with what is left -/
theorem exp_step {out : List Int} {t : LTok} {r : List LTok} (h : okAll out (t :: r)) : okL out t ∧ okAll (expL out t) r := h
theorem allLt_mem {d : Addr} : ∀ {l : List (Addr × Obj)}, AllLt d l → ∀ p ∈ l, p.1 < d
  | [], _, _, hp => (nomatch hp)
  | q :: r, h, p, hp => by
    rcases List.mem_cons.mp hp with rfl | hp
    · exact h.1
    · exact allLt_mem h.2 p hp
/-- places of a key: whole lists of places below n -/
def PlAll (led : List (Addr × Obj)) (n : Nat) (kvs : List (List UInt8 × Value)) : Prop :=
  ∀ kv ∈ kvs, ∃ a vs c zs, kv.2 = .ref a ∧ (a, listOf vs.toArray c) ∈ led ∧ IntsAre vs zs ∧ (∀ z ∈ zs, 0 ≤ z ∧ z < (n : Int)) ∧ zs.length ≤ n
theorem PlAll.start {led : List (Addr × Obj)} {n : Nat} : PlAll led n [] := fun _ h => nomatch h
theorem PlAll.mono {led led' : List (Addr × Obj)} {n : Nat} {kvs : List (List UInt8 × Value)} (h : PlAll led n kvs) (hs : ∀ p ∈ led, p ∈ led') : PlAll led' n kvs :=
  fun kv hk => let ⟨a, vs, c, zs, e, m, r⟩ := h kv hk; ⟨a, vs, c, zs, e, hs _ m, r⟩
theorem PlAll.next {led : List (Addr × Obj)} {n : Nat} {kvs : List (List UInt8 × Value)} (h : PlAll led n kvs) : PlAll led (n + 1) kvs :=
  fun kv hk => let ⟨a, vs, c, zs, e, m, i, b, l⟩ := h kv hk; ⟨a, vs, c, zs, e, m, i, fun z hz => ⟨(b z hz).1, by have := (b z hz).2; omega⟩, by omega⟩
theorem valueAt_mem {K : Type} [DecidableEq K] {kvs : List (K × Value)} {k : K} {v : Value} (h : valueAt kvs k = some v) : (k, v) ∈ kvs := by
  unfold valueAt at h
  cases hf : kvs.find? (fun kv => kv.1 = k) with
  | none => rw [hf] at h; cases h
  | some x =>
    rw [hf] at h
    have h1 := List.mem_of_find?_eq_some hf
    have h2 := List.find?_some hf
    have h3 : x.1 = k := by simpa using h2
    have h4 : x.2 = v := by simpa using h
    rw [← h3, ← h4]
    exact h1
theorem valueAt_new {K : Type} [DecidableEq K] {kvs : List (K × Value)} {k : K} {v : Value} (h : valueAt kvs k = none) : valueAt (stored kvs k v) k = some v := by
  rw [stored_absent h]
  unfold valueAt at h ⊢
  rw [List.find?_append]
  have e : kvs.find? (fun kv => kv.1 = k) = none := by simpa using h
  rw [e]
  simp
theorem put_mem {a : Addr} {o o' : Obj} {led : List (Addr × Obj)} (h : (a, o) ∈ led) : (a, o') ∈ Mine.put a o' led := by
  unfold Mine.put
  exact List.mem_map.mpr ⟨_, h, by rw [if_pos rfl]⟩
theorem put_keep {a : Addr} {o' : Obj} {q : Addr × Obj} {led : List (Addr × Obj)} (h : q ∈ led) (hn : q.1 ≠ a) : q ∈ Mine.put a o' led := by
  unfold Mine.put
  exact List.mem_map.mpr ⟨_, h, by rw [if_neg hn]⟩
theorem put_adr {a : Addr} {o' : Obj} {q : Addr × Obj} {led : List (Addr × Obj)} (h : q ∈ Mine.put a o' led) : ∃ p ∈ led, p.1 = q.1 := by
  unfold Mine.put at h
  obtain ⟨p, hp, e⟩ := List.mem_map.mp h
  refine ⟨p, hp, ?_⟩
  by_cases e1 : p.1 = a
  · rw [if_pos e1] at e; rw [← e, e1]
  · rw [if_neg e1] at e; rw [e]
/-- a list of places of some key grew by n -/
theorem PlAll.put {led : List (Addr × Obj)} {n c' : Nat} {kvs : List (List UInt8 × Value)} {a : Addr} {vs : List Value} {zs : List Int} {t : Tok} (h : PlAll led n kvs) (hi : IntsAre vs zs) (hb : ∀ z ∈ zs, 0 ≤ z ∧ z < (n : Int)) (hl : zs.length ≤ n) :
    PlAll (Mine.put a (listOf (vs ++ [Value.int (n : Int) t]).toArray c') led) (n + 1) kvs := by
  intro kv hk
  obtain ⟨a', vs', c'', zs', e, m, i, b, l⟩ := h kv hk
  by_cases ea : a' = a
  · refine ⟨a, _, c', zs ++ [(n : Int)], by rw [e, ea], put_mem (ea ▸ m), hi.append (.cons _ _ .nil), fun z hz => ?_, by rw [List.length_append, List.length_singleton]; omega⟩
    rcases List.mem_append.mp hz with hz | hz
    · exact ⟨(hb z hz).1, by have := (hb z hz).2; omega⟩
    · rw [List.mem_singleton.mp hz]; omega
  · exact ⟨a', vs', c'', zs', e, put_keep m ea, i, fun z hz => ⟨(b z hz).1, by have := (b z hz).2; omega⟩, by omega⟩
/-- a key comes, with no place yet -/
theorem PlAll.fresh {led : List (Addr × Obj)} {n c : Nat} {kvs : List (List UInt8 × Value)} {k : List UInt8} {a : Addr} (h : PlAll led n kvs) (hk : valueAt kvs k = none) :
    PlAll ((a, listOf #[] c) :: led) n (stored kvs k (.ref a)) := by
  rw [stored_absent hk]
  intro kv hkv
  rcases List.mem_append.mp hkv with hkv | hkv
  · obtain ⟨a', vs', c', zs', e, m, r⟩ := h kv hkv
    exact ⟨a', vs', c', zs', e, .tail _ m, r⟩
  · rw [List.mem_singleton.mp hkv]
    exact ⟨a, [], c, [], rfl, .head _, .nil, fun z hz => (nomatch hz), Nat.zero_le _⟩
section
variable {prog : Program} {w : World} {A : Around} {E : Value → Shared → Prop} {s : Shared} {h₀ : Heap} {L d a : Addr} {m : Str → Option Value} {led news : List (Addr × Obj)} {o : Obj} {kvs : List (List UInt8 × Value)} {b : Array UInt8} {t : Tok} {n : Nat}
theorem is_bytes : (bytesKind prog w).is b.toList (.bytes b t) = true := by simp [bytesKind, isBytes]
theorem pl_notin {Q : Value → Shared → Prop} (N : News h₀ L s.heap news) (hp : (d, o) ∈ news) (hd : o.IsDictOf (bytesKind prog w) kvs) (lo : (d == sysModules) = false) (hP : PlAll led n kvs)
    (h1 : valueAt kvs b.toList = none → ∀ k, Q (.bool true) { s with toks := k })
    (h2 : ∀ a vs c zs, valueAt kvs b.toList = some (.ref a) → (a, listOf vs.toArray c) ∈ led → IntsAre vs zs → (∀ z ∈ zs, 0 ≤ z ∧ z < (n : Int)) → zs.length ≤ n → ∀ k, Q (.bool false) { s with toks := k }) :
    wpAny (model prog w) A (compareOp .NotIn (.bytes b t) (.ref d)) Q E s := by
  cases hv : valueAt kvs b.toList with
  | none => exact kdg_notin N hp hd lo is_bytes false (by rw [hv]; rfl) (h1 hv _)
  | some v =>
    obtain ⟨a, vs, c, zs, e, hm, hi, hb, hl⟩ := hP _ (valueAt_mem hv)
    have e' : v = .ref a := e
    subst e'
    exact kdg_notin N hp hd lo is_bytes true (by rw [hv]; rfl) (h2 a vs c zs hv hm hi hb hl _)
theorem pl_item {value slice : Expr} {Q : Value → Shared → Prop} (N : News h₀ L s.heap news) (hp : (d, o) ∈ news) (hd : o.IsDictOf (bytesKind prog w) kvs) (hv : valueAt kvs b.toList = some (.ref a)) (h : ∀ k, Q (.ref a) { s with toks := k })
    (hs : subscripted slice false (.ref d) (.bytes b t) = operate [.ref d, .bytes b t] (getItem (.ref d) (.bytes b t)) := by with_unfolding_all rfl) (hg : ∀ r, letTemporaryGo value (.ref d) r = pure () := by intro _; with_unfolding_all rfl) :
    wpAny (model prog w) A (subscriptTail value slice (.ref d) (.bytes b t)) Q E s := kda_item N hp hd is_bytes hv (h _) hs hg
/-- append to a list that stands anywhere in the ledger -/
theorem append_put {its : Array Value} {c : Nat} {x : Value} {Q : Value → Shared → Prop} (F : Fr h₀ L s.heap m) (N : News h₀ L s.heap news) (hm : (a, listOf its c) ∈ news) (hz : its.size ≤ sizeLine)
    (h : ∀ h', Fr h₀ L h' m → News h₀ L h' (Mine.put a (listOf (its.push x) (c + 1)) news) → Q .none { s with heap := h' }) : wpAny (model prog w) A (call (.builtin "list.append") [.ref a, x]) Q E s := by
  have z := N _ hm
  exact append_at (hsz := hz) z.1 fun h' hs ho' => h h' (F.change hs z.2.1 z.2.2) (news_put N hm hs ho')
end
def CmOut (ns : List Int) (i j : Nat) (mo : Int) (news : List (Addr × Obj)) (r : Value) (news' : List (Addr × Obj)) : Prop := ∃ (l : Nat) (t : Tok), r = .int (l : Int) t ∧ news' = news ∧ (l : Int) ≤ mo ∧ sameN ns i j l
def CmC (f : Addr) (prog : Program) (w : World) (K : Frag) (p : Program) (loose : List Str) (mean : ExcName → Option Value) (mg mb : Str → Option Value) : Prop :=
  ∀ (b : Array UInt8) (ns : List Int) (x y mo : Int) (tb t1 t2 t3 : Tok) (news : List (Addr × Obj)), KBw.bInts b = ns → ns.length ≤ 1000 → 0 ≤ x → 0 ≤ y → 0 ≤ mo → x + mo ≤ ns.length → y + mo ≤ ns.length →
    Fun prog w K p loose mean mg mb 20 f [.bytes b tb, .int x t1, .int y t2, .int mo t3] news (CmOut ns x.toNat y.toNat mo news)
structure CmS where
  l : Nat
  t : Tok
def cmPs (c : CmS) : List (Str × Value) := [(Str.ofString "count", .int c.l c.t)]
def cmP (ns : List Int) (x y mo : Int) (c : CmS) : Prop := (c.l : Int) ≤ mo ∧ sameN ns x.toNat y.toNat c.l
section
variable {prog : Program} {w : World} {A : Around} {E : Value → Shared → Prop} {Q : Flow → Shared → Prop} {s : Shared} {env : Env} {h₀ : Heap} {L : Addr}
theorem cm_while {test : Expr} {body : List Stmt} {pos : Pos} {m₀ : Str → Option Value} {ns : List Int} {news : List (Addr × Obj)} {t t1 t2 t3 : Tok} {x y mo : Int}
    (F : Fr h₀ L s.heap m₀) (N : News h₀ L s.heap news) (hc : m₀ (Str.ofString "count") = some (.int 0 t)) (_hi : m₀ (Str.ofString "i") = some (.int x t1)) (_hj : m₀ (Str.ofString "j") = some (.int y t2)) (_hm : m₀ (Str.ofString "most") = some (.int mo t3))
    (h0 : 0 ≤ mo) (hy : 0 ≤ y) (hl : y + mo ≤ (ns.length : Int))
    (turn : ∀ (l : Nat) (t : Tok) h tk, (l : Int) ≤ mo → sameN ns x.toNat y.toNat l →
      Fr h₀ L h (fun z => if z = Str.ofString "count" then some (.int l t) else m₀ z) → News h₀ L h news →
      wpAny (model prog w) A (isTrue test env (eval test env)) (fun b' s₂ =>
        if b' = true then wpAny (model prog w) A (execs body env) (KswPost h₀ L s (fun _ => news) cmPs (fun _ => True) [] m₀ (cmP ns x y mo) (fun c => mo.toNat - c.l) Q ⟨l, t⟩) E s₂ else Q .next s₂) E { s with heap := h, toks := tk })
    (hE : PassesOwn (model prog w) A env E := by passes_own) :
    wpAny (model prog w) A (exec (.While test body [] pos) env) Q E s := by
  refine ksw_while (fun _ => news) cmPs (fun _ => True) [] (cmP ns x y mo) (fun c => mo.toNat - c.l) ⟨0, t⟩ F N trivial ?_ ⟨h0, sameN_zero (by omega)⟩ ?_ hE
  · intro p hp
    rw [List.mem_singleton.mp hp]
    exact hc
  · rintro ⟨l, t⟩ u h tk _ ⟨p1, p2⟩ F₁ N₁
    exact turn l t h tk p1 p2 F₁ N₁
theorem cm_end {m₀ m' : Str → Option Value} {news news' : List (Addr × Obj)} {ns : List Int} {l : Nat} {x y mo z : Int} {t tj : Tok} {h' : Heap} {tk : Nat}
    (F : Fr h₀ L h' m') (N : News h₀ L h' news') (hn : ∀ p ∈ news, p ∈ news')
    (hm : m' (Str.ofString "count") = some (.int z tj)) (hr : ∀ q, (∀ p ∈ [(Str.ofString "count", Value.int z tj)], q ≠ p.1) → ([] : List Str).contains q = false → m' q = m₀ q)
    (hz : z = (l : Int) + 1) (h1 : (l : Int) < mo) (hx : 0 ≤ x) (hy : 0 ≤ y) (hl : y + mo ≤ (ns.length : Int)) (hs : sameN ns x.toNat y.toNat l) (he : ns.getD (x + (l : Int)).toNat 0 = ns.getD (y + (l : Int)).toNat 0) :
    KswEnd h₀ L s (fun _ => news) cmPs (fun _ => True) [] m₀ (cmP ns x y mo) (fun c => mo.toNat - c.l) ⟨l, t⟩ { s with heap := h', toks := tk } := by
  subst hz
  have e1 : (x + (l : Int)).toNat = x.toNat + l := by omega
  have e2 : (y + (l : Int)).toNat = y.toNat + l := by omega
  rw [e1, e2] at he
  refine ksw_end (c' := ⟨l + 1, tj⟩) F N hn trivial ?_ ?_ ⟨by show ((l + 1 : Nat) : Int) ≤ mo; omega, sameN_succ hs (by omega) he⟩ ?_
  · intro q hq
    rw [List.mem_singleton.mp hq]
    exact hm
  · intro q hq
    refine hr q fun p hp => ?_
    rw [List.mem_singleton.mp hp]
    exact hq _ (.head _)
  · show mo.toNat - (l + 1) < mo.toNat - l
    omega
theorem cm_ret {m : Str → Option Value} {ns : List Int} {news : List (Addr × Obj)} {l : Nat} {x y mo : Int} {t : Tok} {Q : Value → Shared → Prop} {h : Heap} {tk : Nat}
    (hret : ∀ r news' h' tk', CmOut ns x.toNat y.toNat mo news r news' → Fr h₀ L h' m → News h₀ L h' news' → Q r { s with heap := h', toks := tk' }) (F : Fr h₀ L h m) (N : News h₀ L h news)
    (h1 : (l : Int) ≤ mo) (h2 : sameN ns x.toNat y.toNat l) : Q (.int (l : Int) t) { s with heap := h, toks := tk } :=
  hret _ _ _ _ ⟨l, t, rfl, rfl, h1, h2⟩ F N
end
def beGood (ns : List Int) (n : Nat) (d l : Int) : Prop := (d = 0 ∧ l = 0) ∨ (1 ≤ d ∧ d ≤ n ∧ d ≤ 4096 ∧ 0 ≤ l ∧ l ≤ 258 ∧ sameN ns (n - d.toNat) n l.toNat)
theorem be_new {ns : List Int} {n l : Nat} {v v2 mo : Int} (hs : sameN ns v2.toNat (n : Int).toNat l) (h0 : 0 ≤ v) (h1 : v < (n : Int)) (e : v2 = v) (hn : n < ns.length) (h4 : ns.length ≤ 400) (hl : (l : Int) ≤ mo) (hm : mo ≤ 258) : beGood ns n ((n : Int) - v) (l : Int) := by
  subst e
  refine .inr ⟨by omega, by omega, by omega, by omega, by omega, ?_⟩
  have e1 : n - ((n : Int) - v2).toNat = v2.toNat := by omega
  rw [e1, Int.toNat_natCast]
  rw [Int.toNat_natCast] at hs
  exact hs
def BeOut (ns : List Int) (n : Nat) (news : List (Addr × Obj)) (r : Value) (news' : List (Addr × Obj)) : Prop :=
  ∃ T d l t1 t2, r = .ref T ∧ news' = (T, { cls := .type "tuple", data := .seq #[.int d t1, .int l t2] }) :: news ∧ (∀ q ∈ news, q.1 < T) ∧ beGood ns n d l
def BeC (f cls : Addr) (prog : Program) (w : World) (K : Frag) (p : Program) (loose : List Str) (mean : ExcName → Option Value) (mg mb : Str → Option Value) : Prop :=
  ∀ (b : Array UInt8) (ns : List Int) (S D PL : Addr) (t1 t2 t3 tb tw t : Tok) (oP : Obj) (kvs : List (List UInt8 × Value)) (n : Nat) (news : List (Addr × Obj)), (S, instObj cls D) ∈ news →
    (D, dictOf [⟨PyData.keyHash w.params (Str.ofString "_data"), .str (Str.ofString "_data") t1, .bytes b tb⟩, ⟨PyData.keyHash w.params (Str.ofString "_window"), .str (Str.ofString "_window") t2, .int 4096 tw⟩, ⟨PyData.keyHash w.params (Str.ofString "_places"), .str (Str.ofString "_places") t3, .ref PL⟩] 3) ∈ news →
    (PL, oP) ∈ news → (PL == sysModules) = false → oP.IsDictOf (bytesKind prog w) kvs → PlAll news n kvs → KBw.bInts b = ns → ns.length ≤ 400 → n < ns.length →
    Fun prog w K p loose mean mg mb 40 f [.ref S, .int (n : Int) t] news (BeOut ns n news)
theorem news_cons3 {h₀ h : Heap} {L : Addr} {x y z : Addr × Obj} {news : List (Addr × Obj)} (N : News h₀ L h news) (hx : x ∈ news) (hy : y ∈ news) (hz : z ∈ news) : News h₀ L h (x :: y :: z :: news) := by
  intro q hq
  rcases List.mem_cons.mp hq with rfl | hq
  · exact N _ hx
  · rcases List.mem_cons.mp hq with rfl | hq
    · exact N _ hy
    · rcases List.mem_cons.mp hq with rfl | hq
      · exact N _ hz
      · exact N q hq
structure BeS where
  T : Addr
  d : Int
  l : Int
  t1 : Tok
  t2 : Tok
  k : Int
  tk : Tok
  r : Int
  tr : Tok
def beLed (nw : List (Addr × Obj)) (c : BeS) : List (Addr × Obj) := (c.T, { cls := .type "tuple", data := .seq #[.int c.d c.t1, .int c.l c.t2] }) :: nw
def bePs (c : BeS) : List (Str × Value) := [(Str.ofString "found", .ref c.T), (Str.ofString "k", .int c.k c.tk), (Str.ofString "tried", .int c.r c.tr)]
def beNames : List Str := [Str.ofString "distance", Str.ofString "length"]
def beP (ns : List Int) (n zl : Nat) (news : List (Addr × Obj)) (c : BeS) : Prop := beGood ns n c.d c.l ∧ c.k < (zl : Int) ∧ -1 ≤ c.k ∧ ∀ q ∈ news, q.1 < c.T
section
variable {prog : Program} {w : World} {A : Around} {E : Value → Shared → Prop} {Q : Flow → Shared → Prop} {s : Shared} {env : Env} {h₀ : Heap} {L : Addr}
theorem be_while {test : Expr} {body : List Stmt} {pos : Pos} {m₀ : Str → Option Value} {ns zs : List Int} {vs : List Value} {nw news : List (Addr × Obj)} {T a : Addr} {n c : Nat} {t1 t2 tk tr : Tok} {x : Int}
    (F : Fr h₀ L s.heap m₀) (N : News h₀ L s.heap ((T, { cls := .type "tuple", data := .seq #[.int 0 t1, .int 0 t2] }) :: nw)) (f1 : m₀ (Str.ofString "found") = some (.ref T)) (f2 : m₀ (Str.ofString "k") = some (.int x tk)) (f3 : m₀ (Str.ofString "tried") = some (.int 0 tr)) (_f4 : m₀ (Str.ofString "places") = some (.ref a))
    (_hm : (a, listOf vs.toArray c) ∈ news) (_hv : IntsAre vs zs) (_hn : n < ns.length) (hx : x = (zs.length : Int) - 1) (hT : ∀ q ∈ news, q.1 < T)
    (turn : ∀ (T : Addr) (d l : Int) (t1 t2 : Tok) (k : Int) (tk : Tok) (r : Int) (tr : Tok) (u : Str → Option Value) h tok, beGood ns n d l → k < (zs.length : Int) → -1 ≤ k → (∀ q ∈ news, q.1 < T) →
      Fr h₀ L h (fun z => if z = Str.ofString "found" then some (.ref T) else if z = Str.ofString "k" then some (.int k tk) else if z = Str.ofString "tried" then some (.int r tr) else if beNames.contains z then u z else m₀ z) → News h₀ L h ((T, { cls := .type "tuple", data := .seq #[.int d t1, .int l t2] }) :: nw) →
      wpAny (model prog w) A (isTrue test env (eval test env)) (fun b' s₂ =>
        if b' = true then wpAny (model prog w) A (execs body env) (KswPost h₀ L s (beLed nw) bePs (fun _ => True) beNames m₀ (beP ns n zs.length news) (fun c => (c.k + 1).toNat) Q ⟨T, d, l, t1, t2, k, tk, r, tr⟩) E s₂ else Q .next s₂) E { s with heap := h, toks := tok })
    (hE : PassesOwn (model prog w) A env E := by passes_own) :
    wpAny (model prog w) A (exec (.While test body [] pos) env) Q E s := by
  refine ksw_while (beLed nw) bePs (fun _ => True) beNames (beP ns n zs.length news) (fun c => (c.k + 1).toNat) ⟨T, 0, 0, t1, t2, x, tk, 0, tr⟩ F N trivial ?_ ⟨.inl ⟨rfl, rfl⟩, by show x < _; omega, by show -1 ≤ x; omega, hT⟩ ?_ hE
  · intro p hp
    rcases List.mem_cons.mp hp with rfl | hp
    · exact f1
    · rcases List.mem_cons.mp hp with rfl | hp
      · exact f2
      · rw [List.mem_singleton.mp hp]
        exact f3
  · rintro ⟨T, d, l, t1, t2, k, tk, r, tr⟩ u h tok _ ⟨p1, p2, p3, p4⟩ F₁ N₁
    exact turn T d l t1 t2 k tk r tr u h tok p1 p2 p3 p4 F₁ N₁
theorem be_end {m₀ m' : Str → Option Value} {nw news news' : List (Addr × Obj)} {T T' : Addr} {ns : List Int} {n zl : Nat} {d l d' l' k z r r' : Int} {t1 t2 tk tr t1' t2' tk' tr' : Tok} {h' : Heap} {tok : Nat}
    (F : Fr h₀ L h' m') (N : News h₀ L h' news') (f1 : m' (Str.ofString "found") = some (.ref T')) (f2 : m' (Str.ofString "k") = some (.int z tk')) (f3 : m' (Str.ofString "tried") = some (.int r' tr'))
    (n1 : (T', ({ cls := .type "tuple", data := .seq #[.int d' t1', .int l' t2'] } : Obj)) ∈ news') (n2 : ∀ p ∈ nw, p ∈ news')
    (hr : ∀ q, (∀ p ∈ [(Str.ofString "found", Value.ref T'), (Str.ofString "k", Value.int z tk'), (Str.ofString "tried", Value.int r' tr')], q ≠ p.1) → beNames.contains q = false → m' q = m₀ q)
    (hz : z = k - 1) (hk : k < (zl : Int)) (h0 : k ≥ 0) (hT : ∀ q ∈ news, q.1 < T') (hg : beGood ns n d' l') :
    KswEnd h₀ L s (beLed nw) bePs (fun _ => True) beNames m₀ (beP ns n zl news) (fun c => (c.k + 1).toNat) ⟨T, d, l, t1, t2, k, tk, r, tr⟩ { s with heap := h', toks := tok } := by
  refine ksw_end (c' := ⟨T', d', l', t1', t2', z, tk', r', tr'⟩) F N ?_ trivial ?_ hr ⟨hg, by show z < _; omega, by show -1 ≤ z; omega, hT⟩ ?_
  · intro p hp
    rcases List.mem_cons.mp hp with rfl | hp
    · exact n1
    · exact n2 p hp
  · intro p hp
    rcases List.mem_cons.mp hp with rfl | hp
    · exact f1
    · rcases List.mem_cons.mp hp with rfl | hp
      · exact f2
      · rw [List.mem_singleton.mp hp]
        exact f3
  · show (z + 1).toNat < (k + 1).toNat
    omega
theorem be_ret {m : Str → Option Value} {ns : List Int} {n : Nat} {news led : List (Addr × Obj)} {T : Addr} {d l : Int} {t1 t2 : Tok} {Q : Value → Shared → Prop} {h : Heap} {tok : Nat}
    (hret : ∀ r news' h' tk', BeOut ns n news r news' → Fr h₀ L h' m → News h₀ L h' news' → Q r { s with heap := h', toks := tk' }) (F : Fr h₀ L h m) (N : News h₀ L h ((T, { cls := .type "tuple", data := .seq #[.int d t1, .int l t2] }) :: led))
    (hs : ∀ p ∈ news, p ∈ led) (hT : ∀ q ∈ news, q.1 < T) (hg : beGood ns n d l) : Q (.ref T) { s with heap := h, toks := tok } :=
  hret _ _ _ _ ⟨T, d, l, t1, t2, rfl, rfl, hT, hg⟩ F fun p hp => by
    rcases List.mem_cons.mp hp with rfl | hp
    · exact N _ (.head _)
    · exact N p (.tail _ (hs p hp))
/-- an item of a list of places -/
theorem pl_sub {a : Addr} {vs : List Value} {zs : List Int} {c n : Nat} {k : Int} {u : Tok} {value slice : Expr} {news : List (Addr × Obj)} {Q : Value → Shared → Prop} (N : News h₀ L s.heap news) (hm : (a, listOf vs.toArray c) ∈ news) (hi : IntsAre vs zs) (hb : ∀ z ∈ zs, 0 ≤ z ∧ z < (n : Int)) (h0 : 0 ≤ k) (h1 : k < (zs.length : Int)) (h2 : k < 2 ^ 63)
    (h : ∀ v t, v = zs.getD k.toNat 0 → 0 ≤ v → v < (n : Int) → Q (.int v t) s)
    (hs : subscripted slice false (.ref a) (.int k u) = operate [.ref a, .int k u] (getItem (.ref a) (.int k u)) := by with_unfolding_all rfl) :
    wpAny (model prog w) A (subscriptTail value slice (.ref a) (.int k u)) Q E s := by
  refine ksa_sub N hm hi h0 h1 h2 (fun t => ?_) hs
  have hlt : k.toNat < zs.length := by omega
  have hz : zs.getD k.toNat 0 ∈ zs := by simp [List.getD, List.getElem?_eq_getElem hlt]
  exact h _ t rfl (hb _ hz).1 (hb _ hz).2
end
theorem be_le {ns : List Int} {n : Nat} {d l : Int} (h : beGood ns n d l) : 0 ≤ l ∧ l ≤ 258 := by
  rcases h with ⟨_, h2⟩ | ⟨_, _, _, h4, h5, _⟩ <;> omega
theorem tk_le {ns : List Int} {a : Nat} {ts : List LTok} (h : tkP ns a ts) : a ≤ ns.length := h.1
def AaOut (prog : Program) (w : World) (PL : Addr) (n : Nat) (tl rest : List (Addr × Obj)) (r : Value) (news' : List (Addr × Obj)) : Prop :=
  ∃ oP kvs tl', r = .none ∧ news' = (PL, oP) :: (tl' ++ rest) ∧ oP.IsDictOf (bytesKind prog w) kvs ∧ PlAll tl' (n + 1) kvs ∧ kvs.length ≤ n + 1 ∧ (∀ p ∈ tl', p.1 ≠ PL) ∧ (∀ p ∈ tl', ∀ q ∈ rest, p.1 ≠ q.1)
def AaC (f cls : Addr) (prog : Program) (w : World) (K : Frag) (p : Program) (loose : List Str) (mean : ExcName → Option Value) (mg mb : Str → Option Value) : Prop :=
  ∀ (b : Array UInt8) (ns : List Int) (S D PL : Addr) (t1 t2 t3 tb tw t : Tok) (oP : Obj) (kvs : List (List UInt8 × Value)) (n : Nat) (x : Int) (tl rest : List (Addr × Obj)), (S, instObj cls D) ∈ rest →
    (D, dictOf [⟨PyData.keyHash w.params (Str.ofString "_data"), .str (Str.ofString "_data") t1, .bytes b tb⟩, ⟨PyData.keyHash w.params (Str.ofString "_window"), .str (Str.ofString "_window") t2, .int 4096 tw⟩, ⟨PyData.keyHash w.params (Str.ofString "_places"), .str (Str.ofString "_places") t3, .ref PL⟩] 3) ∈ rest →
    (PL == sysModules) = false → oP.IsDictOf (bytesKind prog w) kvs → PlAll tl n kvs → kvs.length ≤ n → KBw.bInts b = ns → ns.length ≤ 400 → x = (n : Int) → n ≤ 400 → (∀ p ∈ tl, p.1 ≠ PL) → (∀ q ∈ rest, q.1 ≠ PL) → (∀ p ∈ tl, ∀ q ∈ rest, p.1 ≠ q.1) →
    Fun prog w K p loose mean mg mb 40 f [.ref S, .int x t] ((PL, oP) :: (tl ++ rest)) (AaOut prog w PL n tl rest)
theorem news_split3 {h₀ h : Heap} {L : Addr} {x y z : Addr × Obj} {tl rest : List (Addr × Obj)} (N : News h₀ L h (z :: (tl ++ rest))) (hx : x ∈ rest) (hy : y ∈ rest) : News h₀ L h (x :: y :: z :: (tl ++ rest)) := by
  intro q hq
  rcases List.mem_cons.mp hq with rfl | hq
  · exact N _ (.tail _ (List.mem_append.mpr (.inr hx)))
  · rcases List.mem_cons.mp hq with rfl | hq
    · exact N _ (.tail _ (List.mem_append.mpr (.inr hy)))
    · exact N q hq
section
variable {prog : Program} {w : World} {s : Shared} {h₀ : Heap} {L : Addr} {m : Str → Option Value} {Q : Value → Shared → Prop} {h : Heap} {tok : Nat} {PL a : Addr} {n c : Nat} {tl tlx rest led : List (Addr × Obj)} {oP : Obj} {kvs : List (List UInt8 × Value)} {vs : List Value} {zs : List Int} {t : Tok}
theorem aa_ret (hret : ∀ r news' h' tk', AaOut prog w PL n tl rest r news' → Fr h₀ L h' m → News h₀ L h' news' → Q r { s with heap := h', toks := tk' }) (F : Fr h₀ L h m) (N : News h₀ L h (Mine.put a (listOf (vs.toArray.push (.int (n : Int) t)) c) led))
    (hP : (PL, oP) ∈ led) (ht : ∀ p ∈ tlx, p ∈ led) (hr : ∀ q ∈ rest, q ∈ led) (hm : ∃ o, (a, o) ∈ tlx) (hd : oP.IsDictOf (bytesKind prog w) kvs) (hA : PlAll tlx n kvs) (hK : kvs.length ≤ n + 1) (hi : IntsAre vs zs) (hb : ∀ z ∈ zs, 0 ≤ z ∧ z < (n : Int)) (hl : zs.length ≤ n)
    (s1 : ∀ p ∈ tlx, p.1 ≠ PL) (s3 : ∀ p ∈ tlx, ∀ q ∈ rest, p.1 ≠ q.1) : Q .none { s with heap := h, toks := tok } := by
  have ep : vs.toArray.push (Value.int (n : Int) t) = (vs ++ [Value.int (n : Int) t]).toArray := by simp
  rw [ep] at N
  obtain ⟨o, hm⟩ := hm
  refine hret _ _ _ _ ⟨oP, kvs, Mine.put a (listOf (vs ++ [Value.int (n : Int) t]).toArray c) tlx, rfl, rfl, hd, hA.put hi hb hl, hK, fun p hp => ?_, fun p hp q hq => ?_⟩ F fun p hp => ?_
  · obtain ⟨x, hx, e⟩ := put_adr hp
    rw [← e]; exact s1 x hx
  · obtain ⟨x, hx, e⟩ := put_adr hp
    rw [← e]; exact s3 x hx q hq
  · rcases List.mem_cons.mp hp with rfl | hp
    · exact N _ (put_keep hP (fun e => s1 _ hm e.symm))
    · rcases List.mem_append.mp hp with hp | hp
      · rcases mem_put hp with rfl | ⟨hne, hp⟩
        · exact N _ (put_mem (ht _ hm))
        · exact N _ (put_keep (ht _ hp) hne)
      · exact N _ (put_keep (hr _ hp) (fun e => s3 _ hm _ hp e.symm))
theorem aa_ret0 {d : Addr × Obj} {e : Addr × Obj} (hret : ∀ r news' h' tk', AaOut prog w PL n tl rest r news' → Fr h₀ L h' m → News h₀ L h' news' → Q r { s with heap := h', toks := tk' }) (F : Fr h₀ L h m) (N : News h₀ L h (d :: e :: (PL, oP) :: (tl ++ rest)))
    (hd : oP.IsDictOf (bytesKind prog w) kvs) (hA : PlAll tl n kvs) (hK : kvs.length ≤ n) (s1 : ∀ p ∈ tl, p.1 ≠ PL) (s3 : ∀ p ∈ tl, ∀ q ∈ rest, p.1 ≠ q.1) : Q .none { s with heap := h, toks := tok } :=
  hret _ _ _ _ ⟨oP, kvs, tl, rfl, rfl, hd, hA.next, by omega, s1, s3⟩ F fun p hp => N p (.tail _ (.tail _ hp))
end
section
variable {prog : Program} {w : World} {s : Shared} {h₀ : Heap} {L : Addr} {m : Str → Option Value} {Q : Value → Shared → Prop} {h : Heap} {tok : Nat} {PL a : Addr} {n c c0 : Nat} {tl rest led : List (Addr × Obj)} {oP : Obj} {kvs : List (List UInt8 × Value)} {t : Tok} {k : List UInt8}
theorem aa_retN (hret : ∀ r news' h' tk', AaOut prog w PL n tl rest r news' → Fr h₀ L h' m → News h₀ L h' news' → Q r { s with heap := h', toks := tk' }) (F : Fr h₀ L h m) (N : News h₀ L h (Mine.put a (listOf ((#[] : Array Value).push (.int (n : Int) t)) c) led))
    (hP : (PL, oP) ∈ led) (ha : (a, listOf #[] c0) ∈ led) (ht : ∀ p ∈ tl, p ∈ led) (hr : ∀ q ∈ rest, q ∈ led) (hd : oP.IsDictOf (bytesKind prog w) (stored kvs k (.ref a))) (hA : PlAll tl n kvs) (hv : valueAt kvs k = none) (hK : kvs.length ≤ n)
    (s1 : ∀ p ∈ tl, p.1 ≠ PL) (s3 : ∀ p ∈ tl, ∀ q ∈ rest, p.1 ≠ q.1) (l0 : PL < a) (l1 : AllLt a (tl ++ rest)) : Q .none { s with heap := h, toks := tok } := by
  refine aa_ret (tlx := (a, listOf #[] c0) :: tl) (vs := []) (zs := []) hret F N hP (fun p hp => ?_) hr ⟨_, .head _⟩ hd (hA.fresh hv) (Nat.le_trans (stored_length_le _ _ _) (by omega)) .nil (fun z hz => nomatch hz) (Nat.zero_le _) (fun p hp => ?_) (fun p hp q hq => ?_)
  · rcases List.mem_cons.mp hp with rfl | hp
    · exact ha
    · exact ht p hp
  · rcases List.mem_cons.mp hp with rfl | hp
    · exact Nat.ne_of_gt l0
    · exact s1 p hp
  · rcases List.mem_cons.mp hp with rfl | hp
    · exact Nat.ne_of_gt (allLt_mem l1 q (List.mem_append.mpr (.inr hq)))
    · exact s3 p hp q hq
end
structure FaS where
  oP : Obj
  kvs : List (List UInt8 × Value)
  tl : List (Addr × Obj)
def faLed (PL : Addr) (rest : List (Addr × Obj)) (c : FaS) : List (Addr × Obj) := (PL, c.oP) :: (c.tl ++ rest)
def faP (prog : Program) (w : World) (PL : Addr) (n : Nat) (rest : List (Addr × Obj)) (i : Nat) (c : FaS) : Prop :=
  c.oP.IsDictOf (bytesKind prog w) c.kvs ∧ PlAll c.tl (n + i) c.kvs ∧ c.kvs.length ≤ n + i ∧ (∀ p ∈ c.tl, p.1 ≠ PL) ∧ ∀ p ∈ c.tl, ∀ q ∈ rest, p.1 ≠ q.1
section
variable {prog : Program} {w : World} {A : Around} {E : Value → Shared → Prop} {Q : Flow → Shared → Prop} {s : Shared} {env : Env} {h₀ : Heap} {L : Addr}
theorem fa_for {body : List Stmt} {r PL : Addr} {m₀ : Str → Option Value} {t₀ u₀ v₀ : Tok} {n cnt : Nat} {e : Int} {oP : Obj} {kvs : List (List UInt8 × Value)} {tl rest news : List (Addr × Obj)}
    (hh : A.handled = none) (hr : IsRange s.heap r 0 e 1 t₀ u₀ v₀) (he : e = (cnt : Int)) (hc : cnt ≤ 1000) (F : Fr h₀ env.locals s.heap m₀) (N : News h₀ env.locals s.heap news) (hm : ∀ p ∈ (PL, oP) :: (tl ++ rest), p ∈ news)
    (hd : oP.IsDictOf (bytesKind prog w) kvs) (hA : PlAll tl n kvs) (hK : kvs.length ≤ n) (s1 : ∀ p ∈ tl, p.1 ≠ PL) (s2 : ∀ q ∈ rest, q.1 ≠ PL) (s3 : ∀ p ∈ tl, ∀ q ∈ rest, p.1 ≠ q.1)
    (turn : ∀ (oP : Obj) (kvs : List (List UInt8 × Value)) (tl : List (Addr × Obj)) (i : Nat) t (u : Str → Option Value) h tk own, i < cnt → oP.IsDictOf (bytesKind prog w) kvs → PlAll tl (n + i) kvs → kvs.length ≤ n + i → (∀ p ∈ tl, p.1 ≠ PL) → (∀ q ∈ rest ++ own, q.1 ≠ PL) → (∀ p ∈ tl, ∀ q ∈ rest ++ own, p.1 ≠ q.1) → (∀ p ∈ own, p.1 ≠ PL) → (∀ p ∈ own, ∀ q ∈ rest, p.1 ≠ q.1) →
      Fr h₀ env.locals h (fun y => if y = Str.ofString "k" then some (.int (0 + i) t) else if ([] : List Str).contains y then u y else m₀ y) → News h₀ env.locals h ((PL, oP) :: (tl ++ (rest ++ own))) →
      wpAny (model prog w) A (execs body env) (InvPostG h₀ env.locals (RgJ (faLed PL rest) (fun _ => []) (Str.ofString "k") [] m₀ (faP prog w PL n rest) (i + 1)) own { s with heap := h, toks := tk } Q) E { s with heap := h, toks := tk })
    (done : ∀ (oP : Obj) (kvs : List (List UInt8 × Value)) (tl : List (Addr × Obj)) (u : Str → Option Value) h tk, oP.IsDictOf (bytesKind prog w) kvs → PlAll tl (n + cnt) kvs → kvs.length ≤ n + cnt → (∀ p ∈ tl, p.1 ≠ PL) → (∀ p ∈ tl, ∀ q ∈ rest, p.1 ≠ q.1) →
      Fr h₀ env.locals h (fun y => if y = Str.ofString "k" then u y else if ([] : List Str).contains y then u y else m₀ y) → News h₀ env.locals h ((PL, oP) :: (tl ++ rest)) → Q .next { s with heap := h, toks := tk }) :
    wpAny (model prog w) A (pyIter (.ref r)) (fun it s₂ => LoopAtV prog w A h₀ env (Str.ofString "k") body Q E it s₂) E s := by
  subst he
  have hsz : Builtin.Range.rangeSize 0 (cnt : Int) 1 = (cnt : Int) := rangeSize_nat _ _
  have hsm : Builtin.Range.small 0 (cnt : Int) 1 = true := small_one (by omega) (by omega) (by omega) (by omega)
  refine rg_for (faLed PL rest) (fun _ => []) [] (faP prog w PL n rest) ⟨oP, kvs, tl⟩ hh hr hsm hsz F N hm (fun _ h => nomatch h) ⟨hd, hA, hK, s1, s3⟩ ?_ ?_
  · rintro ⟨oP, kvs, tl⟩ i t u h tk own hi ⟨p1, p2, p3, p4, p5⟩ hof F₁ N₁
    have o1 : ∀ p ∈ own, p.1 ≠ PL := fun p hp => hof p hp _ (.head _)
    have o2 : ∀ p ∈ own, ∀ q ∈ rest, p.1 ≠ q.1 := fun p hp q hq => hof p hp q (.tail _ (List.mem_append.mpr (.inr hq)))
    refine turn oP kvs tl i t u h tk own hi p1 p2 p3 p4 (fun q hq => ?_) (fun p hp q hq => ?_) o1 o2 F₁ (fun p hp => N₁ p ?_)
    · rcases List.mem_append.mp hq with hq | hq
      · exact s2 q hq
      · exact o1 q hq
    · rcases List.mem_append.mp hq with hq | hq
      · exact p5 p hp q hq
      · exact (hof q hq p (.tail _ (List.mem_append.mpr (.inl hp)))).symm
    · rw [← List.append_assoc] at hp
      exact hp
  · rintro ⟨oP, kvs, tl⟩ u h tk ⟨p1, p2, p3, p4, p5⟩ F₁ N₁
    exact done oP kvs tl u h tk p1 p2 p3 p4 p5 F₁ N₁
theorem fa_end {m₀ m' : Str → Option Value} {PL : Addr} {n i : Nat} {oP' : Obj} {kvs' : List (List UInt8 × Value)} {tl' rest own news' : List (Addr × Obj)} {s₁ : Shared} {h' : Heap} {tk : Nat}
    (F : Fr h₀ L h' m') (N : News h₀ L h' news') (hm : ∀ p ∈ (PL, oP') :: (tl' ++ (rest ++ own)), p ∈ news') (hr : ∀ z, z ≠ Str.ofString "k" → (∀ p ∈ ([] : List (Str × Value)), z ≠ p.1) → ([] : List Str).contains z = false → m' z = m₀ z)
    (hd : oP'.IsDictOf (bytesKind prog w) kvs') (hA : PlAll tl' (n + i + 1) kvs') (hK : kvs'.length ≤ n + i + 1) (s1 : ∀ p ∈ tl', p.1 ≠ PL) (s3 : ∀ p ∈ tl', ∀ q ∈ rest ++ own, p.1 ≠ q.1) (o1 : ∀ p ∈ own, p.1 ≠ PL) (o2 : ∀ p ∈ own, ∀ q ∈ rest, p.1 ≠ q.1) :
    InvEndG h₀ L (RgJ (faLed PL rest) (fun _ => []) (Str.ofString "k") [] m₀ (faP prog w PL n rest) (i + 1)) own s₁ { s₁ with heap := h', toks := tk } := by
  refine rg_end (c' := (⟨oP', kvs', tl'⟩ : FaS)) F N (fun p hp => hm p ?_) (fun p hp => hm p (.tail _ (List.mem_append.mpr (.inr (List.mem_append.mpr (.inr hp)))))) (fun p hp q hq => ?_) (fun _ h => nomatch h) hr ⟨hd, hA, hK, s1, fun p hp q hq => s3 p hp q (List.mem_append.mpr (.inl hq))⟩
  · rcases List.mem_cons.mp hp with rfl | hp
    · exact .head _
    · rcases List.mem_append.mp hp with hp | hp
      · exact .tail _ (List.mem_append.mpr (.inl hp))
      · exact .tail _ (List.mem_append.mpr (.inr (List.mem_append.mpr (.inl hp))))
  · rcases List.mem_cons.mp hq with rfl | hq
    · exact o1 p hp
    · rcases List.mem_append.mp hq with hq | hq
      · exact (s3 q hq p (List.mem_append.mpr (.inr hp))).symm
      · exact o2 p hp q hq
end
def tupO (vs : List Value) : Obj := { cls := .type "tuple", data := .seq vs.toArray }
def TkOut (ns : List Int) (news : List (Addr × Obj)) (r : Value) (news' : List (Addr × Obj)) : Prop :=
  ∃ O vr cr tz ts, r = .ref O ∧ news' = (O, listOf vr.toArray cr) :: (tz ++ news) ∧ (∀ q ∈ news, q.1 < O) ∧ (∀ q ∈ tz ++ news, q.1 ≠ O) ∧ (∀ p ∈ tz, ∀ q ∈ news, p.1 ≠ q.1) ∧ DatAll tz vr (ts.map tokD) ∧ tkP ns ns.length ts
def TkC (f : Addr) (prog : Program) (w : World) (K : Frag) (p : Program) (loose : List Str) (mean : ExcName → Option Value) (mg mb : Str → Option Value) : Prop :=
  ∀ (b : Array UInt8) (ns : List Int) (tb tw : Tok) (news : List (Addr × Obj)), KBw.bInts b = ns → ns.length ≤ 360 → Fun prog w K p loose mean mg mb 60 f [.bytes b tb, .int 4096 tw] news (TkOut ns news)
structure TkS where
  n : Nat
  ta : Tok
  vr : List Value
  cr : Nat
  tz : List (Addr × Obj)
  ts : List LTok
  oP : Obj
  kvs : List (List UInt8 × Value)
  tl : List (Addr × Obj)
def tkRest (O : Addr) (base : List (Addr × Obj)) (c : TkS) : List (Addr × Obj) := (O, listOf c.vr.toArray c.cr) :: (c.tz ++ base)
def tkLed (O PL : Addr) (base : List (Addr × Obj)) (c : TkS) : List (Addr × Obj) := (PL, c.oP) :: (c.tl ++ tkRest O base c)
def tkPs (c : TkS) : List (Str × Value) := [(Str.ofString "at", .int c.n c.ta)]
def tkNames : List Str := [Str.ofString "distance", Str.ofString "length", Str.ofString "k"]
def tkW (prog : Program) (w : World) (ns : List Int) (O PL : Addr) (base : List (Addr × Obj)) (c : TkS) : Prop :=
  tkP ns c.n c.ts ∧ DatAll c.tz c.vr (c.ts.map tokD) ∧ c.oP.IsDictOf (bytesKind prog w) c.kvs ∧ PlAll c.tl c.n c.kvs ∧ c.kvs.length ≤ c.n ∧ (∀ p ∈ c.tl, p.1 ≠ PL) ∧ (∀ q ∈ tkRest O base c, q.1 ≠ PL) ∧ (∀ p ∈ c.tl, ∀ q ∈ tkRest O base c, p.1 ≠ q.1) ∧ (∀ q ∈ c.tz ++ base, q.1 ≠ O) ∧ (∀ p ∈ c.tz, ∀ q ∈ base, p.1 ≠ q.1)
section
variable {prog : Program} {w : World} {A : Around} {E : Value → Shared → Prop} {Q : Flow → Shared → Prop} {s : Shared} {env : Env} {h₀ : Heap} {L : Addr}
theorem tk_while {test : Expr} {body : List Stmt} {pos : Pos} {m₀ : Str → Option Value} {ns : List Int} {base₀ : List (Addr × Obj)} {O PL S D cls : Addr} {oP oD : Obj} {t : Tok} {b : Array UInt8}
    (F : Fr h₀ L s.heap m₀) (N : News h₀ L s.heap ((O, listOf #[] 0) :: (PL, oP) :: base₀)) (hi : m₀ (Str.ofString "at") = some (.int 0 t)) (_ho : m₀ (Str.ofString "out") = some (.ref O)) (_hf : m₀ (Str.ofString "finder") = some (.ref S)) (hS : (S, instObj cls D) ∈ base₀) (hD : (D, oD) ∈ base₀) (hd : oP.IsDictOf (bytesKind prog w) []) (_hb : KBw.bInts b = ns)
    (s1 : PL < O) (s2 : ∀ q ∈ base₀, q.1 ≠ PL) (s3 : ∀ q ∈ base₀, q.1 ≠ O)
    (turn : ∀ (base : List (Addr × Obj)) (n : Nat) (ta : Tok) (vr : List Value) (cr : Nat) (tz : List (Addr × Obj)) (ts : List LTok) (oP : Obj) (kvs : List (List UInt8 × Value)) (tl : List (Addr × Obj)) (u : Str → Option Value) h tk, (S, instObj cls D) ∈ base → (D, oD) ∈ base →
      tkP ns n ts → DatAll tz vr (ts.map tokD) → vr.length ≤ n → oP.IsDictOf (bytesKind prog w) kvs → PlAll tl n kvs → kvs.length ≤ n → (∀ p ∈ tl, p.1 ≠ PL) → (∀ q ∈ (O, listOf vr.toArray cr) :: (tz ++ base), q.1 ≠ PL) → (∀ p ∈ tl, ∀ q ∈ (O, listOf vr.toArray cr) :: (tz ++ base), p.1 ≠ q.1) → (∀ q ∈ tz ++ base, q.1 ≠ O) → (∀ p ∈ tz, ∀ q ∈ base, p.1 ≠ q.1) → n ≤ ns.length →
      Fr h₀ L h (fun y => if y = Str.ofString "at" then some (.int n ta) else if tkNames.contains y then u y else m₀ y) → News h₀ L h ((PL, oP) :: (tl ++ ((O, listOf vr.toArray cr) :: (tz ++ base)))) →
      wpAny (model prog w) A (isTrue test env (eval test env)) (fun b s₂ =>
        if b = true then wpAny (model prog w) A (execs body env) (KswPost h₀ L s (tkLed O PL base) tkPs (tkW prog w ns O PL base) tkNames m₀ (fun _ => True) (fun c => ns.length - c.n) Q ⟨n, ta, vr, cr, tz, ts, oP, kvs, tl⟩) E s₂ else (tkP ns n ts → base = base₀ → Q .next s₂)) E { s with heap := h, toks := tk })
    (hE : PassesOwn (model prog w) A env E := by passes_own) :
    wpAny (model prog w) A (exec (.While test body [] pos) env) Q E s := by
  refine ksw_while (tkLed O PL base₀) tkPs (tkW prog w ns O PL base₀) tkNames (fun _ => True) (fun c => ns.length - c.n) ⟨0, t, [], 0, [], [], oP, [], []⟩ F (fun p hp => N p ?_) ⟨tk_start ns, .nil, hd, PlAll.start, Nat.zero_le _, fun _ h => (nomatch h), ?_, fun _ h => (nomatch h), fun q hq => s3 q hq, fun _ h => (nomatch h)⟩ ?_ trivial ?_ hE
  · rcases List.mem_cons.mp hp with rfl | hp
    · exact .tail _ (.head _)
    · rcases List.mem_cons.mp hp with rfl | hp
      · exact .head _
      · exact .tail _ (.tail _ hp)
  · intro q hq
    rcases List.mem_cons.mp hq with rfl | hq
    · exact Nat.ne_of_gt s1
    · exact s2 q hq
  · intro p hp
    rw [List.mem_singleton.mp hp]
    exact hi
  · rintro ⟨n, ta, vr, cr, tz, ts, oP, kvs, tl⟩ u h tk ⟨f1, f2, f3, f4, f5, f6, f7, f8, f9, fa⟩ _ F₁ N₁
    have hv : vr.length ≤ n := by
      have h1 : vr.length = (ts.map tokD).length := DatAll.length f2
      have h2 : ts.length ≤ n := f1.2.2.2.1
      rw [List.length_map] at h1
      omega
    refine wpAny_mono (turn base₀ n ta vr cr tz ts oP kvs tl u h tk hS hD f1 f2 hv f3 f4 f5 f6 f7 f8 f9 fa f1.1 F₁ N₁) (fun b' s₂ p => ?_) fun _ _ x => x
    cases b' with
    | true => exact p
    | false => exact p f1 rfl
theorem tok_copy {T : Addr} {tz : List (Addr × Obj)} {d l : Int} {t1 t2 t3 : Tok} : DatIn ((T, ({ cls := .type "tuple", data := .seq #[.str (Str.ofString "copy") t1, .int d t2, .int l t3] } : Obj)) :: tz) (.ref T) (tokD (.copy d l)) :=
  .tuple (vs := [.str (Str.ofString "copy") t1, .int d t2, .int l t3]) (.head _) (.cons (.str _ _) (.cons (.int _ _) (.cons (.int _ _) .nil)))
theorem tok_byte {T : Addr} {tz : List (Addr × Obj)} {b : Int} {t1 t2 : Tok} : DatIn ((T, ({ cls := .type "tuple", data := .seq #[.str (Str.ofString "byte") t1, .int b t2] } : Obj)) :: tz) (.ref T) (tokD (.byte b)) :=
  .tuple (vs := [.str (Str.ofString "byte") t1, .int b t2]) (.head _) (.cons (.str _ _) (.cons (.int _ _) .nil))
theorem be_copy {ns : List Int} {n : Nat} {d l : Int} {ts : List LTok} (h : tkP ns n ts) (hg : beGood ns n d l) (hl : l ≥ 3) : tkP ns (n + l.toNat) (ts ++ [.copy d l]) := by
  rcases hg with ⟨h1, h2⟩ | ⟨h1, h2, h3, h4, h5, h6⟩
  · omega
  · obtain ⟨e, rfl⟩ := Int.eq_ofNat_of_zero_le (show 0 ≤ d by omega)
    obtain ⟨k, rfl⟩ := Int.eq_ofNat_of_zero_le h4
    rw [Int.toNat_natCast] at h6 ⊢
    exact tk_copy h (by omega) (by omega) (by omega) (by omega) (by omega) h6
theorem be_byte {ns : List Int} {n : Nat} {ts : List LTok} {b : Array UInt8} (hb : KBw.bInts b = ns) (h : tkP ns n ts) (hn : (n : Int) < ns.length) : tkP ns (n + (1 : Int).toNat) (ts ++ [.byte (ns.getD (n : Int).toNat 0)]) := by
  rw [Int.toNat_natCast]
  exact tk_byte h (by omega) fun v hv => KBw.ints_in (b := b) (hb ▸ hv)
/-- the tokens' list grows by a new tuple -/
theorem tk_append {A' : Around} {Qv : Value → Shared → Prop} {m : Str → Option Value} {led base tz tl : List (Addr × Obj)} {O PL T : Addr} {oP oT : Obj} {vr : List Value} {cr n n' : Nat} {ns : List Int} {ts : List LTok} {tok : LTok} (F : Fr h₀ L s.heap m) (N : News h₀ L s.heap led)
    (s2 : ∀ q ∈ (O, listOf vr.toArray cr) :: (tz ++ base), q.1 ≠ PL) (s3 : ∀ p ∈ tl, ∀ q ∈ (O, listOf vr.toArray cr) :: (tz ++ base), p.1 ≠ q.1) (s4 : ∀ q ∈ tz ++ base, q.1 ≠ O) (s5 : ∀ p ∈ tz, ∀ q ∈ base, p.1 ≠ q.1) (l0 : PL < T) (l1 : AllLt T (tl ++ ((O, listOf vr.toArray cr) :: (tz ++ base))))
    (hD : DatAll tz vr (ts.map tokD)) (hP : (PL, oP) ∈ led) (hT : (T, oT) ∈ led) (hI : DatIn ((T, oT) :: tz) (.ref T) (tokD tok)) (hK : tkP ns n' (ts ++ [tok])) (hs : vr.length ≤ n) (hn : n ≤ 1000)
    (hO : (O, listOf vr.toArray cr) ∈ led) (hl : ∀ p ∈ tl, p ∈ led) (hz : ∀ p ∈ tz ++ base, p ∈ led)
    (h : ∀ h', (∀ q ∈ (O, listOf (vr ++ [Value.ref T]).toArray (cr + 1)) :: (((T, oT) :: tz) ++ base), q.1 ≠ PL) → (∀ p ∈ tl, ∀ q ∈ (O, listOf (vr ++ [Value.ref T]).toArray (cr + 1)) :: (((T, oT) :: tz) ++ base), p.1 ≠ q.1) → (∀ q ∈ ((T, oT) :: tz) ++ base, q.1 ≠ O) → (∀ p ∈ (T, oT) :: tz, ∀ q ∈ base, p.1 ≠ q.1) →
      DatAll ((T, oT) :: tz) (vr ++ [Value.ref T]) ((ts ++ [tok]).map tokD) → tkP ns n' (ts ++ [tok]) → Fr h₀ L h' m → News h₀ L h' ((PL, oP) :: (tl ++ ((O, listOf (vr ++ [Value.ref T]).toArray (cr + 1)) :: (((T, oT) :: tz) ++ base)))) → Qv .none { s with heap := h' }) :
    wpAny (model prog w) A' (call (.builtin "list.append") [.ref O, .ref T]) Qv E s := by
  have lO : O < T := allLt_mem l1 (O, _) (List.mem_append.mpr (.inr (.head _)))
  have lz : ∀ q ∈ tz ++ base, q.1 < T := fun q hq => allLt_mem l1 q (List.mem_append.mpr (.inr (.tail _ hq)))
  have lt : ∀ q ∈ tl, q.1 < T := fun q hq => allLt_mem l1 q (List.mem_append.mpr (.inl hq))
  refine append_put F N hO (by rw [List.size_toArray, sizeLine_eq]; omega) fun h' F' N' => h h' ?_ ?_ ?_ ?_ ?_ hK F' fun p hp => ?_
  · intro q hq
    rcases List.mem_cons.mp hq with rfl | hq
    · exact (show O ≠ PL from s2 (O, listOf vr.toArray cr) (.head _))
    · rcases List.mem_cons.mp hq with rfl | hq
      · exact Nat.ne_of_gt l0
      · exact s2 q (.tail _ hq)
  · intro p hp q hq
    rcases List.mem_cons.mp hq with rfl | hq
    · exact (show p.1 ≠ O from s3 p hp (O, listOf vr.toArray cr) (.head _))
    · rcases List.mem_cons.mp hq with rfl | hq
      · exact Nat.ne_of_lt (lt p hp)
      · exact s3 p hp q (.tail _ hq)
  · intro q hq
    rcases List.mem_cons.mp hq with rfl | hq
    · exact Nat.ne_of_gt lO
    · exact s4 q hq
  · intro p hp q hq
    rcases List.mem_cons.mp hp with rfl | hp
    · exact Nat.ne_of_gt (lz q (List.mem_append.mpr (.inr hq)))
    · exact s5 p hp q hq
  · rw [List.map_append]
    exact (hD.mono fun q hq => .tail _ hq).append (.one hI)
  have ep : vr.toArray.push (Value.ref T) = (vr ++ [Value.ref T]).toArray := by simp
  rw [ep] at N'
  rcases List.mem_cons.mp hp with rfl | hp
  · exact N' _ (put_keep hP (fun e => s2 _ (.head _) e.symm))
  · rcases List.mem_append.mp hp with hp | hp
    · exact N' _ (put_keep (hl _ hp) (s3 _ hp _ (.head _)))
    · rcases List.mem_cons.mp hp with rfl | hp
      · exact N' _ (put_mem hO)
      · rcases List.mem_cons.mp hp with rfl | hp
        · exact N' _ (put_keep hT (Nat.ne_of_gt lO))
        · exact N' _ (put_keep (hz _ hp) (s4 _ hp))
theorem tk_ret {m : Str → Option Value} {ns : List Int} {news base base₀ led : List (Addr × Obj)} {O : Addr} {vr : List Value} {cr n : Nat} {tz : List (Addr × Obj)} {ts : List LTok} {Qv : Value → Shared → Prop} {h : Heap} {tok : Nat}
    (hret : ∀ r news' h' tk', TkOut ns news r news' → Fr h₀ L h' m → News h₀ L h' news' → Qv r { s with heap := h', toks := tk' }) (F : Fr h₀ L h m) (N : News h₀ L h led)
    (hD : DatAll tz vr (ts.map tokD)) (s4 : ∀ q ∈ tz ++ base, q.1 ≠ O) (s5 : ∀ p ∈ tz, ∀ q ∈ base, p.1 ≠ q.1) (hq : base = base₀) (hb : ∀ p ∈ news, p ∈ base₀) (hK : tkP ns n ts) (hx : ¬ (n : Int) < ns.length) (hO : (O, listOf vr.toArray cr) ∈ led) (hz : ∀ p ∈ tz ++ base, p ∈ led) (l1 : ∀ q ∈ news, q.1 < O) : Qv (.ref O) { s with heap := h, toks := tok } := by
  subst hq
  have e : n = ns.length := by have := hK.1; omega
  subst e
  refine hret _ _ _ _ ⟨O, vr, cr, tz, ts, rfl, rfl, l1, fun q hq => ?_, fun p hp q hq => s5 p hp q (hb q hq), hD, hK⟩ F fun p hp => ?_
  · rcases List.mem_append.mp hq with hq | hq
    · exact s4 q (List.mem_append.mpr (.inl hq))
    · exact s4 q (List.mem_append.mpr (.inr (hb q hq)))
  · rcases List.mem_cons.mp hp with rfl | hp
    · exact N _ hO
    · rcases List.mem_append.mp hp with hp | hp
      · exact N _ (hz _ (List.mem_append.mpr (.inl hp)))
      · exact N _ (hz _ (List.mem_append.mpr (.inr (hb _ hp))))
/-- an empty table is one of any kind of key -/
theorem dict_any {K K' : Type} [DecidableEq K] [DecidableEq K'] {knd : KeyKind prog w K} {knd' : KeyKind prog w K'} {o : Obj} (h : o.IsDictOf knd' []) : o.IsDictOf knd [] := by
  obtain ⟨es, ep, hc, hdat, h3, hp, h5⟩ := h
  have he : es.toList = [] := List.length_eq_zero_iff.mp hp.length
  exact ⟨es, ep, hc, hdat, fun e hm => by have := Array.mem_toList_iff.mpr hm; rw [he] at this; exact (nomatch this), by rw [he]; exact .nil, List.nodup_nil⟩
/-- a turn's end -/
theorem tk_end {m₀ m' : Str → Option Value} {ns : List Int} {base news' tz tz' tl tl' : List (Addr × Obj)} {O PL : Addr} {n n' cr cr' : Nat} {ta ta' : Tok} {vr vr' : List Value} {ts ts' : List LTok} {oP oP' : Obj} {kvs kvs' : List (List UInt8 × Value)} {z : Int} {h' : Heap} {tk : Nat}
    (F : Fr h₀ L h' m') (N : News h₀ L h' news') (hm : ∀ p ∈ (PL, oP') :: (tl' ++ ((O, listOf vr'.toArray cr') :: (tz' ++ base))), p ∈ news') (f1 : m' (Str.ofString "at") = some (.int z ta')) (hr : ∀ q, (∀ p ∈ [(Str.ofString "at", Value.int z ta')], q ≠ p.1) → tkNames.contains q = false → m' q = m₀ q)
    (hz : z = (n' : Int)) (hn : n < n') (h1 : tkP ns n' ts') (h2 : DatAll tz' vr' (ts'.map tokD)) (h3 : oP'.IsDictOf (bytesKind prog w) kvs') (h4 : PlAll tl' n' kvs') (h5 : kvs'.length ≤ n') (s1 : ∀ p ∈ tl', p.1 ≠ PL) (s2 : ∀ q ∈ (O, listOf vr'.toArray cr') :: (tz' ++ base), q.1 ≠ PL) (s3 : ∀ p ∈ tl', ∀ q ∈ (O, listOf vr'.toArray cr') :: (tz' ++ base), p.1 ≠ q.1)
    (s4 : ∀ q ∈ tz' ++ base, q.1 ≠ O) (s5 : ∀ p ∈ tz', ∀ q ∈ base, p.1 ≠ q.1) :
    KswEnd h₀ L s (tkLed O PL base) tkPs (tkW prog w ns O PL base) tkNames m₀ (fun _ => True) (fun c => ns.length - c.n) ⟨n, ta, vr, cr, tz, ts, oP, kvs, tl⟩ { s with heap := h', toks := tk } := by
  subst hz
  refine ksw_end (c' := ⟨n', ta', vr', cr', tz', ts', oP', kvs', tl'⟩) F N hm ⟨h1, h2, h3, h4, h5, s1, s2, s3, s4, s5⟩ ?_ ?_ trivial ?_
  · intro q hq
    rw [List.mem_singleton.mp hq]
    exact f1
  · intro q hq
    refine hr q fun p hp => ?_
    rw [List.mem_singleton.mp hp]
    exact hq _ (.head _)
  · have : n' ≤ ns.length := h1.1
    show ns.length - n' < ns.length - n
    omega
end
theorem copyN_succ (d : Nat) : ∀ (k : Nat) (out : List Int), copyN out d (k + 1) = copyN out d k ++ [(copyN out d k).getD ((copyN out d k).length - d) 0]
  | 0, out => rfl
  | k + 1, out => by
    have h := copyN_succ d k (out ++ [out.getD (out.length - d) 0])
    exact h
theorem okAll_at : ∀ (ts : List LTok) (out : List Int) (i : Nat) (t : LTok), okAll out ts → ts[i]? = some t → okL ((ts.take i).foldl expL out) t ∧ ((ts.take i).foldl expL out).length + lenL t ≤ (ts.foldl expL out).length
  | x :: r, out, 0, t, h, e => by
    have e' : x = t := by simpa using e
    subst e'
    refine ⟨h.1, ?_⟩
    rw [List.foldl_cons, lens_exp r, expL_len]
    show out.length + lenL x ≤ _
    omega
  | x :: r, out, i + 1, t, h, e => okAll_at r (expL out x) i t h.2 (by simpa using e)
  | [], _, _, _, _, e => by simp at e
def ExOut (ns : List Int) (news : List (Addr × Obj)) (r : Value) (news' : List (Addr × Obj)) : Prop := ∃ b t, r = .bytes b t ∧ news' = news ∧ KBw.bInts b = ns
def ExC (f : Addr) (prog : Program) (w : World) (K : Frag) (p : Program) (loose : List Str) (mean : ExcName → Option Value) (mg mb : Str → Option Value) : Prop :=
  ∀ (TL : Addr) (vr : List Value) (cr : Nat) (ts : List LTok) (ns : List Int) (news : List (Addr × Obj)), (TL, listOf vr.toArray cr) ∈ news → DatAll news vr (ts.map tokD) → okAll [] ts → expAll ts = ns → KBa.In ns → ns.length ≤ 400 → Fun prog w K p loose mean mg mb 20 f [.ref TL] news (ExOut ns news)
structure ExS where
  vs : List Value
  c : Nat
  os : List Int
def exLed (O : Addr) (nw : List (Addr × Obj)) (c : ExS) : List (Addr × Obj) := (O, listOf c.vs.toArray c.c) :: nw
def exNames : List Str := [Str.ofString "distance", Str.ofString "k"]
def exP (ts : List LTok) (i : Nat) (c : ExS) : Prop := IntsAre c.vs c.os ∧ c.os = (ts.take i).foldl expL []
def ecP (d : Nat) (os : List Int) (i : Nat) (c : ExS) : Prop := IntsAre c.vs c.os ∧ c.os = copyN os d i
section
variable {prog : Program} {w : World} {A : Around} {E : Value → Shared → Prop} {Q : Flow → Shared → Prop} {s : Shared} {env : Env} {h₀ : Heap} {L : Addr}
theorem ex_for {body : List Stmt} {TL O : Addr} {vr : List Value} {cr c0 : Nat} {ts : List LTok} {ns : List Int} {m₀ : Str → Option Value} {nw : List (Addr × Obj)}
    (hh : A.handled = none) (F : Fr h₀ env.locals s.heap m₀) (N : News h₀ env.locals s.heap ((O, listOf #[] c0) :: nw)) (hl : (TL, listOf vr.toArray cr) ∈ nw) (hD : DatAll nw vr (ts.map tokD)) (hok : okAll [] ts) (he : expAll ts = ns) (hn : ns.length ≤ 400)
    (turnB : ∀ (b : Int) (T : Addr) (t1 t2 : Tok) (n : Nat) (vs : List Value) (c : Nat) (os : List Int) (i : Nat) (u : Str → Option Value) h tk own, ts[i]? = some (.byte b) → (T, ({ cls := .type "tuple", data := .seq #[.str (Str.ofString "byte") t1, .int b t2] n } : Obj)) ∈ nw → IntsAre vs os → os = (ts.take i).foldl expL [] → vs.length ≤ 400 → (∀ p ∈ nw ++ own, p.1 ≠ O) → (∀ p ∈ own, ∀ q ∈ nw, p.1 ≠ q.1) →
      Fr h₀ env.locals h (fun y => if y = Str.ofString "tok" then some (.ref T) else if exNames.contains y then u y else m₀ y) → News h₀ env.locals h ((O, listOf vs.toArray c) :: (nw ++ own)) →
      wpAny (model prog w) A (execs body env) (InvPostG h₀ env.locals (fun m' nx => (TL, listOf vr.toArray cr) ∈ nx ∧ RgJ (exLed O nw) (fun _ => []) (Str.ofString "tok") exNames m₀ (exP ts) (i + 1) m' nx) own { s with heap := h, toks := tk } Q) E { s with heap := h, toks := tk })
    (turnC : ∀ (d l : Int) (T : Addr) (t1 t2 t3 : Tok) (n : Nat) (vs : List Value) (c : Nat) (os : List Int) (i : Nat) (u : Str → Option Value) h tk own, ts[i]? = some (.copy d l) → (T, ({ cls := .type "tuple", data := .seq #[.str (Str.ofString "copy") t1, .int d t2, .int l t3] n } : Obj)) ∈ nw → IntsAre vs os → os = (ts.take i).foldl expL [] → vs.length ≤ 400 → 1 ≤ d → d ≤ (os.length : Int) → 0 ≤ l → (os.length : Int) + l ≤ 400 → (∀ p ∈ nw ++ own, p.1 ≠ O) → (∀ p ∈ own, ∀ q ∈ nw, p.1 ≠ q.1) →
      Fr h₀ env.locals h (fun y => if y = Str.ofString "tok" then some (.ref T) else if exNames.contains y then u y else m₀ y) → News h₀ env.locals h ((O, listOf vs.toArray c) :: (nw ++ own)) →
      wpAny (model prog w) A (execs body env) (InvPostG h₀ env.locals (fun m' nx => (TL, listOf vr.toArray cr) ∈ nx ∧ RgJ (exLed O nw) (fun _ => []) (Str.ofString "tok") exNames m₀ (exP ts) (i + 1) m' nx) own { s with heap := h, toks := tk } Q) E { s with heap := h, toks := tk })
    (hO : ∀ p ∈ nw, p.1 ≠ O)
    (done : ∀ (vs : List Value) (c : Nat) (u : Str → Option Value) h tk, IntsAre vs ns → Fr h₀ env.locals h (fun y => if y = Str.ofString "tok" then u y else if exNames.contains y then u y else m₀ y) → News h₀ env.locals h ((O, listOf vs.toArray c) :: nw) → Q .next { s with heap := h, toks := tk }) :
    wpAny (model prog w) A (pyIter (.ref TL)) (fun it s₂ => LoopAtV prog w A h₀ env (Str.ofString "tok") body Q E it s₂) E s := by
  refine ls_for (exLed O nw) (fun _ => []) exNames (exP ts) ⟨[], c0, []⟩ hh (.tail _ hl) (fun c => .tail _ hl) F N (fun _ h => h) (fun _ h => nomatch h) ⟨.nil, rfl⟩ ?_ ?_
  · rintro ⟨vs, c, os⟩ i v u h tk own hv ⟨p1, p2⟩ hof F₁ N₁
    have p2' : os = (ts.take i).foldl expL [] := p2
    have hlen : vr.length = ts.length := by rw [DatAll.length hD, List.length_map]
    have hi : i < ts.length := by
      rw [← hlen]
      rcases Nat.lt_or_ge i vr.length with q | q
      · exact q
      · rw [List.getElem?_eq_none q] at hv; cases hv
    have ht : ts[i]? = some ts[i] := List.getElem?_eq_getElem hi
    obtain ⟨v', hv', hI⟩ := DatAll.get hD (k := i) (by rw [List.length_map]; exact hi)
    have e : v' = v := by rw [hv] at hv'; exact (Option.some.inj hv').symm
    subst e
    rw [List.getElem_map] at hI
    obtain ⟨k1, k2⟩ := okAll_at ts [] i _ hok ht
    rw [← p2'] at k1 k2
    have k3 : os.length + lenL ts[i] ≤ 400 := by
      have : (ts.foldl expL []).length = ns.length := by rw [← he]; rfl
      omega
    have hvl : vs.length = os.length := IntsAre.length p1
    have o1 : ∀ p ∈ nw ++ own, p.1 ≠ O := fun p hp => (List.mem_append.mp hp).elim (hO p) fun hp => hof p hp _ (.head _)
    have o2 : ∀ p ∈ own, ∀ q ∈ nw, p.1 ≠ q.1 := fun p hp q hq => hof p hp q (.tail _ hq)
    generalize ts[i] = x at ht hI k1 k2 k3
    cases x with
    | byte b =>
      cases hI with
      | tuple hm r =>
        cases r with
        | cons r1 r => cases r1 with
          | str _ t1 => cases r with
            | cons r2 r => cases r2 with
              | int _ t2 => cases r with
                | nil => exact turnB b _ t1 t2 _ vs c os i u h tk own ht hm p1 p2' (by omega) o1 o2 F₁ N₁
    | copy d l =>
      have k1' : 1 ≤ d ∧ d ≤ (os.length : Int) ∧ d ≤ 4096 ∧ 3 ≤ l ∧ l ≤ 258 := k1
      have k3' : os.length + l.toNat ≤ 400 := k3
      cases hI with
      | tuple hm r =>
        cases r with
        | cons r1 r => cases r1 with
          | str _ t1 => cases r with
            | cons r2 r => cases r2 with
              | int _ t2 => cases r with
                | cons r3 r => cases r3 with
                  | int _ t3 => cases r with
                    | nil => exact turnC d l _ t1 t2 t3 _ vs c os i u h tk own ht hm p1 p2' (by omega) k1'.1 k1'.2.1 (by omega) (by omega) o1 o2 F₁ N₁
  · rintro ⟨vs, c, os⟩ u h tk ⟨p1, p2⟩ F₁ N₁
    have p2' : os = (ts.take vr.length).foldl expL [] := p2
    have hlen : vr.length = ts.length := by rw [DatAll.length hD, List.length_map]
    rw [hlen, List.take_length] at p2'
    have e : os = ns := by rw [p2', ← he]; rfl
    subst e
    exact done vs c u h tk p1 F₁ N₁
theorem ex_end {m₀ m' : Str → Option Value} {nw own news' : List (Addr × Obj)} {TL O : Addr} {vr vs' : List Value} {cr c' i : Nat} {ts : List LTok} {os os' : List Int} {t : LTok} {s₁ : Shared} {h' : Heap} {tk : Nat}
    (F : Fr h₀ L h' m') (N : News h₀ L h' news') (n1 : ∀ p ∈ (O, listOf vs'.toArray c') :: nw, p ∈ news') (ho : ∀ p ∈ own, p ∈ news') (hl : (TL, listOf vr.toArray cr) ∈ nw) (o1 : ∀ p ∈ nw ++ own, p.1 ≠ O) (o2 : ∀ p ∈ own, ∀ q ∈ nw, p.1 ≠ q.1)
    (hr : ∀ z, z ≠ Str.ofString "tok" → (∀ p ∈ ([] : List (Str × Value)), z ≠ p.1) → exNames.contains z = false → m' z = m₀ z) (hv : IntsAre vs' os') (hi : ts[i]? = some t) (h0 : os = (ts.take i).foldl expL []) (h1 : os' = expL os t) :
    InvEndG h₀ L (fun m' nx => (TL, listOf vr.toArray cr) ∈ nx ∧ RgJ (exLed O nw) (fun _ => []) (Str.ofString "tok") exNames m₀ (exP ts) (i + 1) m' nx) own s₁ { s₁ with heap := h', toks := tk } := by
  refine ls_end (c' := (⟨vs', c', os'⟩ : ExS)) F N n1 ho (.tail _ hl) (fun p hp q hq => ?_) (fun _ h => nomatch h) hr ⟨hv, ?_⟩
  · rcases List.mem_cons.mp hq with rfl | hq
    · exact o1 p (List.mem_append.mpr (.inr hp))
    · exact o2 p hp q hq
  · show os' = (ts.take (i + 1)).foldl expL []
    rw [List.take_add_one, hi, List.foldl_append, ← h0, h1]
    rfl
/-- the inner loop: a copy byte by byte -/
theorem ec_for {body : List Stmt} {r O : Addr} {m₀ : Str → Option Value} {t₀ u₀ v₀ td : Tok} {e d : Int} {vs : List Value} {c : Nat} {os : List Int} {nw : List (Addr × Obj)}
    (hh : A.handled = none) (hr : IsRange s.heap r 0 e 1 t₀ u₀ v₀) (F : Fr h₀ env.locals s.heap m₀) (N : News h₀ env.locals s.heap ((O, listOf vs.toArray c) :: nw)) (_f1 : m₀ (Str.ofString "distance") = some (.int d td)) (hv : IntsAre vs os) (h0 : 0 ≤ e) (hd : 1 ≤ d) (hd2 : d ≤ (os.length : Int)) (hl : (os.length : Int) + e ≤ 400)
    (turn : ∀ (vs : List Value) (c : Nat) (xs : List Int) (i : Nat) t (u : Str → Option Value) h tk own, IntsAre vs xs → xs = copyN os d.toNat i → vs.length ≤ 400 → d ≤ (xs.length : Int) → xs.length ≤ 400 → (∀ p ∈ own, p.1 ≠ O) → (∀ p ∈ own, ∀ q ∈ nw, p.1 ≠ q.1) →
      Fr h₀ env.locals h (fun y => if y = Str.ofString "k" then some (.int (0 + i) t) else if ([] : List Str).contains y then u y else m₀ y) → News h₀ env.locals h ((O, listOf vs.toArray c) :: (nw ++ own)) →
      wpAny (model prog w) A (execs body env) (InvPostG h₀ env.locals (RgJ (exLed O nw) (fun _ => []) (Str.ofString "k") [] m₀ (ecP d.toNat os) (i + 1)) own { s with heap := h, toks := tk } Q) E { s with heap := h, toks := tk })
    (done : ∀ (vs : List Value) (c : Nat) (xs : List Int) (u : Str → Option Value) h tk, IntsAre vs xs → xs = expL os (.copy d e) → Fr h₀ env.locals h (fun y => if y = Str.ofString "k" then u y else if ([] : List Str).contains y then u y else m₀ y) → News h₀ env.locals h ((O, listOf vs.toArray c) :: nw) → Q .next { s with heap := h, toks := tk }) :
    wpAny (model prog w) A (pyIter (.ref r)) (fun it s₂ => LoopAtV prog w A h₀ env (Str.ofString "k") body Q E it s₂) E s := by
  obtain ⟨n, rfl⟩ := Int.eq_ofNat_of_zero_le h0
  have hsz : Builtin.Range.rangeSize 0 (n : Int) 1 = (n : Int) := rangeSize_nat _ _
  have hsm : Builtin.Range.small 0 (n : Int) 1 = true := small_one (by omega) (by omega) (by omega) (by omega)
  refine rg_for (exLed O nw) (fun _ => []) [] (ecP d.toNat os) ⟨vs, c, os⟩ hh hr hsm hsz F N (fun _ h => h) (fun _ h => nomatch h) ⟨hv, rfl⟩ ?_ ?_
  · rintro ⟨vs, c, xs⟩ i t u h tk own hi ⟨p1, p2⟩ hof F₁ N₁
    have p2' : xs = copyN os d.toNat i := p2
    have hx : xs.length = os.length + i := by rw [p2', copyN_len]
    have hvl : vs.length = xs.length := IntsAre.length p1
    exact turn vs c xs i t u h tk own p1 p2' (by omega) (by omega) (by omega) (fun p hp => hof p hp _ (.head _)) (fun p hp q hq => hof p hp q (.tail _ hq)) F₁ N₁
  · rintro ⟨vs, c, xs⟩ u h tk ⟨p1, p2⟩ F₁ N₁
    exact done vs c xs u h tk p1 p2 F₁ N₁
theorem ec_end {m₀ m' : Str → Option Value} {nw own news' : List (Addr × Obj)} {O : Addr} {vs' : List Value} {c' i : Nat} {os xs xs' : List Int} {d : Int} {s₁ : Shared} {h' : Heap} {tk : Nat}
    (F : Fr h₀ L h' m') (N : News h₀ L h' news') (n1 : ∀ p ∈ (O, listOf vs'.toArray c') :: nw, p ∈ news') (ho : ∀ p ∈ own, p ∈ news') (o1 : ∀ p ∈ own, p.1 ≠ O) (o2 : ∀ p ∈ own, ∀ q ∈ nw, p.1 ≠ q.1)
    (hr : ∀ z, z ≠ Str.ofString "k" → (∀ p ∈ ([] : List (Str × Value)), z ≠ p.1) → ([] : List Str).contains z = false → m' z = m₀ z) (hv : IntsAre vs' xs') (h0 : xs = copyN os d.toNat i) (h1 : xs' = xs ++ [xs.getD ((xs.length : Int) - d).toNat 0]) (hd : 1 ≤ d) :
    InvEndG h₀ L (RgJ (exLed O nw) (fun _ => []) (Str.ofString "k") [] m₀ (ecP d.toNat os) (i + 1)) own s₁ { s₁ with heap := h', toks := tk } := by
  refine rg_end (c' := (⟨vs', c', xs'⟩ : ExS)) F N n1 ho (fun p hp q hq => ?_) (fun _ h => nomatch h) hr ⟨hv, ?_⟩
  · rcases List.mem_cons.mp hq with rfl | hq
    · exact o1 p hp
    · exact o2 p hp q hq
  · show xs' = copyN os d.toNat (i + 1)
    rw [copyN_succ, ← h0, h1]
    congr 3
    omega
end
theorem ints_push {vs : List Value} {os : List Int} {v : Int} {t : Tok} (h : IntsAre vs os) : IntsAre (vs ++ [Value.int v t]) (os ++ [v]) := h.append (.cons _ _ .nil)
theorem ex_names {z : Str} (h : exNames.contains z = false) : ¬ z = Str.ofString "distance" ∧ ¬ z = Str.ofString "k" := by
  simpa [exNames, List.contains_cons, List.contains_nil] using h
theorem ex_ret {m : Str → Option Value} {ns : List Int} {news led : List (Addr × Obj)} {b : Array UInt8} {t : Tok} {Q : Value → Shared → Prop} {s : Shared} {h₀ h : Heap} {L : Addr} {tok : Nat}
    (hret : ∀ r news' h' tk', ExOut ns news r news' → Fr h₀ L h' m → News h₀ L h' news' → Q r { s with heap := h', toks := tk' }) (F : Fr h₀ L h m) (N : News h₀ L h led) (hn : ∀ p ∈ news, p ∈ led) (hb : KBw.bInts b = ns) : Q (.bytes b t) { s with heap := h, toks := tok } :=
  hret _ _ _ _ ⟨b, t, rfl, rfl, hb⟩ F fun p hp => N p (hn p hp)
theorem bit_at {M k : Nat} : Builtin.bitAnd ((M : Int).fdiv (2 ^ ((k : Nat) : Int).toNat)) 1 = ((M / 2 ^ k % 2 : Nat) : Int) := by
  have e : (2 : Int) ^ ((k : Nat) : Int).toNat = ((2 ^ k : Nat) : Int) := by rw [Int.toNat_natCast]; simp
  rw [e, Int.fdiv_eq_ediv_of_nonneg _ (Int.natCast_nonneg _), bitAnd_m1, ← Int.natCast_ediv]
  omega
theorem shr_at {M k : Nat} (h : M / 2 ^ k = 0) : (M : Int).fdiv (2 ^ ((k : Nat) : Int).toNat) = 0 := by
  have e : (2 : Int) ^ ((k : Nat) : Int).toNat = ((2 ^ k : Nat) : Int) := by rw [Int.toNat_natCast]; simp
  rw [e, Int.fdiv_eq_ediv_of_nonneg _ (Int.natCast_nonneg _), ← Int.natCast_ediv, h]
  rfl
def RtOut (ts : List LTok) (news : List (Addr × Obj)) (r : Value) (news' : List (Addr × Obj)) : Prop :=
  ∃ O vr cr tz, r = .ref O ∧ news' = (O, listOf vr.toArray cr) :: (tz ++ news) ∧ DatAll tz vr (ts.map tokD)
def RtC (f : Addr) (prog : Program) (w : World) (K : Frag) (p : Program) (loose : List Str) (mean : ExcName → Option Value) (mg mb : Str → Option Value) : Prop :=
  ∀ (b : Array UInt8) (ks : List Int) (ts : List LTok) (total : Nat) (tb tt : Tok) (news : List (Addr × Obj)), KBw.bInts b = ks → ks = wrt ts → (∀ t ∈ ts, tokOk t) → sumL ts = total → total ≤ 400 → ks.length ≤ 2000 →
    Fun prog w K p loose mean mg mb 60 f [.bytes b tb, .int (total : Int) tt] news (RtOut ts news)
structure RtS where
  a : Nat
  d : Nat
  ta : Tok
  td : Tok
  vr : List Value
  cr : Nat
  tz : List (Addr × Obj)
  pre : List LTok
def rtLed (O : Addr) (news : List (Addr × Obj)) (c : RtS) : List (Addr × Obj) := (O, listOf c.vr.toArray c.cr) :: (c.tz ++ news)
def rtPs (c : RtS) : List (Str × Value) := [(Str.ofString "at", .int c.a c.ta), (Str.ofString "done", .int c.d c.td)]
def rtNames : List Str := [Str.ofString "marks", Str.ofString "k", Str.ofString "distance", Str.ofString "length"]
def rtW (O : Addr) (news : List (Addr × Obj)) (vr : List Value) (tz : List (Addr × Obj)) (pre : List LTok) : Prop := DatAll tz vr (pre.map tokD) ∧ ∀ q ∈ tz ++ news, q.1 ≠ O
def rtP (ks : List Int) (ts : List LTok) (total : Nat) (O : Addr) (news : List (Addr × Obj)) (c : RtS) : Prop := rdO ks ts total c.a c.d c.pre ∧ rtW O news c.vr c.tz c.pre
structure RiS where
  a : Nat
  d : Nat
  k : Nat
  ta : Tok
  td : Tok
  tk : Tok
  vr : List Value
  cr : Nat
  tz : List (Addr × Obj)
  pre : List LTok
def riLed (O : Addr) (news : List (Addr × Obj)) (c : RiS) : List (Addr × Obj) := (O, listOf c.vr.toArray c.cr) :: (c.tz ++ news)
def riPs (c : RiS) : List (Str × Value) := [(Str.ofString "at", .int c.a c.ta), (Str.ofString "done", .int c.d c.td), (Str.ofString "k", .int c.k c.tk)]
def riNames : List Str := [Str.ofString "distance", Str.ofString "length"]
def riP (ks : List Int) (ts : List LTok) (total M a₁ : Nat) (O : Addr) (news : List (Addr × Obj)) (c : RiS) : Prop := rdI ks ts total M c.a c.d c.k c.pre ∧ a₁ ≤ c.a ∧ c.k ≤ 8 ∧ rtW O news c.vr c.tz c.pre
theorem rdI_len {ks : List Int} {ts pre : List LTok} {total M a d k : Nat} (h : rdI ks ts total M a d k pre) : pre.length ≤ ts.length := by
  obtain ⟨p0, G, R, h1, h2, h3, _⟩ := h
  rw [h2, ← h1, List.length_append, List.length_append, List.length_append, List.length_take]
  omega
theorem sum_len : ∀ {ts : List LTok}, (∀ t ∈ ts, tokOk t) → ts.length ≤ sumL ts
  | [], _ => Nat.zero_le _
  | t :: r, h => by
    have h1 := tokOk_len (h t (.head _))
    have h2 := sum_len (ts := r) fun x hx => h x (.tail _ hx)
    rw [sumL_cons, List.length_cons]
    omega
theorem pre_len {ks : List Int} {ts pre : List LTok} {total a d : Nat} (h : rdO ks ts total a d pre) : a ≤ ks.length := let ⟨_, _, _, h3, _⟩ := h; h3
section
variable {prog : Program} {w : World} {A : Around} {E : Value → Shared → Prop} {Q : Flow → Shared → Prop} {s : Shared} {env : Env} {h₀ : Heap} {L : Addr}
theorem rt_while {test : Expr} {body : List Stmt} {pos : Pos} {m₀ : Str → Option Value} {ks : List Int} {ts : List LTok} {total : Nat} {news : List (Addr × Obj)} {O : Addr} {ta td tt : Tok} {b : Array UInt8}
    (F : Fr h₀ L s.heap m₀) (N : News h₀ L s.heap ((O, listOf #[] 0) :: news)) (f1 : m₀ (Str.ofString "at") = some (.int 0 ta)) (f2 : m₀ (Str.ofString "done") = some (.int 0 td)) (_f3 : m₀ (Str.ofString "out") = some (.ref O)) (_f4 : m₀ (Str.ofString "total") = some (.int (total : Int) tt)) (_hb : KBw.bInts b = ks) (hk : ks = wrt ts) (hs : sumL ts = total) (hok : ∀ t ∈ ts, tokOk t) (hO : ∀ q ∈ news, q.1 ≠ O)
    (turn : ∀ (a d : Nat) (ta td : Tok) (vr : List Value) (cr : Nat) (tz : List (Addr × Obj)) (pre : List LTok) (M : Nat) (u : Str → Option Value) h tk, d < total → a < ks.length → ks.getD (a : Int).toNat 0 = (M : Int) → M < 256 → rdI ks ts total M (a + 1) d 0 pre → rtW O news vr tz pre →
      Fr h₀ L h (fun y => if y = Str.ofString "at" then some (.int a ta) else if y = Str.ofString "done" then some (.int d td) else if rtNames.contains y then u y else m₀ y) → News h₀ L h ((O, listOf vr.toArray cr) :: (tz ++ news)) →
      wpAny (model prog w) A (isTrue test env (eval test env)) (fun b s₂ =>
        if b = true then wpAny (model prog w) A (execs body env) (KswPost h₀ L s (rtLed O news) rtPs (fun _ => True) rtNames m₀ (rtP ks ts total O news) (fun c => ks.length - c.a) Q ⟨a, d, ta, td, vr, cr, tz, pre⟩) E s₂ else Q .next s₂) E { s with heap := h, toks := tk })
    (done : ∀ (a d : Nat) (ta td : Tok) (vr : List Value) (cr : Nat) (tz : List (Addr × Obj)) (body' : Flow → Shared → Prop) (u : Str → Option Value) h tk, a = ks.length → d = total → DatAll tz vr (ts.map tokD) →
      Fr h₀ L h (fun y => if y = Str.ofString "at" then some (.int a ta) else if y = Str.ofString "done" then some (.int d td) else if rtNames.contains y then u y else m₀ y) → News h₀ L h ((O, listOf vr.toArray cr) :: (tz ++ news)) →
      wpAny (model prog w) A (isTrue test env (eval test env)) (fun b s₂ => if b = true then wpAny (model prog w) A (execs body env) body' E s₂ else Q .next s₂) E { s with heap := h, toks := tk })
    (hE : PassesOwn (model prog w) A env E := by passes_own) :
    wpAny (model prog w) A (exec (.While test body [] pos) env) Q E s := by
  refine ksw_while (rtLed O news) rtPs (fun _ => True) rtNames (rtP ks ts total O news) (fun c => ks.length - c.a) ⟨0, 0, ta, td, [], 0, [], []⟩ F N trivial ?_ ⟨?_, .nil, fun q hq => hO q hq⟩ ?_ hE
  · intro p hp
    rcases List.mem_cons.mp hp with rfl | hp
    · exact f1
    · rw [List.mem_singleton.mp hp]
      exact f2
  · have := rd_start (ks := ks) (ts := ts) (a := 0) (by rw [List.drop_zero]; exact hk) (Nat.zero_le _)
    rw [hs] at this
    exact this
  · rintro ⟨a, d, ta, td, vr, cr, tz, pre⟩ u h tk _ ⟨p1, p2⟩ F₁ N₁
    by_cases hd : d < total
    · obtain ⟨q1, M, q2, q3, q4⟩ := rd_turn p1 hd
      exact turn a d ta td vr cr tz pre M u h tk hd q1 (by rw [Int.toNat_natCast]; exact q2) q3 q4 p2 F₁ N₁
    · obtain ⟨q1, q2, q3⟩ := rd_end p1 hok hd
      subst q3
      exact done a d ta td vr cr tz _ u h tk q1 q2 p2.1 F₁ N₁
theorem ri_while {test : Expr} {body : List Stmt} {pos : Pos} {m₀ : Str → Option Value} {ks : List Int} {ts pre₀ : List LTok} {total M a₀ d₀ cr₀ : Nat} {news tz₀ : List (Addr × Obj)} {vr₀ : List Value} {O : Addr} {ta td tk₀ tt tm : Tok} {x : Int}
    (F : Fr h₀ L s.heap m₀) (N : News h₀ L s.heap ((O, listOf vr₀.toArray cr₀) :: (tz₀ ++ news))) (f1 : m₀ (Str.ofString "at") = some (.int x ta)) (f2 : m₀ (Str.ofString "done") = some (.int (d₀ : Int) td)) (f3 : m₀ (Str.ofString "k") = some (.int 0 tk₀)) (_f4 : m₀ (Str.ofString "out") = some (.ref O)) (_f5 : m₀ (Str.ofString "total") = some (.int (total : Int) tt)) (_f6 : m₀ (Str.ofString "marks") = some (.int (M : Int) tm)) (hx : x = ((a₀ : Nat) : Int)) (hI : rdI ks ts total M a₀ d₀ 0 pre₀) (hW : rtW O news vr₀ tz₀ pre₀) (hok : ∀ t ∈ ts, tokOk t) (hs : sumL ts = total) (h4 : total ≤ 400)
    (turnB : ∀ (a d k : Nat) (ta td tk : Tok) (vr : List Value) (cr : Nat) (tz : List (Addr × Obj)) (pre : List LTok) (u : Str → Option Value) h tok, k < 8 → d < total → a < ks.length → a₀ ≤ a → vr.length ≤ 400 → Builtin.bitAnd ((M : Int).fdiv (2 ^ ((k : Nat) : Int).toNat)) 1 = 0 → rdI ks ts total M (a + 1) (d + 1) (k + 1) (pre ++ [.byte (ks.getD (a : Int).toNat 0)]) → rtW O news vr tz pre →
      Fr h₀ L h (fun y => if y = Str.ofString "at" then some (.int a ta) else if y = Str.ofString "done" then some (.int d td) else if y = Str.ofString "k" then some (.int k tk) else if riNames.contains y then u y else m₀ y) → News h₀ L h ((O, listOf vr.toArray cr) :: (tz ++ news)) →
      wpAny (model prog w) A (isTrue test env (eval test env)) (fun b s₂ =>
        if b = true then wpAny (model prog w) A (execs body env) (KswPost h₀ L s (riLed O news) riPs (fun _ => True) riNames m₀ (riP ks ts total M a₀ O news) (fun c => 8 - c.k) Q ⟨a, d, k, ta, td, tk, vr, cr, tz, pre⟩) E s₂ else Q .next s₂) E { s with heap := h, toks := tok })
    (turnC : ∀ (a d k e l : Nat) (rest : List Int) (ta td tk : Tok) (vr : List Value) (cr : Nat) (tz : List (Addr × Obj)) (pre : List LTok) (u : Str → Option Value) h tok, k < 8 → d < total → a < ks.length → a₀ ≤ a → vr.length ≤ 400 → Builtin.bitAnd ((M : Int).fdiv (2 ^ ((k : Nat) : Int).toNat)) 1 = 1 → ks.drop a = vint e ++ rest → e < 5000 → a + (vint e).length < ks.length → ks.getD ((a + (vint e).length : Nat) : Int).toNat 0 + 3 = (l : Int) → l ≤ 258 → rdI ks ts total M (a + (vint e).length + 1) (d + l) (k + 1) (pre ++ [.copy e l]) → rtW O news vr tz pre →
      Fr h₀ L h (fun y => if y = Str.ofString "at" then some (.int a ta) else if y = Str.ofString "done" then some (.int d td) else if y = Str.ofString "k" then some (.int k tk) else if riNames.contains y then u y else m₀ y) → News h₀ L h ((O, listOf vr.toArray cr) :: (tz ++ news)) →
      wpAny (model prog w) A (isTrue test env (eval test env)) (fun b s₂ =>
        if b = true then wpAny (model prog w) A (execs body env) (KswPost h₀ L s (riLed O news) riPs (fun _ => True) riNames m₀ (riP ks ts total M a₀ O news) (fun c => 8 - c.k) Q ⟨a, d, k, ta, td, tk, vr, cr, tz, pre⟩) E s₂ else Q .next s₂) E { s with heap := h, toks := tok })
    (done : ∀ (a d k : Nat) (ta td tk : Tok) (vr : List Value) (cr : Nat) (tz : List (Addr × Obj)) (pre : List LTok) (body' : Flow → Shared → Prop) (u : Str → Option Value) h tok, ((8 : Int) ≤ k ∨ (total : Int) ≤ d) → k ≤ 8 → a₀ ≤ a → (M : Int).fdiv (2 ^ ((k : Nat) : Int).toNat) = 0 → rdO ks ts total a d pre → rtW O news vr tz pre →
      Fr h₀ L h (fun y => if y = Str.ofString "at" then some (.int a ta) else if y = Str.ofString "done" then some (.int d td) else if y = Str.ofString "k" then some (.int k tk) else if riNames.contains y then u y else m₀ y) → News h₀ L h ((O, listOf vr.toArray cr) :: (tz ++ news)) →
      wpAny (model prog w) A (isTrue test env (eval test env)) (fun b s₂ => if b = true then wpAny (model prog w) A (execs body env) body' E s₂ else Q .next s₂) E { s with heap := h, toks := tok })
    (hE : PassesOwn (model prog w) A env E := by passes_own) :
    wpAny (model prog w) A (exec (.While test body [] pos) env) Q E s := by
  subst hx
  refine ksw_while (riLed O news) riPs (fun _ => True) riNames (riP ks ts total M a₀ O news) (fun c => 8 - c.k) ⟨a₀, d₀, 0, ta, td, tk₀, vr₀, cr₀, tz₀, pre₀⟩ F N trivial ?_ ⟨hI, Nat.le_refl _, Nat.zero_le _, hW⟩ ?_ hE
  · intro p hp
    rcases List.mem_cons.mp hp with rfl | hp
    · exact f1
    · rcases List.mem_cons.mp hp with rfl | hp
      · exact f2
      · rw [List.mem_singleton.mp hp]
        exact f3
  · rintro ⟨a, d, k, ta, td, tk, vr, cr, tz, pre⟩ u h tok _ ⟨p1, p2, p3, p4⟩ F₁ N₁
    have p2' : a₀ ≤ a := p2
    have p3' : k ≤ 8 := p3
    by_cases hx : k < 8 ∧ d < total
    · obtain ⟨q1, q⟩ := rd_in p1 hok hx.1 hx.2
      have hv : vr.length ≤ 400 := by
        have h1 : vr.length = (pre.map tokD).length := DatAll.length p4.1
        have h2 := rdI_len p1
        have h3 := sum_len hok
        rw [List.length_map] at h1
        have h2' : pre.length ≤ ts.length := h2
        omega
      rcases q with ⟨q2, q3, q4, q5⟩ | ⟨q2, e, l, rest, q3, q4, q5, q6, q7, q8, q9, qa⟩
      · exact turnB a d k ta td tk vr cr tz pre u h tok hx.1 hx.2 q1 p2' hv (by rw [bit_at, q2]; rfl) (by rw [Int.toNat_natCast]; exact q5) p4 F₁ N₁
      · exact turnC a d k e l rest ta td tk vr cr tz pre u h tok hx.1 hx.2 q1 p2' hv (by rw [bit_at, q2]; rfl) q3 q4 q6 (by rw [Int.toNat_natCast]; exact q8) q9 qa p4 F₁ N₁
    · obtain ⟨q1, q2⟩ := rd_out p1 hok hx
      exact done a d k ta td tk vr cr tz pre _ u h tok (by omega) p3' p2' (shr_at q1) q2 p4 F₁ N₁
theorem rt_append {A' : Around} {Qv : Value → Shared → Prop} {m : Str → Option Value} {led news tz : List (Addr × Obj)} {O T : Addr} {oT : Obj} {vr : List Value} {cr : Nat} {pre : List LTok} {tok : LTok} (F : Fr h₀ L s.heap m) (N : News h₀ L s.heap led)
    (hW : rtW O news vr tz pre) (hT : (T, oT) ∈ led) (hI : DatIn ((T, oT) :: tz) (.ref T) (tokD tok)) (hs : vr.length ≤ 400) (hO : (O, listOf vr.toArray cr) ∈ led) (hz : ∀ p ∈ tz ++ news, p ∈ led) (l0 : O < T)
    (h : ∀ h', rtW O news (vr ++ [Value.ref T]) ((T, oT) :: tz) (pre ++ [tok]) → Fr h₀ L h' m → News h₀ L h' ((O, listOf (vr ++ [Value.ref T]).toArray (cr + 1)) :: (((T, oT) :: tz) ++ news)) → Qv .none { s with heap := h' }) :
    wpAny (model prog w) A' (call (.builtin "list.append") [.ref O, .ref T]) Qv E s := by
  refine append_put F N hO (by rw [List.size_toArray, sizeLine_eq]; omega) fun h' F' N' => h h' ⟨?_, fun q hq => ?_⟩ F' fun p hp => ?_
  · rw [List.map_append]
    exact (hW.1.mono fun q hq => .tail _ hq).append (.one hI)
  · rcases List.mem_cons.mp hq with rfl | hq
    · exact Nat.ne_of_gt l0
    · exact hW.2 q hq
  have ep : vr.toArray.push (Value.ref T) = (vr ++ [Value.ref T]).toArray := by simp
  rw [ep] at N'
  rcases List.mem_cons.mp hp with rfl | hp
  · exact N' _ (put_mem hO)
  · rcases List.mem_cons.mp hp with rfl | hp
    · exact N' _ (put_keep hT (Nat.ne_of_gt l0))
    · exact N' _ (put_keep (hz _ hp) (hW.2 _ hp))
theorem ri_end {m₀ m' : Str → Option Value} {ks : List Int} {ts pre pre' : List LTok} {total M a₀ a a' d d' k cr cr' : Nat} {news news' tz tz' : List (Addr × Obj)} {vr vr' : List Value} {O : Addr} {ta td tk ta' td' tk' : Tok} {z1 z2 z3 : Int} {h' : Heap} {tok : Nat}
    (F : Fr h₀ L h' m') (N : News h₀ L h' news') (hI : rdI ks ts total M a' d' (k + 1) pre') (hW : rtW O news vr' tz' pre') (hm : ∀ p ∈ (O, listOf vr'.toArray cr') :: (tz' ++ news), p ∈ news') (f1 : m' (Str.ofString "at") = some (.int z1 ta')) (f2 : m' (Str.ofString "done") = some (.int z2 td')) (f3 : m' (Str.ofString "k") = some (.int z3 tk'))
    (hr : ∀ q, (∀ p ∈ [(Str.ofString "at", Value.int z1 ta'), (Str.ofString "done", Value.int z2 td'), (Str.ofString "k", Value.int z3 tk')], q ≠ p.1) → riNames.contains q = false → m' q = m₀ q)
    (e1 : z1 = (a' : Int)) (e2 : z2 = (d' : Int)) (e3 : z3 = (k : Int) + 1) (hk : k < 8) (ha : a₀ ≤ a') :
    KswEnd h₀ L s (riLed O news) riPs (fun _ => True) riNames m₀ (riP ks ts total M a₀ O news) (fun c => 8 - c.k) ⟨a, d, k, ta, td, tk, vr, cr, tz, pre⟩ { s with heap := h', toks := tok } := by
  subst e1
  subst e2
  have e3' : z3 = ((k + 1 : Nat) : Int) := by omega
  subst e3'
  refine ksw_end (c' := (⟨a', d', k + 1, ta', td', tk', vr', cr', tz', pre'⟩ : RiS)) F N hm trivial ?_ hr ⟨hI, ha, hk, hW⟩ ?_
  · intro p hp
    rcases List.mem_cons.mp hp with rfl | hp
    · exact f1
    · rcases List.mem_cons.mp hp with rfl | hp
      · exact f2
      · rw [List.mem_singleton.mp hp]
        exact f3
  · show 8 - (k + 1) < 8 - k
    omega
theorem rt_end {m₀ m' : Str → Option Value} {ks : List Int} {ts pre pre' : List LTok} {total a a' d d' cr cr' : Nat} {news news' tz tz' : List (Addr × Obj)} {vr vr' : List Value} {O : Addr} {ta td ta' td' : Tok} {h' : Heap} {tok : Nat}
    (F : Fr h₀ L h' m') (N : News h₀ L h' news') (f1 : m' (Str.ofString "at") = some (.int (a' : Int) ta')) (f2 : m' (Str.ofString "done") = some (.int (d' : Int) td')) (hI : rdO ks ts total a' d' pre') (hW : rtW O news vr' tz' pre') (hm : ∀ p ∈ (O, listOf vr'.toArray cr') :: (tz' ++ news), p ∈ news')
    (hr : ∀ q, (∀ p ∈ [(Str.ofString "at", Value.int (a' : Int) ta'), (Str.ofString "done", Value.int (d' : Int) td')], q ≠ p.1) → rtNames.contains q = false → m' q = m₀ q) (ha : a + 1 ≤ a') :
    KswEnd h₀ L s (rtLed O news) rtPs (fun _ => True) rtNames m₀ (rtP ks ts total O news) (fun c => ks.length - c.a) ⟨a, d, ta, td, vr, cr, tz, pre⟩ { s with heap := h', toks := tok } := by
  refine ksw_end (c' := (⟨a', d', ta', td', vr', cr', tz', pre'⟩ : RtS)) F N hm trivial ?_ hr ⟨hI, hW⟩ ?_
  · intro p hp
    rcases List.mem_cons.mp hp with rfl | hp
    · exact f1
    · rw [List.mem_singleton.mp hp]
      exact f2
  · have : a' ≤ ks.length := pre_len hI
    show ks.length - a' < ks.length - a
    omega
theorem rt_ret {m : Str → Option Value} {ts : List LTok} {news led : List (Addr × Obj)} {O : Addr} {vr : List Value} {cr : Nat} {tz : List (Addr × Obj)} {Qv : Value → Shared → Prop} {h : Heap} {tok : Nat}
    (hret : ∀ r news' h' tk', RtOut ts news r news' → Fr h₀ L h' m → News h₀ L h' news' → Qv r { s with heap := h', toks := tk' }) (F : Fr h₀ L h m) (N : News h₀ L h led) (hD : DatAll tz vr (ts.map tokD)) (hm : ∀ p ∈ (O, listOf vr.toArray cr) :: (tz ++ news), p ∈ led) : Qv (.ref O) { s with heap := h, toks := tok } :=
  hret _ _ _ _ ⟨O, vr, cr, tz, rfl, rfl, hD⟩ F fun p hp => N p (hm p hp)
end
theorem rt_names {z : Str} (h : rtNames.contains z = false) : ¬ z = Str.ofString "marks" ∧ ¬ z = Str.ofString "k" ∧ ¬ z = Str.ofString "distance" ∧ ¬ z = Str.ofString "length" := by
  simpa [rtNames, List.contains_cons, List.contains_nil] using h
theorem ri_names {z : Str} (h : riNames.contains z = false) : ¬ z = Str.ofString "distance" ∧ ¬ z = Str.ofString "length" := by
  simpa [riNames, List.contains_cons, List.contains_nil] using h
theorem ri_of {z : Str} (h1 : ¬ z = Str.ofString "distance") (h2 : ¬ z = Str.ofString "length") : riNames.contains z = false := by
  simp [riNames, List.contains_cons, List.contains_nil, h1, h2]
theorem tok_copyE {T : Addr} {tz : List (Addr × Obj)} {d l d' l' : Int} {t1 t2 t3 : Tok} (e1 : d' = d) (e2 : l' = l) : DatIn ((T, ({ cls := .type "tuple", data := .seq #[.str (Str.ofString "copy") t1, .int d' t2, .int l' t3] } : Obj)) :: tz) (.ref T) (tokD (.copy d l)) := by
  subst e1
  subst e2
  exact tok_copy
theorem item_M {prog : Program} {w : World} {A : Around} {E : Value → Shared → Prop} {s : Shared} {b : Array UInt8} {ks : List Int} {t : Tok} {i v : Int} {value slice : Expr} {ui : Tok} {Q : Value → Shared → Prop} (hk : KBw.bInts b = ks) (hfit : ks.length ≤ 1099511627776) (h0 : 0 ≤ i) (h1 : i < (ks.length : Int)) (e : ks.getD i.toNat 0 = v)
    (h : ∀ t' k, 0 ≤ v → v < 256 → Q (.int v t') { s with toks := k })
    (hs : subscripted slice false (.bytes b t) (.int i ui) = operate [.bytes b t, .int i ui] (getItem (.bytes b t) (.int i ui)) := by with_unfolding_all rfl)
    (ht : ∀ r, letTemporaryGo value (.bytes b t) r = pure () := by intro _; with_unfolding_all rfl) : wpAny (model prog w) A (subscriptTail value slice (.bytes b t) (.int i ui)) Q E s := by
  subst e
  exact KBw.item_K hk hfit h0 h1 h hs ht
theorem datAll_drop {led : List (Addr × Obj)} : ∀ {vs : List Value} {ds : List Dat} (n : Nat), DatAll led vs ds → DatAll led (vs.drop n) (ds.drop n)
  | _, _, 0, h => h
  | _, _, n + 1, .nil => .nil
  | _, _, n + 1, .cons _ r => datAll_drop n r
theorem datAll_take {led : List (Addr × Obj)} : ∀ {vs : List Value} {ds : List Dat} (n : Nat), DatAll led vs ds → DatAll led (vs.take n) (ds.take n)
  | _, _, 0, _ => .nil
  | _, _, n + 1, .nil => .nil
  | _, _, n + 1, .cons h r => .cons h (datAll_take n r)
theorem body_take {G : List LTok} {i : Nat} {t : LTok} (h : G[i]? = some t) : bodyOf (G.take (i + 1)) = bodyOf (G.take i) ++ encL t := by rw [List.take_add_one, h]; exact body_app _ _
theorem marks_take {G : List LTok} {i : Nat} {t : LTok} (h : G[i]? = some t) (hi : i < G.length) : marksOf (G.take (i + 1)) = marksOf (G.take i) + markL t * 2 ^ i := by
  rw [List.take_add_one, h]
  have := marks_app (G.take i) t
  rw [List.length_take, Nat.min_eq_left (by omega)] at this
  exact this
theorem marks_or {m i : Nat} (h : m < 2 ^ i) : Builtin.bitOr (m : Int) (1 * 2 ^ ((i : Nat) : Int).toNat) = ((m + 1 * 2 ^ i : Nat) : Int) := by
  rw [Int.toNat_natCast, or_apart (Int.natCast_nonneg _) (by have e : ((2 ^ i : Nat) : Int) = (2 : Int) ^ i := by simp
                                                             rw [← e]; exact Int.ofNat_lt.mpr h) (by decide)]
  simp
def WtOut (ts : List LTok) (news : List (Addr × Obj)) (r : Value) (news' : List (Addr × Obj)) : Prop := ∃ b t, r = .bytes b t ∧ news' = news ∧ KBw.bInts b = wrt ts
def WtC (f : Addr) (prog : Program) (w : World) (K : Frag) (p : Program) (loose : List Str) (mean : ExcName → Option Value) (mg mb : Str → Option Value) : Prop :=
  ∀ (TL : Addr) (vr : List Value) (cr : Nat) (ts : List LTok) (news : List (Addr × Obj)), (TL, listOf vr.toArray cr) ∈ news → DatAll news vr (ts.map tokD) → (∀ t ∈ ts, tokOk t) → ts.length ≤ 400 → (wrt ts).length ≤ 10000 → Fun prog w K p loose mean mg mb 60 f [.ref TL] news (WtOut ts news)
structure WtS where
  a : Nat
  ta : Tok
  vs : List Value
  c : Nat
  kb : List (List Int)
def wtLed (P : Addr) (news : List (Addr × Obj)) (c : WtS) : List (Addr × Obj) := (P, listOf c.vs.toArray c.c) :: news
def wtPs (c : WtS) : List (Str × Value) := [(Str.ofString "at", .int c.a c.ta)]
def wtNames : List Str := [Str.ofString "group", Str.ofString "marks", Str.ofString "body", Str.ofString "k", Str.ofString "tok"]
def wtP (ts : List LTok) (c : WtS) : Prop := BsAre c.vs c.kb ∧ c.kb.flatten ++ wrt (ts.drop c.a) = wrt ts ∧ c.vs.length ≤ 30 * c.a
structure WiS where
  vb : List Value
  cb : Nat
  kb : List (List Int)
  m : Nat
  tm : Tok
def wiLed (D : Addr) (nw : List (Addr × Obj)) (c : WiS) : List (Addr × Obj) := (D, listOf c.vb.toArray c.cb) :: nw
def wiPs (c : WiS) : List (Str × Value) := [(Str.ofString "marks", .int c.m c.tm)]
def wiNames : List Str := [Str.ofString "tok"]
def wiP (G : List LTok) (i : Nat) (c : WiS) : Prop := BsAre c.vb c.kb ∧ c.kb.flatten = bodyOf (G.take i) ∧ c.m = marksOf (G.take i) ∧ c.vb.length ≤ 2 * i
section
variable {prog : Program} {w : World} {A : Around} {E : Value → Shared → Prop} {Q : Flow → Shared → Prop} {s : Shared} {env : Env} {h₀ : Heap} {L : Addr}
theorem wt_while {test : Expr} {body : List Stmt} {pos : Pos} {m₀ : Str → Option Value} {ts : List LTok} {vr : List Value} {cr : Nat} {news : List (Addr × Obj)} {P TL : Addr} {ta : Tok}
    (F : Fr h₀ L s.heap m₀) (N : News h₀ L s.heap ((P, listOf #[] 0) :: news)) (f1 : m₀ (Str.ofString "at") = some (.int 0 ta)) (_f2 : m₀ (Str.ofString "parts") = some (.ref P)) (_f3 : m₀ (Str.ofString "toks") = some (.ref TL)) (_hm : (TL, listOf vr.toArray cr) ∈ news) (hD : DatAll news vr (ts.map tokD)) (hl : ts.length ≤ 400) (hok : ∀ t ∈ ts, tokOk t)
    (turn : ∀ (a : Nat) (ta : Tok) (vs : List Value) (c : Nat) (kb : List (List Int)) (G : List LTok) (gv : List Value) (u : Str → Option Value) h tk, BsAre vs kb → kb.flatten ++ wrt (ts.drop a) = wrt ts → vs.length ≤ 30 * a → vr.length = ts.length → G = (ts.drop a).take 8 → gv = (vr.drop a).take 8 → DatAll news gv (G.map tokD) → (∀ t ∈ G, tokOk t) → gv.length = G.length → G.length ≤ 8 →
      Fr h₀ L h (fun y => if y = Str.ofString "at" then some (.int a ta) else if wtNames.contains y then u y else m₀ y) → News h₀ L h ((P, listOf vs.toArray c) :: news) →
      wpAny (model prog w) A (isTrue test env (eval test env)) (fun b s₂ =>
        if b = true then wpAny (model prog w) A (execs body env) (KswPost h₀ L s (wtLed P news) wtPs (fun _ => True) wtNames m₀ (wtP ts) (fun c => ts.length - c.a) Q ⟨a, ta, vs, c, kb⟩) E s₂ else Q .next s₂) E { s with heap := h, toks := tk })
    (hE : PassesOwn (model prog w) A env E := by passes_own) :
    wpAny (model prog w) A (exec (.While test body [] pos) env) Q E s := by
  refine ksw_while (wtLed P news) wtPs (fun _ => True) wtNames (wtP ts) (fun c => ts.length - c.a) ⟨0, ta, [], 0, []⟩ F N trivial ?_ ⟨.nil, rfl, Nat.zero_le _⟩ ?_ hE
  · intro p hp
    rw [List.mem_singleton.mp hp]
    exact f1
  · rintro ⟨a, ta, vs, c, kb⟩ u h tk _ ⟨p1, p2, p3⟩ F₁ N₁
    have hD' : DatAll news ((vr.drop a).take 8) (((ts.drop a).take 8).map tokD) := by
      rw [List.map_take, List.map_drop]
      exact datAll_take 8 (datAll_drop a hD)
    have hgl : ((vr.drop a).take 8).length = ((ts.drop a).take 8).length := by rw [DatAll.length hD', List.length_map]
    exact turn a ta vs c kb _ _ u h tk p1 p2 p3 (by rw [DatAll.length hD, List.length_map]) rfl rfl hD' (fun t ht => hok t (List.mem_of_mem_drop (List.mem_of_mem_take ht))) hgl (by rw [List.length_take]; omega) F₁ N₁
theorem wt_end {m₀ m' : Str → Option Value} {ts G : List LTok} {a c c' : Nat} {ta ta' : Tok} {vs vs' us : List Value} {kb js : List (List Int)} {M : Nat} {news news' : List (Addr × Obj)} {P : Addr} {z : Int} {h' : Heap} {tk : Nat} {bm : Array UInt8} {tm : Tok}
    (F : Fr h₀ L h' m') (N : News h₀ L h' news') (f1 : m' (Str.ofString "at") = some (.int z ta')) (hm : ∀ p ∈ (P, listOf vs'.toArray c') :: news, p ∈ news') (hr : ∀ q, (∀ p ∈ [(Str.ofString "at", Value.int z ta')], q ≠ p.1) → wtNames.contains q = false → m' q = m₀ q)
    (hB : BsAre vs kb) (hv : vs' = vs ++ [Value.bytes bm tm] ++ us) (hb : KBw.bInts bm = [(M : Int)]) (hU : BsAre us js) (hk : kb.flatten ++ wrt (ts.drop a) = wrt ts) (hj : js.flatten = bodyOf G) (hM : M = marksOf G) (hG : G = (ts.drop a).take 8) (ha : (a : Int) < ts.length) (hz : z = (a : Int) + 8) (hl : vs.length ≤ 30 * a) (hul : us.length ≤ 16) :
    KswEnd h₀ L s (wtLed P news) wtPs (fun _ => True) wtNames m₀ (wtP ts) (fun c => ts.length - c.a) ⟨a, ta, vs, c, kb⟩ { s with heap := h', toks := tk } := by
  have e : z = ((a + 8 : Nat) : Int) := by omega
  subst e
  subst hv
  refine ksw_end (c' := (⟨a + 8, ta', vs ++ [Value.bytes bm tm] ++ us, c', kb ++ [[(M : Int)]] ++ js⟩ : WtS)) F N hm trivial ?_ ?_ ⟨(hB.snoc hb).app hU, ?_, ?_⟩ ?_
  · intro p hp
    rw [List.mem_singleton.mp hp]
    exact f1
  · intro q hq
    refine hr q fun p hp => ?_
    rw [List.mem_singleton.mp hp]
    exact hq _ (.head _)
  · show (kb ++ [[(M : Int)]] ++ js).flatten ++ wrt (ts.drop (a + 8)) = wrt ts
    have hne : ts.drop a ≠ [] := by
      intro q
      have := congrArg List.length q
      rw [List.length_drop, List.length_nil] at this
      omega
    rw [← hk, wrt_cons hne, ← hG, ← hM, ← hj, List.drop_drop]
    simp
  · show (vs ++ [Value.bytes bm tm] ++ us).length ≤ 30 * (a + 8)
    rw [List.length_append, List.length_append, List.length_singleton]
    omega
  · show ts.length - (a + 8) < ts.length - a
    omega
theorem wi_for {body : List Stmt} {r D : Addr} {m₀ : Str → Option Value} {t₀ u₀ v₀ tm : Tok} {e : Int} {c0 : Nat} {G : List LTok} {gv : List Value} {news nw : List (Addr × Obj)}
    (hh : A.handled = none) (hr : IsRange s.heap r 0 e 1 t₀ u₀ v₀) (he : e = (gv.length : Int)) (F : Fr h₀ env.locals s.heap m₀) (N : News h₀ env.locals s.heap ((D, listOf #[] c0) :: nw)) (f1 : m₀ (Str.ofString "marks") = some (.int 0 tm)) (hg : DatAll news gv (G.map tokD)) (hs : ∀ p ∈ news, p ∈ nw) (hok : ∀ t ∈ G, tokOk t) (h8 : G.length ≤ 8)
    (turnB : ∀ (b : Int) (T : Addr) (t1 t2 : Tok) (n : Nat) (vb : List Value) (cb : Nat) (kb : List (List Int)) (M : Nat) (tm : Tok) (i : Nat) t (u : Str → Option Value) h tk own, G[i]? = some (.byte b) → gv[i]? = some (.ref T) → i < 8 → (T, ({ cls := .type "tuple", data := .seq #[.str (Str.ofString "byte") t1, .int b t2] n } : Obj)) ∈ nw → 0 ≤ b → b < 256 → BsAre vb kb → kb.flatten = bodyOf (G.take i) → M = marksOf (G.take i) → vb.length ≤ 2 * i → (∀ p ∈ own, p.1 ≠ D) → (∀ p ∈ own, ∀ q ∈ nw, p.1 ≠ q.1) →
      Fr h₀ env.locals h (fun y => if y = Str.ofString "k" then some (.int (0 + i) t) else if y = Str.ofString "marks" then some (.int M tm) else if wiNames.contains y then u y else m₀ y) → News h₀ env.locals h ((D, listOf vb.toArray cb) :: (nw ++ own)) →
      wpAny (model prog w) A (execs body env) (InvPostG h₀ env.locals (RgJ (wiLed D nw) wiPs (Str.ofString "k") wiNames m₀ (wiP G) (i + 1)) own { s with heap := h, toks := tk } Q) E { s with heap := h, toks := tk })
    (turnC : ∀ (d l : Int) (T : Addr) (t1 t2 t3 : Tok) (n : Nat) (vb : List Value) (cb : Nat) (kb : List (List Int)) (M : Nat) (tm : Tok) (i : Nat) t (u : Str → Option Value) h tk own, G[i]? = some (.copy d l) → gv[i]? = some (.ref T) → i < 8 → (T, ({ cls := .type "tuple", data := .seq #[.str (Str.ofString "copy") t1, .int d t2, .int l t3] n } : Obj)) ∈ nw → 1 ≤ d → d ≤ 4096 → 3 ≤ l → l ≤ 258 → BsAre vb kb → kb.flatten = bodyOf (G.take i) → M = marksOf (G.take i) → M < 2 ^ i → vb.length ≤ 2 * i → (∀ p ∈ own, p.1 ≠ D) → (∀ p ∈ own, ∀ q ∈ nw, p.1 ≠ q.1) →
      Fr h₀ env.locals h (fun y => if y = Str.ofString "k" then some (.int (0 + i) t) else if y = Str.ofString "marks" then some (.int M tm) else if wiNames.contains y then u y else m₀ y) → News h₀ env.locals h ((D, listOf vb.toArray cb) :: (nw ++ own)) →
      wpAny (model prog w) A (execs body env) (InvPostG h₀ env.locals (RgJ (wiLed D nw) wiPs (Str.ofString "k") wiNames m₀ (wiP G) (i + 1)) own { s with heap := h, toks := tk } Q) E { s with heap := h, toks := tk })
    (done : ∀ (vb : List Value) (cb : Nat) (kb : List (List Int)) (M : Nat) (tm : Tok) (u : Str → Option Value) h tk, BsAre vb kb → kb.flatten = bodyOf G → M = marksOf G → M < 256 → vb.length ≤ 16 →
      Fr h₀ env.locals h (fun y => if y = Str.ofString "k" then u y else if y = Str.ofString "marks" then some (.int M tm) else if wiNames.contains y then u y else m₀ y) → News h₀ env.locals h ((D, listOf vb.toArray cb) :: nw) → Q .next { s with heap := h, toks := tk }) :
    wpAny (model prog w) A (pyIter (.ref r)) (fun it s₂ => LoopAtV prog w A h₀ env (Str.ofString "k") body Q E it s₂) E s := by
  subst he
  have hgl : gv.length = G.length := by rw [DatAll.length hg, List.length_map]
  have hsz : Builtin.Range.rangeSize 0 (gv.length : Int) 1 = (gv.length : Int) := rangeSize_nat _ _
  have hsm : Builtin.Range.small 0 (gv.length : Int) 1 = true := small_one (by omega) (by omega) (by omega) (by omega)
  refine rg_for (wiLed D nw) wiPs wiNames (wiP G) ⟨[], c0, [], 0, tm⟩ hh hr hsm hsz F N (fun _ h => h) ?_ ⟨.nil, rfl, rfl, Nat.zero_le _⟩ ?_ ?_
  · intro p hp
    rw [List.mem_singleton.mp hp]
    exact f1
  · rintro ⟨vb, cb, kb, M, tm⟩ i t u h tk own hi ⟨p1, p2, p3, p4⟩ hof F₁ N₁
    have hi' : i < G.length := by omega
    have ht : G[i]? = some G[i] := List.getElem?_eq_getElem hi'
    obtain ⟨v, hv, hI⟩ := DatAll.get hg (k := i) (by rw [List.length_map]; exact hi')
    rw [List.getElem_map] at hI
    have hk := hok _ (List.getElem_mem hi')
    have o1 : ∀ p ∈ own, p.1 ≠ D := fun p hp => hof p hp _ (.head _)
    have o2 : ∀ p ∈ own, ∀ q ∈ nw, p.1 ≠ q.1 := fun p hp q hq => hof p hp q (.tail _ hq)
    have hM : M < 2 ^ i := by
      have p3' : M = marksOf (G.take i) := p3
      rw [p3']
      have := marks_lt (G.take i)
      rw [List.length_take, Nat.min_eq_left (by omega)] at this
      exact this
    generalize G[i] = x at ht hI hk
    cases x with
    | byte b =>
      cases hI with
      | tuple hm r =>
        cases r with
        | cons r1 r => cases r1 with
          | str _ t1 => cases r with
            | cons r2 r => cases r2 with
              | int _ t2 => cases r with
                | nil => exact turnB b _ t1 t2 _ vb cb kb M tm i t u h tk own ht hv (by omega) (hs _ hm) hk.1 hk.2 p1 p2 p3 p4 o1 o2 F₁ N₁
    | copy d l =>
      have hk' : 1 ≤ d ∧ d ≤ 4096 ∧ 3 ≤ l ∧ l ≤ 258 := hk
      cases hI with
      | tuple hm r =>
        cases r with
        | cons r1 r => cases r1 with
          | str _ t1 => cases r with
            | cons r2 r => cases r2 with
              | int _ t2 => cases r with
                | cons r3 r => cases r3 with
                  | int _ t3 => cases r with
                    | nil => exact turnC d l _ t1 t2 t3 _ vb cb kb M tm i t u h tk own ht hv (by omega) (hs _ hm) hk'.1 hk'.2.1 hk'.2.2.1 hk'.2.2.2 p1 p2 p3 hM p4 o1 o2 F₁ N₁
  · rintro ⟨vb, cb, kb, M, tm⟩ u h tk ⟨p1, p2, p3, p4⟩ F₁ N₁
    have p2' : kb.flatten = bodyOf (G.take gv.length) := p2
    have p3' : M = marksOf (G.take gv.length) := p3
    have p4' : vb.length ≤ 2 * gv.length := p4
    rw [hgl, List.take_length] at p2' p3'
    have h2 := marks_lt G
    have h3 := Nat.pow_le_pow_right (show 0 < 2 by decide) h8
    exact done vb cb kb M tm u h tk p1 p2' p3' (by omega) (by omega) F₁ N₁
theorem wi_end {m₀ m' : Str → Option Value} {G : List LTok} {nw own news' : List (Addr × Obj)} {D : Addr} {vb' : List Value} {cb' i M : Nat} {kb kb' : List (List Int)} {z : Int} {tm : Tok} {t : LTok} {s₁ : Shared} {h' : Heap} {tk : Nat}
    (F : Fr h₀ L h' m') (N : News h₀ L h' news') (f1 : m' (Str.ofString "marks") = some (.int z tm)) (hr : ∀ q, q ≠ Str.ofString "k" → (∀ p ∈ [(Str.ofString "marks", Value.int z tm)], q ≠ p.1) → wiNames.contains q = false → m' q = m₀ q)
    (n1 : ∀ p ∈ (D, listOf vb'.toArray cb') :: nw, p ∈ news') (ho : ∀ p ∈ own, p ∈ news') (o1 : ∀ p ∈ own, p.1 ≠ D) (o2 : ∀ p ∈ own, ∀ q ∈ nw, p.1 ≠ q.1)
    (hB : BsAre vb' kb') (hi : G[i]? = some t) (hk : kb.flatten = bodyOf (G.take i)) (hk' : kb'.flatten = kb.flatten ++ encL t) (hM : M = marksOf (G.take i)) (hz : z = ((M + markL t * 2 ^ i : Nat) : Int)) (hl : vb'.length ≤ 2 * i + 2) :
    InvEndG h₀ L (RgJ (wiLed D nw) wiPs (Str.ofString "k") wiNames m₀ (wiP G) (i + 1)) own s₁ { s₁ with heap := h', toks := tk } := by
  subst hz
  have hlt : i < G.length := by
    rcases Nat.lt_or_ge i G.length with q | q
    · exact q
    · rw [List.getElem?_eq_none q] at hi; cases hi
  refine rg_end (c' := (⟨vb', cb', kb', M + markL t * 2 ^ i, tm⟩ : WiS)) F N n1 ho (fun p hp q hq => ?_) ?_ hr ⟨hB, ?_, ?_, by show vb'.length ≤ 2 * (i + 1); omega⟩
  · rcases List.mem_cons.mp hq with rfl | hq
    · exact o1 p hp
    · exact o2 p hp q hq
  · intro p hp
    rw [List.mem_singleton.mp hp]
    exact f1
  · show kb'.flatten = bodyOf (G.take (i + 1))
    rw [body_take hi, ← hk, hk']
  · show M + markL t * 2 ^ i = marksOf (G.take (i + 1))
    rw [marks_take hi hlt, ← hM]
end
section
variable {prog : Program} {w : World} {A : Around} {E : Value → Shared → Prop} {s : Shared} {h₀ : Heap} {L R : Addr} {m : Str → Option Value} {news : List (Addr × Obj)} {vs : List Value} {n : Nat}
theorem wt_len {Q : Value → Shared → Prop} (N : News h₀ L s.heap news) (hm : (R, listOf vs.toArray n) ∈ news) (hz : vs.length ≤ 1000000) (h : ∀ t k, Q (.int (vs.length : Nat) t) { s with toks := k }) : wpAny (model prog w) A (call (.builtin "len") [.ref R]) Q E s := by
  have hl : s.heap.IsList R vs.toArray := PySem.IsL.isList (n := n) (N _ hm).1
  have e : vs.toArray.size = vs.length := by rw [List.size_toArray]
  refine len_list hl (by rw [e]; omega) ?_
  rw [e]
  exact h _ _
theorem wt_item {value slice : Expr} {k : Int} {u : Tok} {v : Value} {i : Nat} {Q : Value → Shared → Prop} (N : News h₀ L s.heap news) (hm : (R, listOf vs.toArray n) ∈ news) (hv : vs[i]? = some v) (hk : k = (i : Int)) (hi : i < 1000) (h : Q v s)
    (hs : subscripted slice false (.ref R) (.int k u) = operate [.ref R, .int k u] (getItem (.ref R) (.int k u)) := by with_unfolding_all rfl) :
    wpAny (model prog w) A (subscriptTail value slice (.ref R) (.int k u)) Q E s := by
  subst hk
  have hL : s.heap.IsList R vs.toArray := PySem.IsL.isList (n := n) (N _ hm).1
  refine tail_any hL.typeIs slot_list_getitem.lookup ?_ hs
  exact wpAny_getItem_list hL (by omega) (by omega) (by rw [Int.toNat_natCast]; simpa using hv) h
theorem wt_slice {value slice : Expr} {a : Nat} {ta tb : Tok} {gv : List Value} {y : Int} {Q : Value → Shared → Prop} (F : Fr h₀ L s.heap m) (N : News h₀ L s.heap news) (hm : (R, listOf vs.toArray n) ∈ news) (e : gv = (vs.drop a).take 8) (hy : y = (a : Int) + 8) (hz : vs.length ≤ 1000000)
    (h : ∀ D h', Fr h₀ L h' m → News h₀ L h' ((D, listOf gv.toArray 0) :: news) → (∀ p ∈ news, p.1 < D) → Q (.ref D) { s with heap := h' })
    (hs : subscripted slice false (.ref R) (.ref s.heap.objs.size) = operate [.ref s.heap.objs.size, .ref R] (getItem (.ref R) (.ref s.heap.objs.size))) (ht : ∀ r, letTemporaryGo value (.ref R) r = pure ()) :
    wpAny (model prog w) A (subscriptTail value slice (.ref R) (.ref s.heap.objs.size)) Q E { s with heap := s.heap.push { cls := .type "slice", data := .fields #[.int (a : Int) ta, .int y tb, .none] } } := by
  have hL : s.heap.IsList R vs.toArray := PySem.IsL.isList (n := n) (N _ hm).1
  refine kmk_slice_lit (zs := gv) F N hL (.int _ _) (.int _ _) ?_ h hs ht (by rw [List.size_toArray, sizeLine_eq]; omega)
  subst hy
  have e2 : sliceBounds (some (a : Int)) (some ((a : Int) + 8)) none vs.toArray.size = (((min a vs.length : Nat) : Int), ((min (a + 8) vs.length : Nat) : Int), 1) := by
    simp only [sliceBounds, Option.getD_none, show (1 : Int) > 0 by decide, if_true, if_neg (show ¬ ((a : Int) < 0) by omega), if_neg (show ¬ ((a : Int) + 8 < 0) by omega), List.size_toArray]
    congr 1
    · omega
    · congr 1
      omega
  rw [kmk_pick_nat _ e2, e]
  show (vs.drop (min a vs.length)).take (min (a + 8) vs.length - min a vs.length) = _
  rw [kmk_drop_min]
  by_cases q : a + 8 ≤ vs.length
  · congr 1; omega
  · rw [List.take_of_length_le (by rw [List.length_drop]; omega), List.take_of_length_le (by rw [List.length_drop]; omega)]
theorem bytes_1 {Q : Value → Shared → Prop} {D : Addr} {b : Int} {t1 : Tok} {n : Nat} (hh : A.handled = none) (F : Fr h₀ L s.heap m) (N : News h₀ L s.heap news) (hm : (D, listOf #[.int b t1] n) ∈ news) (b0 : 0 ≤ b) (b1 : b < 256)
    (h : ∀ bb t' h' k, Fr h₀ L h' m → News h₀ L h' news → KBw.bInts bb = [b] → Q (.bytes bb t') { s with heap := h', toks := k }) : wpAny (model prog w) A (call (.type "bytes") [.ref D]) Q E s :=
  KBa.make_K (vs := [.int b t1]) (ns := [b]) F N hh (PySem.IsL.isList (n := n) (N _ hm).1) (.cons _ _ .nil) (fun v hv => by rw [List.mem_singleton.mp hv]; exact ⟨b0, b1⟩) (by show 1 ≤ 16777216; decide) fun h' t' k F' N' hr' => h _ t' h' k F' N' (KBa.ints_make hr')
theorem wt_join {P : Addr} {ks : List (List Int)} {ts : List LTok} {a : Nat} {t0 : Tok} {Q : Value → Shared → Prop} (N : News h₀ L s.heap news) (hm : (P, listOf vs.toArray n) ∈ news) (hv : BsAre vs ks) (hk : ks.flatten ++ wrt (ts.drop a) = wrt ts) (ha : ¬ (a : Int) < ts.length) (hz : (wrt ts).length ≤ 10000)
    (h : ∀ b t k, KBw.bInts b = wrt ts → Q (.bytes b t) { s with toks := k }) : wpAny (model prog w) A (call (.builtin "bytes.join") [.bytes #[] t0, .ref P]) Q E s := by
  have e : ks.flatten = wrt ts := by
    rw [List.drop_of_length_le (by omega), wrt_nil, List.append_nil] at hk
    exact hk
  refine bjoin_any (vs := vs) (PySem.IsL.isList (n := n) (N _ hm).1) (by simp) hv (by rw [e]; omega) ?_
  rw [e]
  exact h
theorem marks_orE {M i : Nat} {d l : Int} (h : M < 2 ^ i) : Builtin.bitOr (M : Int) (1 * 2 ^ ((0 : Int) + (i : Int)).toNat) = ((M + markL (.copy d l) * 2 ^ i : Nat) : Int) := by
  rw [Int.zero_add]
  exact marks_or h
theorem wt_ret {ts : List LTok} {led : List (Addr × Obj)} {b : Array UInt8} {t : Tok} {Q : Value → Shared → Prop} {h : Heap} {tok : Nat}
    (hret : ∀ r news' h' tk', WtOut ts news r news' → Fr h₀ L h' m → News h₀ L h' news' → Q r { s with heap := h', toks := tk' }) (F : Fr h₀ L h m) (N : News h₀ L h led) (hn : ∀ p ∈ news, p ∈ led) (hb : KBw.bInts b = wrt ts) : Q (.bytes b t) { s with heap := h, toks := tok } :=
  hret _ _ _ _ ⟨b, t, rfl, rfl, hb⟩ F fun p hp => N p (hn p hp)
end
theorem kb_byte {kb : List (List Int)} {b : Int} : (kb ++ [[b]]).flatten = kb.flatten ++ encL (.byte b) := by simp [encL]
theorem kb_copy {kb : List (List Int)} {d l : Int} : (kb ++ [vint d.toNat] ++ [[l - 3]]).flatten = kb.flatten ++ encL (.copy d l) := by simp [encL]
theorem m_byte {M i : Nat} {b : Int} : (M : Int) = ((M + markL (.byte b) * 2 ^ i : Nat) : Int) := by simp [markL]
theorem cont1 {z x : Str} (h : [x].contains z = false) : ¬ z = x := by
  simpa [List.contains_cons, List.contains_nil] using h
theorem wt_names {z : Str} (h : wtNames.contains z = false) : ¬ z = Str.ofString "group" ∧ ¬ z = Str.ofString "marks" ∧ ¬ z = Str.ofString "body" ∧ ¬ z = Str.ofString "k" ∧ ¬ z = Str.ofString "tok" := by
  simpa [wtNames, List.contains_cons, List.contains_nil] using h
theorem wi_of {z : Str} (h1 : ¬ z = Str.ofString "tok") : wiNames.contains z = false := by
  simp [wiNames, List.contains_cons, List.contains_nil, h1]
theorem vint_len2 {n : Nat} (h : n < 16384) : (vint n).length ≤ 2 := by
  by_cases q : n < 128
  · rw [vint_small q]; simp
  · rw [vint_big q, List.length_cons, vint_small (by omega)]; simp
theorem enc_len {t : LTok} (h : tokOk t) : (encL t).length ≤ 3 := by
  cases t with
  | byte b => simp [encL]
  | copy d l =>
    have h1 : d ≤ 4096 := h.2.1
    have h2 := vint_len2 (n := d.toNat) (by omega)
    show (vint d.toNat ++ [l - 3]).length ≤ 3
    rw [List.length_append, List.length_singleton]
    omega
theorem body_len : ∀ {ts : List LTok}, (∀ t ∈ ts, tokOk t) → (bodyOf ts).length ≤ 3 * ts.length
  | [], _ => Nat.le_refl _
  | t :: r, h => by
    have h1 := enc_len (h t (.head _))
    have h2 := body_len (ts := r) fun x hx => h x (.tail _ hx)
    show (encL t ++ bodyOf r).length ≤ _
    rw [List.length_append, List.length_cons]
    omega
theorem wrt_len (ts : List LTok) (h : ∀ t ∈ ts, tokOk t) : (wrt ts).length ≤ 4 * ts.length := by
  induction hn : ts.length using Nat.strongRecOn generalizing ts with
  | ind n ih =>
    by_cases q : ts = []
    · subst q; simp [wrt_nil]
    · have hp := List.length_pos_iff.mpr q
      rw [wrt_cons q, List.length_cons, List.length_append]
      have h1 := body_len (ts := ts.take 8) fun x hx => h x (List.mem_of_mem_take hx)
      have h2 := ih (ts.drop 8).length (by rw [List.length_drop]; omega) (ts.drop 8) (fun x hx => h x (List.mem_of_mem_drop hx)) rfl
      rw [List.length_take] at h1
      rw [List.length_drop] at h2
      omega
def PaOut (ns : List Int) (news : List (Addr × Obj)) (r : Value) (news' : List (Addr × Obj)) : Prop := ∃ b t ts, r = .bytes b t ∧ news' = news ∧ KBw.bInts b = vint ns.length ++ wrt ts ∧ tkP ns ns.length ts
def PaC (f : Addr) (prog : Program) (w : World) (K : Frag) (p : Program) (loose : List Str) (mean : ExcName → Option Value) (mg mb : Str → Option Value) : Prop :=
  ∀ (b : Array UInt8) (ns : List Int) (tb : Tok) (news : List (Addr × Obj)), KBw.bInts b = ns → ns.length ≤ 360 → Fun prog w K p loose mean mg mb 100 f [.bytes b tb] news (PaOut ns news)
def UpC (f : Addr) (prog : Program) (w : World) (K : Frag) (p : Program) (loose : List Str) (mean : ExcName → Option Value) (mg mb : Str → Option Value) : Prop :=
  ∀ (b : Array UInt8) (ns : List Int) (ts : List LTok) (tb : Tok) (news : List (Addr × Obj)), KBw.bInts b = vint ns.length ++ wrt ts → tkP ns ns.length ts → KBa.In ns → ns.length ≤ 360 → Fun prog w K p loose mean mg mb 100 f [.bytes b tb] news (ExOut ns news)
theorem tk_all {ns : List Int} {a : Nat} {ts : List LTok} (h : tkP ns a ts) : ∀ t ∈ ts, tokOk t := okAll_tok ts [] h.2.1
theorem tk_exp {ns : List Int} {ts : List LTok} (h : tkP ns ns.length ts) : expAll ts = ns := by rw [h.2.2.1, List.take_length]
theorem up_cut {b' : Array UInt8} {ks : List Int} {n : Nat} {rest : List Int} {a : Int} (hb : KBw.bInts b' = (ks.drop ((some a).elim 0 (clipAt ks.length))).take ((none : Option Int).elim ks.length (clipAt ks.length) - (some a).elim 0 (clipAt ks.length))) (hk : ks = vint n ++ rest) (ha : a = ((0 + (vint n).length : Nat) : Int)) : KBw.bInts b' = rest := by
  rw [hb]
  simp only [Option.elim]
  have hl : ks.length = (vint n).length + rest.length := by rw [hk, List.length_append]
  have e : a.toNat = (vint n).length := by omega
  rw [clipAt_in (by omega) (by omega), e, hk, List.drop_left, List.take_of_length_le (by rw [List.length_append]; omega)]
theorem pa_ret {h₀ : Heap} {L : Addr} {m : Str → Option Value} {s : Shared} {ns : List Int} {news led : List (Addr × Obj)} {ts : List LTok} {b : Array UInt8} {t : Tok} {Q : Value → Shared → Prop} {h : Heap} {tok : Nat}
    (hret : ∀ r news' h' tk', PaOut ns news r news' → Fr h₀ L h' m → News h₀ L h' news' → Q r { s with heap := h', toks := tk' }) (F : Fr h₀ L h m) (N : News h₀ L h led) (hn : ∀ p ∈ news, p ∈ led) (hb : KBw.bInts b = vint ns.length ++ wrt ts) (hT : tkP ns ns.length ts) : Q (.bytes b t) { s with heap := h, toks := tok } :=
  hret _ _ _ _ ⟨b, t, ts, rfl, rfl, hb, hT⟩ F fun p hp => N p (hn p hp)
theorem pa_size {n : Nat} {ks : List Int} (h : n < 16384) (hk : ks.length ≤ 10000) : (vint n).length + ks.length ≤ 16777216 := by
  have := vint_len2 h
  omega
theorem ub_size {n : Nat} {ks : List Int} (h : n < 16384) (hk : ks.length ≤ 10000) : (vint n ++ ks).length ≤ 1000000 := by
  have := vint_len2 h
  rw [List.length_append]
  omega
section
variable {prog : Program} {w : World} {A : Around} {E : Value → Shared → Prop} {s : Shared} {h₀ : Heap} {L D : Addr} {m : Str → Option Value} {news : List (Addr × Obj)} {vs : List Value} {ns : List Int}
theorem mk_data {Q : Value → Shared → Prop} (F : Fr h₀ L s.heap m) (N : News h₀ L s.heap news) (hh : A.handled = none) (hl : s.heap.IsList D vs.toArray) (hi : IntsAre vs ns) (hr : KBa.In ns) (hn : ns.length ≤ 117)
    (h : ∀ (b : Array UInt8) (ks : List Int) h' t' k', Fr h₀ L h' m → News h₀ L h' [] → KBw.bInts b = ks → KBa.In ks → ks.length ≤ 117 → Q (.bytes b t') { s with heap := h', toks := k' }) : wpAny (model prog w) A (call (.type "bytes") [.ref D]) Q E s :=
  KBa.make_K F N hh hl hi hr (by omega) fun h' t' k' F' N' hIn => h _ _ h' t' k' F' (fun p hp => nomatch hp) (KBa.ints_make hIn) hr hn
end
theorem bytes_eq {b c : Array UInt8} (h : KBw.bInts b = KBw.bInts c) : b = c := by
  have key : ∀ l1 l2 : List UInt8, l1.map (fun c => (c.toNat : Int)) = l2.map (fun c => (c.toNat : Int)) → l1 = l2 := by
    intro l1
    induction l1 with
    | nil => intro l2 h; cases l2 with
      | nil => rfl
      | cons _ _ => simp at h
    | cons x xs ih =>
      intro l2 h
      cases l2 with
      | nil => simp at h
      | cons y ys =>
        simp only [List.map_cons, List.cons.injEq] at h
        have hx : x = y := by
          apply UInt8.toNat_inj.mp
          omega
        rw [hx, ih ys h.2]
  unfold KBw.bInts at h
  exact Array.toList_inj.mp (key _ _ h)
theorem gives_same {b : Array UInt8} {t u : Tok} {n : Int} (hf : Builtin.Bytes.fitsIndex n = true) (e1 : b.size * n.toNat = b.size) (hs : b.size ≤ 16777216) : Gives (Builtin.«bytes.__mul__» ⟨[.bytes b t, .int n u], []⟩) (.val (.bytes b t)) := by
  refine .of_wp fun M A E s Q hq => ?_
  show wpAny M A (Builtin.Bytes.repeatArgs .bytes "__mul__" ⟨[.bytes b t, .int n u], []⟩ >>= fun r => _) _ E s
  refine wpAny_bind (wpAny_of_eq (BMul.args_eq hf) ?_)
  refine wpAny_bind (wpAny_of_eq (a := b) rfl ?_)
  show wpAny M A (if b.size * n.toNat ≥ 2 ^ 63 then _ else _) _ E s
  rw [if_neg (by rw [e1]; omega)]
  refine bm_if_true (by rw [e1]; exact beq_self_eq_true _) ?_
  refine wpAny_bind (wpAny_typeOf (typeIs_bytes s b t) ?_)
  exact wpAny_bind (wpAny_rule (wpAny_pure ⟨_, rfl, hq⟩))
theorem bInts_len (b : Array UInt8) : (KBw.bInts b).length = b.size := KBw.ints_length b
theorem bInts_rep (l : List UInt8) (n : Nat) : KBw.bInts ((List.replicate n l).flatten).toArray = (List.replicate n (KBw.bInts l.toArray)).flatten := by
  induction n with
  | zero => rfl
  | succ n ih =>
    rw [List.replicate_succ, List.flatten_cons, List.replicate_succ, List.flatten_cons, ← ih]
    simp [KBw.bInts]
section
variable {prog : Program} {w : World} {A : Around} {E : Value → Shared → Prop} {s : Shared}
theorem mul_times {b : Array UInt8} {ks : List Int} {n : Int} {t u : Tok} {Q : Value → Shared → Prop} (hb : KBw.bInts b = ks) (h1 : 1 ≤ n) (h3 : n ≤ 3) (hl : ks.length ≤ 120)
    (h : ∀ b' t' k, KBw.bInts b' = (List.replicate n.toNat ks).flatten → Q (.bytes b' t') { s with toks := k }) : wpAny (model prog w) A (binaryOp .Mult (.bytes b t) (.int n u)) Q E s := by
  have hz : b.size = ks.length := by rw [← hb, bInts_len]
  have hf : Builtin.Bytes.fitsIndex n = true := by
    simp only [Builtin.Bytes.fitsIndex, Bool.and_eq_true, decide_eq_true_eq]
    omega
  by_cases hs : b.size * n.toNat = b.size
  · have hk : ks = (List.replicate n.toNat ks).flatten := by
      by_cases h0 : ks = []
      · subst h0; simp
      · have hp := List.length_pos_iff.mpr h0
        have e : n.toNat = 1 := by
          rcases Nat.lt_or_ge n.toNat 2 with q | q
          · omega
          · have e2 : b.size * 2 ≤ b.size * n.toNat := Nat.mul_le_mul_left _ q
            omega
        rw [e]; simp
    refine wpAny_binaryOp_repeat (T := "bytes") (U := "int") (by decide) (fun s' => typeIs_bytes s' _ t) (fun s' => typeIs_int s' n u) BMul.noFill F.fills_int_mul F.slot_int_rmul BMul.repeats F.slot_int_index.lookup
      (call_gives F.slot_int_rmul (typeIs_int s n u) F.entry_int_rmul (F.args_int_rmul_2 _ _) (BMul.int_declines n u _ t)
        ⟨rfl, call_gives BMul.slot_mul (typeIs_bytes s _ t) BMul.entry_mul (BMul.args_mul _ _) (gives_same hf hs (by omega)) ?_⟩)
    exact h b t s.toks (by rw [← hk]; exact hb)
  · obtain ⟨l⟩ := b
    have hne : l ≠ [] := by
      rintro rfl
      exact hs (by simp)
    have h2 : 2 ≤ n := by
      rcases Int.lt_or_le n 2 with q | q
      · have e : n.toNat = 1 := by omega
        rw [e, Nat.mul_one] at hs
        exact absurd rfl hs
      · exact q
    have hll : l.length = ks.length := by simpa using hz
    refine bytes_mul_K (b := l) hne h2 (by omega) ?_ rfl fun t' k => h _ t' k ?_
    · have : l.length * n.toNat ≤ 120 * 3 := Nat.mul_le_mul (by omega) (by omega)
      omega
    · rw [bInts_rep, ← hb]
theorem eq_bytesT {b c : Array UInt8} {ks : List Int} {t u : Tok} {Q : Value → Shared → Prop} (h1 : KBw.bInts b = ks) (h2 : KBw.bInts c = ks) (h : Q (.bool true) s) : wpAny (model prog w) A (compareOp .Eq (.bytes b t) (.bytes c u)) Q E s := by
  refine eq_bytes ?_
  rw [bytes_eq (h1.trans h2.symm), beq_self_eq_true]
  exact h
end
theorem rep_len {ks : List Int} {n : Int} (h3 : n ≤ 3) (hl : ks.length ≤ 117) : (List.replicate n.toNat ks).flatten.length ≤ 360 := by
  have e : (List.replicate n.toNat ks).flatten.length = n.toNat * ks.length := by simp
  rw [e]
  have : n.toNat * ks.length ≤ 3 * 117 := Nat.mul_le_mul (by omega) hl
  omega
theorem rep_in {ks : List Int} {n : Int} (h : KBa.In ks) : KBa.In (List.replicate n.toNat ks).flatten := by
  intro v hv
  obtain ⟨l, hl, hv⟩ := List.mem_flatten.mp hv
  rw [(List.mem_replicate.mp hl).2] at hv
  exact h v hv
set_option maxRecDepth 100000 in
set_option maxHeartbeats 0 in
open_top hd for PySem.Challenge.rw_ui0507_18
end Mine
local macro_rules | `(tactic| walk_at $s:str) => `(tactic| k_extra $s)
local macro_rules | `(tactic| k_mem) => `(tactic| kcf_m)
set_option maxRecDepth 100000 in
set_option maxHeartbeats 8000000 in
theorem Mine.nb_ctr {w : World} {p : Program} {loose : List Str} {mean : ExcName → Option Value} {mg mb : Str → Option Value} : Mine.NbC 58 PySem.Challenge.rw_ui0507_18.row.prog w (Mine.hd.heap_39 w.params) p loose mean mg mb := by
  k_with_none
  k_with "mine ne" => ((try dsimp only); first | assumption | k_ne | (refine Ne.symm ?_; assumption))
  k_with "mine off" => first | exact List.forall_mem_nil _ | assumption | exact Mine.off_lt (by assumption) | exact Mine.off_gt (by assumption) | (refine' List.forall_mem_cons.mpr ⟨?a_z1, ?b_z1⟩; (case a_z1 => walk_at "mine ne"); (case b_z1 => walk_at "mine off")) | (refine' List.forall_mem_append.mpr ⟨?a_z1, ?b_z1⟩; (case a_z1 => walk_at "mine off"); (case b_z1 => walk_at "mine off"))
  k_with "mine upd" => first | (refine' Upd.head ?a_z2; (case a_z2 => walk_at "mine off")) | (refine' Upd.tail ?a_z2 ?b_z2; (case a_z2 => walk_at "mine ne"); (case b_z2 => walk_at "mine upd"))
  k_with "mine size" => ((try law_lens); (simp only [List.size_toArray, Array.size_push, Array.size_append, List.length_append, List.length_cons, List.length_nil, List.length_take, List.length_drop, List.length_replicate, sizeLine_eq]); omega)
  k_with "call builtin:list.append" => (k_here; (with_reducible show wpAny _ _ (call (Value.builtin "list.append") [Value.ref _, _]) _ _ _); k_dflt (refine' append_K ?k1_z4 ?k2_z4 ?k3_z4 ?_ ?z_z4; (case k1_z4 => k_asm); (case k2_z4 => k_asm); (case k3_z4 => walk_at "mine upd"); (case z_z4 => walk_at "mine size"); k_whole); intro h' F' N'; (try k_sweep))
  k_with "mine updF" => first | (refine' UpdF.head ?a_z5; (case a_z5 => walk_at "mine off")) | (refine' UpdF.tail ?a_z5 ?b_z5; (case a_z5 => walk_at "mine ne"); (case b_z5 => walk_at "mine updF"))
  k_with "binaryOp LShift int int" => (k_here; (with_reducible refine lshift_int_small ?kb1_z6 ?kb2_z6 ?kb3_z6 ?_); (case kb1_z6 => omega); (case kb2_z6 => omega); (case kb3_z6 => (rw [bitAnd_m7]; omega)))
  k_with "exec While Compare cons nil" => (k_here; (rename Fr _ _ _ _ => lF'); (rename News _ _ _ _ => lN'); (with_unfolding_all refine' Mine.nb_while lF' lN' ?k1_z7 ?k2_z7 ?k3_z7 ?_; (case k1_z7 => exact rfl); (case k2_z7 => exact rfl); (case k3_z7 => assumption); k_whole); (clear lF' lN'); intro m9 t9 vs9 cn9 os9 u9 h9 tk9 kI kIl kE kS kF kN; (try k_fold))
  k_with "exec While Constant cons nil" => (k_here; (rename Fr _ _ _ _ => lF'); (rename News _ _ _ _ => lN'); (with_unfolding_all refine' Mine.rn_while lF' lN' ?k1_z8 ?k2_z8 ?k3_z8 ?k4_z8 ?k5_z8 ?k6_z8 ?k7_z8 ?k8_z8 ?_; (case k1_z8 => exact rfl); (case k2_z8 => exact rfl); (case k3_z8 => exact rfl); (case k4_z8 => exact rfl); (case k5_z8 => assumption); (case k6_z8 => assumption); (case k7_z8 => assumption); (case k8_z8 => assumption); k_whole); (clear lF' lN'); intro i9 v9 q9 m9 ta9 tv9 ts9 u9 h9 tk9 kI kQ kH kF kN; (try k_fold))
  k_with "KswEnd" => (k_here; (rename Fr _ _ _ _ => lF'); (rename News _ _ _ _ => lN'); with_unfolding_all (first
    | (refine' Mine.nb_end lF' lN' ?k1_z9 ?k2_z9 ?k3_z9 ?k4_z9 ?k5_z9; (case k1_z9 => exact rfl); (case k2_z9 => ksw_same); (case k3_z9 => assumption); (case k4_z9 => assumption); (case k5_z9 => omega))
    | ((rename (_ ∨ _) => kH'); (rcases kH' with kH' | kH'; · (exfalso; omega)); (obtain ⟨kh1, kh2, kh3, kh4, kh5, kh6, kh7, kh8, kh9, kha⟩ := kH'); (refine' Mine.rn_end lF' lN' ?k1_z9 ?k2_z9 ?k3_z9 ?k4_z9 ?k5_z9 ?k6_z9 ?k7_z9 ?k8_z9 ?k9_z9 ?ka_z9 ?kb_z9; (case k1_z9 => exact rfl); (case k2_z9 => exact rfl); (case k3_z9 => exact rfl); (case k4_z9 => ksw_same); (case k5_z9 => assumption); (case k6_z9 => assumption); (case k7_z9 => assumption); (case k8_z9 => assumption); (case k9_z9 => assumption); (case ka_z9 => assumption); (case kb_z9 => assumption)))))
  k_with "call type:bytes" => (k_here; (with_reducible show wpAny _ _ (call (Value.type "bytes") [Value.ref _]) _ _ _); (rename News _ _ _ _ => lN'); (try simp only [List.push_toArray] at lN'); k_dflt (refine' KBa.make_K ?kbaF_z10 ?kbaN_z10 ?kbah_z10 ?kbal_z10 ?kbai_z10 ?kbar_z10 ?kban_z10 ?_; (case kbaF_z10 => k_asm); (case kbaN_z10 => k_asm); (case kbah_z10 => rfl); (case kbal_z10 => exact News.isList (by k_asm) (by k_mem)); (case kbai_z10 => exact Mine.nb_ints (by assumption) (by assumption) (by assumption)); (case kbar_z10 => exact Mine.vint_in _); (case kban_z10 => (refine Nat.le_trans (Mine.vint_len _).2 ?_; omega)); k_whole); intro h' t' k' F' N' kbaIn)
  k_fill
  w_top off
  (
  unfold Mine.NbC
  intro x t news hx0 hx1
  unfold Mine.Fun
  intro dp un gd cn cs a ccd cl outer A₀ base h₀ L m s Q E B F X N T hk hd hu hret
  refine wpAny_call ?_
  k_dflt cell_enter
  k_steps
  exact hret _ _ _ _ ⟨_, _, rfl, rfl, KBa.ints_make (Mine.vint_in _)⟩ (by assumption) (Mine.num_done (by assumption)))
set_option maxRecDepth 100000 in
set_option maxHeartbeats 8000000 in
theorem Mine.rn_ctr {w : World} {p : Program} {loose : List Str} {mean : ExcName → Option Value} {mg mb : Str → Option Value} : Mine.RnC 65 PySem.Challenge.rw_ui0507_18.row.prog w (Mine.hd.heap_39 w.params) p loose mean mg mb := by
  k_with_none
  k_with "mine ne" => ((try dsimp only); first | assumption | k_ne | (refine Ne.symm ?_; assumption))
  k_with "mine off" => first | exact List.forall_mem_nil _ | assumption | exact Mine.off_lt (by assumption) | exact Mine.off_gt (by assumption) | (refine' List.forall_mem_cons.mpr ⟨?a_z1, ?b_z1⟩; (case a_z1 => walk_at "mine ne"); (case b_z1 => walk_at "mine off")) | (refine' List.forall_mem_append.mpr ⟨?a_z1, ?b_z1⟩; (case a_z1 => walk_at "mine off"); (case b_z1 => walk_at "mine off"))
  k_with "mine upd" => first | (refine' Upd.head ?a_z2; (case a_z2 => walk_at "mine off")) | (refine' Upd.tail ?a_z2 ?b_z2; (case a_z2 => walk_at "mine ne"); (case b_z2 => walk_at "mine upd"))
  k_with "mine size" => ((try law_lens); (simp only [List.size_toArray, Array.size_push, Array.size_append, List.length_append, List.length_cons, List.length_nil, List.length_take, List.length_drop, List.length_replicate, sizeLine_eq]); omega)
  k_with "call builtin:list.append" => (k_here; (with_reducible show wpAny _ _ (call (Value.builtin "list.append") [Value.ref _, _]) _ _ _); k_dflt (refine' append_K ?k1_z4 ?k2_z4 ?k3_z4 ?_ ?z_z4; (case k1_z4 => k_asm); (case k2_z4 => k_asm); (case k3_z4 => walk_at "mine upd"); (case z_z4 => walk_at "mine size"); k_whole); intro h' F' N'; (try k_sweep))
  k_with "mine updF" => first | (refine' UpdF.head ?a_z5; (case a_z5 => walk_at "mine off")) | (refine' UpdF.tail ?a_z5 ?b_z5; (case a_z5 => walk_at "mine ne"); (case b_z5 => walk_at "mine updF"))
  k_with "binaryOp LShift int int" => (k_here; (with_reducible refine lshift_int_small ?kb1_z6 ?kb2_z6 ?kb3_z6 ?_); (case kb1_z6 => omega); (case kb2_z6 => omega); (case kb3_z6 => (rw [bitAnd_m7]; omega)))
  k_with "exec While Compare cons nil" => (k_here; (rename Fr _ _ _ _ => lF'); (rename News _ _ _ _ => lN'); (with_unfolding_all refine' Mine.nb_while lF' lN' ?k1_z7 ?k2_z7 ?k3_z7 ?_; (case k1_z7 => exact rfl); (case k2_z7 => exact rfl); (case k3_z7 => assumption); k_whole); (clear lF' lN'); intro m9 t9 vs9 cn9 os9 u9 h9 tk9 kI kIl kE kS kF kN; (try k_fold))
  k_with "exec While Constant cons nil" => (k_here; (rename Fr _ _ _ _ => lF'); (rename News _ _ _ _ => lN'); (with_unfolding_all refine' Mine.rn_while lF' lN' ?k1_z8 ?k2_z8 ?k3_z8 ?k4_z8 ?k5_z8 ?k6_z8 ?k7_z8 ?k8_z8 ?_; (case k1_z8 => exact rfl); (case k2_z8 => exact rfl); (case k3_z8 => exact rfl); (case k4_z8 => exact rfl); (case k5_z8 => assumption); (case k6_z8 => assumption); (case k7_z8 => assumption); (case k8_z8 => assumption); k_whole); (clear lF' lN'); intro i9 v9 q9 m9 ta9 tv9 ts9 u9 h9 tk9 kI kQ kH kF kN; (try k_fold))
  k_with "KswEnd" => (k_here; (rename Fr _ _ _ _ => lF'); (rename News _ _ _ _ => lN'); with_unfolding_all (first
    | (refine' Mine.nb_end lF' lN' ?k1_z9 ?k2_z9 ?k3_z9 ?k4_z9 ?k5_z9; (case k1_z9 => exact rfl); (case k2_z9 => ksw_same); (case k3_z9 => assumption); (case k4_z9 => assumption); (case k5_z9 => omega))
    | ((rename (_ ∨ _) => kH'); (rcases kH' with kH' | kH'; · (exfalso; omega)); (obtain ⟨kh1, kh2, kh3, kh4, kh5, kh6, kh7, kh8, kh9, kha⟩ := kH'); (refine' Mine.rn_end lF' lN' ?k1_z9 ?k2_z9 ?k3_z9 ?k4_z9 ?k5_z9 ?k6_z9 ?k7_z9 ?k8_z9 ?k9_z9 ?ka_z9 ?kb_z9; (case k1_z9 => exact rfl); (case k2_z9 => exact rfl); (case k3_z9 => exact rfl); (case k4_z9 => ksw_same); (case k5_z9 => assumption); (case k6_z9 => assumption); (case k7_z9 => assumption); (case k8_z9 => assumption); (case k9_z9 => assumption); (case ka_z9 => assumption); (case kb_z9 => assumption)))))
  k_with "call type:bytes" => (k_here; (with_reducible show wpAny _ _ (call (Value.type "bytes") [Value.ref _]) _ _ _); (rename News _ _ _ _ => lN'); (try simp only [List.push_toArray] at lN'); k_dflt (refine' KBa.make_K ?kbaF_z10 ?kbaN_z10 ?kbah_z10 ?kbal_z10 ?kbai_z10 ?kbar_z10 ?kban_z10 ?_; (case kbaF_z10 => k_asm); (case kbaN_z10 => k_asm); (case kbah_z10 => rfl); (case kbal_z10 => exact News.isList (by k_asm) (by k_mem)); (case kbai_z10 => exact Mine.nb_ints (by assumption) (by assumption) (by assumption)); (case kbar_z10 => exact Mine.vint_in _); (case kban_z10 => (refine Nat.le_trans (Mine.vint_len _).2 ?_; omega)); k_whole); intro h' t' k' F' N' kbaIn)
  k_fill
  w_top off
  (
  unfold Mine.RnC
  intro b ks rest n a0 x tb t news hb hx hk0 hn hl
  unfold Mine.Fun
  intro dp un gd cn cs a ccd cl outer A₀ base h₀ L m s Q E B F X N T hk hd hu hret
  refine wpAny_call ?_
  k_dflt cell_enter
  k_steps
  all_goals exact Mine.rn_ret hret (by assumption) (by assumption) (by assumption) (by omega) (by omega))
set_option maxRecDepth 100000 in
set_option maxHeartbeats 8000000 in
theorem Mine.cm_ctr {w : World} {p : Program} {loose : List Str} {mean : ExcName → Option Value} {mg mb : Str → Option Value} : Mine.CmC 72 PySem.Challenge.rw_ui0507_18.row.prog w (Mine.hd.heap_39 w.params) p loose mean mg mb := by
  k_with_none
  k_with "mine ne" => ((try dsimp only); first | assumption | k_ne | (refine Ne.symm ?_; assumption))
  k_with "mine off" => first | exact List.forall_mem_nil _ | assumption | exact Mine.off_lt (by assumption) | exact Mine.off_gt (by assumption) | (refine' List.forall_mem_cons.mpr ⟨?a_z1, ?b_z1⟩; (case a_z1 => walk_at "mine ne"); (case b_z1 => walk_at "mine off")) | (refine' List.forall_mem_append.mpr ⟨?a_z1, ?b_z1⟩; (case a_z1 => walk_at "mine off"); (case b_z1 => walk_at "mine off"))
  k_with "mine upd" => first | (refine' Upd.head ?a_z2; (case a_z2 => walk_at "mine off")) | (refine' Upd.tail ?a_z2 ?b_z2; (case a_z2 => walk_at "mine ne"); (case b_z2 => walk_at "mine upd"))
  k_with "mine size" => ((try law_lens); (simp only [List.size_toArray, Array.size_push, Array.size_append, List.length_append, List.length_cons, List.length_nil, List.length_take, List.length_drop, List.length_replicate, sizeLine_eq]); omega)
  k_with "call builtin:list.append" => (k_here; (with_reducible show wpAny _ _ (call (Value.builtin "list.append") [Value.ref _, _]) _ _ _); k_dflt (refine' append_K ?k1_z4 ?k2_z4 ?k3_z4 ?_ ?z_z4; (case k1_z4 => k_asm); (case k2_z4 => k_asm); (case k3_z4 => walk_at "mine upd"); (case z_z4 => walk_at "mine size"); k_whole); intro h' F' N'; (try k_sweep))
  k_with "mine updF" => first | (refine' UpdF.head ?a_z5; (case a_z5 => walk_at "mine off")) | (refine' UpdF.tail ?a_z5 ?b_z5; (case a_z5 => walk_at "mine ne"); (case b_z5 => walk_at "mine updF"))
  k_with "mine upd" => first | (refine' Upd.head ?a_z6; (case a_z6 => walk_at "mine off")) | (refine' Upd.tail ?a_z6 ?b_z6; (case a_z6 => walk_at "mine ne"); (case b_z6 => walk_at "mine upd")) | (refine' Mine.upd_app ?a_z6 ?b_z6; (case a_z6 => first | with_reducible assumption | exact Mine.off_kL (by with_reducible assumption)); (case b_z6 => walk_at "mine upd"))
  k_with "mine off" => first | exact List.forall_mem_nil _ | assumption | exact Mine.off_lt (by assumption) | exact Mine.off_gt (by assumption) | exact Mine.off_allLt (And.right (by assumption)) | (refine' List.forall_mem_cons.mpr ⟨?a_z7, ?b_z7⟩; (case a_z7 => walk_at "mine ne"); (case b_z7 => walk_at "mine off")) | (refine' List.forall_mem_append.mpr ⟨?a_z7, ?b_z7⟩; (case a_z7 => walk_at "mine off"); (case b_z7 => walk_at "mine off"))
  k_with "mine enter" => (refine' code_def ?k1_z8 ?k2_z8 ?k3_z8 ?k4_z8 ?k5_z8 ?kA_z8 ?kF_z8 ?kK_z8 ?k6_z8 ?k7_z8 ?k8_z8 ?k9_z8 ?kB_z8 ?_ ?c2_z8 ?c3_z8 ?c4_z8 ?c5_z8; (case kA_z8 => exact rfl); (case kF_z8 => exact rfl); (case kK_z8 => first | assumption | exact rfl); (case k1_z8 => k_asm); (case k2_z8 => k_asm); (case k3_z8 => k_asm); (case k4_z8 => k_asm); (case k5_z8 => k_asm); (case k6_z8 => k_is); (case k7_z8 => k_is); (case k8_z8 => ktr_room); (case k9_z8 => first | exact BindsTo.of_eq rfl | exact binds_K (by k_in) rfl (by k_is) rfl rfl rfl); (case c5_z8 => decide); (case kB_z8 => exact locs rfl); (case c2_z8 => exact rfl); (case c3_z8 => exact rfl); (case c4_z8 => exact rfl); k_whole; intro g' L' h' FG' F' N' B' X' T'; (try dsimp only); (try k_lift B'); (try k_fold))
  k_with "mine bnd" => first | with_reducible assumption | omega
  k_with "call builtin:len" => (k_here; (with_reducible show wpAny _ _ (call (Value.builtin "len") [Value.ref _]) _ _ _); k_dflt (refine' Mine.len_at ?N_z10 ?m_z10 ?v_z10 ?z_z10 ?_; (case N_z10 => k_asm); (case m_z10 => kcf_m); (case v_z10 => with_reducible assumption); (case z_z10 => omega); k_whole); intro t9 k9)
  k_with "subscriptTail" => (k_here; (with_reducible show wpAny _ _ (subscriptTail _ _ (Value.ref _) (Value.int _ _)) _ _ _); k_dflt (refine' Mine.item_at ?N_z11 ?m_z11 ?v_z11 ?h0_z11 ?h1_z11 ?h2_z11 ?_; (case N_z11 => k_asm); (case m_z11 => kcf_m); (case v_z11 => with_reducible assumption); (case h0_z11 => omega); (case h1_z11 => omega); (case h2_z11 => omega); k_whole); intro t9)
  k_with "mine room" => first | ktr_room | ktr_units | ((simp only [units_in1, units_deeper, Around.mark_units, units_caller]); first | decide | omega)
  k_with "newTuple" => (k_here; k_dflt (refine' kup_newTuple ?F_z13 ?N_z13 ?_ ?z_z13; (case F_z13 => k_asm); (case N_z13 => k_asm); (case z_z13 => kmk_size)); intro D' h' F' N' l1; (try k_lt l1); (try k_sweep))
  k_with "exec While BoolOp cons nil" => (k_here; (rename Fr _ _ _ _ => lF'); (rename News _ _ _ _ => lN'); (with_unfolding_all refine' Mine.cm_while lF' lN' ?k1_z14 ?k2_z14 ?k3_z14 ?k4_z14 ?k5_z14 ?k6_z14 ?k7_z14 ?_; (case k1_z14 => exact rfl); (case k2_z14 => exact rfl); (case k3_z14 => exact rfl); (case k4_z14 => exact rfl); (case k5_z14 => with_reducible assumption); (case k6_z14 => with_reducible assumption); (case k7_z14 => with_reducible assumption); k_whole); (clear lF' lN'); intro l9 t9 h9 tk9 kI kR kF kN; (try k_fold))
  k_with "subscriptTail" => (k_here; (with_reducible show wpAny _ _ (subscriptTail _ _ (Value.bytes _ _) (Value.int _ _)) _ _ _); k_dflt (refine' KBw.item_K ?k1_z15 ?k2_z15 ?k3_z15 ?k4_z15 ?_ ?k5_z15 ?k6_z15; (case k1_z15 => with_reducible assumption); (case k2_z15 => omega); (case k3_z15 => omega); (case k4_z15 => omega); (case k5_z15 => with_unfolding_all rfl); (case k6_z15 => (intro _; with_unfolding_all rfl)); k_whole); intro t9 k9 kb1 kb2)
  k_with "KswEnd" => (k_here; (rename Fr _ _ _ _ => lF'); (rename News _ _ _ _ => lN'); with_unfolding_all (refine' Mine.cm_end lF' lN' ?n1_z16 ?k1_z16 ?k2_z16 ?k3_z16 ?k4_z16 ?k5_z16 ?k6_z16 ?k7_z16 ?k8_z16 ?k9_z16; (case n1_z16 => exact fun _ h => h); (case k1_z16 => exact rfl); (case k2_z16 => ksw_same); (case k3_z16 => exact rfl); (all_goals with_reducible assumption)))
  k_fill
  w_top off
  (
  unfold Mine.CmC
  intro b ns x y mo tb t1 t2 t3 news hb hl h0 h1 h2 h3 h4
  unfold Mine.Fun
  intro dp un gd cn cs a ccd cl outer A₀ base h₀ L m s Q E B F X N T hk hd hu hret
  refine wpAny_call ?_
  k_dflt (walk_at "mine enter"))
  k_steps; all_goals exact Mine.cm_ret hret (by with_reducible assumption) (by with_reducible assumption) (by with_reducible assumption) (by with_reducible assumption)
set_option maxRecDepth 100000 in
set_option maxHeartbeats 8000000 in
theorem Mine.be_ctr {w : World} {p : Program} {loose : List Str} {mean : ExcName → Option Value} {mg mb : Str → Option Value} (cM : Mine.CmC 72 PySem.Challenge.rw_ui0507_18.row.prog w (Mine.hd.heap_39 w.params) p loose mean mg mb) : Mine.BeC 100 103 PySem.Challenge.rw_ui0507_18.row.prog w (Mine.hd.heap_39 w.params) p loose mean mg mb := by
  k_with_none
  k_with "mine ne" => ((try dsimp only); first | assumption | k_ne | (refine Ne.symm ?_; assumption))
  k_with "mine off" => first | exact List.forall_mem_nil _ | assumption | exact Mine.off_lt (by assumption) | exact Mine.off_gt (by assumption) | (refine' List.forall_mem_cons.mpr ⟨?a_z1, ?b_z1⟩; (case a_z1 => walk_at "mine ne"); (case b_z1 => walk_at "mine off")) | (refine' List.forall_mem_append.mpr ⟨?a_z1, ?b_z1⟩; (case a_z1 => walk_at "mine off"); (case b_z1 => walk_at "mine off"))
  k_with "mine upd" => first | (refine' Upd.head ?a_z2; (case a_z2 => walk_at "mine off")) | (refine' Upd.tail ?a_z2 ?b_z2; (case a_z2 => walk_at "mine ne"); (case b_z2 => walk_at "mine upd"))
  k_with "mine size" => ((try law_lens); (simp only [List.size_toArray, Array.size_push, Array.size_append, List.length_append, List.length_cons, List.length_nil, List.length_take, List.length_drop, List.length_replicate, sizeLine_eq]); omega)
  k_with "call builtin:list.append" => (k_here; (with_reducible show wpAny _ _ (call (Value.builtin "list.append") [Value.ref _, _]) _ _ _); k_dflt (refine' append_K ?k1_z4 ?k2_z4 ?k3_z4 ?_ ?z_z4; (case k1_z4 => k_asm); (case k2_z4 => k_asm); (case k3_z4 => walk_at "mine upd"); (case z_z4 => walk_at "mine size"); k_whole); intro h' F' N'; (try k_sweep))
  k_with "mine updF" => first | (refine' UpdF.head ?a_z5; (case a_z5 => walk_at "mine off")) | (refine' UpdF.tail ?a_z5 ?b_z5; (case a_z5 => walk_at "mine ne"); (case b_z5 => walk_at "mine updF"))
  k_with "mine upd" => first | (refine' Upd.head ?a_z6; (case a_z6 => walk_at "mine off")) | (refine' Upd.tail ?a_z6 ?b_z6; (case a_z6 => walk_at "mine ne"); (case b_z6 => walk_at "mine upd")) | (refine' Mine.upd_app ?a_z6 ?b_z6; (case a_z6 => first | with_reducible assumption | exact Mine.off_kL (by with_reducible assumption)); (case b_z6 => walk_at "mine upd"))
  k_with "mine off" => first | exact List.forall_mem_nil _ | assumption | exact Mine.off_lt (by assumption) | exact Mine.off_gt (by assumption) | exact Mine.off_allLt (And.right (by assumption)) | (refine' List.forall_mem_cons.mpr ⟨?a_z7, ?b_z7⟩; (case a_z7 => walk_at "mine ne"); (case b_z7 => walk_at "mine off")) | (refine' List.forall_mem_append.mpr ⟨?a_z7, ?b_z7⟩; (case a_z7 => walk_at "mine off"); (case b_z7 => walk_at "mine off"))
  k_with "mine enter" => (refine' code_def ?k1_z8 ?k2_z8 ?k3_z8 ?k4_z8 ?k5_z8 ?kA_z8 ?kF_z8 ?kK_z8 ?k6_z8 ?k7_z8 ?k8_z8 ?k9_z8 ?kB_z8 ?_ ?c2_z8 ?c3_z8 ?c4_z8 ?c5_z8; (case kA_z8 => exact rfl); (case kF_z8 => exact rfl); (case kK_z8 => first | assumption | exact rfl); (case k1_z8 => k_asm); (case k2_z8 => k_asm); (case k3_z8 => k_asm); (case k4_z8 => k_asm); (case k5_z8 => k_asm); (case k6_z8 => k_is); (case k7_z8 => k_is); (case k8_z8 => ktr_room); (case k9_z8 => first | exact BindsTo.of_eq rfl | exact binds_K (by k_in) rfl (by k_is) rfl rfl rfl); (case c5_z8 => decide); (case kB_z8 => exact locs rfl); (case c2_z8 => exact rfl); (case c3_z8 => exact rfl); (case c4_z8 => exact rfl); k_whole; intro g' L' h' FG' F' N' B' X' T'; (try dsimp only); (try k_lift B'); (try k_fold))
  k_with "mine bnd" => first | with_reducible assumption | omega
  k_with "call builtin:len" => (k_here; (with_reducible show wpAny _ _ (call (Value.builtin "len") [Value.ref _]) _ _ _); k_dflt (refine' Mine.len_at ?N_z10 ?m_z10 ?v_z10 ?z_z10 ?_; (case N_z10 => k_asm); (case m_z10 => kcf_m); (case v_z10 => with_reducible assumption); (case z_z10 => omega); k_whole); intro t9 k9)
  k_with "subscriptTail" => (k_here; (with_reducible show wpAny _ _ (subscriptTail _ _ (Value.ref _) (Value.int _ _)) _ _ _); k_dflt (refine' Mine.item_at ?N_z11 ?m_z11 ?v_z11 ?h0_z11 ?h1_z11 ?h2_z11 ?_; (case N_z11 => k_asm); (case m_z11 => kcf_m); (case v_z11 => with_reducible assumption); (case h0_z11 => omega); (case h1_z11 => omega); (case h2_z11 => omega); k_whole); intro t9)
  k_with "mine room" => first | ktr_room | ktr_units | ((simp only [units_in1, units_deeper, Around.mark_units, units_caller]); first | decide | omega)
  k_with "newTuple" => (k_here; k_dflt (refine' kup_newTuple ?F_z13 ?N_z13 ?_ ?z_z13; (case F_z13 => k_asm); (case N_z13 => k_asm); (case z_z13 => kmk_size)); intro D' h' F' N' l1; (try k_lt l1); (try k_sweep))
  k_with "mine hT" => first | with_reducible assumption | exact Mine.allLt_mem (by assumption) | exact Mine.allLt_mem (And.right (by assumption)) | exact Mine.allLt_mem (And.right (And.right (by assumption))) | exact Mine.allLt_mem (And.right (And.right (And.right (by assumption)))) | exact Mine.allLt_mem (And.right (And.right (And.right (And.right (by assumption)))))
  k_with "compareOp NotIn bytes ref" => (k_here; (with_reducible show wpAny _ _ (compareOp CmpOp.NotIn (Value.bytes _ _) (Value.ref _)) _ _ _); k_dflt (refine' Mine.pl_notin ?N_z15 ?m_z15 ?d_z15 ?lo_z15 ?P_z15 ?_ ?_; (case N_z15 => k_asm); (case d_z15 => with_reducible assumption); (case m_z15 => kcf_m); (case lo_z15 => with_reducible assumption); (case P_z15 => with_reducible assumption); (all_goals (try k_whole))); (focus (intro hv9 k9)); rotate_left; (focus (intro a9 vs9 c9 zs9 hv9 hm9 hi9 hb9 hl9 k9)); rotate_left)
  k_with "subscriptTail" => (k_here; (with_reducible show wpAny _ _ (subscriptTail _ _ (Value.ref _) (Value.bytes _ _)) _ _ _); k_dflt (refine' Mine.pl_item ?N_z16 ?m_z16 ?d_z16 ?v_z16 ?_ ?h7_z16 ?h8_z16; (case N_z16 => k_asm); (case d_z16 => with_reducible assumption); (case m_z16 => kcf_m); (case v_z16 => with_reducible assumption); (case h7_z16 => with_unfolding_all rfl); (case h8_z16 => (intro _; with_unfolding_all rfl)); k_whole); intro k9)
  k_with "subscriptTail" => (k_here; (with_reducible show wpAny _ _ (subscriptTail _ _ (Value.ref _) (Value.int _ _)) _ _ _); k_dflt (refine' Mine.pl_sub ?N_z17 ?m_z17 ?i_z17 ?b_z17 ?h0_z17 ?h1_z17 ?h2_z17 ?_ ?h7_z17; (case N_z17 => k_asm); (case m_z17 => kcf_m); (case i_z17 => with_reducible assumption); (case b_z17 => with_reducible assumption); (case h0_z17 => omega); (case h1_z17 => omega); (case h2_z17 => omega); (case h7_z17 => with_unfolding_all rfl); k_whole); intro v9 t9 e9 b9 c9)
  k_with "subscriptTail" => (k_here; (with_reducible show wpAny _ _ (subscriptTail _ (Expr.Slice _ _ none _) (Value.bytes _ _) (Value.ref _)) _ _ _); (rename Fr _ _ _ _ => F'); (rename News _ _ _ _ => N'); (refine KBc.slice_K (s := ⟨_, _, _, _, _⟩) F' N' (by with_reducible assumption) (by constructor) (by constructor) (by omega) ?_); intro _ _ _ _ _ kbcK)
  k_with "call builtin:len" => (k_here; (with_reducible show wpAny _ _ (call (Value.builtin "len") [Value.bytes _ _]) _ _ _); k_dflt (refine' KBw.len_K ?k1_z19 ?k2_z19 ?_; (case k1_z19 => with_reducible assumption); (case k2_z19 => first | omega | (simp only [List.length_take, List.length_drop]; omega)); k_whole))
  k_with "exec While BoolOp cons nil" => (k_here; (rename Fr _ _ _ _ => lF'); (rename News _ _ _ _ => lN'); (with_unfolding_all refine' Mine.be_while lF' lN' ?f1_z20 ?f2_z20 ?f3_z20 ?f4_z20 ?m_z20 ?v_z20 ?hn_z20 ?x_z20 ?hT_z20 ?_; (case hn_z20 => with_reducible assumption); (case f1_z20 | f2_z20 | f3_z20 | f4_z20 => exact rfl); (case m_z20 | v_z20 => with_reducible assumption); (case x_z20 => exact rfl); (case hT_z20 => walk_at "mine hT"); k_whole); (clear lF' lN'); intro T9 d9 l9 t9 t9' k9 tk9 r9 tr9 u9 h9 tok9 kG kK kK1 kT kF kN; (try k_fold))
  k_with "call ref" => (k_here; (with_reducible show wpAny _ _ (call (Value.ref 72) [Value.bytes _ _, Value.int _ _, Value.int _ _, Value.int _ _]) _ _ _); k_dflt ((rename Mine.CmC _ _ _ _ _ _ _ _ _ => cL); refine' Mine.Fun.use ?kC_z21 ?k1_z21 ?k2_z21 ?k3_z21 ?k4_z21 ?k5_z21 ?kK_z21 ?kd_z21 ?ku_z21 ?_; (case k2_z21 => k_asm); (case k4_z21 => k_asm); (case kC_z21 => (refine' cL _ _ _ _ _ _ _ _ _ _ ?l1_z21 ?l2_z21 ?l3_z21 ?l4_z21 ?l5_z21 ?l6_z21 ?l7_z21; (case l1_z21 => with_reducible assumption); (case l2_z21 | l3_z21 | l4_z21 | l5_z21 | l6_z21 | l7_z21 => omega))); ((case k1_z21 => k_asm); (case k3_z21 => k_asm); (case k5_z21 => k_asm); (case kK_z21 => first | exact rfl | assumption); (case kd_z21 => first | ktr_room | (simp only [depth_in1, depth_deeper, Around.mark_depth, depth_caller]; omega)); (case ku_z21 => walk_at "mine room")); k_whole); (intro r9 nw9 h' tk9 kR F' N'); (unfold Mine.CmOut at kR); (obtain ⟨l9, t9, e1, e2, kl1, kl2⟩ := kR); (subst e1); (subst e2))
  k_with "KswEnd" => (k_here; (rename Fr _ _ _ _ => lF'); (rename News _ _ _ _ => lN'); with_unfolding_all (refine' Mine.be_end lF' lN' ?f1_z22 ?f2_z22 ?f3_z22 ?n1_z22 ?n2_z22 ?k2_z22 ?k3_z22 ?k4_z22 ?k5_z22 ?k6_z22 ?k7_z22; (case f1_z22 => exact rfl); (case f2_z22 => exact rfl); (case f3_z22 => exact rfl); (case n1_z22 => kcf_m); (case n2_z22 => kcf_all); (case k2_z22 => (unfold Mine.beNames; with_unfolding_all ksw_same)); (case k3_z22 => exact rfl); (case k4_z22 => with_reducible assumption); (case k5_z22 => with_reducible assumption); (case k6_z22 => walk_at "mine hT"); (case k7_z22 => first | with_reducible assumption | exact Mine.be_new (by with_reducible assumption) (by with_reducible assumption) (by with_reducible assumption) (by omega) (by with_reducible assumption) (by with_reducible assumption) (by with_reducible assumption) (by first | omega | (split <;> omega)))))
  k_fill
  w_top off
  (
  unfold Mine.BeC
  intro b ns S D PL t1 t2 t3 tb tw t oP kvs n news hS hD hP lo hd9 hA hb hl hn
  unfold Mine.Fun
  intro dp un gd cn cs a ccd cl outer A₀ base h₀ L m s Q E B F X N T hk hd hu hret
  replace N := Mine.news_cons3 N hS hD hP
  clear hS hD hP
  refine wpAny_call ?_
  k_dflt (walk_at "mine enter"))
  k_steps; all_goals first | exact Mine.be_ret hret (by with_reducible assumption) (by with_reducible assumption) (by kcf_all) (by walk_at "mine hT") (by first | with_reducible assumption | exact Or.inl ⟨rfl, rfl⟩)
set_option maxRecDepth 100000 in
set_option maxHeartbeats 8000000 in
theorem Mine.aa_ctr {w : World} {p : Program} {loose : List Str} {mean : ExcName → Option Value} {mg mb : Str → Option Value} : Mine.AaC 93 103 PySem.Challenge.rw_ui0507_18.row.prog w (Mine.hd.heap_39 w.params) p loose mean mg mb := by
  k_with_none
  k_with "mine ne" => ((try dsimp only); first | assumption | k_ne | (refine Ne.symm ?_; assumption))
  k_with "mine off" => first | exact List.forall_mem_nil _ | assumption | exact Mine.off_lt (by assumption) | exact Mine.off_gt (by assumption) | (refine' List.forall_mem_cons.mpr ⟨?a_z1, ?b_z1⟩; (case a_z1 => walk_at "mine ne"); (case b_z1 => walk_at "mine off")) | (refine' List.forall_mem_append.mpr ⟨?a_z1, ?b_z1⟩; (case a_z1 => walk_at "mine off"); (case b_z1 => walk_at "mine off"))
  k_with "mine upd" => first | (refine' Upd.head ?a_z2; (case a_z2 => walk_at "mine off")) | (refine' Upd.tail ?a_z2 ?b_z2; (case a_z2 => walk_at "mine ne"); (case b_z2 => walk_at "mine upd"))
  k_with "mine size" => ((try law_lens); (simp only [List.size_toArray, Array.size_push, Array.size_append, List.length_append, List.length_cons, List.length_nil, List.length_take, List.length_drop, List.length_replicate, sizeLine_eq]); omega)
  k_with "call builtin:list.append" => (k_here; (with_reducible show wpAny _ _ (call (Value.builtin "list.append") [Value.ref _, _]) _ _ _); k_dflt (refine' append_K ?k1_z4 ?k2_z4 ?k3_z4 ?_ ?z_z4; (case k1_z4 => k_asm); (case k2_z4 => k_asm); (case k3_z4 => walk_at "mine upd"); (case z_z4 => walk_at "mine size"); k_whole); intro h' F' N'; (try k_sweep))
  k_with "mine updF" => first | (refine' UpdF.head ?a_z5; (case a_z5 => walk_at "mine off")) | (refine' UpdF.tail ?a_z5 ?b_z5; (case a_z5 => walk_at "mine ne"); (case b_z5 => walk_at "mine updF"))
  k_with "mine upd" => first | (refine' Upd.head ?a_z6; (case a_z6 => walk_at "mine off")) | (refine' Upd.tail ?a_z6 ?b_z6; (case a_z6 => walk_at "mine ne"); (case b_z6 => walk_at "mine upd")) | (refine' Mine.upd_app ?a_z6 ?b_z6; (case a_z6 => first | with_reducible assumption | exact Mine.off_kL (by with_reducible assumption)); (case b_z6 => walk_at "mine upd"))
  k_with "mine off" => first | exact List.forall_mem_nil _ | assumption | exact Mine.off_lt (by assumption) | exact Mine.off_gt (by assumption) | exact Mine.off_allLt (And.right (by assumption)) | (refine' List.forall_mem_cons.mpr ⟨?a_z7, ?b_z7⟩; (case a_z7 => walk_at "mine ne"); (case b_z7 => walk_at "mine off")) | (refine' List.forall_mem_append.mpr ⟨?a_z7, ?b_z7⟩; (case a_z7 => walk_at "mine off"); (case b_z7 => walk_at "mine off"))
  k_with "mine enter" => (refine' code_def ?k1_z8 ?k2_z8 ?k3_z8 ?k4_z8 ?k5_z8 ?kA_z8 ?kF_z8 ?kK_z8 ?k6_z8 ?k7_z8 ?k8_z8 ?k9_z8 ?kB_z8 ?_ ?c2_z8 ?c3_z8 ?c4_z8 ?c5_z8; (case kA_z8 => exact rfl); (case kF_z8 => exact rfl); (case kK_z8 => first | assumption | exact rfl); (case k1_z8 => k_asm); (case k2_z8 => k_asm); (case k3_z8 => k_asm); (case k4_z8 => k_asm); (case k5_z8 => k_asm); (case k6_z8 => k_is); (case k7_z8 => k_is); (case k8_z8 => ktr_room); (case k9_z8 => first | exact BindsTo.of_eq rfl | exact binds_K (by k_in) rfl (by k_is) rfl rfl rfl); (case c5_z8 => decide); (case kB_z8 => exact locs rfl); (case c2_z8 => exact rfl); (case c3_z8 => exact rfl); (case c4_z8 => exact rfl); k_whole; intro g' L' h' FG' F' N' B' X' T'; (try dsimp only); (try k_lift B'); (try k_fold))
  k_with "mine bnd" => first | with_reducible assumption | omega
  k_with "call builtin:len" => (k_here; (with_reducible show wpAny _ _ (call (Value.builtin "len") [Value.ref _]) _ _ _); k_dflt (refine' Mine.len_at ?N_z10 ?m_z10 ?v_z10 ?z_z10 ?_; (case N_z10 => k_asm); (case m_z10 => kcf_m); (case v_z10 => with_reducible assumption); (case z_z10 => omega); k_whole); intro t9 k9)
  k_with "subscriptTail" => (k_here; (with_reducible show wpAny _ _ (subscriptTail _ _ (Value.ref _) (Value.int _ _)) _ _ _); k_dflt (refine' Mine.item_at ?N_z11 ?m_z11 ?v_z11 ?h0_z11 ?h1_z11 ?h2_z11 ?_; (case N_z11 => k_asm); (case m_z11 => kcf_m); (case v_z11 => with_reducible assumption); (case h0_z11 => omega); (case h1_z11 => omega); (case h2_z11 => omega); k_whole); intro t9)
  k_with "mine room" => first | ktr_room | ktr_units | ((simp only [units_in1, units_deeper, Around.mark_units, units_caller]); first | decide | omega)
  k_with "newTuple" => (k_here; k_dflt (refine' kup_newTuple ?F_z13 ?N_z13 ?_ ?z_z13; (case F_z13 => k_asm); (case N_z13 => k_asm); (case z_z13 => kmk_size)); intro D' h' F' N' l1; (try k_lt l1); (try k_sweep))
  k_with "mine l4" => first | with_reducible assumption | exact And.left (by assumption) | exact And.left (And.right (by assumption)) | exact And.left (And.right (And.right (by assumption)))
  k_with "mine l3" => first | with_reducible assumption | exact And.right (by assumption) | exact And.right (And.right (by assumption)) | exact And.right (And.right (And.right (by assumption)))
  k_with "compareOp NotIn bytes ref" => (k_here; (with_reducible show wpAny _ _ (compareOp CmpOp.NotIn (Value.bytes _ _) (Value.ref _)) _ _ _); k_dflt (refine' Mine.pl_notin ?N_z16 ?m_z16 ?d_z16 ?lo_z16 ?P_z16 ?_ ?_; (case N_z16 => k_asm); (case d_z16 => with_reducible assumption); (case m_z16 => kcf_m); (case lo_z16 => with_reducible assumption); (case P_z16 => with_reducible assumption); (all_goals (try k_whole))); (focus (intro hv9 k9)); rotate_left; (focus (intro a9 vs9 c9 zs9 hv9 hm9 hi9 hb9 hl9 k9)); rotate_left)
  k_with "subscriptTail" => (k_here; (with_reducible show wpAny _ _ (subscriptTail _ _ (Value.ref _) (Value.bytes _ _)) _ _ _); k_dflt (refine' Mine.pl_item ?N_z17 ?m_z17 ?d_z17 ?v_z17 ?_ ?h7_z17 ?h8_z17; (case N_z17 => k_asm); (case d_z17 => with_reducible assumption); (case m_z17 => kcf_m); (case v_z17 => first | with_reducible assumption | exact Mine.valueAt_new (by with_reducible assumption)); (case h7_z17 => with_unfolding_all rfl); (case h8_z17 => (intro _; with_unfolding_all rfl)); k_whole); intro k9)
  k_with "subscriptTail" => (k_here; (with_reducible show wpAny _ _ (subscriptTail _ (Expr.Slice _ _ none _) (Value.bytes _ _) (Value.ref _)) _ _ _); (rename Fr _ _ _ _ => F'); (rename News _ _ _ _ => N'); (refine KBc.slice_K (s := ⟨_, _, _, _, _⟩) F' N' (by with_reducible assumption) (by constructor) (by constructor) (by omega) ?_); intro _ _ _ _ _ kbcK)
  k_with "call builtin:len" => (k_here; (with_reducible show wpAny _ _ (call (Value.builtin "len") [Value.bytes _ _]) _ _ _); k_dflt (refine' KBw.len_K ?k1_z19 ?k2_z19 ?_; (case k1_z19 => with_reducible assumption); (case k2_z19 => first | omega | (simp only [List.length_take, List.length_drop]; omega)); k_whole))
  k_with "setItem ref bytes" => (k_here; (with_reducible show wpAny _ _ (setItem (Value.ref _) (Value.bytes _ _) (Value.ref _)) _ _ _); k_dflt (refine' kda_set ?F_z20 ?N_z20 ?U_z20 ?d_z20 Mine.is_bytes ?z_z20 ?_; (case F_z20 => k_asm); (case N_z20 => k_asm); (case d_z20 => with_reducible assumption); (case U_z20 => walk_at "mine updF"); (case z_z20 => (rw [sizeLine_eq]; omega)); k_whole); intro h' o' F' N' d'; (try dsimp only at N'); (try k_sweep))
  k_with "call builtin:list.append" => (k_here; (with_reducible show wpAny _ _ (call (Value.builtin "list.append") [Value.ref _, Value.int _ _]) _ _ _); k_dflt (refine' Mine.append_put ?F_z21 ?N_z21 ?m_z21 ?z_z21 ?_; (case F_z21 => k_asm); (case N_z21 => k_asm); (case m_z21 => kcf_m); (case z_z21 => first | (rw [sizeLine_eq]; decide) | ((rename (IntsAre _ _) => hi'); rw [List.size_toArray, hi'.length, sizeLine_eq]; omega)); k_whole); intro h' F' N')
  k_fill
  w_top off
  (
  unfold Mine.AaC
  intro b ns S D PL t1 t2 t3 tb tw t oP kvs n x tl rest hS hD lo hd9 hA hK hb hl hx hn s1 s2 s3
  subst hx
  unfold Mine.Fun
  intro dp un gd cn cs a ccd cl outer A₀ base h₀ L m s Q E B F X N T hk hd hu hret
  replace N := Mine.news_split3 N hS hD
  have n1 : S ≠ PL := s2 _ hS
  have n2 : D ≠ PL := s2 _ hD
  refine wpAny_call ?_
  k_dflt (walk_at "mine enter"))
  k_steps
  all_goals first
    | exact Mine.aa_ret0 hret (by with_reducible assumption) (by with_reducible assumption) hd9 hA hK s1 s3
    | exact Mine.aa_retN hret (by with_reducible assumption) (by with_reducible assumption) (by kcf_m) (by kcf_m) (by kcf_all) (by kcf_all) (by with_reducible assumption) hA (by with_reducible assumption) hK s1 s3 (by walk_at "mine l4") (by walk_at "mine l3")
    | exact Mine.aa_ret (tlx := tl) hret (by with_reducible assumption) (by with_reducible assumption) (by kcf_m) (by kcf_all) (by kcf_all) ⟨_, by with_reducible assumption⟩ hd9 hA (by omega) (by with_reducible assumption) (by with_reducible assumption) (by with_reducible assumption) s1 s3
set_option maxRecDepth 100000 in
set_option maxHeartbeats 8000000 in
theorem Mine.tk_ctr {w : World} {p : Program} {loose : List Str} {mean : ExcName → Option Value} {mg mb : Str → Option Value} (cB : Mine.BeC 100 103 PySem.Challenge.rw_ui0507_18.row.prog w (Mine.hd.heap_39 w.params) p loose mean mg mb) (cA : Mine.AaC 93 103 PySem.Challenge.rw_ui0507_18.row.prog w (Mine.hd.heap_39 w.params) p loose mean mg mb) : Mine.TkC 115 PySem.Challenge.rw_ui0507_18.row.prog w (Mine.hd.heap_39 w.params) p loose mean mg mb := by
  k_with_none
  k_with "mine ne" => ((try dsimp only); first | assumption | k_ne | (refine Ne.symm ?_; assumption))
  k_with "mine off" => first | exact List.forall_mem_nil _ | assumption | exact Mine.off_lt (by assumption) | exact Mine.off_gt (by assumption) | (refine' List.forall_mem_cons.mpr ⟨?a_z1, ?b_z1⟩; (case a_z1 => walk_at "mine ne"); (case b_z1 => walk_at "mine off")) | (refine' List.forall_mem_append.mpr ⟨?a_z1, ?b_z1⟩; (case a_z1 => walk_at "mine off"); (case b_z1 => walk_at "mine off"))
  k_with "mine upd" => first | (refine' Upd.head ?a_z2; (case a_z2 => walk_at "mine off")) | (refine' Upd.tail ?a_z2 ?b_z2; (case a_z2 => walk_at "mine ne"); (case b_z2 => walk_at "mine upd"))
  k_with "mine size" => ((try law_lens); (simp only [List.size_toArray, Array.size_push, Array.size_append, List.length_append, List.length_cons, List.length_nil, List.length_take, List.length_drop, List.length_replicate, sizeLine_eq]); omega)
  k_with "call builtin:list.append" => (k_here; (with_reducible show wpAny _ _ (call (Value.builtin "list.append") [Value.ref _, _]) _ _ _); k_dflt (refine' append_K ?k1_z4 ?k2_z4 ?k3_z4 ?_ ?z_z4; (case k1_z4 => k_asm); (case k2_z4 => k_asm); (case k3_z4 => walk_at "mine upd"); (case z_z4 => walk_at "mine size"); k_whole); intro h' F' N'; (try k_sweep))
  k_with "mine updF" => first | (refine' UpdF.head ?a_z5; (case a_z5 => walk_at "mine off")) | (refine' UpdF.tail ?a_z5 ?b_z5; (case a_z5 => walk_at "mine ne"); (case b_z5 => walk_at "mine updF"))
  k_with "mine upd" => first | (refine' Upd.head ?a_z6; (case a_z6 => walk_at "mine off")) | (refine' Upd.tail ?a_z6 ?b_z6; (case a_z6 => walk_at "mine ne"); (case b_z6 => walk_at "mine upd")) | (refine' Mine.upd_app ?a_z6 ?b_z6; (case a_z6 => first | with_reducible assumption | exact Mine.off_kL (by with_reducible assumption)); (case b_z6 => walk_at "mine upd"))
  k_with "mine off" => first | exact List.forall_mem_nil _ | assumption | exact Mine.off_lt (by assumption) | exact Mine.off_gt (by assumption) | exact Mine.off_allLt (And.right (by assumption)) | (refine' List.forall_mem_cons.mpr ⟨?a_z7, ?b_z7⟩; (case a_z7 => walk_at "mine ne"); (case b_z7 => walk_at "mine off")) | (refine' List.forall_mem_append.mpr ⟨?a_z7, ?b_z7⟩; (case a_z7 => walk_at "mine off"); (case b_z7 => walk_at "mine off"))
  k_with "mine enter" => (refine' code_def ?k1_z8 ?k2_z8 ?k3_z8 ?k4_z8 ?k5_z8 ?kA_z8 ?kF_z8 ?kK_z8 ?k6_z8 ?k7_z8 ?k8_z8 ?k9_z8 ?kB_z8 ?_ ?c2_z8 ?c3_z8 ?c4_z8 ?c5_z8; (case kA_z8 => exact rfl); (case kF_z8 => exact rfl); (case kK_z8 => first | assumption | exact rfl); (case k1_z8 => k_asm); (case k2_z8 => k_asm); (case k3_z8 => k_asm); (case k4_z8 => k_asm); (case k5_z8 => k_asm); (case k6_z8 => k_is); (case k7_z8 => k_is); (case k8_z8 => ktr_room); (case k9_z8 => first | exact BindsTo.of_eq rfl | exact binds_K (by k_in) rfl (by k_is) rfl rfl rfl); (case c5_z8 => decide); (case kB_z8 => exact locs rfl); (case c2_z8 => exact rfl); (case c3_z8 => exact rfl); (case c4_z8 => exact rfl); k_whole; intro g' L' h' FG' F' N' B' X' T'; (try dsimp only); (try k_lift B'); (try k_fold))
  k_with "mine bnd" => first | with_reducible assumption | omega
  k_with "call builtin:len" => (k_here; (with_reducible show wpAny _ _ (call (Value.builtin "len") [Value.ref _]) _ _ _); k_dflt (refine' Mine.len_at ?N_z10 ?m_z10 ?v_z10 ?z_z10 ?_; (case N_z10 => k_asm); (case m_z10 => kcf_m); (case v_z10 => with_reducible assumption); (case z_z10 => omega); k_whole); intro t9 k9)
  k_with "subscriptTail" => (k_here; (with_reducible show wpAny _ _ (subscriptTail _ _ (Value.ref _) (Value.int _ _)) _ _ _); k_dflt (refine' Mine.item_at ?N_z11 ?m_z11 ?v_z11 ?h0_z11 ?h1_z11 ?h2_z11 ?_; (case N_z11 => k_asm); (case m_z11 => kcf_m); (case v_z11 => with_reducible assumption); (case h0_z11 => omega); (case h1_z11 => omega); (case h2_z11 => omega); k_whole); intro t9)
  k_with "mine room" => first | ktr_room | ktr_units | ((simp only [units_in1, units_deeper, Around.mark_units, units_caller]); first | decide | omega)
  k_with "newTuple" => (k_here; k_dflt (refine' kup_newTuple ?F_z13 ?N_z13 ?_ ?z_z13; (case F_z13 => k_asm); (case N_z13 => k_asm); (case z_z13 => kmk_size)); intro D' h' F' N' l1; (try k_lt l1); (try k_sweep))
  k_with "mine hT" => first | with_reducible assumption | exact Mine.allLt_mem (by assumption) | exact Mine.allLt_mem (And.right (by assumption)) | exact Mine.allLt_mem (And.right (And.right (by assumption))) | exact Mine.allLt_mem (And.right (And.right (And.right (by assumption)))) | exact Mine.allLt_mem (And.right (And.right (And.right (And.right (by assumption)))))
  k_with "mine l4" => first | with_reducible assumption | exact And.left (by assumption) | exact And.left (And.right (by assumption)) | exact And.left (And.right (And.right (by assumption)))
  k_with "mine l3" => first | with_reducible assumption | exact And.right (by assumption) | exact And.right (And.right (by assumption)) | exact And.right (And.right (And.right (by assumption)))
  k_with "exec While Compare cons nil" => (k_here; (rename Fr _ _ _ _ => lF'); (rename News _ _ _ _ => lN'); (with_unfolding_all refine' Mine.tk_while lF' lN' ?k1_z17 ?k2_z17 ?k3_z17 ?k4_z17 ?k5_z17 ?k6_z17 ?k7_z17 ?k8_z17 ?k9_z17 ?ka_z17 ?_; (case k1_z17 | k2_z17 | k3_z17 => exact rfl); (case k4_z17 | k5_z17 => kcf_m); (case k6_z17 => exact Mine.dict_any (by assumption)); (case k7_z17 => with_reducible assumption); (case k8_z17 => walk_at "mine l4"); (case k9_z17 | ka_z17 => walk_at "mine off"); k_whole); (clear lF' lN'); intro bs9 n9 ta9 vr9 cr9 tz9 ts9 oP9 kv9 tl9 u9 h9 tk9 kS kD kK kA kV kd kP kl s1 s2 s3 s4 s5 kn kF kN; (try k_fold))
  k_with "call builtin:len" => (k_here; (with_reducible show wpAny _ _ (call (Value.builtin "len") [Value.bytes _ _]) _ _ _); k_dflt (refine' KBw.len_K ?k1_z18 ?k2_z18 ?_; (case k1_z18 => with_reducible assumption); (case k2_z18 => omega); k_whole))
  k_with "subscriptTail" => (k_here; (with_reducible show wpAny _ _ (subscriptTail _ _ (Value.bytes _ _) (Value.int _ _)) _ _ _); k_dflt (refine' KBw.item_K ?k1_z19 ?k2_z19 ?k3_z19 ?k4_z19 ?_ ?k5_z19 ?k6_z19; (case k1_z19 => with_reducible assumption); (case k2_z19 | k3_z19 | k4_z19 => omega); (case k5_z19 => with_unfolding_all rfl); (case k6_z19 => (intro _; with_unfolding_all rfl)); k_whole); intro t9 k9 kb1 kb2)
  k_with "call ref" => (k_here; (with_reducible show wpAny _ _ (call (Value.ref 100) [Value.ref _, Value.int _ _]) _ _ _); k_dflt ((rename Mine.BeC _ _ _ _ _ _ _ _ _ _ => cBE); refine' Mine.Fun.use ?kC_z20 ?k1_z20 ?k2_z20 ?k3_z20 ?k4_z20 ?k5_z20 ?kK_z20 ?kd_z20 ?ku_z20 ?_; (case k2_z20 => k_asm); (case k4_z20 => k_asm); (case kC_z20 => (refine' cBE _ _ _ _ _ _ _ _ _ _ _ _ _ _ _ ?l1_z20 ?l2_z20 ?l3_z20 ?l4_z20 ?l5_z20 ?l6_z20 ?l7_z20 ?l8_z20 ?l9_z20; (case l1_z20 | l2_z20 | l3_z20 => kcf_m); (case l4_z20 => with_reducible assumption); (case l5_z20 => with_reducible assumption); (case l6_z20 => (refine Mine.PlAll.mono (by with_reducible assumption) ?_; kcf_all)); (case l7_z20 => with_reducible assumption); (case l8_z20 | l9_z20 => omega))); ((case k1_z20 => k_asm); (case k3_z20 => k_asm); (case k5_z20 => k_asm); (case kK_z20 => first | exact rfl | assumption); (case kd_z20 => first | ktr_room | (simp only [depth_in1, depth_deeper, Around.mark_depth, depth_caller]; omega)); (case ku_z20 => walk_at "mine room")); k_whole); (intro r9 nw9 h' tk9 kR F' N'); (unfold Mine.BeOut at kR); (obtain ⟨T9, d9, l9, t9, t9', e1, e2, lT, kG⟩ := kR); (subst e1); (subst e2); (have kGl := Mine.be_le kG); (obtain ⟨kG0, kG1⟩ := kGl))
  k_with "call builtin:list.append" => (k_here; (with_reducible show wpAny _ _ (call (Value.builtin "list.append") [Value.ref _, Value.ref _]) _ _ _); k_dflt (refine' Mine.tk_append ?F_z21 ?N_z21 ?a1_z21 ?a2_z21 ?a3_z21 ?a4_z21 ?a5_z21 ?a6_z21 ?a7_z21 ?a8_z21 ?a9_z21 ?b1_z21 ?b2_z21 ?b3_z21 ?b4_z21 ?b5_z21 ?b6_z21 ?b7_z21 ?_; (case F_z21 | N_z21 => k_asm); (case a1_z21 | a2_z21 | a3_z21 | a4_z21 => with_reducible assumption); (case a7_z21 => with_reducible assumption); (case a5_z21 => walk_at "mine l4"); (case a6_z21 => walk_at "mine l3"); (case a8_z21 | a9_z21 => kcf_m); (case b1_z21 => first | exact Mine.tok_copy | exact Mine.tok_byte); (case b2_z21 => first | exact Mine.be_copy (by with_reducible assumption) (by with_reducible assumption) (by with_reducible assumption) | exact Mine.be_byte (by with_reducible assumption) (by with_reducible assumption) (by with_reducible assumption)); (case b3_z21 => with_reducible assumption); (case b4_z21 => omega); (case b5_z21 => kcf_m); (case b6_z21 | b7_z21 => kcf_all); k_whole); intro h' s2 s3 s4 s5 kA kK F' N'; (have kK2 := Mine.tk_le kK))
  k_with "exec For Name Call cons nil" => (k_here; (rename Fr _ _ _ _ => lF'); (with_unfolding_all refine' For_invVF lF' ?k1_z22 ?k2_z22 ?_; (case k1_z22 => exact rfl); (case k2_z22 => exact rfl); k_whole))
  k_with "pyIter ref" => (k_here; (with_reducible show wpAny _ _ (pyIter (Value.ref _)) (fun it s₂ => LoopAtV _ _ _ _ _ _ _ _ _ it s₂) _ _); ((rename Fr _ _ _ _ => lF'); (rename News _ _ _ _ => lN'); (rename IsRange _ _ _ _ _ _ _ _ => rgX); (with_unfolding_all refine' Mine.fa_for ?hh_z23 rgX ?he_z23 ?hc_z23 lF' lN' ?hm_z23 ?hd_z23 ?hA_z23 ?hK_z23 ?q1_z23 ?q2_z23 ?q3_z23 ?_ ?_; (case hh_z23 => exact rfl); (case hm_z23 => exact fun _ h => h); (case he_z23 => exact (Int.toNat_of_nonneg (by omega)).symm); (case hc_z23 => omega); (case hd_z23 | hA_z23 | hK_z23 | q1_z23 | q2_z23 | q3_z23 => with_reducible assumption)); (all_goals (try clear lF' lN')); (focus (intro oP9 kv9 tl9 i9 t9 u9 h9 tk9 own9 kI kd kP kl s1 s2 s3 o1 o2 kF kN; (try k_fold))); rotate_left; (focus (intro oP9 kv9 tl9 u9 h9 tk9 kd kP kl s1 s3 kF kN; (try k_unfold); (try dsimp only)))))
  k_with "call ref" => (k_here; (with_reducible show wpAny _ _ (call (Value.ref 93) [Value.ref _, Value.int _ _]) _ _ _); k_dflt ((rename Mine.AaC _ _ _ _ _ _ _ _ _ _ => cAA); refine' Mine.Fun.use ?kC_z24 ?k1_z24 ?k2_z24 ?k3_z24 ?k4_z24 ?k5_z24 ?kK_z24 ?kd_z24 ?ku_z24 ?_; (case k2_z24 => k_asm); (case k4_z24 => k_asm); (case kC_z24 => (refine' cAA _ _ _ _ _ _ _ _ _ _ _ _ _ _ _ _ _ ?l1_z24 ?l2_z24 ?l3_z24 ?l4_z24 ?l5_z24 ?l6_z24 ?l7_z24 ?l8_z24 ?l9_z24 ?la_z24 ?lb_z24 ?lc_z24 ?ld_z24; (case l1_z24 | l2_z24 => kcf_m); (case l3_z24 | l4_z24 => with_reducible assumption); (case l5_z24 => with_reducible assumption); (case l6_z24 | l7_z24 => with_reducible assumption); (case l8_z24 => omega); (case l9_z24 => omega); (case la_z24 => omega); (case lb_z24 | lc_z24 | ld_z24 => with_reducible assumption))); ((case k1_z24 => k_asm); (case k3_z24 => k_asm); (case k5_z24 => k_asm); (case kK_z24 => first | exact rfl | assumption); (case kd_z24 => first | ktr_room | (simp only [depth_in1, depth_deeper, Around.mark_depth, depth_caller]; omega)); (case ku_z24 => walk_at "mine room")); k_whole); (intro r9 nw9 h' tk9 kR F' N'); (unfold Mine.AaOut at kR); (obtain ⟨oP9, kv9, tl9, e1, e2, kd, kP, kl, s1, s3⟩ := kR); (subst e1); (subst e2))
  k_with "InvEndG" => (k_here; (rename Fr _ _ _ _ => lF'); (rename News _ _ _ _ => lN'); with_unfolding_all refine' Mine.fa_end lF' lN' ?m1_z25 ?r1_z25 ?d1_z25 ?p1_z25 ?v1_z25 ?x1_z25 ?x3_z25 ?o1_z25 ?o2_z25; (case m1_z25 => exact fun _ h => h); (case d1_z25 | p1_z25 | v1_z25 | x1_z25 | x3_z25 | o1_z25 | o2_z25 => with_reducible assumption); (case r1_z25 => (intro z h1 _ _; simp [h1]; done)))
  k_with "KswEnd" => (k_here; (rename Fr _ _ _ _ => lF'); (rename News _ _ _ _ => lN'); with_unfolding_all (refine' Mine.tk_end lF' lN' ?m1_z26 ?f1_z26 ?r1_z26 ?z1_z26 ?n1_z26 ?k1_z26 ?k2_z26 ?k3_z26 ?k4_z26 ?k5_z26 ?x1_z26 ?x2_z26 ?x3_z26 ?x4_z26 ?x5_z26; (case m1_z26 => exact fun _ h => h); (case f1_z26 => exact rfl); (case k1_z26 | k2_z26 | k3_z26 | k4_z26 | k5_z26 | x1_z26 | x2_z26 | x3_z26 | x4_z26 | x5_z26 => with_reducible assumption); (case z1_z26 | n1_z26 => omega); (case r1_z26 => (unfold Mine.tkNames; ksw_same))))
  k_with "call ref" => (k_here; (with_reducible show wpAny _ _ (call (Value.ref 103) [Value.bytes _ _, Value.int _ _]) _ _ _); k_dflt (refine' call_cls ?k1_z27 ?k2_z27 ?k3_z27 ?k4_z27 ?k5_z27 ?k6_z27 ?_; (case k1_z27 => k_asm); (case k2_z27 => k_asm); (case k3_z27 => k_asm); (case k4_z27 => k_is); (case k5_z27 => k_is); (case k6_z27 => k_is); k_whole; intro x' d' h' F' N' l1 l2; (try k_lt l1); (try k_lt2 l2); (try k_sweep); (walk_at "mine enter")))
  k_fill
  w_top off
  (
  unfold Mine.TkC
  intro b ns tb tw news hb hl
  unfold Mine.Fun
  intro dp un gd cn cs a ccd cl outer A₀ base h₀ L m s Q E B F X N T hk hd hu hret
  refine wpAny_call ?_
  k_dflt (walk_at "mine enter"))
  k_steps
  all_goals exact Mine.tk_ret hret (by with_reducible assumption) (by with_reducible assumption) (by with_reducible assumption) (by with_reducible assumption) (by with_reducible assumption) (by with_reducible assumption) (by kcf_all) (by with_reducible assumption) (by with_reducible assumption) (by kcf_m) (by kcf_all) (by walk_at "mine hT")
set_option maxRecDepth 100000 in
set_option maxHeartbeats 8000000 in
theorem Mine.ex_ctr {w : World} {p : Program} {loose : List Str} {mean : ExcName → Option Value} {mg mb : Str → Option Value} : Mine.ExC 122 PySem.Challenge.rw_ui0507_18.row.prog w (Mine.hd.heap_39 w.params) p loose mean mg mb := by
  k_with_none
  k_with "mine ne" => ((try dsimp only); first | assumption | k_ne | (refine Ne.symm ?_; assumption))
  k_with "mine off" => first | exact List.forall_mem_nil _ | assumption | exact Mine.off_lt (by assumption) | exact Mine.off_gt (by assumption) | (refine' List.forall_mem_cons.mpr ⟨?a_z1, ?b_z1⟩; (case a_z1 => walk_at "mine ne"); (case b_z1 => walk_at "mine off")) | (refine' List.forall_mem_append.mpr ⟨?a_z1, ?b_z1⟩; (case a_z1 => walk_at "mine off"); (case b_z1 => walk_at "mine off"))
  k_with "mine upd" => first | (refine' Upd.head ?a_z2; (case a_z2 => walk_at "mine off")) | (refine' Upd.tail ?a_z2 ?b_z2; (case a_z2 => walk_at "mine ne"); (case b_z2 => walk_at "mine upd"))
  k_with "mine size" => ((try law_lens); (simp only [List.size_toArray, Array.size_push, Array.size_append, List.length_append, List.length_cons, List.length_nil, List.length_take, List.length_drop, List.length_replicate, sizeLine_eq]); omega)
  k_with "call builtin:list.append" => (k_here; (with_reducible show wpAny _ _ (call (Value.builtin "list.append") [Value.ref _, _]) _ _ _); k_dflt (refine' append_K ?k1_z4 ?k2_z4 ?k3_z4 ?_ ?z_z4; (case k1_z4 => k_asm); (case k2_z4 => k_asm); (case k3_z4 => walk_at "mine upd"); (case z_z4 => walk_at "mine size"); k_whole); intro h' F' N'; (try k_sweep))
  k_with "mine updF" => first | (refine' UpdF.head ?a_z5; (case a_z5 => walk_at "mine off")) | (refine' UpdF.tail ?a_z5 ?b_z5; (case a_z5 => walk_at "mine ne"); (case b_z5 => walk_at "mine updF"))
  k_with "mine upd" => first | (refine' Upd.head ?a_z6; (case a_z6 => walk_at "mine off")) | (refine' Upd.tail ?a_z6 ?b_z6; (case a_z6 => walk_at "mine ne"); (case b_z6 => walk_at "mine upd")) | (refine' Mine.upd_app ?a_z6 ?b_z6; (case a_z6 => first | with_reducible assumption | exact Mine.off_kL (by with_reducible assumption)); (case b_z6 => walk_at "mine upd"))
  k_with "mine off" => first | exact List.forall_mem_nil _ | assumption | exact Mine.off_lt (by assumption) | exact Mine.off_gt (by assumption) | exact Mine.off_allLt (And.right (by assumption)) | (refine' List.forall_mem_cons.mpr ⟨?a_z7, ?b_z7⟩; (case a_z7 => walk_at "mine ne"); (case b_z7 => walk_at "mine off")) | (refine' List.forall_mem_append.mpr ⟨?a_z7, ?b_z7⟩; (case a_z7 => walk_at "mine off"); (case b_z7 => walk_at "mine off"))
  k_with "mine enter" => (refine' code_def ?k1_z8 ?k2_z8 ?k3_z8 ?k4_z8 ?k5_z8 ?kA_z8 ?kF_z8 ?kK_z8 ?k6_z8 ?k7_z8 ?k8_z8 ?k9_z8 ?kB_z8 ?_ ?c2_z8 ?c3_z8 ?c4_z8 ?c5_z8; (case kA_z8 => exact rfl); (case kF_z8 => exact rfl); (case kK_z8 => first | assumption | exact rfl); (case k1_z8 => k_asm); (case k2_z8 => k_asm); (case k3_z8 => k_asm); (case k4_z8 => k_asm); (case k5_z8 => k_asm); (case k6_z8 => k_is); (case k7_z8 => k_is); (case k8_z8 => ktr_room); (case k9_z8 => first | exact BindsTo.of_eq rfl | exact binds_K (by k_in) rfl (by k_is) rfl rfl rfl); (case c5_z8 => decide); (case kB_z8 => exact locs rfl); (case c2_z8 => exact rfl); (case c3_z8 => exact rfl); (case c4_z8 => exact rfl); k_whole; intro g' L' h' FG' F' N' B' X' T'; (try dsimp only); (try k_lift B'); (try k_fold))
  k_with "mine bnd" => first | with_reducible assumption | omega
  k_with "call builtin:len" => (k_here; (with_reducible show wpAny _ _ (call (Value.builtin "len") [Value.ref _]) _ _ _); k_dflt (refine' Mine.len_at ?N_z10 ?m_z10 ?v_z10 ?z_z10 ?_; (case N_z10 => k_asm); (case m_z10 => kcf_m); (case v_z10 => with_reducible assumption); (case z_z10 => omega); k_whole); intro t9 k9)
  k_with "subscriptTail" => (k_here; (with_reducible show wpAny _ _ (subscriptTail _ _ (Value.ref _) (Value.int _ _)) _ _ _); k_dflt (refine' Mine.item_at ?N_z11 ?m_z11 ?v_z11 ?h0_z11 ?h1_z11 ?h2_z11 ?_; (case N_z11 => k_asm); (case m_z11 => kcf_m); (case v_z11 => with_reducible assumption); (case h0_z11 => omega); (case h1_z11 => omega); (case h2_z11 => omega); k_whole); intro t9)
  k_with "mine room" => first | ktr_room | ktr_units | ((simp only [units_in1, units_deeper, Around.mark_units, units_caller]); first | decide | omega)
  k_with "newTuple" => (k_here; k_dflt (refine' kup_newTuple ?F_z13 ?N_z13 ?_ ?z_z13; (case F_z13 => k_asm); (case N_z13 => k_asm); (case z_z13 => kmk_size)); intro D' h' F' N' l1; (try k_lt l1); (try k_sweep))
  k_with "exec For Name Name cons nil" => (k_here; (rename Fr _ _ _ _ => lF'); (with_unfolding_all refine' For_invVF lF' ?k1_z14 ?k2_z14 ?_; (case k1_z14 => exact rfl); (case k2_z14 => exact rfl); k_whole))
  k_with "exec For Name Call cons nil" => (k_here; (rename Fr _ _ _ _ => lF'); (with_unfolding_all refine' For_invVF lF' ?k1_z15 ?k2_z15 ?_; (case k1_z15 => exact rfl); (case k2_z15 => exact rfl); k_whole))
  k_with "pyIter ref" => (k_here; (with_reducible show wpAny _ _ (pyIter (Value.ref _)) (fun it s₂ => LoopAtV _ _ _ _ _ _ _ _ _ it s₂) _ _); ((rename Fr _ _ _ _ => lF'); (rename News _ _ _ _ => lN'); (with_unfolding_all refine' Mine.ex_for ?hh_z16 lF' lN' ?x1_z16 ?x2_z16 ?x3_z16 ?x4_z16 ?x5_z16 ?_ ?_ ?x6_z16 ?_; (case hh_z16 => exact rfl); (case x2_z16 => with_reducible assumption); (case x1_z16 => kcf_m); (case x3_z16 | x4_z16 | x5_z16 => with_reducible assumption); (case x6_z16 => walk_at "mine off")); (all_goals (try clear lF' lN')); (focus (intro b9 T9 t9 t9' n9 vs9 c9 os9 i9 u9 h9 tk9 own9 ki kT kI kO kl o1 o2 kF kN; (try k_fold))); rotate_left; (focus (intro d9 l9 T9 t9 t9' t9'' n9 vs9 c9 os9 i9 u9 h9 tk9 own9 ki kT kI kO kl kd1 kd2 kd3 kd4 o1 o2 kF kN; (try k_fold))); rotate_left; (focus (intro vs9 c9 u9 h9 tk9 kI kF kN; (try k_unfold); (try dsimp only))); rotate_left))
  k_with "pyIter ref" => (k_here; (with_reducible show wpAny _ _ (pyIter (Value.ref _)) (fun it s₂ => LoopAtV _ _ _ _ _ _ _ _ _ it s₂) _ _); ((rename IsRange _ _ _ _ _ _ _ _ => rgX); (rename Fr _ _ _ _ => lF'); (rename News _ _ _ _ => lN'); (with_unfolding_all refine' Mine.ec_for ?hh_z17 rgX lF' lN' ?y1_z17 ?y2_z17 ?y3_z17 ?y4_z17 ?y5_z17 ?y6_z17 ?_ ?_; (case hh_z17 => exact rfl); (case y1_z17 => exact rfl); (case y2_z17 | y3_z17 | y4_z17 | y5_z17 | y6_z17 => with_reducible assumption)); (all_goals (try clear lF' lN')); (focus (intro vs9 c9 xs9 i9 t9 u9 h9 tk9 own9 kI kx kl kd kxl o1 o2 kF kN; (try k_fold))); rotate_left; (focus (intro vs9 c9 xs9 u9 h9 tk9 kI kx kF kN; (try k_unfold); (try dsimp only))); rotate_left))
  k_with "InvEndG" => (k_here; (rename Fr _ _ _ _ => lF'); (rename News _ _ _ _ => lN'); (try simp only [List.push_toArray] at lN'); with_unfolding_all (refine' Mine.ex_end lF' lN' ?z1_z18 ?z2_z18 ?z3_z18 ?z4_z18 ?z5_z18 ?z6_z18 ?z7_z18 ?z8_z18 ?z9_z18 ?za_z18; (case z8_z18 => with_reducible assumption); (case z9_z18 => with_reducible assumption); (case z1_z18 => kcf_all); (case z7_z18 => first | exact Mine.ints_push (by with_reducible assumption) | with_reducible assumption); (case za_z18 => first | exact rfl | with_reducible assumption); (case z2_z18 => kcf_all); (case z3_z18 => kcf_m); (case z4_z18 => with_reducible assumption); (case z5_z18 => with_reducible assumption); (case z6_z18 => (intro z h1 _ h3; (obtain ⟨h5, h6⟩ := Mine.ex_names h3); simp only [h1, h5, h6, h3, List.contains_nil, if_false, Bool.false_eq_true]; done))))
  k_with "InvEndG" => (k_here; (rename Fr _ _ _ _ => lF'); (rename News _ _ _ _ => lN'); (try simp only [List.push_toArray] at lN'); with_unfolding_all (refine' Mine.ec_end lF' lN' ?z1_z19 ?z2_z19 ?z3_z19 ?z4_z19 ?z5_z19 ?z6_z19 ?z7_z19 ?z8_z19 ?z9_z19; (case z1_z19 => kcf_all); (case z6_z19 => exact Mine.ints_push (by with_reducible assumption)); (case z7_z19 => with_reducible assumption); (case z8_z19 => exact rfl); (case z2_z19 => kcf_all); (case z3_z19 => with_reducible assumption); (case z4_z19 => with_reducible assumption); (case z9_z19 => with_reducible assumption); (case z5_z19 => (intro z h1 _ _; simp [h1]; done))))
  k_with "call type:bytes" => (k_here; (with_reducible show wpAny _ _ (call (Value.type "bytes") [Value.ref _]) _ _ _); k_dflt (refine' KBa.make_K ?kbaF_z20 ?kbaN_z20 ?kbah_z20 ?kbal_z20 ?kbai_z20 ?kbar_z20 ?kban_z20 ?_; (case kbaF_z20 => k_asm); (case kbaN_z20 => k_asm); (case kbah_z20 => rfl); (case kbal_z20 => exact News.isList (by k_asm) (by k_mem)); (case kbai_z20 => with_reducible assumption); (case kbar_z20 => with_reducible assumption); (case kban_z20 => omega); k_whole); intro h' t' k' F' N' kbaIn; (have kB9 := KBa.ints_make kbaIn))
  k_fill
  w_top off
  (
  unfold Mine.ExC
  intro TL vr cr ts ns news hT hD hok he hI hl
  unfold Mine.Fun
  intro dp un gd cn cs a ccd cl outer A₀ base h₀ L m s Q E B F X N T hk hd hu hret
  refine wpAny_call ?_
  k_dflt (walk_at "mine enter"))
  k_steps; all_goals exact Mine.ex_ret hret (by with_reducible assumption) (by with_reducible assumption) (by kcf_all) (by assumption)
set_option maxRecDepth 100000 in
set_option maxHeartbeats 8000000 in
theorem Mine.rt_ctr {w : World} {p : Program} {loose : List Str} {mean : ExcName → Option Value} {mg mb : Str → Option Value} (cRN0 : Mine.RnC 65 PySem.Challenge.rw_ui0507_18.row.prog w (Mine.hd.heap_39 w.params) p loose mean mg mb) : Mine.RtC 136 PySem.Challenge.rw_ui0507_18.row.prog w (Mine.hd.heap_39 w.params) p loose mean mg mb := by
  k_with_none
  k_with "mine ne" => ((try dsimp only); first | assumption | k_ne | (refine Ne.symm ?_; assumption))
  k_with "mine off" => first | exact List.forall_mem_nil _ | assumption | exact Mine.off_lt (by assumption) | exact Mine.off_gt (by assumption) | (refine' List.forall_mem_cons.mpr ⟨?a_z1, ?b_z1⟩; (case a_z1 => walk_at "mine ne"); (case b_z1 => walk_at "mine off")) | (refine' List.forall_mem_append.mpr ⟨?a_z1, ?b_z1⟩; (case a_z1 => walk_at "mine off"); (case b_z1 => walk_at "mine off"))
  k_with "mine upd" => first | (refine' Upd.head ?a_z2; (case a_z2 => walk_at "mine off")) | (refine' Upd.tail ?a_z2 ?b_z2; (case a_z2 => walk_at "mine ne"); (case b_z2 => walk_at "mine upd"))
  k_with "mine size" => ((try law_lens); (simp only [List.size_toArray, Array.size_push, Array.size_append, List.length_append, List.length_cons, List.length_nil, List.length_take, List.length_drop, List.length_replicate, sizeLine_eq]); omega)
  k_with "call builtin:list.append" => (k_here; (with_reducible show wpAny _ _ (call (Value.builtin "list.append") [Value.ref _, _]) _ _ _); k_dflt (refine' append_K ?k1_z4 ?k2_z4 ?k3_z4 ?_ ?z_z4; (case k1_z4 => k_asm); (case k2_z4 => k_asm); (case k3_z4 => walk_at "mine upd"); (case z_z4 => walk_at "mine size"); k_whole); intro h' F' N'; (try k_sweep))
  k_with "mine updF" => first | (refine' UpdF.head ?a_z5; (case a_z5 => walk_at "mine off")) | (refine' UpdF.tail ?a_z5 ?b_z5; (case a_z5 => walk_at "mine ne"); (case b_z5 => walk_at "mine updF"))
  k_with "mine upd" => first | (refine' Upd.head ?a_z6; (case a_z6 => walk_at "mine off")) | (refine' Upd.tail ?a_z6 ?b_z6; (case a_z6 => walk_at "mine ne"); (case b_z6 => walk_at "mine upd")) | (refine' Mine.upd_app ?a_z6 ?b_z6; (case a_z6 => first | with_reducible assumption | exact Mine.off_kL (by with_reducible assumption)); (case b_z6 => walk_at "mine upd"))
  k_with "mine off" => first | exact List.forall_mem_nil _ | assumption | exact Mine.off_lt (by assumption) | exact Mine.off_gt (by assumption) | exact Mine.off_allLt (And.right (by assumption)) | (refine' List.forall_mem_cons.mpr ⟨?a_z7, ?b_z7⟩; (case a_z7 => walk_at "mine ne"); (case b_z7 => walk_at "mine off")) | (refine' List.forall_mem_append.mpr ⟨?a_z7, ?b_z7⟩; (case a_z7 => walk_at "mine off"); (case b_z7 => walk_at "mine off"))
  k_with "mine enter" => (refine' code_def ?k1_z8 ?k2_z8 ?k3_z8 ?k4_z8 ?k5_z8 ?kA_z8 ?kF_z8 ?kK_z8 ?k6_z8 ?k7_z8 ?k8_z8 ?k9_z8 ?kB_z8 ?_ ?c2_z8 ?c3_z8 ?c4_z8 ?c5_z8; (case kA_z8 => exact rfl); (case kF_z8 => exact rfl); (case kK_z8 => first | assumption | exact rfl); (case k1_z8 => k_asm); (case k2_z8 => k_asm); (case k3_z8 => k_asm); (case k4_z8 => k_asm); (case k5_z8 => k_asm); (case k6_z8 => k_is); (case k7_z8 => k_is); (case k8_z8 => ktr_room); (case k9_z8 => first | exact BindsTo.of_eq rfl | exact binds_K (by k_in) rfl (by k_is) rfl rfl rfl); (case c5_z8 => decide); (case kB_z8 => exact locs rfl); (case c2_z8 => exact rfl); (case c3_z8 => exact rfl); (case c4_z8 => exact rfl); k_whole; intro g' L' h' FG' F' N' B' X' T'; (try dsimp only); (try k_lift B'); (try k_fold))
  k_with "mine bnd" => first | with_reducible assumption | omega
  k_with "call builtin:len" => (k_here; (with_reducible show wpAny _ _ (call (Value.builtin "len") [Value.ref _]) _ _ _); k_dflt (refine' Mine.len_at ?N_z10 ?m_z10 ?v_z10 ?z_z10 ?_; (case N_z10 => k_asm); (case m_z10 => kcf_m); (case v_z10 => with_reducible assumption); (case z_z10 => omega); k_whole); intro t9 k9)
  k_with "subscriptTail" => (k_here; (with_reducible show wpAny _ _ (subscriptTail _ _ (Value.ref _) (Value.int _ _)) _ _ _); k_dflt (refine' Mine.item_at ?N_z11 ?m_z11 ?v_z11 ?h0_z11 ?h1_z11 ?h2_z11 ?_; (case N_z11 => k_asm); (case m_z11 => kcf_m); (case v_z11 => with_reducible assumption); (case h0_z11 => omega); (case h1_z11 => omega); (case h2_z11 => omega); k_whole); intro t9)
  k_with "mine room" => first | ktr_room | ktr_units | ((simp only [units_in1, units_deeper, Around.mark_units, units_caller]); first | decide | omega)
  k_with "newTuple" => (k_here; k_dflt (refine' kup_newTuple ?F_z13 ?N_z13 ?_ ?z_z13; (case F_z13 => k_asm); (case N_z13 => k_asm); (case z_z13 => kmk_size)); intro D' h' F' N' l1; (try k_lt l1); (try k_sweep))
  k_with "mine l4" => first | with_reducible assumption | exact And.left (by assumption) | exact And.left (And.right (by assumption)) | exact And.left (And.right (And.right (by assumption)))
  k_with "exec While Compare cons nil" => (k_here; (rename Fr _ _ _ _ => lF'); (rename News _ _ _ _ => lN'); (with_unfolding_all refine' Mine.rt_while lF' lN' ?q1_z15 ?q2_z15 ?q3_z15 ?q4_z15 ?q5_z15 ?q6_z15 ?q7_z15 ?q8_z15 ?q9_z15 ?_ ?_; (case q1_z15 | q2_z15 | q3_z15 | q4_z15 => exact rfl); (case q5_z15 | q6_z15 | q7_z15 | q8_z15 => with_reducible assumption); (case q9_z15 => walk_at "mine off"); k_whole); (clear lF' lN'); (focus (intro a9 d9 ta9 td9 vr9 cr9 tz9 pre9 M9 u9 h9 tk9 kd ka kM kM2 kI kW kF kN; (try k_fold))); rotate_left; (focus (intro a9 d9 ta9 td9 vr9 cr9 tz9 bd9 u9 h9 tk9 ka kd kD kF kN; (try k_fold))); rotate_left)
  k_with "exec While BoolOp cons nil" => (k_here; (rename Fr _ _ _ _ => lF'); (rename News _ _ _ _ => lN'); (with_unfolding_all refine' Mine.ri_while lF' lN' ?w1_z16 ?w2_z16 ?w3_z16 ?w4_z16 ?w5_z16 ?w6_z16 ?w7_z16 ?w8_z16 ?w9_z16 ?wa_z16 ?wb_z16 ?wc_z16 ?_ ?_ ?_; (case w1_z16 | w2_z16 | w3_z16 | w4_z16 | w5_z16 | w6_z16 => exact rfl); (case w8_z16 | w9_z16 | wa_z16 | wb_z16 | wc_z16 => with_reducible assumption); (case w7_z16 => omega); k_whole); (clear lF' lN'); (focus (intro a9 d9 k9 ta9 td9 tk9 vr9 cr9 tz9 pre9 u9 h9 tok9 kk kd ka ka2 kv kb kI kW kF kN; (try k_fold))); rotate_left; (focus (intro a9 d9 k9 e9 l9 rest9 ta9 td9 tk9 vr9 cr9 tz9 pre9 u9 h9 tok9 kk kd ka ka2 kv kb kx kx2 kx3 kx4 kx5 kI kW kF kN; (try k_fold))); rotate_left; (focus (intro a9 d9 k9 ta9 td9 tk9 vr9 cr9 tz9 pre9 bd9 u9 h9 tok9 kk kk2 ka2 kM kI kW kF kN; (try k_fold))); rotate_left)
  k_with "call builtin:len" => (k_here; (with_reducible show wpAny _ _ (call (Value.builtin "len") [Value.bytes _ _]) _ _ _); k_dflt (refine' KBw.len_K ?k1_z17 ?k2_z17 ?_; (case k1_z17 => with_reducible assumption); (case k2_z17 => omega); k_whole))
  k_with "subscriptTail" => (k_here; (with_reducible show wpAny _ _ (subscriptTail _ _ (Value.bytes _ _) (Value.int _ _)) _ _ _); k_dflt (refine' Mine.item_M ?k1_z18 ?k2_z18 ?k3_z18 ?k4_z18 ?ke_z18 ?_ ?k5_z18 ?k6_z18; (case k1_z18 => with_reducible assumption); (case k2_z18 | k3_z18 | k4_z18 => omega); (case ke_z18 => first | with_reducible assumption | exact rfl); (case k5_z18 => with_unfolding_all rfl); (case k6_z18 => (intro _; with_unfolding_all rfl)); k_whole); intro t9 k9 kb1 kb2)
  k_with "call ref" => (k_here; (with_reducible show wpAny _ _ (call (Value.ref 65) [Value.bytes _ _, Value.int _ _]) _ _ _); k_dflt ((rename Mine.RnC _ _ _ _ _ _ _ _ _ => cRN); refine' Mine.Fun.use ?kC_z19 ?k1_z19 ?k2_z19 ?k3_z19 ?k4_z19 ?k5_z19 ?kK_z19 ?kd_z19 ?ku_z19 ?_; (case k2_z19 => k_asm); (case k4_z19 => k_asm); (case kC_z19 => (refine' cRN _ _ _ _ _ _ _ _ _ ?l1_z19 ?l2_z19 ?l3_z19 ?l4_z19 ?l5_z19; (case l1_z19 => with_reducible assumption); (case l2_z19 => exact rfl); (case l3_z19 => with_reducible assumption); (case l4_z19 => omega); (case l5_z19 => omega))); ((case k1_z19 => k_asm); (case k3_z19 => k_asm); (case k5_z19 => k_asm); (case kK_z19 => first | exact rfl | assumption); (case kd_z19 => first | ktr_room | (simp only [depth_in1, depth_deeper, Around.mark_depth, depth_caller]; omega)); (case ku_z19 => walk_at "mine room")); k_whole); (intro r9 nw9 h' tk9 kR F' N'); (unfold Mine.RnOut at kR); (obtain ⟨T9, x9, y9, t1, t2, e1, e2, lT, e3, e4⟩ := kR); (subst e1); (subst e2); (subst e3); (subst e4))
  k_with "call builtin:list.append" => (k_here; (with_reducible show wpAny _ _ (call (Value.builtin "list.append") [Value.ref _, Value.ref _]) _ _ _); k_dflt (refine' Mine.rt_append ?F_z20 ?N_z20 ?a1_z20 ?a2_z20 ?a3_z20 ?a4_z20 ?a5_z20 ?a6_z20 ?a7_z20 ?_; (case F_z20 | N_z20 => k_asm); (case a1_z20 => with_reducible assumption); (case a2_z20 => kcf_m); (case a3_z20 => first | exact Mine.tok_byte | exact Mine.tok_copyE rfl (by with_reducible assumption)); (case a4_z20 => with_reducible assumption); (case a5_z20 => kcf_m); (case a6_z20 => kcf_all); (case a7_z20 => walk_at "mine l4"); k_whole); intro h' kW9 F' N')
  k_with "KswEnd" => (k_here; (rename Fr _ _ _ _ => lF'); (rename News _ _ _ _ => lN'); with_unfolding_all (refine' Mine.rt_end lF' lN' ?v1_z21 ?v2_z21 ?v3_z21 ?v4_z21 ?v5_z21 ?v6_z21 ?v7_z21; (case v1_z21 | v2_z21 => exact rfl); (case v3_z21 | v4_z21 => with_reducible assumption); (case v5_z21 => exact fun _ h => h); (case v7_z21 => omega); (case v6_z21 => (intro z h2 h3; (have h4 := h2 _ (.head _)); (have h5 := h2 _ (.tail _ (.head _))); dsimp only at h4 h5; (obtain ⟨g1, g2, g3, g4⟩ := Mine.rt_names h3); (have g5 := Mine.ri_of g3 g4); (simp only [h4, h5, g1, g2, g3, g4, g5, h3, if_false, Bool.false_eq_true]; done)))))
  k_with "KswEnd" => (k_here; (rename Fr _ _ _ _ => lF'); (rename News _ _ _ _ => lN'); with_unfolding_all (refine' Mine.ri_end lF' lN' ?v1_z22 ?v2_z22 ?v3_z22 ?v4_z22 ?v5_z22 ?v6_z22 ?v7_z22 ?v8_z22 ?v9_z22 ?va_z22 ?vb_z22 ?vc_z22; (case v1_z22 | v2_z22 => with_reducible assumption); (case v3_z22 => exact fun _ h => h); (case v4_z22 | v5_z22 | v6_z22 => exact rfl); (case v8_z22 | v9_z22 | va_z22 => omega); (case vb_z22 | vc_z22 => omega); (case v7_z22 => (unfold Mine.riNames; ksw_same))))
  k_fill
  w_top off
  (
  unfold Mine.RtC
  intro b ks ts total tb tt news hb hk hok hs h4 hl
  unfold Mine.Fun
  intro dp un gd cn cs a ccd cl outer A₀ base h₀ L m s Q E B F X N T hk1 hd hu hret
  refine wpAny_call ?_
  k_dflt (walk_at "mine enter"))
  k_steps
  all_goals first | (exfalso; omega) | exact Mine.rt_ret hret (by with_reducible assumption) (by with_reducible assumption) (by with_reducible assumption) (fun _ h => h)
set_option maxRecDepth 100000 in
set_option maxHeartbeats 8000000 in
theorem Mine.wt_ctr {w : World} {p : Program} {loose : List Str} {mean : ExcName → Option Value} {mg mb : Str → Option Value} (cNB0 : Mine.NbC 58 PySem.Challenge.rw_ui0507_18.row.prog w (Mine.hd.heap_39 w.params) p loose mean mg mb) : Mine.WtC 129 PySem.Challenge.rw_ui0507_18.row.prog w (Mine.hd.heap_39 w.params) p loose mean mg mb := by
  k_with_none
  k_with "mine ne" => ((try dsimp only); first | assumption | k_ne | (refine Ne.symm ?_; assumption))
  k_with "mine off" => first | exact List.forall_mem_nil _ | assumption | exact Mine.off_lt (by assumption) | exact Mine.off_gt (by assumption) | (refine' List.forall_mem_cons.mpr ⟨?a_z1, ?b_z1⟩; (case a_z1 => walk_at "mine ne"); (case b_z1 => walk_at "mine off")) | (refine' List.forall_mem_append.mpr ⟨?a_z1, ?b_z1⟩; (case a_z1 => walk_at "mine off"); (case b_z1 => walk_at "mine off"))
  k_with "mine upd" => first | (refine' Upd.head ?a_z2; (case a_z2 => walk_at "mine off")) | (refine' Upd.tail ?a_z2 ?b_z2; (case a_z2 => walk_at "mine ne"); (case b_z2 => walk_at "mine upd"))
  k_with "mine size" => ((try law_lens); (simp only [List.size_toArray, Array.size_push, Array.size_append, List.length_append, List.length_cons, List.length_nil, List.length_take, List.length_drop, List.length_replicate, sizeLine_eq]); omega)
  k_with "call builtin:list.append" => (k_here; (with_reducible show wpAny _ _ (call (Value.builtin "list.append") [Value.ref _, _]) _ _ _); k_dflt (refine' append_K ?k1_z4 ?k2_z4 ?k3_z4 ?_ ?z_z4; (case k1_z4 => k_asm); (case k2_z4 => k_asm); (case k3_z4 => walk_at "mine upd"); (case z_z4 => walk_at "mine size"); k_whole); intro h' F' N'; (try k_sweep))
  k_with "mine updF" => first | (refine' UpdF.head ?a_z5; (case a_z5 => walk_at "mine off")) | (refine' UpdF.tail ?a_z5 ?b_z5; (case a_z5 => walk_at "mine ne"); (case b_z5 => walk_at "mine updF"))
  k_with "mine upd" => first | (refine' Upd.head ?a_z6; (case a_z6 => walk_at "mine off")) | (refine' Upd.tail ?a_z6 ?b_z6; (case a_z6 => walk_at "mine ne"); (case b_z6 => walk_at "mine upd")) | (refine' Mine.upd_app ?a_z6 ?b_z6; (case a_z6 => first | with_reducible assumption | exact Mine.off_kL (by with_reducible assumption)); (case b_z6 => walk_at "mine upd"))
  k_with "mine off" => first | exact List.forall_mem_nil _ | assumption | exact Mine.off_lt (by assumption) | exact Mine.off_gt (by assumption) | exact Mine.off_allLt (And.right (by assumption)) | (refine' List.forall_mem_cons.mpr ⟨?a_z7, ?b_z7⟩; (case a_z7 => walk_at "mine ne"); (case b_z7 => walk_at "mine off")) | (refine' List.forall_mem_append.mpr ⟨?a_z7, ?b_z7⟩; (case a_z7 => walk_at "mine off"); (case b_z7 => walk_at "mine off"))
  k_with "mine enter" => (refine' code_def ?k1_z8 ?k2_z8 ?k3_z8 ?k4_z8 ?k5_z8 ?kA_z8 ?kF_z8 ?kK_z8 ?k6_z8 ?k7_z8 ?k8_z8 ?k9_z8 ?kB_z8 ?_ ?c2_z8 ?c3_z8 ?c4_z8 ?c5_z8; (case kA_z8 => exact rfl); (case kF_z8 => exact rfl); (case kK_z8 => first | assumption | exact rfl); (case k1_z8 => k_asm); (case k2_z8 => k_asm); (case k3_z8 => k_asm); (case k4_z8 => k_asm); (case k5_z8 => k_asm); (case k6_z8 => k_is); (case k7_z8 => k_is); (case k8_z8 => ktr_room); (case k9_z8 => first | exact BindsTo.of_eq rfl | exact binds_K (by k_in) rfl (by k_is) rfl rfl rfl); (case c5_z8 => decide); (case kB_z8 => exact locs rfl); (case c2_z8 => exact rfl); (case c3_z8 => exact rfl); (case c4_z8 => exact rfl); k_whole; intro g' L' h' FG' F' N' B' X' T'; (try dsimp only); (try k_lift B'); (try k_fold))
  k_with "mine bnd" => first | with_reducible assumption | omega
  k_with "call builtin:len" => (k_here; (with_reducible show wpAny _ _ (call (Value.builtin "len") [Value.ref _]) _ _ _); k_dflt (refine' Mine.len_at ?N_z10 ?m_z10 ?v_z10 ?z_z10 ?_; (case N_z10 => k_asm); (case m_z10 => kcf_m); (case v_z10 => with_reducible assumption); (case z_z10 => omega); k_whole); intro t9 k9)
  k_with "subscriptTail" => (k_here; (with_reducible show wpAny _ _ (subscriptTail _ _ (Value.ref _) (Value.int _ _)) _ _ _); k_dflt (refine' Mine.item_at ?N_z11 ?m_z11 ?v_z11 ?h0_z11 ?h1_z11 ?h2_z11 ?_; (case N_z11 => k_asm); (case m_z11 => kcf_m); (case v_z11 => with_reducible assumption); (case h0_z11 => omega); (case h1_z11 => omega); (case h2_z11 => omega); k_whole); intro t9)
  k_with "mine room" => first | ktr_room | ktr_units | ((simp only [units_in1, units_deeper, Around.mark_units, units_caller]); first | decide | omega)
  k_with "newTuple" => (k_here; k_dflt (refine' kup_newTuple ?F_z13 ?N_z13 ?_ ?z_z13; (case F_z13 => k_asm); (case N_z13 => k_asm); (case z_z13 => kmk_size)); intro D' h' F' N' l1; (try k_lt l1); (try k_sweep))
  k_with "call builtin:list.extend" => (k_here; (with_reducible show wpAny _ _ (call (Value.builtin "list.extend") [Value.ref _, Value.ref _]) _ _ _); k_dflt (refine' Mine.extend_U ?k1_z14 ?k2_z14 ?kb_z14 ?k3_z14 ?z_z14 ?_; (case k1_z14 => k_asm); (case k2_z14 => k_asm); (case kb_z14 => k_mem); (case k3_z14 => walk_at "mine updF"); (case z_z14 => walk_at "mine size"); k_whole); intro h' n' F' N'; (try dsimp only at N'); (try k_sweep))
  k_with "mine off" => first | exact List.forall_mem_nil _ | assumption | exact Mine.off_lt (by assumption) | exact Mine.off_gt (by assumption) | exact Mine.off_allLt (And.right (by assumption)) | exact Mine.off_allLt (And.right (And.right (by assumption))) | exact Mine.off_allLt (And.right (And.right (And.right (by assumption)))) | (refine' List.forall_mem_cons.mpr ⟨?a_z15, ?b_z15⟩; (case a_z15 => walk_at "mine ne"); (case b_z15 => walk_at "mine off")) | (refine' List.forall_mem_append.mpr ⟨?a_z15, ?b_z15⟩; (case a_z15 => walk_at "mine off"); (case b_z15 => walk_at "mine off"))
  k_with "exec While Compare cons nil" => (k_here; (rename Fr _ _ _ _ => lF'); (rename News _ _ _ _ => lN'); (with_unfolding_all refine' Mine.wt_while lF' lN' ?q1_z16 ?q2_z16 ?q3_z16 ?q4_z16 ?q5_z16 ?q6_z16 ?q7_z16 ?_; (case q1_z16 | q2_z16 | q3_z16 => exact rfl); (case q4_z16 => kcf_m); (case q5_z16 | q6_z16 | q7_z16 => with_reducible assumption); k_whole); (clear lF' lN'); intro a9 ta9 vs9 c9 kb9 G9 gv9 u9 h9 tk9 kB kK kV kL kG kg kD kO kl k8 kF kN; (try k_fold))
  k_with "call builtin:len" => (k_here; (with_reducible show wpAny _ _ (call (Value.builtin "len") [Value.ref _]) _ _ _); k_dflt (refine' Mine.wt_len ?N_z17 ?m_z17 ?z_z17 ?_; (case N_z17 => k_asm); (case m_z17 => kcf_m); (case z_z17 => omega); k_whole); intro t9 k9)
  k_with "subscriptTail" => (k_here; (with_reducible show wpAny _ _ (subscriptTail _ _ (Value.ref _) (Value.int _ _)) _ _ _); k_dflt (refine' Mine.wt_item ?N_z18 ?m_z18 ?v_z18 ?k_z18 ?z_z18 ?_ ?h7_z18; (case N_z18 => k_asm); (case m_z18 => kcf_m); (case v_z18 => with_reducible assumption); (case k_z18 => omega); (case z_z18 => omega); (case h7_z18 => with_unfolding_all rfl); k_whole))
  k_with "subscriptTail" => (k_here; (with_reducible show wpAny _ _ (subscriptTail _ (Expr.Slice _ _ none _) (Value.ref _) (Value.ref _)) _ _ _); k_dflt (refine' Mine.wt_slice ?F_z19 ?N_z19 ?m_z19 ?e_z19 ?y_z19 ?z_z19 ?_ ?h7_z19 ?h8_z19; (case F_z19 => k_asm); (case N_z19 => k_asm); (case m_z19 => kcf_m); (case e_z19 => with_reducible assumption); (case y_z19 => exact rfl); (case z_z19 => omega); (case h7_z19 => with_unfolding_all rfl); (case h8_z19 => (intro _; with_unfolding_all rfl)); k_whole); intro D' h' F' N' l1; (try k_lt l1))
  k_with "exec For Name Call cons nil" => (k_here; (rename Fr _ _ _ _ => lF'); (with_unfolding_all refine' For_invVF lF' ?k1_z20 ?k2_z20 ?_; (case k1_z20 => exact rfl); (case k2_z20 => exact rfl); k_whole))
  k_with "call type:range" => ((with_reducible show wpAny _ _ (call (Value.type "range") [Value.int _ _]) _ _ _); (rename Fr _ _ _ _ => F'); (rename News _ _ _ _ => N'); (with_unfolding_all refine range1_rows F' N' ?_; intro _ _ _ _ _ _ _ _ _))
  k_with "pyIter ref" => (k_here; (with_reducible show wpAny _ _ (pyIter (Value.ref _)) (fun it s₂ => LoopAtV _ _ _ _ _ _ _ _ _ it s₂) _ _); ((rename IsRange _ _ _ _ _ _ _ _ => rgX); (rename Fr _ _ _ _ => lF'); (rename News _ _ _ _ => lN'); (with_unfolding_all refine' Mine.wi_for ?hh_z22 rgX ?y1_z22 lF' lN' ?y2_z22 ?y3_z22 ?y4_z22 ?y5_z22 ?y6_z22 ?_ ?_ ?_; (case hh_z22 => exact rfl); (case y2_z22 => exact rfl); (case y3_z22 => with_reducible assumption); (case y1_z22 => exact rfl); (case y4_z22 => kcf_all); (case y5_z22 | y6_z22 => with_reducible assumption)); (all_goals (try clear lF' lN')); (focus (intro b9 T9 t9 t9' n9 vb9 cb9 kb9 M9 tm9 i9 ti9 u9 h9 tk9 own9 ki kg k8 kT kb0 kb1 kB kK kM kl o1 o2 kF kN; (try k_fold))); rotate_left; (focus (intro d9 l9 T9 t9 t9' t9'' n9 vb9 cb9 kb9 M9 tm9 i9 ti9 u9 h9 tk9 own9 ki kg k8 kT kd0 kd1 kl0 kl1 kB kK kM kM2 kl o1 o2 kF kN; (try k_fold))); rotate_left; (focus (intro vb9 cb9 kb9 M9 tm9 u9 h9 tk9 kB kK kM kM2 kl kF kN; (try k_unfold); (try dsimp only))); rotate_left))
  k_with "call type:bytes" => (k_here; (with_reducible show wpAny _ _ (call (Value.type "bytes") [Value.ref _]) _ _ _); k_dflt (refine' Mine.bytes_1 ?hh_z23 ?F_z23 ?N_z23 ?m_z23 ?b0_z23 ?b1_z23 ?_; (case hh_z23 => exact rfl); (case F_z23 => k_asm); (case N_z23 => k_asm); (case m_z23 => kcf_m); (case b0_z23 => omega); (case b1_z23 => omega); k_whole); intro bb9 tb9 h' tk9 F' N' kB9)
  k_with "binaryOp LShift int int" => (k_here; (with_reducible refine lshift_int_small ?kb1_z24 ?kb2_z24 ?kb3_z24 ?_); (case kb1_z24 => omega); (case kb2_z24 => omega); (case kb3_z24 => decide))
  k_with "call ref" => (k_here; (with_reducible show wpAny _ _ (call (Value.ref 58) [Value.int _ _]) _ _ _); k_dflt ((rename Mine.NbC _ _ _ _ _ _ _ _ _ => cNB); refine' Mine.Fun.use ?kC_z25 ?k1_z25 ?k2_z25 ?k3_z25 ?k4_z25 ?k5_z25 ?kK_z25 ?kd_z25 ?ku_z25 ?_; (case k2_z25 => k_asm); (case k4_z25 => k_asm); (case kC_z25 => (refine' cNB _ _ _ ?l1_z25 ?l2_z25; (case l1_z25 => omega); (case l2_z25 => omega))); ((case k1_z25 => k_asm); (case k3_z25 => k_asm); (case k5_z25 => k_asm); (case kK_z25 => first | exact rfl | assumption); (case kd_z25 => first | ktr_room | (simp only [depth_in1, depth_deeper, Around.mark_depth, depth_caller]; omega)); (case ku_z25 => walk_at "mine room")); k_whole); (intro r9 nw9 h' tk9 kR F' N'); (unfold Mine.NbOut at kR); (obtain ⟨b9, t9, e1, e2, kX⟩ := kR); (subst e1); (subst e2))
  k_with "InvEndG" => (k_here; (rename Fr _ _ _ _ => lF'); (rename News _ _ _ _ => lN'); (try simp only [List.push_toArray] at lN'); with_unfolding_all (refine' Mine.wi_end lF' lN' ?v1_z26 ?v2_z26 ?v3_z26 ?v4_z26 ?v5_z26 ?v6_z26 ?v7_z26 ?v8_z26 ?v9_z26 ?va_z26 ?vb_z26 ?vc_z26 ?vd_z26; (case v1_z26 => exact rfl); (case v8_z26 => with_reducible assumption); (case v3_z26 => kcf_all); (case v7_z26 => first | exact BsAre.snoc (BsAre.snoc (by with_reducible assumption) (by with_reducible assumption)) (by with_reducible assumption) | exact Mine.BsAre.snoc (Mine.BsAre.snoc (by with_reducible assumption) (by with_reducible assumption)) (by with_reducible assumption) | exact Mine.BsAre.snoc (by with_reducible assumption) (by with_reducible assumption)); (case v9_z26 => with_reducible assumption); (case va_z26 => first | exact Mine.kb_copy | exact Mine.kb_byte); (case vb_z26 => with_reducible assumption); (case vc_z26 => first | exact Mine.marks_orE (by with_reducible assumption) | exact Mine.m_byte); (case vd_z26 => (simp only [List.length_append, List.length_cons, List.length_nil]; omega)); (case v4_z26 => kcf_all); (case v5_z26 => with_reducible assumption); (case v6_z26 => walk_at "mine o2"); (case v2_z26 => (intro z h1 h2 h3; (have h4 := h2 _ (.head _)); dsimp only at h4; (have h5 := Mine.cont1 h3); (simp only [h1, h4, h5, h3, if_false, Bool.false_eq_true]; done)))))
  k_with "mine o2" => first | with_reducible assumption | assumption
  k_with "KswEnd" => (k_here; (rename Fr _ _ _ _ => lF'); (rename News _ _ _ _ => lN'); (try simp only [List.push_toArray, List.append_toArray] at lN'); with_unfolding_all (refine' Mine.wt_end lF' lN' ?v1_z28 ?v2_z28 ?v3_z28 ?v4_z28 ?v5_z28 ?v6_z28 ?v7_z28 ?v8_z28 ?v9_z28 ?va_z28 ?vb_z28 ?vc_z28 ?vd_z28 ?ve_z28 ?vf_z28; (case v1_z28 => exact rfl); (case v2_z28 => kcf_all); (case v5_z28 => exact rfl); (case v4_z28 => with_reducible assumption); (case v6_z28 => with_reducible assumption); (case v7_z28 => with_reducible assumption); (case v8_z28 => with_reducible assumption); (case va_z28 => with_reducible assumption); (case v9_z28 => with_reducible assumption); (case vb_z28 => with_reducible assumption); (case vc_z28 => omega); (case vd_z28 => exact rfl); (case ve_z28 => with_reducible assumption); (case vf_z28 => with_reducible assumption); (case v3_z28 => (intro z h2 h3; (have h4 := h2 _ (.head _)); dsimp only at h4; (obtain ⟨g1, g2, g3, g4, g5⟩ := Mine.wt_names h3); (have g6 := Mine.wi_of g5); (simp only [h4, g1, g2, g3, g4, g6, h3, if_false, Bool.false_eq_true]; done)))))
  k_with "getMethod" => (k_here; (with_reducible refine Mine.bjoin_method ?_))
  k_with "call builtin:bytes.join" => (k_here; k_dflt (refine' Mine.wt_join ?N_z30 ?m_z30 ?v_z30 ?b_z30 ?a_z30 ?z_z30 ?_; (case N_z30 => k_asm); (case m_z30 => kcf_m); (case v_z30 => with_reducible assumption); (case b_z30 => with_reducible assumption); (case a_z30 => omega); (case z_z30 => with_reducible assumption); k_whole); intro b8 t8 k8 kB8)
  k_fill
  w_top off
  (
  unfold Mine.WtC
  intro TL vr cr ts news hT hD hok hl hw
  unfold Mine.Fun
  intro dp un gd cn cs a ccd cl outer A₀ base h₀ L m s Q E B F X N T hk hd hu hret
  refine wpAny_call ?_
  k_dflt (walk_at "mine enter"))
  k_steps; all_goals exact Mine.wt_ret hret (by with_reducible assumption) (by with_reducible assumption) (by kcf_all) (by with_reducible assumption)
set_option maxRecDepth 100000 in
set_option maxHeartbeats 8000000 in
theorem Mine.pa_ctr {w : World} {p : Program} {loose : List Str} {mean : ExcName → Option Value} {mg mb : Str → Option Value} (c1 : Mine.NbC 58 PySem.Challenge.rw_ui0507_18.row.prog w (Mine.hd.heap_39 w.params) p loose mean mg mb) (c2 : Mine.TkC 115 PySem.Challenge.rw_ui0507_18.row.prog w (Mine.hd.heap_39 w.params) p loose mean mg mb) (c3 : Mine.WtC 129 PySem.Challenge.rw_ui0507_18.row.prog w (Mine.hd.heap_39 w.params) p loose mean mg mb) : Mine.PaC 144 PySem.Challenge.rw_ui0507_18.row.prog w (Mine.hd.heap_39 w.params) p loose mean mg mb := by
  k_with_none
  k_with "mine ne" => ((try dsimp only); first | assumption | k_ne | (refine Ne.symm ?_; assumption))
  k_with "mine off" => first | exact List.forall_mem_nil _ | assumption | exact Mine.off_lt (by assumption) | exact Mine.off_gt (by assumption) | (refine' List.forall_mem_cons.mpr ⟨?a_z1, ?b_z1⟩; (case a_z1 => walk_at "mine ne"); (case b_z1 => walk_at "mine off")) | (refine' List.forall_mem_append.mpr ⟨?a_z1, ?b_z1⟩; (case a_z1 => walk_at "mine off"); (case b_z1 => walk_at "mine off"))
  k_with "mine upd" => first | (refine' Upd.head ?a_z2; (case a_z2 => walk_at "mine off")) | (refine' Upd.tail ?a_z2 ?b_z2; (case a_z2 => walk_at "mine ne"); (case b_z2 => walk_at "mine upd"))
  k_with "mine size" => ((try law_lens); (simp only [List.size_toArray, Array.size_push, Array.size_append, List.length_append, List.length_cons, List.length_nil, List.length_take, List.length_drop, List.length_replicate, sizeLine_eq]); omega)
  k_with "call builtin:list.append" => (k_here; (with_reducible show wpAny _ _ (call (Value.builtin "list.append") [Value.ref _, _]) _ _ _); k_dflt (refine' append_K ?k1_z4 ?k2_z4 ?k3_z4 ?_ ?z_z4; (case k1_z4 => k_asm); (case k2_z4 => k_asm); (case k3_z4 => walk_at "mine upd"); (case z_z4 => walk_at "mine size"); k_whole); intro h' F' N'; (try k_sweep))
  k_with "mine updF" => first | (refine' UpdF.head ?a_z5; (case a_z5 => walk_at "mine off")) | (refine' UpdF.tail ?a_z5 ?b_z5; (case a_z5 => walk_at "mine ne"); (case b_z5 => walk_at "mine updF"))
  k_with "mine upd" => first | (refine' Upd.head ?a_z6; (case a_z6 => walk_at "mine off")) | (refine' Upd.tail ?a_z6 ?b_z6; (case a_z6 => walk_at "mine ne"); (case b_z6 => walk_at "mine upd")) | (refine' Mine.upd_app ?a_z6 ?b_z6; (case a_z6 => first | with_reducible assumption | exact Mine.off_kL (by with_reducible assumption)); (case b_z6 => walk_at "mine upd"))
  k_with "mine off" => first | exact List.forall_mem_nil _ | assumption | exact Mine.off_lt (by assumption) | exact Mine.off_gt (by assumption) | exact Mine.off_allLt (And.right (by assumption)) | (refine' List.forall_mem_cons.mpr ⟨?a_z7, ?b_z7⟩; (case a_z7 => walk_at "mine ne"); (case b_z7 => walk_at "mine off")) | (refine' List.forall_mem_append.mpr ⟨?a_z7, ?b_z7⟩; (case a_z7 => walk_at "mine off"); (case b_z7 => walk_at "mine off"))
  k_with "mine enter" => (refine' code_def ?k1_z8 ?k2_z8 ?k3_z8 ?k4_z8 ?k5_z8 ?kA_z8 ?kF_z8 ?kK_z8 ?k6_z8 ?k7_z8 ?k8_z8 ?k9_z8 ?kB_z8 ?_ ?c2_z8 ?c3_z8 ?c4_z8 ?c5_z8; (case kA_z8 => exact rfl); (case kF_z8 => exact rfl); (case kK_z8 => first | assumption | exact rfl); (case k1_z8 => k_asm); (case k2_z8 => k_asm); (case k3_z8 => k_asm); (case k4_z8 => k_asm); (case k5_z8 => k_asm); (case k6_z8 => k_is); (case k7_z8 => k_is); (case k8_z8 => ktr_room); (case k9_z8 => first | exact BindsTo.of_eq rfl | exact binds_K (by k_in) rfl (by k_is) rfl rfl rfl); (case c5_z8 => decide); (case kB_z8 => exact locs rfl); (case c2_z8 => exact rfl); (case c3_z8 => exact rfl); (case c4_z8 => exact rfl); k_whole; intro g' L' h' FG' F' N' B' X' T'; (try dsimp only); (try k_lift B'); (try k_fold))
  k_with "mine bnd" => first | with_reducible assumption | omega
  k_with "call builtin:len" => (k_here; (with_reducible show wpAny _ _ (call (Value.builtin "len") [Value.ref _]) _ _ _); k_dflt (refine' Mine.len_at ?N_z10 ?m_z10 ?v_z10 ?z_z10 ?_; (case N_z10 => k_asm); (case m_z10 => kcf_m); (case v_z10 => with_reducible assumption); (case z_z10 => omega); k_whole); intro t9 k9)
  k_with "subscriptTail" => (k_here; (with_reducible show wpAny _ _ (subscriptTail _ _ (Value.ref _) (Value.int _ _)) _ _ _); k_dflt (refine' Mine.item_at ?N_z11 ?m_z11 ?v_z11 ?h0_z11 ?h1_z11 ?h2_z11 ?_; (case N_z11 => k_asm); (case m_z11 => kcf_m); (case v_z11 => with_reducible assumption); (case h0_z11 => omega); (case h1_z11 => omega); (case h2_z11 => omega); k_whole); intro t9)
  k_with "mine room" => first | ktr_room | ktr_units | ((simp only [units_in1, units_deeper, Around.mark_units, units_caller]); first | decide | omega)
  k_with "newTuple" => (k_here; k_dflt (refine' kup_newTuple ?F_z13 ?N_z13 ?_ ?z_z13; (case F_z13 => k_asm); (case N_z13 => k_asm); (case z_z13 => kmk_size)); intro D' h' F' N' l1; (try k_lt l1); (try k_sweep))
  k_with "call builtin:len" => (k_here; (with_reducible show wpAny _ _ (call (Value.builtin "len") [Value.bytes _ _]) _ _ _); k_dflt (refine' KBw.len_K ?k1_z14 ?k2_z14 ?_; (case k1_z14 => with_reducible assumption); (case k2_z14 => omega); k_whole))
  k_with "call ref" => (k_here; (with_reducible show wpAny _ _ (call (Value.ref 58) [Value.int _ _]) _ _ _); k_dflt ((rename Mine.NbC _ _ _ _ _ _ _ _ _ => cNB); refine' Mine.Fun.use ?kC_z15 ?k1_z15 ?k2_z15 ?k3_z15 ?k4_z15 ?k5_z15 ?kK_z15 ?kd_z15 ?ku_z15 ?_; (case k2_z15 => k_asm); (case k4_z15 => k_asm); (case kC_z15 => (refine' cNB _ _ _ ?l1_z15 ?l2_z15; (case l1_z15 => omega); (case l2_z15 => omega))); ((case k1_z15 => k_asm); (case k3_z15 => k_asm); (case k5_z15 => k_asm); (case kK_z15 => first | exact rfl | assumption); (case kd_z15 => first | ktr_room | (simp only [depth_in1, depth_deeper, Around.mark_depth, depth_caller]; omega)); (case ku_z15 => walk_at "mine room")); k_whole); (intro r9 nw9 h' tk9 kR F' N'); (unfold Mine.NbOut at kR); (obtain ⟨b9, t9, e1, e2, kX⟩ := kR); (subst e1); (subst e2); (rw [Int.toNat_natCast] at kX))
  k_with "call ref" => (k_here; (with_reducible show wpAny _ _ (call (Value.ref 115) [Value.bytes _ _, Value.int _ _]) _ _ _); k_dflt ((rename Mine.TkC _ _ _ _ _ _ _ _ _ => cTK); refine' Mine.Fun.use ?kC_z16 ?k1_z16 ?k2_z16 ?k3_z16 ?k4_z16 ?k5_z16 ?kK_z16 ?kd_z16 ?ku_z16 ?_; (case k2_z16 => k_asm); (case k4_z16 => k_asm); (case kC_z16 => (refine' cTK _ _ _ _ _ ?l1_z16 ?l2_z16; (case l1_z16 => with_reducible assumption); (case l2_z16 => with_reducible assumption))); ((case k1_z16 => k_asm); (case k3_z16 => k_asm); (case k5_z16 => k_asm); (case kK_z16 => first | exact rfl | assumption); (case kd_z16 => first | ktr_room | (simp only [depth_in1, depth_deeper, Around.mark_depth, depth_caller]; omega)); (case ku_z16 => walk_at "mine room")); k_whole); (intro r9 nw9 h' tk9 kR F' N'); (unfold Mine.TkOut at kR); (obtain ⟨O9, vr9, cr9, tz9, ts9, e1, e2, l1, s4, s5, kD, kT⟩ := kR); (subst e1); (subst e2); (have kO := Mine.tk_all kT); (have kW := Mine.wrt_len _ kO); (have kS := Mine.sum_len kO); (have kS2 := And.right (And.right (And.right (And.right kT)))))
  k_with "call ref" => (k_here; (with_reducible show wpAny _ _ (call (Value.ref 129) [Value.ref _]) _ _ _); k_dflt ((rename Mine.WtC _ _ _ _ _ _ _ _ _ => cWT); refine' Mine.Fun.use ?kC_z17 ?k1_z17 ?k2_z17 ?k3_z17 ?k4_z17 ?k5_z17 ?kK_z17 ?kd_z17 ?ku_z17 ?_; (case k2_z17 => k_asm); (case k4_z17 => k_asm); (case kC_z17 => (refine' cWT _ _ _ _ _ ?l1_z17 ?l2_z17 ?l3_z17 ?l4_z17 ?l5_z17; (case l1_z17 => kcf_m); (case l2_z17 => (refine DatAll.mono ?_ (by with_reducible assumption); kcf_all)); (case l3_z17 => with_reducible assumption); (case l4_z17 => omega); (case l5_z17 => omega))); ((case k1_z17 => k_asm); (case k3_z17 => k_asm); (case k5_z17 => k_asm); (case kK_z17 => first | exact rfl | assumption); (case kd_z17 => first | ktr_room | (simp only [depth_in1, depth_deeper, Around.mark_depth, depth_caller]; omega)); (case ku_z17 => walk_at "mine room")); k_whole); (intro r9 nw9 h' tk9 kR F' N'); (unfold Mine.WtOut at kR); (obtain ⟨b9, t9, e1, e2, kX⟩ := kR); (subst e1); (subst e2))
  k_with "binaryOp Add bytes bytes" => (k_here; (with_reducible show wpAny _ _ (binaryOp Operator.Add (Value.bytes _ _) (Value.bytes _ _)) _ _ _); k_dflt (refine' KBa.add_K ?k1_z19 ?k2_z19 ?k3_z19 ?_; (case k1_z19 | k2_z19 => with_reducible assumption); (case k3_z19 => exact Mine.pa_size (by omega) (by omega)); k_whole); intro t9 k9 kA9)
  k_fill
  w_top off
  (
  unfold Mine.PaC
  intro b ns tb news hb hl
  unfold Mine.Fun
  intro dp un gd cn cs a ccd cl outer A₀ base h₀ L m s Q E B F X N T hk hd hu hret
  refine wpAny_call ?_
  k_dflt (walk_at "mine enter"))
  k_steps; all_goals exact Mine.pa_ret hret (by with_reducible assumption) (by with_reducible assumption) (by kcf_all) (by with_reducible assumption) (by with_reducible assumption)
set_option maxRecDepth 100000 in
set_option maxHeartbeats 8000000 in
theorem Mine.ub_ctr {w : World} {p : Program} {loose : List Str} {mean : ExcName → Option Value} {mg mb : Str → Option Value} (c1 : Mine.RnC 65 PySem.Challenge.rw_ui0507_18.row.prog w (Mine.hd.heap_39 w.params) p loose mean mg mb) (c2 : Mine.RtC 136 PySem.Challenge.rw_ui0507_18.row.prog w (Mine.hd.heap_39 w.params) p loose mean mg mb) (c3 : Mine.ExC 122 PySem.Challenge.rw_ui0507_18.row.prog w (Mine.hd.heap_39 w.params) p loose mean mg mb) : Mine.UpC 151 PySem.Challenge.rw_ui0507_18.row.prog w (Mine.hd.heap_39 w.params) p loose mean mg mb := by
  k_with_none
  k_with "mine ne" => ((try dsimp only); first | assumption | k_ne | (refine Ne.symm ?_; assumption))
  k_with "mine off" => first | exact List.forall_mem_nil _ | assumption | exact Mine.off_lt (by assumption) | exact Mine.off_gt (by assumption) | (refine' List.forall_mem_cons.mpr ⟨?a_z1, ?b_z1⟩; (case a_z1 => walk_at "mine ne"); (case b_z1 => walk_at "mine off")) | (refine' List.forall_mem_append.mpr ⟨?a_z1, ?b_z1⟩; (case a_z1 => walk_at "mine off"); (case b_z1 => walk_at "mine off"))
  k_with "mine upd" => first | (refine' Upd.head ?a_z2; (case a_z2 => walk_at "mine off")) | (refine' Upd.tail ?a_z2 ?b_z2; (case a_z2 => walk_at "mine ne"); (case b_z2 => walk_at "mine upd"))
  k_with "mine size" => ((try law_lens); (simp only [List.size_toArray, Array.size_push, Array.size_append, List.length_append, List.length_cons, List.length_nil, List.length_take, List.length_drop, List.length_replicate, sizeLine_eq]); omega)
  k_with "call builtin:list.append" => (k_here; (with_reducible show wpAny _ _ (call (Value.builtin "list.append") [Value.ref _, _]) _ _ _); k_dflt (refine' append_K ?k1_z4 ?k2_z4 ?k3_z4 ?_ ?z_z4; (case k1_z4 => k_asm); (case k2_z4 => k_asm); (case k3_z4 => walk_at "mine upd"); (case z_z4 => walk_at "mine size"); k_whole); intro h' F' N'; (try k_sweep))
  k_with "mine updF" => first | (refine' UpdF.head ?a_z5; (case a_z5 => walk_at "mine off")) | (refine' UpdF.tail ?a_z5 ?b_z5; (case a_z5 => walk_at "mine ne"); (case b_z5 => walk_at "mine updF"))
  k_with "mine upd" => first | (refine' Upd.head ?a_z6; (case a_z6 => walk_at "mine off")) | (refine' Upd.tail ?a_z6 ?b_z6; (case a_z6 => walk_at "mine ne"); (case b_z6 => walk_at "mine upd")) | (refine' Mine.upd_app ?a_z6 ?b_z6; (case a_z6 => first | with_reducible assumption | exact Mine.off_kL (by with_reducible assumption)); (case b_z6 => walk_at "mine upd"))
  k_with "mine off" => first | exact List.forall_mem_nil _ | assumption | exact Mine.off_lt (by assumption) | exact Mine.off_gt (by assumption) | exact Mine.off_allLt (And.right (by assumption)) | (refine' List.forall_mem_cons.mpr ⟨?a_z7, ?b_z7⟩; (case a_z7 => walk_at "mine ne"); (case b_z7 => walk_at "mine off")) | (refine' List.forall_mem_append.mpr ⟨?a_z7, ?b_z7⟩; (case a_z7 => walk_at "mine off"); (case b_z7 => walk_at "mine off"))
  k_with "mine enter" => (refine' code_def ?k1_z8 ?k2_z8 ?k3_z8 ?k4_z8 ?k5_z8 ?kA_z8 ?kF_z8 ?kK_z8 ?k6_z8 ?k7_z8 ?k8_z8 ?k9_z8 ?kB_z8 ?_ ?c2_z8 ?c3_z8 ?c4_z8 ?c5_z8; (case kA_z8 => exact rfl); (case kF_z8 => exact rfl); (case kK_z8 => first | assumption | exact rfl); (case k1_z8 => k_asm); (case k2_z8 => k_asm); (case k3_z8 => k_asm); (case k4_z8 => k_asm); (case k5_z8 => k_asm); (case k6_z8 => k_is); (case k7_z8 => k_is); (case k8_z8 => ktr_room); (case k9_z8 => first | exact BindsTo.of_eq rfl | exact binds_K (by k_in) rfl (by k_is) rfl rfl rfl); (case c5_z8 => decide); (case kB_z8 => exact locs rfl); (case c2_z8 => exact rfl); (case c3_z8 => exact rfl); (case c4_z8 => exact rfl); k_whole; intro g' L' h' FG' F' N' B' X' T'; (try dsimp only); (try k_lift B'); (try k_fold))
  k_with "mine bnd" => first | with_reducible assumption | omega
  k_with "call builtin:len" => (k_here; (with_reducible show wpAny _ _ (call (Value.builtin "len") [Value.ref _]) _ _ _); k_dflt (refine' Mine.len_at ?N_z10 ?m_z10 ?v_z10 ?z_z10 ?_; (case N_z10 => k_asm); (case m_z10 => kcf_m); (case v_z10 => with_reducible assumption); (case z_z10 => omega); k_whole); intro t9 k9)
  k_with "subscriptTail" => (k_here; (with_reducible show wpAny _ _ (subscriptTail _ _ (Value.ref _) (Value.int _ _)) _ _ _); k_dflt (refine' Mine.item_at ?N_z11 ?m_z11 ?v_z11 ?h0_z11 ?h1_z11 ?h2_z11 ?_; (case N_z11 => k_asm); (case m_z11 => kcf_m); (case v_z11 => with_reducible assumption); (case h0_z11 => omega); (case h1_z11 => omega); (case h2_z11 => omega); k_whole); intro t9)
  k_with "mine room" => first | ktr_room | ktr_units | ((simp only [units_in1, units_deeper, Around.mark_units, units_caller]); first | decide | omega)
  k_with "newTuple" => (k_here; k_dflt (refine' kup_newTuple ?F_z13 ?N_z13 ?_ ?z_z13; (case F_z13 => k_asm); (case N_z13 => k_asm); (case z_z13 => kmk_size)); intro D' h' F' N' l1; (try k_lt l1); (try k_sweep))
  k_with "call ref" => (k_here; (with_reducible show wpAny _ _ (call (Value.ref 65) [Value.bytes _ _, Value.int _ _]) _ _ _); k_dflt ((rename Mine.RnC _ _ _ _ _ _ _ _ _ => cRN); refine' Mine.Fun.use ?kC_z14 ?k1_z14 ?k2_z14 ?k3_z14 ?k4_z14 ?k5_z14 ?kK_z14 ?kd_z14 ?ku_z14 ?_; (case k2_z14 => k_asm); (case k4_z14 => k_asm); (case kC_z14 => (refine' cRN _ _ _ _ 0 _ _ _ _ ?l1_z14 ?l2_z14 ?l3_z14 ?l4_z14 ?l5_z14; (case l1_z14 => with_reducible assumption); (case l2_z14 => exact rfl); (case l3_z14 => exact rfl); (case l4_z14 => omega); (case l5_z14 => exact Mine.ub_size (by omega) (by omega)))); ((case k1_z14 => k_asm); (case k3_z14 => k_asm); (case k5_z14 => k_asm); (case kK_z14 => first | exact rfl | assumption); (case kd_z14 => first | ktr_room | (simp only [depth_in1, depth_deeper, Around.mark_depth, depth_caller]; omega)); (case ku_z14 => walk_at "mine room")); k_whole); (intro r9 nw9 h' tk9 kR F' N'); (unfold Mine.RnOut at kR); (obtain ⟨T9, x9, y9, t1, t2, e1, e2, lT, e3, e4⟩ := kR); (subst e1); (subst e2); (subst e3); (subst e4))
  k_with "subscriptTail" => (k_here; (with_reducible show wpAny _ _ (subscriptTail _ (Expr.Slice _ none none _) (Value.bytes _ _) (Value.ref _)) _ _ _); (rename Fr _ _ _ _ => F'); (rename News _ _ _ _ => N'); (refine KBc.slice_K (s := ⟨_, _, _, _, _⟩) F' N' (by with_reducible assumption) (by constructor) (by constructor) (Nat.le_trans (Mine.ub_size (by omega) (by omega)) (by decide)) ?_); intro _ _ _ _ _ kbcK; (have kbc2 := Mine.up_cut kbcK rfl rfl); (clear kbcK))
  k_with "call ref" => (k_here; (with_reducible show wpAny _ _ (call (Value.ref 136) [Value.bytes _ _, Value.int _ _]) _ _ _); k_dflt ((rename Mine.RtC _ _ _ _ _ _ _ _ _ => cRT); refine' Mine.Fun.use ?kC_z16 ?k1_z16 ?k2_z16 ?k3_z16 ?k4_z16 ?k5_z16 ?kK_z16 ?kd_z16 ?ku_z16 ?_; (case k2_z16 => k_asm); (case k4_z16 => k_asm); (case kC_z16 => (refine' cRT _ _ _ _ _ _ _ ?l1_z16 ?l2_z16 ?l3_z16 ?l4_z16 ?l5_z16 ?l6_z16; (case l1_z16 => with_reducible assumption); (case l2_z16 => exact rfl); (case l3_z16 => with_reducible assumption); (case l4_z16 => with_reducible assumption); (case l5_z16 => omega); (case l6_z16 => omega))); ((case k1_z16 => k_asm); (case k3_z16 => k_asm); (case k5_z16 => k_asm); (case kK_z16 => first | exact rfl | assumption); (case kd_z16 => first | ktr_room | (simp only [depth_in1, depth_deeper, Around.mark_depth, depth_caller]; omega)); (case ku_z16 => walk_at "mine room")); k_whole); (intro r9 nw9 h' tk9 kR F' N'); (unfold Mine.RtOut at kR); (obtain ⟨O9, vr9, cr9, tz9, e1, e2, kD⟩ := kR); (subst e1); (subst e2))
  k_with "call ref" => (k_here; (with_reducible show wpAny _ _ (call (Value.ref 122) [Value.ref _]) _ _ _); k_dflt ((rename Mine.ExC _ _ _ _ _ _ _ _ _ => cEX); refine' Mine.Fun.use ?kC_z17 ?k1_z17 ?k2_z17 ?k3_z17 ?k4_z17 ?k5_z17 ?kK_z17 ?kd_z17 ?ku_z17 ?_; (case k2_z17 => k_asm); (case k4_z17 => k_asm); (case kC_z17 => (refine' cEX _ _ _ _ _ _ ?l1_z17 ?l2_z17 ?l3_z17 ?l4_z17 ?l5_z17 ?l6_z17; (case l1_z17 => kcf_m); (case l2_z17 => (refine DatAll.mono ?_ (by with_reducible assumption); kcf_all)); (case l3_z17 => with_reducible assumption); (case l4_z17 => with_reducible assumption); (case l5_z17 => with_reducible assumption); (case l6_z17 => omega))); ((case k1_z17 => k_asm); (case k3_z17 => k_asm); (case k5_z17 => k_asm); (case kK_z17 => first | exact rfl | assumption); (case kd_z17 => first | ktr_room | (simp only [depth_in1, depth_deeper, Around.mark_depth, depth_caller]; omega)); (case ku_z17 => walk_at "mine room")); k_whole); (intro r9 nw9 h' tk9 kR F' N'); (unfold Mine.ExOut at kR); (obtain ⟨b9, t9, e1, e2, kX⟩ := kR); (subst e1); (subst e2))
  k_fill
  w_top off
  (
  unfold Mine.UpC
  intro b ns ts tb news hb hT hI hl
  have kO := Mine.tk_all hT
  have kW := Mine.wrt_len _ kO
  have kS := Mine.sum_len kO
  have kS2 : Mine.sumL ts = ns.length := hT.2.2.2.2
  have kE := Mine.tk_exp hT
  have kA : Mine.okAll [] ts := hT.2.1
  unfold Mine.Fun
  intro dp un gd cn cs a ccd cl outer A₀ base h₀ L m s Q E B F X N T hk hd hu hret
  refine wpAny_call ?_
  k_dflt (walk_at "mine enter"))
  k_steps; all_goals exact Mine.ex_ret hret (by with_reducible assumption) (by with_reducible assumption) (by kcf_all) (by with_reducible assumption)
theorem Mine.pa_all {w : World} {p : Program} {loose : List Str} {mean : ExcName → Option Value} {mg mb : Str → Option Value} : Mine.PaC 144 PySem.Challenge.rw_ui0507_18.row.prog w (Mine.hd.heap_39 w.params) p loose mean mg mb := Mine.pa_ctr Mine.nb_ctr (Mine.tk_ctr (Mine.be_ctr Mine.cm_ctr) Mine.aa_ctr) (Mine.wt_ctr Mine.nb_ctr)
theorem Mine.ub_all {w : World} {p : Program} {loose : List Str} {mean : ExcName → Option Value} {mg mb : Str → Option Value} : Mine.UpC 151 PySem.Challenge.rw_ui0507_18.row.prog w (Mine.hd.heap_39 w.params) p loose mean mg mb := Mine.ub_ctr Mine.rn_ctr (Mine.rt_ctr Mine.rn_ctr) Mine.ex_ctr
set_option maxRecDepth 100000 in
set_option maxHeartbeats 8000000 in
theorem PySem.Challenge.cw_ui0507_18_holds : PySem.Challenge.rw_ui0507_18.Holds :=
  Mine.hd (by
  k_with_none
  k_with "mine ne" => ((try dsimp only); first | assumption | k_ne | (refine Ne.symm ?_; assumption))
  k_with "mine off" => first | exact List.forall_mem_nil _ | assumption | exact Mine.off_lt (by assumption) | exact Mine.off_gt (by assumption) | (refine' List.forall_mem_cons.mpr ⟨?a_z1, ?b_z1⟩; (case a_z1 => walk_at "mine ne"); (case b_z1 => walk_at "mine off")) | (refine' List.forall_mem_append.mpr ⟨?a_z1, ?b_z1⟩; (case a_z1 => walk_at "mine off"); (case b_z1 => walk_at "mine off"))
  k_with "mine upd" => first | (refine' Upd.head ?a_z2; (case a_z2 => walk_at "mine off")) | (refine' Upd.tail ?a_z2 ?b_z2; (case a_z2 => walk_at "mine ne"); (case b_z2 => walk_at "mine upd"))
  k_with "mine size" => ((try law_lens); (simp only [List.size_toArray, Array.size_push, Array.size_append, List.length_append, List.length_cons, List.length_nil, List.length_take, List.length_drop, List.length_replicate, sizeLine_eq]); omega)
  k_with "call builtin:list.append" => (k_here; (with_reducible show wpAny _ _ (call (Value.builtin "list.append") [Value.ref _, _]) _ _ _); k_dflt (refine' append_K ?k1_z4 ?k2_z4 ?k3_z4 ?_ ?z_z4; (case k1_z4 => k_asm); (case k2_z4 => k_asm); (case k3_z4 => walk_at "mine upd"); (case z_z4 => walk_at "mine size"); k_whole); intro h' F' N'; (try k_sweep))
  k_with "mine updF" => first | (refine' UpdF.head ?a_z5; (case a_z5 => walk_at "mine off")) | (refine' UpdF.tail ?a_z5 ?b_z5; (case a_z5 => walk_at "mine ne"); (case b_z5 => walk_at "mine updF"))
  k_with "mine upd" => first | (refine' Upd.head ?a_z6; (case a_z6 => walk_at "mine off")) | (refine' Upd.tail ?a_z6 ?b_z6; (case a_z6 => walk_at "mine ne"); (case b_z6 => walk_at "mine upd")) | (refine' Mine.upd_app ?a_z6 ?b_z6; (case a_z6 => first | with_reducible assumption | exact Mine.off_kL (by with_reducible assumption)); (case b_z6 => walk_at "mine upd"))
  k_with "mine off" => first | exact List.forall_mem_nil _ | assumption | exact Mine.off_lt (by assumption) | exact Mine.off_gt (by assumption) | exact Mine.off_allLt (And.right (by assumption)) | (refine' List.forall_mem_cons.mpr ⟨?a_z7, ?b_z7⟩; (case a_z7 => walk_at "mine ne"); (case b_z7 => walk_at "mine off")) | (refine' List.forall_mem_append.mpr ⟨?a_z7, ?b_z7⟩; (case a_z7 => walk_at "mine off"); (case b_z7 => walk_at "mine off"))
  k_with "mine enter" => (refine' code_def ?k1_z8 ?k2_z8 ?k3_z8 ?k4_z8 ?k5_z8 ?kA_z8 ?kF_z8 ?kK_z8 ?k6_z8 ?k7_z8 ?k8_z8 ?k9_z8 ?kB_z8 ?_ ?c2_z8 ?c3_z8 ?c4_z8 ?c5_z8; (case kA_z8 => exact rfl); (case kF_z8 => exact rfl); (case kK_z8 => first | assumption | exact rfl); (case k1_z8 => k_asm); (case k2_z8 => k_asm); (case k3_z8 => k_asm); (case k4_z8 => k_asm); (case k5_z8 => k_asm); (case k6_z8 => k_is); (case k7_z8 => k_is); (case k8_z8 => ktr_room); (case k9_z8 => first | exact BindsTo.of_eq rfl | exact binds_K (by k_in) rfl (by k_is) rfl rfl rfl); (case c5_z8 => decide); (case kB_z8 => exact locs rfl); (case c2_z8 => exact rfl); (case c3_z8 => exact rfl); (case c4_z8 => exact rfl); k_whole; intro g' L' h' FG' F' N' B' X' T'; (try dsimp only); (try k_lift B'); (try k_fold))
  k_with "mine bnd" => first | with_reducible assumption | omega
  k_with "call builtin:len" => (k_here; (with_reducible show wpAny _ _ (call (Value.builtin "len") [Value.ref _]) _ _ _); k_dflt (refine' Mine.len_at ?N_z10 ?m_z10 ?v_z10 ?z_z10 ?_; (case N_z10 => k_asm); (case m_z10 => kcf_m); (case v_z10 => with_reducible assumption); (case z_z10 => omega); k_whole); intro t9 k9)
  k_with "subscriptTail" => (k_here; (with_reducible show wpAny _ _ (subscriptTail _ _ (Value.ref _) (Value.int _ _)) _ _ _); k_dflt (refine' Mine.item_at ?N_z11 ?m_z11 ?v_z11 ?h0_z11 ?h1_z11 ?h2_z11 ?_; (case N_z11 => k_asm); (case m_z11 => kcf_m); (case v_z11 => with_reducible assumption); (case h0_z11 => omega); (case h1_z11 => omega); (case h2_z11 => omega); k_whole); intro t9)
  k_with "mine room" => first | ktr_room | ktr_units | ((simp only [units_in1, units_deeper, Around.mark_units, units_caller]); first | decide | omega)
  k_with "newTuple" => (k_here; k_dflt (refine' kup_newTuple ?F_z13 ?N_z13 ?_ ?z_z13; (case F_z13 => k_asm); (case N_z13 => k_asm); (case z_z13 => kmk_size)); intro D' h' F' N' l1; (try k_lt l1); (try k_sweep))
  k_with "call ref" => (k_here; (with_reducible show wpAny _ _ (call (Value.ref _) _) _ _ _); refine wpAny_call ?_; k_dflt (walk_at "mine enter"))
  k_with "call type:bytes" => (k_here; (with_reducible show wpAny _ _ (call (Value.type "bytes") [Value.ref _]) _ _ _); (try simp only [Mine.flat_one] at *); k_dflt (refine' Mine.mk_data ?kbaF_z15 ?kbaN_z15 ?kbah_z15 ?kbal_z15 ?kbai_z15 ?kbar_z15 ?kban_z15 ?_; (case kbaF_z15 => k_asm); (case kbaN_z15 => k_asm); (case kbah_z15 => rfl); (case kbal_z15 => kba_isList); (case kbai_z15 => kba_listInts); (case kbar_z15 => repeat' (first | refine Mine.in_app ?_ ?_ | refine Mine.in_rep (by l_fact) (by l_fact))); (case kban_z15 => (simp only [List.length_append, List.length_replicate]; l_fact)); k_whole); intro b9 ks9 h' t' k' F' N' kB9 kI9 kL9)
  k_with "binaryOp Mult bytes int" => (k_here; (with_reducible show wpAny _ _ (binaryOp Operator.Mult (Value.bytes _ _) (Value.int _ _)) _ _ _); k_dflt (refine' Mine.mul_times ?k1_z16 ?k2_z16 ?k3_z16 ?k4_z16 ?_; (case k1_z16 => with_reducible assumption); (case k2_z16 | k3_z16 => l_fact); (case k4_z16 => omega); k_whole); intro b9 t9 k9 kM9)
  k_with "call ref" => (k_here; (with_reducible show wpAny _ _ (call (Value.ref 144) [Value.bytes _ _]) _ _ _); k_dflt ((rename Mine.PaC _ _ _ _ _ _ _ _ _ => cPA); refine' Mine.Fun.use ?kC_z17 ?k1_z17 ?k2_z17 ?k3_z17 ?k4_z17 ?k5_z17 ?kK_z17 ?kd_z17 ?ku_z17 ?_; (case k2_z17 => k_asm); (case k4_z17 => k_asm); (case kC_z17 => (refine' cPA _ _ _ _ ?l1_z17 ?l2_z17; (case l1_z17 => with_reducible assumption); (case l2_z17 => exact Mine.rep_len (by l_fact) (by with_reducible assumption)))); ((case k1_z17 => k_asm); (case k3_z17 => k_asm); (case k5_z17 => k_asm); (case kK_z17 => first | exact rfl | assumption); (case kd_z17 => first | ktr_room | decide | ((simp only [depth_in1, depth_deeper, Around.mark_depth, depth_caller, depth_under_make]); first | decide | omega)); (case ku_z17 => first | ((simp only [units_in1, units_deeper, Around.mark_units, units_caller, units_under_make]); decide) | ktr_room | decide | ktr_units)); k_whole); (intro r9 nw9 h' tk9 kR F' N'); (unfold Mine.PaOut at kR); (obtain ⟨b9, t9, ts9, e1, e2, kX, kT⟩ := kR); (subst e1); (subst e2))
  k_with "call ref" => (k_here; (with_reducible show wpAny _ _ (call (Value.ref 151) [Value.bytes _ _]) _ _ _); k_dflt ((rename Mine.UpC _ _ _ _ _ _ _ _ _ => cUP); refine' Mine.Fun.use ?kC_z18 ?k1_z18 ?k2_z18 ?k3_z18 ?k4_z18 ?k5_z18 ?kK_z18 ?kd_z18 ?ku_z18 ?_; (case k2_z18 => k_asm); (case k4_z18 => k_asm); (case kC_z18 => (refine' cUP _ _ _ _ _ ?l1_z18 ?l2_z18 ?l3_z18 ?l4_z18; (case l1_z18 => with_reducible assumption); (case l2_z18 => with_reducible assumption); (case l3_z18 => exact Mine.rep_in (by with_reducible assumption)); (case l4_z18 => exact Mine.rep_len (by l_fact) (by with_reducible assumption)))); ((case k1_z18 => k_asm); (case k3_z18 => k_asm); (case k5_z18 => k_asm); (case kK_z18 => first | exact rfl | assumption); (case kd_z18 => first | ktr_room | decide | ((simp only [depth_in1, depth_deeper, Around.mark_depth, depth_caller, depth_under_make]); first | decide | omega)); (case ku_z18 => first | ((simp only [units_in1, units_deeper, Around.mark_units, units_caller, units_under_make]); decide) | ktr_room | decide | ktr_units)); k_whole); (intro r9 nw9 h' tk9 kR F' N'); (unfold Mine.ExOut at kR); (obtain ⟨b9, t9, e1, e2, kX⟩ := kR); (subst e1); (subst e2))
  k_with "compareOp Eq bytes bytes" => (k_here; k_dflt (refine' Mine.eq_bytesT ?k1_z19 ?k2_z19 ?_; (case k1_z19 => with_reducible assumption); (case k2_z19 => with_reducible assumption); k_whole))
  w_strict (k_go0; (all_goals try k_fold); (refine Mine.bring (fun prog w K p loose mean mg mb => Mine.PaC 144 prog w K p loose mean mg mb ∧ Mine.UpC 151 prog w K p loose mean mg mb) (by assumption) (by assumption) ?ctr ?_); (case ctr => exact ⟨Mine.pa_all, Mine.ub_all⟩); intro cW0; (obtain ⟨cPA0, cUP0⟩ := cW0); k_steps; (all_goals (try k_data)); all_goals w_report))
