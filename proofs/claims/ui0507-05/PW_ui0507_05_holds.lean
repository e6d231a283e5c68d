import PyProof.Rows.All
import Wide.All
import OpenK.AllK
import Wide.FinOn
import PySem.Challenge.RW_ui0507_05
open PySem PySem.W PyProof.Rows PySem.Spec PySem.Calls
set_option Elab.async false
set_option compiler.extract_closed false
namespace Mine
/-- what a def does, wherever it is called: from the ledger news and the arguments vs it comes back with r and the ledger news' that R tells -/
def Fun (prog : Program) (w : World) (K : Frag) (p : Program) (loose : List Str) (mean : ExcName → Option Value) (mg mb : Str → Option Value) (k : Nat) (f : Addr) (vs : List Value) (news : List (Addr × Obj)) (R : Value → List (Addr × Obj) → Prop) : Prop :=
  ∀ (dp un : Nat) (gd : Option (List Code)) (cn : Str) (cs : Scope) (a : Addr) (ccd : Value) (cl : List (Str × Addr)) (outer : List Env) (A₀ : Around) (base h₀ : Heap) (L : Addr) (m : Str → Option Value) (s : Shared) (Q E : Value → Shared → Prop),
    Below A₀ base outer h₀ → Fr h₀ L s.heap m → K.In h₀ → News h₀ L s.heap news → Top p loose mean mg mb h₀ → cs.kind = .function → dp + k < recursionLimit → un + 8 * k < cLine →
    (∀ r news' h' tk', R r news' → Fr h₀ L h' m → News h₀ L h' news' → Q r { s with heap := h', toks := tk' }) →
    wpAny (model prog w) (ktrTop dp un gd cn cs L a ccd cl outer) (call (.ref f) vs) Q E s
theorem bring {α : Type} {prog : Program} {w : World} {A : Around} {tree : Sem α} {Q : α → Shared → Prop} {E : Value → Shared → Prop} {s : Shared} {K : Frag} {h₀ : Heap} {p : Program} {loose : List Str} {mean : ExcName → Option Value} {mg mb : Str → Option Value}
    (C : Program → World → Frag → Program → List Str → (ExcName → Option Value) → (Str → Option Value) → (Str → Option Value) → Prop) (_X : K.In h₀) (_T : Top p loose mean mg mb h₀) (ctr : C prog w K p loose mean mg mb) (h : C prog w K p loose mean mg mb → wpAny (model prog w) A tree Q E s) : wpAny (model prog w) A tree Q E s := h ctr
section
variable {prog : Program} {w : World} {A : Around} {E : Value → Shared → Prop} {s : Shared} {env : Env} {h₀ : Heap} {target : Expr} {body : List Stmt} {Q : Flow → Shared → Prop}
/-- a for over a list of the ledger's, its target whatever it is -/
theorem turns_list {l : Addr} {vs : List Value} {nn : Nat} {m₀ : Str → Option Value} {news : List (Addr × Obj)} (J : Nat → (Str → Option Value) → List (Addr × Obj) → Prop)
    (hh : A.handled = none) (hl : (l, listOf vs.toArray nn) ∈ news) (F : Fr h₀ env.locals s.heap m₀) (N : News h₀ env.locals s.heap news) (hj : J 0 m₀ news) (hJl : ∀ i m nx, J i m nx → (l, listOf vs.toArray nn) ∈ nx)
    (turn : ∀ i v m₁ news₁ h tk own, vs[i]? = some v → OwnOff own (news₁.map (·.1)) → J i m₁ news₁ → Fr h₀ env.locals h m₁ → News h₀ env.locals h (news₁ ++ own) →
      wpAny (model prog w) A (assign target env v) (fun _ s₃ => wpAny (model prog w) A (execs body env) (InvPostG h₀ env.locals (J (i + 1)) own { s with heap := h, toks := tk } Q) E s₃) E { s with heap := h, toks := tk })
    (done : ∀ m₁ news₁ h tk, J vs.length m₁ news₁ → Fr h₀ env.locals h m₁ → News h₀ env.locals h news₁ → Q .next { s with heap := h, toks := tk }) :
    wpAny (model prog w) A (pyIter (.ref l)) (fun it s₂ => TurnsAt prog w A h₀ env target body Q E it s₂) E s := by
  have hol : s.heap.get? l = some (listOf vs.toArray nn) := (N _ hl).1
  have hls : s.heap.IsList l vs.toArray := ⟨_, hol, rfl, nn, rfl⟩
  have hne : l ≠ s.heap.objs.size := Nat.ne_of_lt (Heap.lt_size hol)
  refine wpAny_pyIter_list hls ?_
  have W := Walks.list (prog := prog) (w := w) hh s.heap.objs.size l hne vs.toArray
  have hlen : vs.toArray.size = vs.length := by simp
  rw [hlen] at W
  refine ⟨_, _, _, vs.length, _, _, _, m₀, news, J, rfl, KTurns.ofWalks W fun i v s Q E st q => letGo_listiter st.1 q, ?_, ?_, ?_, ⟨⟨_, Heap.get?_push_size _ rfl, rfl, rfl⟩, hls.at fun o e => Heap.get?_push_of_some _ e⟩, F.push _, (fun p hp => ⟨Heap.get?_push_of_some _ (N p hp).1, (N p hp).2⟩), hj, ?_, ?_⟩
  · intro hm
    rcases List.mem_cons.mp hm with e | hm
    · exact absurd F.ns.lt (e ▸ Nat.lt_irrefl _)
    · exact (N _ hl).2.1 ((List.mem_singleton.mp hm).symm)
  · intro b hb
    rw [List.mem_singleton.mp hb]
    exact next_is_new F
  · intro p hp hI
    exact absurd (Heap.lt_size (N p hp).1) ((List.mem_singleton.mp hI) ▸ Nat.lt_irrefl _)
  · intro i v m₁ news₁ hh' tk' own hin hP hJ hoff hown hget hfp hst F₁ N₁
    have hl₁ := hJl _ _ _ hJ
    have hP' : vs[i]? = some v := by simpa using hP
    have hI0 : h₀.get? s.heap.objs.size = none := next_is_new F
    obtain ⟨⟨oI, hoI, _⟩, _⟩ := id hst
    have hIown : (s.heap.objs.size, oI) ∈ own.filter fun p => decide (p.1 = s.heap.objs.size) := List.mem_filter.mpr ⟨hfp _ (List.mem_cons.mpr (.inl rfl)) hI0 _ hoI, by simp⟩
    have hsep : OwnOff (own.filter fun p => decide (p.1 = s.heap.objs.size)) (news₁.map (·.1)) := by
      intro p hp b hb e
      obtain ⟨q, hq, rfl⟩ := List.mem_map.mp hb
      have h1 : p.1 = s.heap.objs.size := by simpa using (List.mem_filter.mp hp).2
      exact hoff q hq (List.mem_singleton.mpr (e ▸ h1))
    have N₂ : News h₀ env.locals hh' (news₁ ++ own.filter fun p => decide (p.1 = s.heap.objs.size)) := fun p hp => N₁ p ((List.mem_append.mp hp).elim (fun h => List.mem_append.mpr (.inr h)) fun h => List.mem_append.mpr (.inl ((List.mem_filter.mp h).1)))
    have hlo : hh'.get? l = some (listOf vs.toArray nn) := (N₁ _ (List.mem_append.mpr (.inr hl₁))).1
    refine wpAny_mono (turn i v m₁ news₁ hh' tk' _ hP' hsep hJ F₁ N₂) (fun _ s₃ p3 => wpAny_mono p3 (fun f s₂ p => ?_) fun _ _ e => e) fun _ _ e => e
    have fin : InvEndG h₀ env.locals (J (i + 1)) (own.filter fun p => decide (p.1 = s.heap.objs.size)) { s with heap := hh', toks := tk' } s₂ →
        LoopStepU h₀ env.locals [s.heap.objs.size] own (J (i + 1)) { s with heap := hh', toks := tk' } .next s₂ := by
      rintro ⟨h', tk, m', news', nx, e, F', N', hn, ho, ha, hm⟩
      refine ⟨rfl, h', tk, m', nx, e, F', fun p hp => ?_, fun p hp hq => ?_, hm⟩
      · rcases List.mem_append.mp hp with h | h
        · by_cases hI : p.1 = s.heap.objs.size
          · exact N' p (ho p (List.mem_filter.mpr ⟨h, by simpa using hI⟩))
          · have h1 : p.1 = l := by
              rcases List.mem_cons.mp (hown p h) with h2 | h2
              · exact absurd h2 hI
              · exact List.mem_singleton.mp h2
            have h2 : hh'.get? p.1 = some p.2 := hget p h
            rw [h1, hlo] at h2
            have h3 : p = (l, listOf vs.toArray nn) := Prod.ext h1 (Option.some.inj h2).symm
            rw [h3]
            exact N' _ (hn _ (hJl _ _ _ hm))
        · exact N' p (hn p h)
      · exact ha _ hIown p.1 (List.mem_map.mpr ⟨p, hp, rfl⟩) (List.mem_singleton.mp hq).symm
    cases f with
    | ret v => exact p
    | brk => exact p
    | next => exact fin p
    | cont => exact fin p
  · rintro h' tk m' news' F' N' _ hJ
    exact done m' news' h' tk hJ F' N'
end
section
variable {prog : Program} {w : World} {K : Frag} {p : Program} {loose : List Str} {mean : ExcName → Option Value} {mg mb : Str → Option Value} {k : Nat} {f : Addr} {vs : List Value} {news : List (Addr × Obj)} {R : Value → List (Addr × Obj) → Prop}
theorem Fun.use {dp un : Nat} {gd : Option (List Code)} {cn : Str} {cs : Scope} {a : Addr} {ccd : Value} {cl : List (Str × Addr)} {outer : List Env} {A₀ : Around} {base h₀ : Heap} {L : Addr} {m : Str → Option Value} {s : Shared} {Q E : Value → Shared → Prop}
    (C : Fun prog w K p loose mean mg mb k f vs news R) (B : Below A₀ base outer h₀) (F : Fr h₀ L s.heap m) (X : K.In h₀) (N : News h₀ L s.heap news) (T : Top p loose mean mg mb h₀) (hk : cs.kind = .function) (hd : dp + k < recursionLimit) (hu : un + 8 * k < cLine)
    (ret : ∀ r news' h' tk', R r news' → Fr h₀ L h' m → News h₀ L h' news' → Q r { s with heap := h', toks := tk' }) :
    wpAny (model prog w) (ktrTop dp un gd cn cs L a ccd cl outer) (call (.ref f) vs) Q E s := C _ _ _ _ _ _ _ _ _ _ _ _ _ _ _ _ _ B F X N T hk hd hu ret
end
/-- the ledger with o at O -/
def put (O : Addr) (o : Obj) (news : List (Addr × Obj)) : List (Addr × Obj) := news.map fun p => if p.1 = O then (O, o) else p
theorem put_nil {O : Addr} {o : Obj} : put O o [] = [] := rfl
theorem put_hit {O : Addr} {o o' : Obj} {r : List (Addr × Obj)} : put O o ((O, o') :: r) = (O, o) :: put O o r := by simp [put]
theorem put_miss {O : Addr} {o : Obj} {q : Addr × Obj} {r : List (Addr × Obj)} (h : q.1 ≠ O) : put O o (q :: r) = q :: put O o r := by simp [put, h]
theorem put_off {O : Addr} {o : Obj} {r : List (Addr × Obj)} (h : ∀ q ∈ r, q.1 ≠ O) : put O o r = r := by
  induction r with
  | nil => rfl
  | cons q r ih => rw [put_miss (h q (.head _)), ih fun x hx => h x (.tail _ hx)]
theorem mem_put {O : Addr} {o : Obj} {news : List (Addr × Obj)} {q : Addr × Obj} (h : q ∈ put O o news) : q = (O, o) ∨ (q.1 ≠ O ∧ q ∈ news) := by
  obtain ⟨x, hx, rfl⟩ := List.mem_map.mp h
  by_cases e : x.1 = O
  · rw [if_pos e]; exact .inl rfl
  · rw [if_neg e]; exact .inr ⟨e, hx⟩
section
variable {prog : Program} {w : World} {A : Around} {E : Value → Shared → Prop} {s : Shared} {h₀ : Heap} {L D b : Addr} {m : Str → Option Value} {news : List (Addr × Obj)} {its its2 : Array Value} {n n2 : Nat}
/-- extend by a list of the ledger's -/
theorem extend_U {g : Obj → List (Addr × Obj)} {Q : Value → Shared → Prop} (F : Fr h₀ L s.heap m) (N : News h₀ L s.heap news) (hb : (b, listOf its2 n2) ∈ news) (U : UpdF D (listOf its n) news g) (hz : its.size + its2.size ≤ sizeLine)
    (h : ∀ h' n', Fr h₀ L h' m → News h₀ L h' (g (listOf (its ++ its2) n')) → Q .none { s with heap := h' }) : wpAny (model prog w) A (call (.builtin "list.extend") [.ref D, .ref b]) Q E s := by
  obtain ⟨pre, post, rfl, hg, a, c⟩ := U.split
  obtain ⟨ys, rfl⟩ : ∃ ys : List Value, its = ys.toArray := ⟨its.toList, by rw [Array.toArray_toList]⟩
  refine extend_in F N a c (N _ hb).1 (fun h' n' F' N' => h h' n' F' ?_) (by rw [List.size_toArray] at hz; exact hz)
  rw [hg]
  have e : ys.toArray ++ its2 = (ys ++ its2.toList).toArray := by simp
  rw [e]
  exact N'
end
theorem off_lt {l : List (Addr × Obj)} {D : Addr} (h : ∀ p ∈ l, p.1 < D) : ∀ p ∈ l, p.1 ≠ D := fun p hp => Nat.ne_of_lt (h p hp)
theorem off_gt {l : List (Addr × Obj)} {D : Addr} (h : ∀ p ∈ l, D < p.1) : ∀ p ∈ l, p.1 ≠ D := fun p hp => Nat.ne_of_gt (h p hp)
/-- what holds ahead of turn i of a for -/
def RgJ {σ : Type} (Led : σ → List (Addr × Obj)) (ps : σ → List (Str × Value)) (x : Str) (stored : List Str) (m₀ : Str → Option Value) (P : Nat → σ → Prop) (i : Nat) (m : Str → Option Value) (nx : List (Addr × Obj)) : Prop :=
  ∃ c, nx = Led c ∧ P i c ∧ (∀ p ∈ ps c, m p.1 = some p.2) ∧ (∀ z, z ≠ x → (∀ p ∈ ps c, z ≠ p.1) → stored.contains z = false → m z = m₀ z)
theorem rg_end {σ : Type} {Led : σ → List (Addr × Obj)} {ps : σ → List (Str × Value)} {x : Str} {stored : List Str} {m₀ m' : Str → Option Value} {P : Nat → σ → Prop} {i : Nat} {h₀ h' : Heap} {L : Addr} {own news' : List (Addr × Obj)} {s₁ : Shared} {tk : Nat} (c' : σ)
    (F : Fr h₀ L h' m') (N : News h₀ L h' news') (hn : ∀ p ∈ Led c', p ∈ news') (ho : ∀ p ∈ own, p ∈ news') (ha : ∀ p ∈ own, ∀ q ∈ Led c', p.1 ≠ q.1) (hk : ∀ p ∈ ps c', m' p.1 = some p.2) (hr : ∀ z, z ≠ x → (∀ p ∈ ps c', z ≠ p.1) → stored.contains z = false → m' z = m₀ z) (hp : P i c') :
    InvEndG h₀ L (RgJ Led ps x stored m₀ P i) own s₁ { s₁ with heap := h', toks := tk } :=
  InvEndG.intro F N ⟨c', rfl, hp, hk, hr⟩ (fun p hp b hb => by obtain ⟨q, hq, rfl⟩ := List.mem_map.mp hb; exact ha p hp q hq) hn ho
section
variable {prog : Program} {w : World} {A : Around} {E : Value → Shared → Prop} {s : Shared} {env : Env} {h₀ : Heap} {x : Str} {body : List Stmt} {Q : Flow → Shared → Prop}
/-- a for over a range -/
theorem rg_for {σ : Type} {r : Addr} {a₀ b₀ : Int} {t₀ u₀ v₀ : Tok} {n : Nat} {m₀ : Str → Option Value} {news : List (Addr × Obj)} (Led : σ → List (Addr × Obj)) (ps : σ → List (Str × Value)) (stored : List Str) (P : Nat → σ → Prop) (c₀ : σ)
    (hh : A.handled = none) (hr : IsRange s.heap r a₀ b₀ 1 t₀ u₀ v₀) (hsmall : Builtin.Range.small a₀ b₀ 1 = true) (hsz : Builtin.Range.rangeSize a₀ b₀ 1 = (n : Int)) (F : Fr h₀ env.locals s.heap m₀) (N : News h₀ env.locals s.heap news) (hn : ∀ p ∈ Led c₀, p ∈ news) (hk : ∀ p ∈ ps c₀, m₀ p.1 = some p.2) (hp : P 0 c₀)
    (turn : ∀ (c : σ) (i : Nat) t (u : Str → Option Value) h tk own, i < n → P i c → (∀ p ∈ own, ∀ q ∈ Led c, p.1 ≠ q.1) →
      Fr h₀ env.locals h (fun y => if y = x then some (.int (a₀ + i) t) else kstB (fun z => if stored.contains z then u z else m₀ z) (ps c) y) → News h₀ env.locals h (Led c ++ own) →
      wpAny (model prog w) A (execs body env) (InvPostG h₀ env.locals (RgJ Led ps x stored m₀ P (i + 1)) own { s with heap := h, toks := tk } Q) E { s with heap := h, toks := tk })
    (done : ∀ (c : σ) (u : Str → Option Value) h tk, P n c → Fr h₀ env.locals h (fun y => if y = x then u y else kstB (fun z => if stored.contains z then u z else m₀ z) (ps c) y) → News h₀ env.locals h (Led c) → Q .next { s with heap := h, toks := tk }) :
    wpAny (model prog w) A (pyIter (.ref r)) (fun it s₂ => LoopAtV prog w A h₀ env x body Q E it s₂) E s := by
  refine wpAny_pyIter_range hr hsmall ?_
  have W : Walks prog w A s.heap.objs.size [s.heap.objs.size] [s.heap.objs.size] n (fun i v => i < n ∧ ∃ t, v = .int (a₀ + i * 1) t)
      (fun i h => IsRangeIter h s.heap.objs.size (a₀ + (i : Nat) * 1) ((n : Int) - (i : Nat)) 1) := (Walks.range hh _ a₀ 1 n).bound
  refine kdr_loop (RgJ Led ps x stored m₀ P) W (fun _ h => h) (fun _ h => h) ?_ ?_ ?_ ?_ (by show IsRangeIter _ _ _ _ _; rw [hsz]; simpa using Heap.get?_push_size _ rfl) (F.push _) (fun p hp => ⟨Heap.get?_push_of_some _ (N p (hn p hp)).1, (N p (hn p hp)).2⟩) ⟨c₀, rfl, hp, hk, fun _ _ _ _ => rfl⟩ ?_ ?_
  · intro i h hi b hb
    rw [List.mem_singleton.mp hb]
    exact ⟨_, hi⟩
  · intro hm
    exact absurd F.ns.lt ((List.mem_singleton.mp hm) ▸ Nat.lt_irrefl _)
  · intro b hb
    rw [List.mem_singleton.mp hb]
    exact next_is_new F
  · intro p hp hI
    exact absurd (Heap.lt_size (N p (hn p hp)).1) ((List.mem_singleton.mp hI) ▸ Nat.lt_irrefl _)
  · rintro i v m₁ nx h tk own hi ⟨_, t, rfl⟩ hoff ⟨c, rfl, hp', h1, h2⟩ F₁ N₁
    have e1 : a₀ + (i : Int) * 1 = a₀ + (i : Int) := by omega
    rw [e1] at F₁
    exact turn c i t m₁ h tk own hi hp' (fun p hp q hq => hoff p hp q.1 (List.mem_map.mpr ⟨q, hq, rfl⟩)) (kst_fr h1 h2 F₁) N₁
  · rintro m₁ nx h tk ⟨c, rfl, hp', h1, h2⟩ F₁ N₁
    exact done c m₁ h tk hp' (kst_frOut h1 h2 F₁) N₁
/-- a for over a list of the ledger's, by a name -/
theorem ls_for {σ : Type} {l : Addr} {vs : List Value} {nn : Nat} {m₀ : Str → Option Value} {news : List (Addr × Obj)} (Led : σ → List (Addr × Obj)) (ps : σ → List (Str × Value)) (stored : List Str) (P : Nat → σ → Prop) (c₀ : σ)
    (hh : A.handled = none) (hl : (l, listOf vs.toArray nn) ∈ news) (hlL : ∀ c, (l, listOf vs.toArray nn) ∈ Led c) (F : Fr h₀ env.locals s.heap m₀) (N : News h₀ env.locals s.heap news) (hn : ∀ p ∈ Led c₀, p ∈ news) (hk : ∀ p ∈ ps c₀, m₀ p.1 = some p.2) (hp : P 0 c₀)
    (turn : ∀ (c : σ) (i : Nat) v (u : Str → Option Value) h tk own, vs[i]? = some v → P i c → (∀ p ∈ own, ∀ q ∈ Led c, p.1 ≠ q.1) →
      Fr h₀ env.locals h (fun y => if y = x then some v else kstB (fun z => if stored.contains z then u z else m₀ z) (ps c) y) → News h₀ env.locals h (Led c ++ own) →
      wpAny (model prog w) A (execs body env) (InvPostG h₀ env.locals (fun m' nx => (l, listOf vs.toArray nn) ∈ nx ∧ RgJ Led ps x stored m₀ P (i + 1) m' nx) own { s with heap := h, toks := tk } Q) E { s with heap := h, toks := tk })
    (done : ∀ (c : σ) (u : Str → Option Value) h tk, P vs.length c → Fr h₀ env.locals h (fun y => if y = x then u y else kstB (fun z => if stored.contains z then u z else m₀ z) (ps c) y) → News h₀ env.locals h (Led c) → Q .next { s with heap := h, toks := tk }) :
    wpAny (model prog w) A (pyIter (.ref l)) (fun it s₂ => LoopAtV prog w A h₀ env x body Q E it s₂) E s := by
  refine kdl_iter (RgJ Led ps x stored m₀ P) hh (hlL c₀) F (fun p hp => N p (hn p hp)) ⟨c₀, rfl, hp, hk, fun _ _ _ _ => rfl⟩ ?_ ?_
  · rintro i v m₁ nx h tk own hi hoff hm ⟨c, rfl, hp', h1, h2⟩ F₁ N₁
    exact turn c i v m₁ h tk own hi hp' (fun p hp q hq => hoff p hp q.1 (List.mem_map.mpr ⟨q, hq, rfl⟩)) (kst_fr h1 h2 F₁) N₁
  · rintro m₁ nx h tk ⟨c, rfl, hp', h1, h2⟩ F₁ N₁
    exact done c m₁ h tk hp' (kst_frOut h1 h2 F₁) N₁
theorem ls_end {σ : Type} {Led : σ → List (Addr × Obj)} {ps : σ → List (Str × Value)} {x : Str} {stored : List Str} {m₀ m' : Str → Option Value} {P : Nat → σ → Prop} {i : Nat} {h' : Heap} {L l : Addr} {ol : Obj} {own news' : List (Addr × Obj)} {s₁ : Shared} {tk : Nat} (c' : σ)
    (F : Fr h₀ L h' m') (N : News h₀ L h' news') (hn : ∀ p ∈ Led c', p ∈ news') (ho : ∀ p ∈ own, p ∈ news') (hl : (l, ol) ∈ Led c') (ha : ∀ p ∈ own, ∀ q ∈ Led c', p.1 ≠ q.1) (hk : ∀ p ∈ ps c', m' p.1 = some p.2) (hr : ∀ z, z ≠ x → (∀ p ∈ ps c', z ≠ p.1) → stored.contains z = false → m' z = m₀ z) (hp : P i c') :
    InvEndG h₀ L (fun m' nx => (l, ol) ∈ nx ∧ RgJ Led ps x stored m₀ P i m' nx) own s₁ { s₁ with heap := h', toks := tk } :=
  InvEndG.intro F N ⟨hl, c', rfl, hp, hk, hr⟩ (fun p hp b hb => by obtain ⟨q, hq, rfl⟩ := List.mem_map.mp hb; exact ha p hp q hq) hn ho
end
/-- an object of the ledger's is set anew -/
theorem news_put {h₀ h h' : Heap} {L D : Addr} {o o' : Obj} {news : List (Addr × Obj)} (N : News h₀ L h news) (hm : (D, o) ∈ news) (hs : Heap.SameBut D h h') (ho : h'.get? D = some o') : News h₀ L h' (put D o' news) := by
  intro q hq
  rcases mem_put hq with rfl | ⟨hne, hq⟩
  · exact ⟨ho, (N _ hm).2.1, (N _ hm).2.2⟩
  · exact ⟨(hs.2 _ hne).trans (N q hq).1, (N q hq).2⟩
/-- a row of the table: a star -/
def starStep (fits : List Bool) (nm : Str) (fr : List Bool) (k : Int) : List Bool := fr.set k.toNat (fits.getD k.toNat false || (fr.getD (k - 1).toNat false && (Txt.item nm (k - 1) != Str.ofString "/")))
/-- a row of the table: another sign -/
def charStep (fits : List Bool) (nm sign : Str) (fr : List Bool) (k : Int) : List Bool := fr.set k.toNat (fits.getD (k - 1).toNat false && (if (sign == Str.ofString "?") = true then (Txt.item nm (k - 1) != Str.ofString "/") else (Txt.item nm (k - 1) == sign)))
def na (i : Nat) : Str := ⟨(List.replicate i 97 ++ [47]).toArray⟩
def nm (i j : Nat) : Str := ⟨(List.replicate i 97 ++ [47] ++ List.replicate j 98).toArray⟩
theorem lt5 {n : Nat} (h : n < 5) : n = 0 ∨ n = 1 ∨ n = 2 ∨ n = 3 ∨ n = 4 := by omega
theorem mul_na {i : Int} (hi : 0 ≤ i) (hi2 : i < 5) : Txt.mul (Str.ofString "a") i ++ Str.ofString "/" = na i.toNat := by
  obtain ⟨a, rfl⟩ := Int.eq_ofNat_of_zero_le hi
  rcases lt5 (n := a) (by omega) with rfl | rfl | rfl | rfl | rfl <;> decide +kernel
theorem mul_nm {i : Nat} {j : Int} (hi : i < 5) (hj : 0 ≤ j) (hj2 : j < 5) : na i ++ Txt.mul (Str.ofString "b") j = nm i j.toNat := by
  obtain ⟨b, rfl⟩ := Int.eq_ofNat_of_zero_le hj
  rcases lt5 hi with rfl | rfl | rfl | rfl | rfl <;> rcases lt5 (n := b) (by omega) with rfl | rfl | rfl | rfl | rfl <;> decide +kernel
theorem na_len (i : Nat) : (na i).length = i + 1 := by simp [na, Str.length]
theorem nm_len (i j : Nat) : (nm i j).length = i + j + 1 := by simp [nm, Str.length]; omega
section
variable {prog : Program} {w : World} {A : Around} {E : Value → Shared → Prop} {s : Shared} {t u : Tok}
theorem add_na {i : Int} (hi : 0 ≤ i) (hi2 : i < 5) {Q : Value → Shared → Prop} (h : ∀ (a : Nat) t' k, (a : Int) = i → a < 5 → Q (.str (na a) t') { s with toks := k }) :
    wpAny (model prog w) A (binaryOp .Add (.str (Txt.mul (Str.ofString "a") i) t) (.str (Str.ofString "/") u)) Q E s := by
  have e := mul_na hi hi2
  have hl : (Txt.mul (Str.ofString "a") i ++ Str.ofString "/").length ≤ sizeLine := by rw [e, na_len, sizeLine_eq]; omega
  rw [Str.length_append] at hl
  refine PyProof.Rows.add_str (fun t' tk => ?_) hl
  rw [e]
  exact h _ t' tk (by omega) (by omega)
theorem add_nm {i : Nat} {j : Int} (hi : i < 5) (hj : 0 ≤ j) (hj2 : j < 5) {Q : Value → Shared → Prop} (h : ∀ (b : Nat) t' k, (b : Int) = j → b < 5 → (((nm i b).length : Nat) : Int) = i + b + 1 → Q (.str (nm i b) t') { s with toks := k }) :
    wpAny (model prog w) A (binaryOp .Add (.str (na i) t) (.str (Txt.mul (Str.ofString "b") j) u)) Q E s := by
  have e := mul_nm hi hj hj2
  have hl : (na i ++ Txt.mul (Str.ofString "b") j).length ≤ sizeLine := by rw [e, nm_len, sizeLine_eq]; omega
  rw [Str.length_append] at hl
  refine PyProof.Rows.add_str (fun t' tk => ?_) hl
  rw [e]
  exact h _ t' tk (by omega) (by omega) (by rw [nm_len]; omega)
end
theorem star_len (fits : List Bool) (x : Str) (fr : List Bool) (k : Int) : (starStep fits x fr k).length = fr.length := by simp [starStep]
theorem char_len (fits : List Bool) (x y : Str) (fr : List Bool) (k : Int) : (charStep fits x y fr k).length = fr.length := by simp [charStep]
theorem foldl_len {step : List Bool → Int → List Bool} (h : ∀ f k, (step f k).length = f.length) : ∀ (l : List Int) (f : List Bool), (l.foldl step f).length = f.length
  | [], _ => rfl
  | k :: r, f => by rw [List.foldl_cons, foldl_len h r, h]
section
open LSm
variable {prog : Program} {w : World} {A : Around} {E : Value → Shared → Prop} {Q : Flow → Shared → Prop} {s : Shared} {env : Env} {h₀ : Heap} {L : Addr}
structure FbS where
  vs : List Value
  bs : List Bool
def fbLed (G : Addr) (nG : Nat) (news : List (Addr × Obj)) (c : FbS) : List (Addr × Obj) := (G, listOf c.vs.toArray nG) :: news
def fbP (step : List Bool → Int → List Bool) (bs₀ : List Bool) (i : Nat) (c : FbS) : Prop := BoolsAre c.vs c.bs ∧ c.bs = (List.range i).foldl (fun f (k : Nat) => step f ((1 : Int) + k)) bs₀ ∧ c.bs.length = bs₀.length
theorem fb_for {x : Str} {stored : List Str} {body : List Stmt} {r G : Addr} {m₀ : Str → Option Value} {t₀ u₀ v₀ : Tok} {nG n : Nat} {vs : List Value} {bs : List Bool} {news : List (Addr × Obj)} {e : Int} (step : List Bool → Int → List Bool)
    (hh : A.handled = none) (hr : IsRange s.heap r 1 e 1 t₀ u₀ v₀) (hsmall : Builtin.Range.small 1 e 1 = true) (hsz : Builtin.Range.rangeSize 1 e 1 = (n : Int)) (F : Fr h₀ env.locals s.heap m₀) (N : News h₀ env.locals s.heap ((G, listOf vs.toArray nG) :: news))
    (hb : BoolsAre vs bs) (hst : ∀ f k, (step f k).length = f.length)
    (turn : ∀ (vs' : List Value) (bs' : List Bool) (i : Nat) t (u : Str → Option Value) h tk own, i < n → BoolsAre vs' bs' → bs' = (List.range i).foldl (fun f (k : Nat) => step f ((1 : Int) + k)) bs → bs'.length = bs.length → (∀ p ∈ own, p.1 ≠ G) → (∀ p ∈ own, ∀ q ∈ news, p.1 ≠ q.1) →
      Fr h₀ env.locals h (fun y => if y = x then some (.int (1 + i) t) else if stored.contains y then u y else m₀ y) → News h₀ env.locals h ((G, listOf vs'.toArray nG) :: (news ++ own)) →
      wpAny (model prog w) A (execs body env) (InvPostG h₀ env.locals (RgJ (fbLed G nG news) (fun _ => []) x stored m₀ (fbP step bs) (i + 1)) own { s with heap := h, toks := tk } Q) E { s with heap := h, toks := tk })
    (done : ∀ (vs' : List Value) (bs' : List Bool) (u : Str → Option Value) h tk, BoolsAre vs' bs' → bs' = (List.range n).foldl (fun f (k : Nat) => step f ((1 : Int) + k)) bs → bs'.length = bs.length → Fr h₀ env.locals h (fun y => if y = x then u y else if stored.contains y then u y else m₀ y) → News h₀ env.locals h ((G, listOf vs'.toArray nG) :: news) → Q .next { s with heap := h, toks := tk }) :
    wpAny (model prog w) A (pyIter (.ref r)) (fun it s₂ => LoopAtV prog w A h₀ env x body Q E it s₂) E s := by
  refine rg_for (fbLed G nG news) (fun _ => []) stored (fbP step bs) ⟨vs, bs⟩ hh hr hsmall hsz F N (fun _ h => h) (fun _ h => nomatch h) ⟨hb, rfl, rfl⟩ ?_ ?_
  · rintro ⟨vs', bs'⟩ i t u h tk own hi ⟨p1, p2, p3⟩ hoff F₁ N₁
    exact turn vs' bs' i t u h tk own hi p1 p2 p3 (fun p hp => hoff p hp _ (.head _)) (fun p hp q hq => hoff p hp q (.tail _ hq)) F₁ N₁
  · rintro ⟨vs', bs'⟩ u h tk ⟨p1, p2, p3⟩ F₁ N₁
    exact done vs' bs' u h tk p1 p2 p3 F₁ N₁
theorem fb_end {x : Str} {stored : List Str} {m₀ m' : Str → Option Value} {G : Addr} {nG i : Nat} {vs' : List Value} {bs bs₀ bs' : List Bool} {news own : List (Addr × Obj)} {step : List Bool → Int → List Bool} {s₁ : Shared} {h' : Heap} {tk : Nat}
    (F : Fr h₀ L h' m') (N : News h₀ L h' ((G, listOf vs'.toArray nG) :: (news ++ own))) (hr : ∀ z, z ≠ x → (∀ p ∈ ([] : List (Str × Value)), z ≠ p.1) → stored.contains z = false → m' z = m₀ z)
    (o1 : ∀ p ∈ own, p.1 ≠ G) (o2 : ∀ p ∈ own, ∀ q ∈ news, p.1 ≠ q.1) (hb : BoolsAre vs' bs') (hs : step bs (1 + (i : Int)) = bs') (h0 : bs = (List.range i).foldl (fun f (k : Nat) => step f ((1 : Int) + k)) bs₀) (hl : bs'.length = bs₀.length) :
    InvEndG h₀ L (RgJ (fbLed G nG news) (fun _ => []) x stored m₀ (fbP step bs₀) (i + 1)) own s₁ { s₁ with heap := h', toks := tk } := by
  refine rg_end (c' := ⟨vs', bs'⟩) F N ?_ ?_ ?_ (fun _ h => nomatch h) hr ⟨hb, ?_, hl⟩
  · intro p hp
    rcases List.mem_cons.mp hp with rfl | hp
    · exact .head _
    · exact .tail _ (List.mem_append.mpr (.inl hp))
  · exact fun p hp => .tail _ (List.mem_append.mpr (.inr hp))
  · intro p hp q hq
    rcases List.mem_cons.mp hq with rfl | hq
    · exact o1 p hp
    · exact o2 p hp q hq
  · show bs' = _
    rw [List.range_succ, List.foldl_append, List.foldl_cons, List.foldl_nil, ← h0, hs]
end
section
open LSm
variable {prog : Program} {w : World} {A : Around} {E : Value → Shared → Prop} {s : Shared} {h₀ : Heap} {L a b : Addr} {m : Str → Option Value} {news : List (Addr × Obj)} {vs ws : List Value} {bs cs : List Bool} {n1 n2 : Nat}
theorem mul_one {x : Int} {u : Tok} {c : Bool} {Q : Value → Shared → Prop} (F : Fr h₀ L s.heap m) (N : News h₀ L s.heap news) (hl : (a, listOf [Value.bool c].toArray n1) ∈ news) (h0 : 0 ≤ x) (h9 : x ≤ 1000000)
    (h : ∀ D h' ws, Fr h₀ L h' m → News h₀ L h' ((D, listOf ws.toArray 0) :: news) → (∀ p ∈ news, p.1 < D) → BoolsAre ws (List.replicate x.toNat c) → (List.replicate x.toNat c).length = x.toNat → Q (.ref D) { s with heap := h' }) :
    wpAny (model prog w) A (binaryOp .Mult (.ref a) (.int x u)) Q E s := by
  refine kbo_mul (bs := [c]) F N (PySem.IsL.isList (n := n1) (N _ hl).1) (.cons _ .nil) (by omega) (by omega) (by simp; omega) fun D h' F' N' l1 i1 _ _ _ _ _ _ => ?_
  have e : (List.replicate x.toNat [c]).flatten = List.replicate x.toNat c := by
    generalize x.toNat = k
    induction k with
    | zero => rfl
    | succ k ih => rw [List.replicate_succ, List.flatten_cons, ih, List.replicate_succ]; rfl
  exact h D h' _ F' N' l1 (e ▸ i1) (List.length_replicate ..)
theorem add_bools {Q : Value → Shared → Prop} (F : Fr h₀ L s.heap m) (N : News h₀ L s.heap news) (hl : (a, listOf vs.toArray n1) ∈ news) (hm : (b, listOf ws.toArray n2) ∈ news) (h1 : BoolsAre vs bs) (h2 : BoolsAre ws cs) (hz : bs.length + cs.length ≤ 1000000)
    (h : ∀ D h', Fr h₀ L h' m → News h₀ L h' ((D, listOf (vs ++ ws).toArray 0) :: news) → (∀ p ∈ news, p.1 < D) → BoolsAre (vs ++ ws) (bs ++ cs) → (bs ++ cs).length = bs.length + cs.length → Q (.ref D) { s with heap := h' }) :
    wpAny (model prog w) A (binaryOp .Add (.ref a) (.ref b)) Q E s := by
  have e1 : vs.length = bs.length := h1.length
  have e2 : ws.length = cs.length := h2.length
  refine add_lists (vs := vs) (ws := ws) (hsz := by rw [sizeLine_eq]; omega) F N (PySem.IsL.isList (n := n1) (N _ hl).1) (PySem.IsL.isList (n := n2) (N _ hm).1) fun h' F' N' => ?_
  exact h _ h' F' N' (fun p hp => Heap.lt_size (N p hp).1) (kbo_app h1 h2) (List.length_append)
theorem add_one {c : Bool} {Q : Value → Shared → Prop} (F : Fr h₀ L s.heap m) (N : News h₀ L s.heap news) (hl : (a, listOf [Value.bool c].toArray n1) ∈ news) (hm : (b, listOf ws.toArray n2) ∈ news) (h2 : BoolsAre ws cs) (hz : cs.length ≤ 1000)
    (h : ∀ D h' us, Fr h₀ L h' m → News h₀ L h' ((D, listOf us.toArray 0) :: news) → (∀ p ∈ news, p.1 < D) → BoolsAre us (c :: cs) → (c :: cs).length = cs.length + 1 → Q (.ref D) { s with heap := h' }) :
    wpAny (model prog w) A (binaryOp .Add (.ref a) (.ref b)) Q E s :=
  add_bools F N hl hm (.cons c .nil) h2 (by simp; omega) fun D h' F' N' l1 i1 _ => h D h' _ F' N' l1 i1 rfl
end
/-- one place of the row, whatever the sign -/
def mStep (sg : Str) (fits : List Bool) (nm : Str) (fr : List Bool) (k : Int) : List Bool := if (sg == Str.ofString "*") = true then starStep fits nm fr k else charStep fits nm sg fr k
theorem mStep_len (sg : Str) (fits : List Bool) (y : Str) (f : List Bool) (k : Int) : (mStep sg fits y f k).length = f.length := by
  unfold mStep
  split
  · exact star_len _ _ _ _
  · exact char_len _ _ _ _ _
section
open LSm
variable {prog : Program} {w : World} {A : Around} {E : Value → Shared → Prop} {Q : Flow → Shared → Prop} {s : Shared} {env : Env} {h₀ : Heap} {L : Addr}
theorem mt_for {stored : List Str} {body : List Stmt} {r G FA : Addr} {m₀ : Str → Option Value} {t₀ u₀ v₀ tn : Tok} {nG nF : Nat} {vs fvs : List Value} {bs fits : List Bool} {news : List (Addr × Obj)} {x : Str} {sg : Str} {ts : Tok}
    (hh : A.handled = none) (hr : IsRange s.heap r 1 ((x.length : Int) + 1) 1 t₀ u₀ v₀) (F : Fr h₀ env.locals s.heap m₀) (N : News h₀ env.locals s.heap ((G, listOf vs.toArray nG) :: news))
    (_f1 : m₀ (Str.ofString "fresh") = some (.ref G)) (_f2 : m₀ (Str.ofString "fits") = some (.ref FA)) (_f3 : m₀ (Str.ofString "name") = some (.str x tn)) (_f4 : m₀ (Str.ofString "sign") = some (.str sg ts)) (_hF : (FA, listOf fvs.toArray nF) ∈ news) (_hfb : BoolsAre fvs fits)
    (hb : BoolsAre vs bs) (hf : fits.length = x.length + 1) (hbl : bs.length = x.length + 1) (hx : x.length ≤ 100)
    (turn : ∀ (vs' : List Value) (bs' : List Bool) (i : Nat) t (u : Str → Option Value) h tk own, BoolsAre vs' bs' → bs' = (List.range i).foldl (fun f (k : Nat) => mStep sg fits x f ((1 : Int) + k)) bs → bs'.length = bs.length → 1 + (i : Int) < (fits.length : Int) → 1 + (i : Int) < (bs'.length : Int) → 1 + (i : Int) < (x.length : Int) + 1 → (∀ p ∈ own, p.1 ≠ G) → (∀ p ∈ own, ∀ q ∈ news, p.1 ≠ q.1) →
      Fr h₀ env.locals h (fun y => if y = Str.ofString "k" then some (.int (1 + i) t) else if stored.contains y then u y else m₀ y) → News h₀ env.locals h ((G, listOf vs'.toArray nG) :: (news ++ own)) →
      wpAny (model prog w) A (execs body env) (InvPostG h₀ env.locals (RgJ (fbLed G nG news) (fun _ => []) (Str.ofString "k") stored m₀ (fbP (mStep sg fits x) bs) (i + 1)) own { s with heap := h, toks := tk } Q) E { s with heap := h, toks := tk })
    (done : ∀ (vs' : List Value) (bs' : List Bool) (u : Str → Option Value) h tk, BoolsAre vs' bs' → bs' = (List.range x.length).foldl (fun f (k : Nat) => mStep sg fits x f ((1 : Int) + k)) bs → bs'.length = x.length + 1 → Fr h₀ env.locals h (fun y => if y = Str.ofString "k" then u y else if stored.contains y then u y else m₀ y) → News h₀ env.locals h ((G, listOf vs'.toArray nG) :: news) → Q .next { s with heap := h, toks := tk }) :
    wpAny (model prog w) A (pyIter (.ref r)) (fun it s₂ => LoopAtV prog w A h₀ env (Str.ofString "k") body Q E it s₂) E s := by
  have hs : Builtin.Range.rangeSize 1 ((x.length : Int) + 1) 1 = (x.length : Int) := by rw [rangeSize_nat]; omega
  refine fb_for (stored := stored) (mStep sg fits x) hh hr (small_one (by omega) (by omega) (by omega) (by omega)) hs F N hb (mStep_len sg fits x) ?_ ?_
  · intro vs' bs' i t u h tk own hi p1 p2 p3 o1 o2 F₁ N₁
    exact turn vs' bs' i t u h tk own p1 p2 p3 (by omega) (by omega) (by omega) o1 o2 F₁ N₁
  · intro vs' bs' u h tk p1 p2 p3 F₁ N₁
    exact done vs' bs' u h tk p1 p2 (by omega) F₁ N₁
end
theorem cont1 {z x : Str} (h : [x].contains z = false) : ¬ z = x := by
  simpa [List.contains_cons, List.contains_nil] using h
section
variable {sg x : Str} {fits fr : List Bool} {k : Int}
theorem ms1 (hs : (sg == Str.ofString "*") = true) (h : fits.getD k.toNat false = true) : mStep sg fits x fr k = fr.set k.toNat (fits.getD k.toNat false) := by
  rw [mStep, if_pos hs, starStep, h, Bool.true_or]
theorem ms2 (hs : (sg == Str.ofString "*") = true) (h : fits.getD k.toNat false = false) (h2 : fr.getD (k - 1).toNat false = true) : mStep sg fits x fr k = fr.set k.toNat (Txt.item x (k - 1) != Str.ofString "/") := by
  rw [mStep, if_pos hs, starStep, h, h2, Bool.false_or, Bool.true_and]
theorem ms3 (hs : (sg == Str.ofString "*") = true) (h : fits.getD k.toNat false = false) (h2 : fr.getD (k - 1).toNat false = false) : mStep sg fits x fr k = fr.set k.toNat (fr.getD (k - 1).toNat false) := by
  rw [mStep, if_pos hs, starStep, h, h2, Bool.false_or, Bool.false_and]
theorem mc1 (hs : (sg == Str.ofString "*") = false) (hq : (sg == Str.ofString "?") = false) (h : fits.getD (k - 1).toNat false = true) : mStep sg fits x fr k = fr.set k.toNat (Txt.item x (k - 1) == sg) := by
  rw [mStep, if_neg (by rw [hs]; decide), charStep, h, if_neg (by rw [hq]; decide), Bool.true_and]
theorem mc2 (hs : (sg == Str.ofString "*") = false) (hq : (sg == Str.ofString "?") = true) (h : fits.getD (k - 1).toNat false = true) : mStep sg fits x fr k = fr.set k.toNat (Txt.item x (k - 1) != Str.ofString "/") := by
  rw [mStep, if_neg (by rw [hs]; decide), charStep, h, if_pos hq, Bool.true_and]
theorem mc3 (hs : (sg == Str.ofString "*") = false) (h : fits.getD (k - 1).toNat false = false) : mStep sg fits x fr k = fr.set k.toNat (fits.getD (k - 1).toNat false) := by
  rw [mStep, if_neg (by rw [hs]; decide), charStep, h, Bool.false_and]
end
section
variable {prog : Program} {w : World} {A : Around} {E : Value → Shared → Prop} {s : Shared} {env : Env} {h₀ : Heap} {x : Str} {body : List Stmt} {Q : Flow → Shared → Prop}
/-- a for over a text of plain signs, by a name -/
theorem tx_for {σ : Type} {xt : Str} {tx : Tok} {m₀ : Str → Option Value} {news : List (Addr × Obj)} (Led : σ → List (Addr × Obj)) (ps : σ → List (Str × Value)) (stored : List Str) (P : Nat → σ → Prop) (c₀ : σ)
    (ha : xt.cps.all (· < 128) = true) (hh : A.handled = none) (F : Fr h₀ env.locals s.heap m₀) (N : News h₀ env.locals s.heap news) (hn : ∀ p ∈ Led c₀, p ∈ news) (hk : ∀ p ∈ ps c₀, m₀ p.1 = some p.2) (hp : P 0 c₀)
    (turn : ∀ (c : σ) (i n : Nat) t (u : Str → Option Value) h tk own, xt.cps[i]? = some n → P i c → (∀ p ∈ own, ∀ q ∈ Led c, p.1 ≠ q.1) →
      Fr h₀ env.locals h (fun y => if y = x then some (.str ⟨#[n]⟩ t) else kstB (fun z => if stored.contains z then u z else m₀ z) (ps c) y) → News h₀ env.locals h (Led c ++ own) →
      wpAny (model prog w) A (execs body env) (InvPostG h₀ env.locals (RgJ Led ps x stored m₀ P (i + 1)) own { s with heap := h, toks := tk } Q) E { s with heap := h, toks := tk })
    (done : ∀ (c : σ) (u : Str → Option Value) h tk, P xt.cps.size c → Fr h₀ env.locals h (fun y => if y = x then u y else kstB (fun z => if stored.contains z then u z else m₀ z) (ps c) y) → News h₀ env.locals h (Led c) → Q .next { s with heap := h, toks := tk }) :
    wpAny (model prog w) A (pyIter (.str xt tx)) (fun it s₂ => LoopAtV prog w A h₀ env x body Q E it s₂) E s := by
  refine wpAny_pyIter_ascii ha ?_
  have W := Walks.strAscii (prog := prog) (w := w) hh s.heap.objs.size xt tx
  refine kdr_loop (RgJ Led ps x stored m₀ P) W (fun _ h => h) (fun _ h => h) ?_ ?_ ?_ ?_ ⟨_, Heap.get?_push_size _ rfl, rfl, rfl⟩ (F.push _) (fun p hp => ⟨Heap.get?_push_of_some _ (N p (hn p hp)).1, (N p (hn p hp)).2⟩) ⟨c₀, rfl, hp, hk, fun _ _ _ _ => rfl⟩ ?_ ?_
  · rintro i h ⟨o, ho, _⟩ b hb
    rw [List.mem_singleton.mp hb]
    exact ⟨o, ho⟩
  · intro hm
    exact absurd F.ns.lt ((List.mem_singleton.mp hm) ▸ Nat.lt_irrefl _)
  · intro b hb
    rw [List.mem_singleton.mp hb]
    exact next_is_new F
  · intro p hp hI
    exact absurd (Heap.lt_size (N p (hn p hp)).1) ((List.mem_singleton.mp hI) ▸ Nat.lt_irrefl _)
  · rintro i v m₁ nx h tk own hi ⟨n, t, hn, rfl⟩ hoff ⟨c, rfl, hp', h1, h2⟩ F₁ N₁
    exact turn c i n t m₁ h tk own hn hp' (fun p hp q hq => hoff p hp q.1 (List.mem_map.mpr ⟨q, hq, rfl⟩)) (kst_fr h1 h2 F₁) N₁
  · rintro m₁ nx h tk ⟨c, rfl, hp', h1, h2⟩ F₁ N₁
    exact done c m₁ h tk hp' (kst_frOut h1 h2 F₁) N₁
end
theorem off_allLt {D : Nat} : ∀ {l : List (Addr × Obj)}, AllLt D l → ∀ p ∈ l, p.1 ≠ D
  | [], _, _, hp => (nomatch hp)
  | q :: r, h, p, hp => by
    rcases List.mem_cons.mp hp with rfl | hp
    · exact Nat.ne_of_lt h.1
    · exact off_allLt h.2 p hp
theorem off_app_r {D : Nat} : ∀ {l r : List (Addr × Obj)}, AllLt D (l ++ r) → ∀ p ∈ r, p.1 ≠ D
  | [], _, h => off_allLt h
  | _ :: l, _, h => off_app_r (l := l) h.2
/-- the row ahead of a sign -/
def rowStart (sg : Str) (fits : List Bool) (n : Nat) : List Bool := if (sg == Str.ofString "*") = true then (List.replicate (n + 1) false).set 0 (fits.getD 0 false) else List.replicate (n + 1) false
def rowStep (nm : Str) (fits : List Bool) (c : Nat) : List Bool := (List.range nm.length).foldl (fun f (k : Nat) => mStep ⟨#[c]⟩ fits nm f ((1 : Int) + k)) (rowStart ⟨#[c]⟩ fits nm.length)
def rowsF (nm : Str) (cs : List Nat) : List Bool := cs.foldl (rowStep nm) (true :: List.replicate nm.length false)
def matchF (nm pt : Str) : Bool := (rowsF nm pt.cps.toList).getD nm.length false
def MtOut (nm pt : Str) (news : List (Addr × Obj)) (r : Value) (news' : List (Addr × Obj)) : Prop := r = .bool (matchF nm pt) ∧ news' = news
def MtC (f : Addr) (prog : Program) (w : World) (K : Frag) (p : Program) (loose : List Str) (mean : ExcName → Option Value) (mg mb : Str → Option Value) : Prop :=
  ∀ (nm pt : Str) (t1 t2 : Tok) (news : List (Addr × Obj)), nm.length ≤ 100 → pt.cps.all (· < 128) = true → Fun prog w K p loose mean mg mb 20 f [.str nm t1, .str pt t2] news (MtOut nm pt news)
structure MtS where
  FA : Addr
  vs : List Value
  bs : List Bool
def mtLed (news : List (Addr × Obj)) (c : MtS) : List (Addr × Obj) := (c.FA, listOf c.vs.toArray 0) :: news
def mtPs (c : MtS) : List (Str × Value) := [(Str.ofString "fits", .ref c.FA)]
open LSm in
def mtP (nm : Str) (cs : List Nat) (i : Nat) (c : MtS) : Prop := BoolsAre c.vs c.bs ∧ c.bs = rowsF nm (cs.take i) ∧ c.bs.length = nm.length + 1
def mtNames : List Str := [Str.ofString "fresh", Str.ofString "k", Str.ofString "same"]
section
open LSm
variable {prog : Program} {w : World} {A : Around} {E : Value → Shared → Prop} {Q : Flow → Shared → Prop} {s : Shared} {env : Env} {h₀ : Heap} {L : Addr}
theorem mo_for {body : List Stmt} {FA : Addr} {m₀ : Str → Option Value} {tp tn : Tok} {vs : List Value} {bs : List Bool} {nw news : List (Addr × Obj)} {nm pt : Str}
    (ha : pt.cps.all (· < 128) = true) (hh : A.handled = none) (F : Fr h₀ env.locals s.heap m₀) (N : News h₀ env.locals s.heap news) (hm : ∀ p ∈ (FA, listOf vs.toArray 0) :: nw, p ∈ news) (f2 : m₀ (Str.ofString "fits") = some (.ref FA)) (_f3 : m₀ (Str.ofString "name") = some (.str nm tn))
    (hb : BoolsAre vs bs) (he : bs = true :: List.replicate nm.length false)
    (turn : ∀ (nw : List (Addr × Obj)) (FA : Addr) (vs' : List Value) (fits : List Bool) (i n : Nat) t (u : Str → Option Value) h tk own, BoolsAre vs' fits → fits = rowsF nm (pt.cps.toList.take i) → fits.length = nm.length + 1 → pt.cps.toList[i]? = some n → (∀ p ∈ own, p.1 ≠ FA) → (∀ p ∈ own, ∀ q ∈ nw, p.1 ≠ q.1) →
      Fr h₀ env.locals h (fun y => if y = Str.ofString "sign" then some (.str ⟨#[n]⟩ t) else if y = Str.ofString "fits" then some (.ref FA) else if mtNames.contains y then u y else m₀ y) → News h₀ env.locals h ((FA, listOf vs'.toArray 0) :: (nw ++ own)) →
      wpAny (model prog w) A (execs body env) (InvPostG h₀ env.locals (RgJ (mtLed nw) mtPs (Str.ofString "sign") mtNames m₀ (mtP nm pt.cps.toList) (i + 1)) own { s with heap := h, toks := tk } Q) E { s with heap := h, toks := tk })
    (done : ∀ (FA : Addr) (vs' : List Value) (fits : List Bool) (u : Str → Option Value) h tk, BoolsAre vs' fits → fits = rowsF nm pt.cps.toList → fits.length = nm.length + 1 → Fr h₀ env.locals h (fun y => if y = Str.ofString "sign" then u y else if y = Str.ofString "fits" then some (.ref FA) else if mtNames.contains y then u y else m₀ y) → News h₀ env.locals h ((FA, listOf vs'.toArray 0) :: nw) → Q .next { s with heap := h, toks := tk }) :
    wpAny (model prog w) A (pyIter (.str pt tp)) (fun it s₂ => LoopAtV prog w A h₀ env (Str.ofString "sign") body Q E it s₂) E s := by
  refine tx_for (mtLed nw) mtPs mtNames (mtP nm pt.cps.toList) ⟨FA, vs, bs⟩ ha hh F N hm ?_ ⟨hb, by rw [he]; rfl, by rw [he]; simp⟩ ?_ ?_
  · intro p hp
    rw [List.mem_singleton.mp hp]
    exact f2
  · rintro ⟨FA, vs', fits⟩ i n t u h tk own hi ⟨p1, p2, p3⟩ hoff F₁ N₁
    exact turn nw FA vs' fits i n t u h tk own p1 p2 p3 (by simpa using hi) (fun p hp => hoff p hp _ (.head _)) (fun p hp q hq => hoff p hp q (.tail _ hq)) F₁ N₁
  · rintro ⟨FA, vs', fits⟩ u h tk ⟨p1, p2, p3⟩ F₁ N₁
    refine done FA vs' fits u h tk p1 ?_ p3 F₁ N₁
    have e : pt.cps.toList.take pt.cps.size = pt.cps.toList := by rw [← Array.length_toList, List.take_length]
    have p2' : fits = rowsF nm (pt.cps.toList.take pt.cps.size) := p2
    rw [e] at p2'
    exact p2'
theorem mo_end {m₀ m' : Str → Option Value} {G : Addr} {i n : Nat} {vs' : List Value} {bs' fits b₀ : List Bool} {nw own news' : List (Addr × Obj)} {nm pt : Str} {s₁ : Shared} {h' : Heap} {tk : Nat}
    (F : Fr h₀ L h' m') (N : News h₀ L h' news') (n1 : ∀ p ∈ (G, listOf vs'.toArray 0) :: nw, p ∈ news') (n2 : ∀ p ∈ own, p ∈ news') (o1 : ∀ p ∈ own, p.1 ≠ G) (o2 : ∀ p ∈ own, ∀ q ∈ nw, p.1 ≠ q.1)
    (f2 : m' (Str.ofString "fits") = some (.ref G)) (hr : ∀ z, z ≠ Str.ofString "sign" → (∀ p ∈ [(Str.ofString "fits", Value.ref G)], z ≠ p.1) → mtNames.contains z = false → m' z = m₀ z)
    (hb : BoolsAre vs' bs') (hs : bs' = (List.range nm.length).foldl (fun f (k : Nat) => mStep ⟨#[n]⟩ fits nm f ((1 : Int) + k)) b₀) (h0 : b₀ = rowStart ⟨#[n]⟩ fits nm.length) (hf : fits = rowsF nm (pt.cps.toList.take i)) (hi : pt.cps.toList[i]? = some n) (hl : bs'.length = nm.length + 1) :
    InvEndG h₀ L (RgJ (mtLed nw) mtPs (Str.ofString "sign") mtNames m₀ (mtP nm pt.cps.toList) (i + 1)) own s₁ { s₁ with heap := h', toks := tk } := by
  refine rg_end (c' := ⟨G, vs', bs'⟩) F N n1 n2 ?_ ?_ hr ⟨hb, ?_, hl⟩
  · intro p hp q hq
    rcases List.mem_cons.mp hq with rfl | hq
    · exact o1 p hp
    · exact o2 p hp q hq
  · intro p hp
    rw [List.mem_singleton.mp hp]
    exact f2
  · show bs' = rowsF nm (pt.cps.toList.take (i + 1))
    rw [List.take_add_one, hi, rowsF, List.foldl_append, ← rowsF, ← hf, hs, h0]
    rfl
end
theorem st_star {sg : Str} {fits : List Bool} {n : Nat} {x : Int} (h : (sg == Str.ofString "*") = true) (hx : x = (n : Int) + 1) : (List.replicate x.toNat false).set (0 : Int).toNat (fits.getD (0 : Int).toNat false) = rowStart sg fits n := by
  rw [rowStart, if_pos h, show x.toNat = n + 1 by omega]; rfl
theorem st_char {sg : Str} {fits : List Bool} {n : Nat} {x : Int} (h : (sg == Str.ofString "*") = false) (hx : x = (n : Int) + 1) : List.replicate x.toNat false = rowStart sg fits n := by
  rw [rowStart, if_neg (by rw [h]; decide), show x.toNat = n + 1 by omega]
/-- the law's four patterns -/
def pats : List Str := [Str.ofString "*/*", Str.ofString "a*/b*", Str.ofString "*", Str.ofString "?/?"]
theorem pats_ok : ((List.range 5).all fun a => (List.range 5).all fun b => (matchF (nm a b) (Str.ofString "*/*") == true) && ((matchF (nm a b) (Str.ofString "a*/b*") == decide (0 < min a b))) && (matchF (nm a b) (Str.ofString "*") == false) && (matchF (nm a b) (Str.ofString "?/?") == decide (a * b = 1))) = true := by decide +kernel
theorem mt_names {z : Str} (h : mtNames.contains z = false) : ¬ z = Str.ofString "fresh" ∧ ¬ z = Str.ofString "k" ∧ ¬ z = Str.ofString "same" := by
  simpa [mtNames, List.contains_cons, List.contains_nil] using h
theorem cont_one {z x : Str} (h : ¬ z = x) : ([x] : List Str).contains z = false := by
  simpa [List.contains_cons, List.contains_nil] using h
theorem mt_ret {nm pt : Str} {news led : List (Addr × Obj)} {h₀ : Heap} {L : Addr} {m : Str → Option Value} {s : Shared} {fits : List Bool} {Q : Value → Shared → Prop} {h : Heap} {tok : Nat}
    (hret : ∀ r news' h' tk', MtOut nm pt news r news' → Fr h₀ L h' m → News h₀ L h' news' → Q r { s with heap := h', toks := tk' }) (F : Fr h₀ L h m) (N : News h₀ L h led) (hs : ∀ p ∈ news, p ∈ led) (hf : fits = rowsF nm pt.cps.toList) : Q (.bool (fits.getD ((nm.length : Nat) : Int).toNat false)) { s with heap := h, toks := tok } :=
  hret _ _ _ _ ⟨by rw [hf, Int.toNat_natCast]; rfl, rfl⟩ F fun p hp => N p (hs p hp)
theorem pats_at {a b : Nat} (ha : a < 5) (hb : b < 5) : matchF (nm a b) (Str.ofString "*/*") = true ∧ matchF (nm a b) (Str.ofString "a*/b*") = decide (0 < min a b) ∧ matchF (nm a b) (Str.ofString "*") = false ∧ matchF (nm a b) (Str.ofString "?/?") = decide (a * b = 1) := by
  have h1 := List.all_eq_true.mp (List.all_eq_true.mp pats_ok a (List.mem_range.mpr ha)) b (List.mem_range.mpr hb)
  simp only [Bool.and_eq_true, beq_iff_eq] at h1
  exact ⟨h1.1.1.1, h1.1.1.2, h1.1.2, h1.2⟩
theorem pat1 {a b : Nat} (ha : a < 5) (hb : b < 5) : matchF (nm a b) (Str.ofString "*/*") = true := (pats_at ha hb).1
theorem pat2 {a b : Nat} {x y : Int} (ha : a < 5) (hb : b < 5) (e1 : (a : Int) = x) (e2 : (b : Int) = y) : matchF (nm a b) (Str.ofString "a*/b*") = decide (0 < if y < x then y else x) := by
  rw [(pats_at ha hb).2.1]
  subst e1
  subst e2
  refine decide_eq_decide.mpr ?_
  split <;> omega
theorem pat3 {a b : Nat} (ha : a < 5) (hb : b < 5) : matchF (nm a b) (Str.ofString "*") = false := (pats_at ha hb).2.2.1
theorem pat4 {a b : Nat} {x y : Int} (ha : a < 5) (hb : b < 5) (e1 : (a : Int) = x) (e2 : (b : Int) = y) : matchF (nm a b) (Str.ofString "?/?") = (x * y == 1) := by
  rw [(pats_at ha hb).2.2.2]
  subst e1
  subst e2
  rw [Bool.eq_iff_iff]
  simp only [decide_eq_true_eq, beq_iff_eq]
  rw [← Int.natCast_mul]
  omega
theorem eq_boolT {prog : Program} {w : World} {A : Around} {E : Value → Shared → Prop} {s : Shared} {x y : Bool} {Q : Value → Shared → Prop} (e : x = y) (h : Q (.bool true) s) : wpAny (model prog w) A (compareOp .Eq (.bool x) (.bool y)) Q E s := by
  refine eq_bool ?_
  rw [e, beq_self_eq_true]
  exact h
set_option maxRecDepth 100000 in
set_option maxHeartbeats 0 in
open_top hd for PySem.Challenge.rw_ui0507_05
end Mine
local macro_rules | `(tactic| k_mem) => `(tactic| kcf_m)
local macro_rules | `(tactic| walk_at "mine ne") => `(tactic| ((try dsimp only); first | assumption | k_ne | (refine Ne.symm ?_; assumption)))
local macro_rules | `(tactic| walk_at "mine off") => `(tactic| first | exact List.forall_mem_nil _ | assumption | exact Mine.off_lt (by assumption) | exact Mine.off_gt (by assumption) | (refine' List.forall_mem_cons.mpr ⟨?a, ?b⟩; (case a => walk_at "mine ne"); (case b => walk_at "mine off")) | (refine' List.forall_mem_append.mpr ⟨?a, ?b⟩; (case a => walk_at "mine off"); (case b => walk_at "mine off")))
local macro_rules | `(tactic| walk_at "mine upd") => `(tactic| first | (refine' Upd.head ?a; (case a => walk_at "mine off")) | (refine' Upd.tail ?a ?b; (case a => walk_at "mine ne"); (case b => walk_at "mine upd")))
local macro_rules | `(tactic| walk_at "mine size") => `(tactic| ((try law_lens); (simp only [List.size_toArray, Array.size_push, Array.size_append, List.length_append, List.length_cons, List.length_nil, List.length_take, List.length_drop, List.length_replicate, sizeLine_eq]); omega))
local macro_rules | `(tactic| walk_at "call builtin:list.append") => `(tactic| (k_here; (with_reducible show wpAny _ _ (call (Value.builtin "list.append") [Value.ref _, _]) _ _ _); k_dflt (refine' append_K ?k1 ?k2 ?k3 ?_ ?z; (case k1 => k_asm); (case k2 => k_asm); (case k3 => walk_at "mine upd"); (case z => walk_at "mine size"); k_whole); intro h' F' N'; (try k_sweep)))
local macro_rules | `(tactic| walk_at "mine updF") => `(tactic| first | (refine' UpdF.head ?a; (case a => walk_at "mine off")) | (refine' UpdF.tail ?a ?b; (case a => walk_at "mine ne"); (case b => walk_at "mine updF")))
local macro_rules | `(tactic| walk_at "call builtin:list.extend") => `(tactic| (k_here; (with_reducible show wpAny _ _ (call (Value.builtin "list.extend") [Value.ref _, Value.ref _]) _ _ _); k_dflt (refine' Mine.extend_U ?k1 ?k2 ?kb ?k3 ?z ?_; (case k1 => k_asm); (case k2 => k_asm); (case kb => k_mem); (case k3 => walk_at "mine updF"); (case z => walk_at "mine size"); k_whole); intro h' n' F' N'; (try dsimp only at N'); (try k_sweep)))
local macro_rules | `(tactic| walk_at "mine enter") => `(tactic| (refine' code_def ?k1 ?k2 ?k3 ?k4 ?k5 ?kA ?kF ?kK ?k6 ?k7 ?k8 ?k9 ?kB ?_ ?c2 ?c3 ?c4 ?c5; (case kA => exact rfl); (case kF => exact rfl); (case kK => assumption); (case k1 => k_asm); (case k2 => k_asm); (case k3 => k_asm); (case k4 => k_asm); (case k5 => k_asm); (case k6 => k_is); (case k7 => k_is); (case k8 => ktr_room); (case k9 => first | exact BindsTo.of_eq rfl | exact binds_K (by k_in) rfl (by k_is) rfl rfl rfl); (case c5 => decide); (case kB => exact locs rfl); (case c2 => exact rfl); (case c3 => exact rfl); (case c4 => exact rfl); k_whole; intro g' L' h' FG' F' N' B' X' T'; (try dsimp only); (try k_lift B'); (try k_fold)))
section
local macro_rules | `(tactic| walk_at "mine off") => `(tactic| first | exact List.forall_mem_nil _ | with_reducible assumption | exact Mine.off_allLt (And.right (by assumption)) | exact Mine.off_allLt (And.right (And.right (by assumption))) | exact Mine.off_allLt (And.right (And.right (And.right (by assumption)))) | exact Mine.off_app_r (And.right (And.right (by assumption))) | (refine' List.forall_mem_cons.mpr ⟨?a, ?b⟩; (case a => walk_at "mine ne"); (case b => walk_at "mine off")) | (refine' List.forall_mem_append.mpr ⟨?a, ?b⟩; (case a => walk_at "mine off"); (case b => walk_at "mine off")))
local macro_rules | `(tactic| walk_at "binaryOp Mult ref int") => `(tactic| (k_here; (with_reducible show wpAny _ _ (binaryOp Operator.Mult (Value.ref _) (Value.int _ _)) _ _ _); k_dflt (refine' Mine.mul_one ?k1 ?k2 ?k3 ?k4 ?k5 ?_; (case k1 => k_asm); (case k2 => k_asm); (case k3 => k_mem); (case k4 => omega); (case k5 => omega); k_whole); (intro D' h' ws' F' N' l1 i1 e1); (try k_lt l1)))
local macro_rules | `(tactic| walk_at "binaryOp Add ref ref") => `(tactic| (k_here; (with_reducible show wpAny _ _ (binaryOp Operator.Add (Value.ref _) (Value.ref _)) _ _ _); k_dflt (refine' Mine.add_one ?k1 ?k2 ?k3 ?k4 ?k6 ?k7 ?_; (case k1 => k_asm); (case k2 => k_asm); (case k3 => k_mem); (case k4 => k_mem); (case k6 => assumption); (case k7 => omega); k_whole); (intro D' h' us' F' N' l1 i1 e1); (try k_lt l1)))
local macro_rules | `(tactic| walk_at "exec For Name Call cons nil") => `(tactic| (k_here; (rename Fr _ _ _ _ => lF'); (with_unfolding_all refine' For_invVF lF' ?k1 ?k2 ?_; (case k1 => exact rfl); (case k2 => exact rfl); k_whole)))
local macro_rules | `(tactic| walk_at "exec For Name Name cons nil") => `(tactic| (k_here; (rename Fr _ _ _ _ => lF'); (with_unfolding_all refine' For_invVF lF' ?k1 ?k2 ?_; (case k1 => exact rfl); (case k2 => exact rfl); k_whole)))
local macro_rules | `(tactic| walk_at "call type:range") => `(tactic| ((with_reducible show wpAny _ _ (call (Value.type "range") [Value.int _ _, Value.int _ _]) _ _ _); (rename Fr _ _ _ _ => F'); (rename News _ _ _ _ => N'); (with_unfolding_all refine range2_rows F' N' ?_; intro _ _ _ _ _ _ _ _ _)))
local macro_rules | `(tactic| walk_at "mine len") => `(tactic| first | with_reducible assumption | omega | ((simp only [List.length_set, List.length_replicate, List.length_cons]); omega))
local macro_rules | `(tactic| walk_at "mine rest") => `(tactic| (intro vs9 bs9 i9 t9 u9 h9 tk9 own9 kV1 kV2 kV3 kV4 kV5 kV6 kO1 kO2 kF kN; (try k_fold)))
local macro_rules | `(tactic| walk_at "pyIter ref") => `(tactic| (k_here; (with_reducible show wpAny _ _ (pyIter (Value.ref _)) (fun it s₂ => LoopAtV _ _ _ _ _ _ _ _ _ it s₂) _ _); ((rename Fr _ _ _ _ => lF'); (rename News _ _ _ _ => lN'); (rename IsRange _ _ _ _ _ _ _ _ => rgX); (with_unfolding_all refine' Mine.mt_for (stored := [Str.ofString "same"]) ?hh rgX lF' lN' ?f1 ?f2 ?f3 ?f4 ?m1 ?m2 ?m3 ?k1 ?k2 ?k3 ?_ ?_; (case hh => exact rfl); (case f1 => exact rfl); (case f2 => exact rfl); (case f3 => exact rfl); (case f4 => exact rfl); (case m1 => k_mem); (case m2 => assumption); (case m3 => assumption); (case k1 => walk_at "mine len"); (case k2 => walk_at "mine len"); (case k3 => omega)); (all_goals (try clear lF' lN')); (focus (intro vs9 bs9 i9 t9 u9 h9 tk9 own9 kV1 kV2 kV3 kV4 kV5 kV6 kO1 kO2 kF kN; (try k_fold))); rotate_left; (focus (intro vs9 bs9 u9 h9 tk9 kV1 kV2 kV3 kF kN; (try k_unfold); (try dsimp only))))))
local macro_rules | `(tactic| walk_at "pyIter str") => `(tactic| (k_here; (with_reducible show wpAny _ _ (pyIter (Value.str _ _)) (fun it s₂ => LoopAtV _ _ _ _ _ _ _ _ _ it s₂) _ _); ((rename Fr _ _ _ _ => lF'); (rename News _ _ _ _ => lN'); (with_unfolding_all refine' Mine.mo_for ?ha ?hh lF' lN' ?hm ?f2 ?f3 ?b ?e ?tn ?dn; (case ha => with_reducible assumption); (case hh => exact rfl); (case f2 => exact rfl); (case f3 => exact rfl); (case hm => exact fun _ h => h); (case b => exact (by with_reducible assumption : LSm.BoolsAre _ (true :: _))); (case e => exact congrArg (List.cons true) (congrArg (fun k => List.replicate k false) (Int.toNat_natCast _)))); (all_goals (try clear lF' lN')); (case' tn => (intro nw9 FA9 vs9 ft9 i9 n9 t9 u9 h9 tk9 own9 kV1 kV2 kV3 kV4 kO1 kO2 kF kN; (try k_fold))); (case' dn => (intro FA9 vs9 ft9 u9 h9 tk9 kV1 kV2 kV3 kF kN; (try k_unfold); (try dsimp only))))))
local macro_rules | `(tactic| walk_at "subscriptTail") => `(tactic| (k_here; (with_reducible show wpAny _ _ (subscriptTail _ _ (Value.ref _) (Value.int _ _)) _ _ _); k_dflt (refine' kbo_sub ?N ?m ?b ?h0 ?h1 ?h2 ?_ ?h7; (case N => k_asm); (case m => kcf_m); (case b => with_reducible assumption); (case h0 => omega); (case h1 => omega); (case h2 => omega); (case h7 => with_unfolding_all rfl); k_whole)))
local macro_rules | `(tactic| walk_at "subscriptTail") => `(tactic| (k_here; (with_reducible show wpAny _ _ (subscriptTail _ _ (Value.str _ _) (Value.int _ _)) _ _ _); k_dflt (refine' KXi.item ?k1 ?k2 ?k3 ?k4 ?_ ?k5 ?k6; (case k1 => exact rfl); (case k2 => omega); (case k3 => omega); (case k4 => omega); (case k5 => with_unfolding_all rfl); (case k6 => (intro _; with_unfolding_all rfl)); k_whole); intro l9))
local macro_rules | `(tactic| walk_at "mine step") => `(tactic| with_reducible first | exact Mine.ms1 (by with_reducible assumption) (by assumption) | exact Mine.ms2 (by with_reducible assumption) (by assumption) (by assumption) | exact Mine.ms3 (by with_reducible assumption) (by assumption) (by assumption) | exact Mine.mc1 (by with_reducible assumption) (by with_reducible assumption) (by assumption) | exact Mine.mc2 (by with_reducible assumption) (by with_reducible assumption) (by assumption) | exact Mine.mc3 (by with_reducible assumption) (by assumption))
local macro_rules | `(tactic| walk_at "setItem ref int") => `(tactic| (k_here; (with_reducible show wpAny _ _ (setItem (Value.ref _) (Value.int _ _) (Value.bool _)) _ _ _); k_dflt (refine' PySem.W.kbo_set ?k1 ?k2 ?k3 ?k4 ?k5 ?k6 ?k7 ?_; (case k1 => k_asm); (case k2 => k_asm); (case k3 => first | k_upd | walk_at "mine upd"); (case k4 => with_reducible assumption); (case k5 => kbo_idx); (case k6 => kbo_idx); (case k7 => kbo_idx); k_whole); intro h' F' N' hb' hl'; (try k_sweep)))
local macro_rules | `(tactic| walk_at "InvEndG") => `(tactic| (k_here; (rename Fr _ _ _ _ => lF'); (rename News _ _ _ _ => lN'); with_unfolding_all (refine' Mine.fb_end lF' lN' ?k2 ?o1 ?o2 ?k3 ?k4 ?k5 ?k6; (case k3 => assumption); (case k2 => (intro q h1 h2 h3; (have h4 := Mine.cont1 h3); (simp only [h1, h4, h3, if_false, Bool.false_eq_true]; done))); (case o1 => assumption); (case o2 => assumption); (case k5 => assumption); (case k4 => walk_at "mine step"); (case k6 => (rw [List.length_set]; assumption)))))
local macro_rules | `(tactic| walk_at "InvEndG") => `(tactic| (k_here; (rename Fr _ _ _ _ => lF'); (rename News _ _ _ _ => lN'); with_unfolding_all (refine' Mine.mo_end lF' lN' ?mon1 ?mon2 ?moo1 ?moo2 ?mof2 ?mok2 ?mok3 ?mok4 ?mok5 ?mok6 ?mok7 ?mok8; (case mof2 => exact rfl); (case mok3 => with_reducible assumption); (case mok4 => with_reducible assumption); (case mon1 => kcf_all); (case mok5 => first | exact Mine.st_star (by with_reducible assumption) rfl | exact Mine.st_char (by with_reducible assumption) rfl); (case mok6 => with_reducible assumption); (case mok7 => with_reducible assumption); (case mok8 => with_reducible assumption); (case mon2 => kcf_all); (case moo1 => walk_at "mine off"); (case moo2 => with_reducible assumption); (case mok2 => (intro z h1 h2 h3; (have h4 := h2 _ (.head _)); dsimp only at h4; (obtain ⟨h5, h6, h7⟩ := Mine.mt_names h3); (have h8 := Mine.cont_one h7); (simp only [h1, h4, h5, h6, h8, h3, if_false, Bool.false_eq_true]; done))))))
set_option maxRecDepth 100000 in
set_option maxHeartbeats 8000000 in
theorem Mine.mt_ctr {w : World} {p : Program} {loose : List Str} {mean : ExcName → Option Value} {mg mb : Str → Option Value} : Mine.MtC 21 PySem.Challenge.rw_ui0507_05.row.prog w (Mine.hd.heap_39 w.params) p loose mean mg mb := by
  k_fill
  w_top off
  unfold Mine.MtC
  intro nm pt t1 t2 news hl ha
  unfold Mine.Fun
  intro dp un gd cn cs a ccd cl outer A₀ base h₀ L m s Q E B F X N T hk hd hu hret
  refine wpAny_call ?_
  k_dflt (walk_at "mine enter")
  k_steps; all_goals exact Mine.mt_ret hret (by with_reducible assumption) (by with_reducible assumption) (by kcf_all) (by with_reducible assumption)
end
local macro_rules | `(tactic| walk_at "mine use") => `(tactic| ((case k1 => k_asm); (case k3 => k_asm); (case k5 => k_asm); (case kK => exact rfl); (case kd => ktr_room); (case ku => first | ((simp only [units_in1, units_deeper, Around.mark_units, units_caller]); decide) | ktr_room)))
local macro_rules | `(tactic| walk_at "call ref") => `(tactic| (k_here; (with_reducible show wpAny _ _ (call (Value.ref _) _) _ _ _); refine wpAny_call ?_; k_dflt (walk_at "mine enter")))
local macro_rules | `(tactic| walk_at "binaryOp Add str str") => `(tactic| (k_here; (with_reducible show wpAny _ _ (binaryOp Operator.Add (Value.str (Txt.mul _ _) _) (Value.str _ _)) _ _ _); (refine Mine.add_na (by l_fact) (by l_fact) ?_); intro a9 t9 k9 e9 l9))
local macro_rules | `(tactic| walk_at "binaryOp Add str str") => `(tactic| (k_here; (with_reducible show wpAny _ _ (binaryOp Operator.Add (Value.str (Mine.na _) _) (Value.str (Txt.mul _ _) _)) _ _ _); (refine Mine.add_nm (by assumption) (by l_fact) (by l_fact) ?_); intro b9 t9 k9 e9 l9 n9))
local macro_rules | `(tactic| walk_at "call ref") => `(tactic| (k_here; (with_reducible show wpAny _ _ (call (Value.ref 21) [Value.str _ _, Value.str _ _]) _ _ _); k_dflt ((rename Mine.MtC _ _ _ _ _ _ _ _ _ => cM); refine' Mine.Fun.use ?kC ?k1 ?k2 ?k3 ?k4 ?k5 ?kK ?kd ?ku ?_; (case k2 => k_asm); (case k4 => k_asm); (case kC => (refine' cM _ _ _ _ _ ?l1 ?l2; (case l1 => (rw [Mine.nm_len]; omega)); (case l2 => decide +kernel))); walk_at "mine use"; k_whole); (intro r9 nw9 h' tk9 kR F' N'); (unfold Mine.MtOut at kR); (obtain ⟨e1, e2⟩ := kR); (subst e1); (subst e2)))
local macro_rules | `(tactic| walk_at "compareOp Eq bool bool") => `(tactic| (k_here; (with_reducible refine Mine.eq_boolT ?lawE ?_); (case lawE => first | exact Mine.pat1 (by assumption) (by assumption) | exact Mine.pat2 (by assumption) (by assumption) (by assumption) (by assumption) | exact Mine.pat3 (by assumption) (by assumption) | exact Mine.pat4 (by assumption) (by assumption) (by assumption) (by assumption))))
set_option maxRecDepth 100000 in
set_option maxHeartbeats 8000000 in
theorem PySem.Challenge.cw_ui0507_05_holds : PySem.Challenge.rw_ui0507_05.Holds :=
  Mine.hd (by
  w_strict (k_go0; (all_goals try k_fold); (refine Mine.bring (Mine.MtC 21) (by assumption) (by assumption) ?ctr ?_); (case ctr => exact Mine.mt_ctr); intro cM0; k_steps; (all_goals (try k_data)); all_goals w_report))
