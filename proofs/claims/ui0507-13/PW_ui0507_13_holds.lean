import PyProof.Rows.All
import Wide.All
import OpenK.AllK
import Wide.FinOn
import PySem.Challenge.RW_ui0507_13
open PySem PySem.W PyProof.Rows PySem.Spec PySem.Calls
set_option Elab.async false
set_option compiler.extract_closed false
namespace Mine
set_option maxRecDepth 100000 in
set_option maxHeartbeats 0 in
open_top hd for PySem.Challenge.rw_ui0507_13
/-- what a def does, wherever it is called: from the ledger news and the arguments vs it comes back with r and the ledger news' that R tells -/
def Fun (prog : Program) (w : World) (K : Frag) (p : Program) (loose : List Str) (mean : ExcName → Option Value) (mg mb : Str → Option Value) (k : Nat) (f : Addr) (vs : List Value) (news : List (Addr × Obj)) (R : Value → List (Addr × Obj) → Prop) : Prop :=
  ∀ (dp un : Nat) (gd : Option (List Code)) (cn : Str) (cs : Scope) (a : Addr) (ccd : Value) (cl : List (Str × Addr)) (outer : List Env) (A₀ : Around) (base h₀ : Heap) (L : Addr) (m : Str → Option Value) (s : Shared) (Q E : Value → Shared → Prop),
    Below A₀ base outer h₀ → Fr h₀ L s.heap m → K.In h₀ → News h₀ L s.heap news → Top p loose mean mg mb h₀ → cs.kind = .function → dp + k < recursionLimit → un + 8 * k < cLine →
    (∀ r news' h' tk', R r news' → Fr h₀ L h' m → News h₀ L h' news' → Q r { s with heap := h', toks := tk' }) →
    wpAny (model prog w) (ktrTop dp un gd cn cs L a ccd cl outer) (call (.ref f) vs) Q E s
theorem bring {α : Type} {prog : Program} {w : World} {A : Around} {tree : Sem α} {Q : α → Shared → Prop} {E : Value → Shared → Prop} {s : Shared} {K : Frag} {h₀ : Heap} {p : Program} {loose : List Str} {mean : ExcName → Option Value} {mg mb : Str → Option Value}
    (C : Program → World → Frag → Program → List Str → (ExcName → Option Value) → (Str → Option Value) → (Str → Option Value) → Prop) (_X : K.In h₀) (_T : Top p loose mean mg mb h₀) (ctr : C prog w K p loose mean mg mb) (h : C prog w K p loose mean mg mb → wpAny (model prog w) A tree Q E s) : wpAny (model prog w) A tree Q E s := h ctr
section
variable {prog : Program} {w : World} {A : Around} {E : Value → Shared → Prop} {s : Shared} {env : Env} {h₀ : Heap} {target : Expr} {body : List Stmt} {Q : Flow → Shared → Prop}
/-- a for over a list of the ledger's, its target whatever it is -/
theorem turns_list {l : Addr} {vs : List Value} {nn : Nat} {m₀ : Str → Option Value} {news : List (Addr × Obj)} (J : Nat → (Str → Option Value) → List (Addr × Obj) → Prop)
    (hh : A.handled = none) (hl : (l, listOf vs.toArray nn) ∈ news) (F : Fr h₀ env.locals s.heap m₀) (N : News h₀ env.locals s.heap news) (hj : J 0 m₀ news) (hJl : ∀ i m nx, J i m nx → (l, listOf vs.toArray nn) ∈ nx)
    (turn : ∀ i v m₁ news₁ h tk own, vs[i]? = some v → OwnOff own (news₁.map (·.1)) → J i m₁ news₁ → Fr h₀ env.locals h m₁ → News h₀ env.locals h (news₁ ++ own) →
      wpAny (model prog w) A (assign target env v) (fun _ s₃ => wpAny (model prog w) A (execs body env) (InvPostG h₀ env.locals (J (i + 1)) own { s with heap := h, toks := tk } Q) E s₃) E { s with heap := h, toks := tk })
    (done : ∀ m₁ news₁ h tk, J vs.length m₁ news₁ → Fr h₀ env.locals h m₁ → News h₀ env.locals h news₁ → Q .next { s with heap := h, toks := tk }) :
    wpAny (model prog w) A (pyIter (.ref l)) (fun it s₂ => TurnsAt prog w A h₀ env target body Q E it s₂) E s := by
  have hol : s.heap.get? l = some (listOf vs.toArray nn) := (N _ hl).1
  have hls : s.heap.IsList l vs.toArray := ⟨_, hol, rfl, nn, rfl⟩
  have hne : l ≠ s.heap.objs.size := Nat.ne_of_lt (Heap.lt_size hol)
  refine wpAny_pyIter_list hls ?_
  have W := Walks.list (prog := prog) (w := w) hh s.heap.objs.size l hne vs.toArray
  have hlen : vs.toArray.size = vs.length := by simp
  rw [hlen] at W
  refine ⟨_, _, _, vs.length, _, _, _, m₀, news, J, rfl, KTurns.ofWalks W fun i v s Q E st q => letGo_listiter st.1 q, ?_, ?_, ?_, ⟨⟨_, Heap.get?_push_size _ rfl, rfl, rfl⟩, hls.at fun o e => Heap.get?_push_of_some _ e⟩, F.push _, (fun p hp => ⟨Heap.get?_push_of_some _ (N p hp).1, (N p hp).2⟩), hj, ?_, ?_⟩
  · intro hm
    rcases List.mem_cons.mp hm with e | hm
    · exact absurd F.ns.lt (e ▸ Nat.lt_irrefl _)
    · exact (N _ hl).2.1 ((List.mem_singleton.mp hm).symm)
  · intro b hb
    rw [List.mem_singleton.mp hb]
    exact next_is_new F
  · intro p hp hI
    exact absurd (Heap.lt_size (N p hp).1) ((List.mem_singleton.mp hI) ▸ Nat.lt_irrefl _)
  · intro i v m₁ news₁ hh' tk' own hin hP hJ hoff hown hget hfp hst F₁ N₁
    have hl₁ := hJl _ _ _ hJ
    have hP' : vs[i]? = some v := by simpa using hP
    have hI0 : h₀.get? s.heap.objs.size = none := next_is_new F
    obtain ⟨⟨oI, hoI, _⟩, _⟩ := id hst
    have hIown : (s.heap.objs.size, oI) ∈ own.filter fun p => decide (p.1 = s.heap.objs.size) := List.mem_filter.mpr ⟨hfp _ (List.mem_cons.mpr (.inl rfl)) hI0 _ hoI, by simp⟩
    have hsep : OwnOff (own.filter fun p => decide (p.1 = s.heap.objs.size)) (news₁.map (·.1)) := by
      intro p hp b hb e
      obtain ⟨q, hq, rfl⟩ := List.mem_map.mp hb
      have h1 : p.1 = s.heap.objs.size := by simpa using (List.mem_filter.mp hp).2
      exact hoff q hq (List.mem_singleton.mpr (e ▸ h1))
    have N₂ : News h₀ env.locals hh' (news₁ ++ own.filter fun p => decide (p.1 = s.heap.objs.size)) := fun p hp => N₁ p ((List.mem_append.mp hp).elim (fun h => List.mem_append.mpr (.inr h)) fun h => List.mem_append.mpr (.inl ((List.mem_filter.mp h).1)))
    have hlo : hh'.get? l = some (listOf vs.toArray nn) := (N₁ _ (List.mem_append.mpr (.inr hl₁))).1
    refine wpAny_mono (turn i v m₁ news₁ hh' tk' _ hP' hsep hJ F₁ N₂) (fun _ s₃ p3 => wpAny_mono p3 (fun f s₂ p => ?_) fun _ _ e => e) fun _ _ e => e
    have fin : InvEndG h₀ env.locals (J (i + 1)) (own.filter fun p => decide (p.1 = s.heap.objs.size)) { s with heap := hh', toks := tk' } s₂ →
        LoopStepU h₀ env.locals [s.heap.objs.size] own (J (i + 1)) { s with heap := hh', toks := tk' } .next s₂ := by
      rintro ⟨h', tk, m', news', nx, e, F', N', hn, ho, ha, hm⟩
      refine ⟨rfl, h', tk, m', nx, e, F', fun p hp => ?_, fun p hp hq => ?_, hm⟩
      · rcases List.mem_append.mp hp with h | h
        · by_cases hI : p.1 = s.heap.objs.size
          · exact N' p (ho p (List.mem_filter.mpr ⟨h, by simpa using hI⟩))
          · have h1 : p.1 = l := by
              rcases List.mem_cons.mp (hown p h) with h2 | h2
              · exact absurd h2 hI
              · exact List.mem_singleton.mp h2
            have h2 : hh'.get? p.1 = some p.2 := hget p h
            rw [h1, hlo] at h2
            have h3 : p = (l, listOf vs.toArray nn) := Prod.ext h1 (Option.some.inj h2).symm
            rw [h3]
            exact N' _ (hn _ (hJl _ _ _ hm))
        · exact N' p (hn p h)
      · exact ha _ hIown p.1 (List.mem_map.mpr ⟨p, hp, rfl⟩) (List.mem_singleton.mp hq).symm
    cases f with
    | ret v => exact p
    | brk => exact p
    | next => exact fin p
    | cont => exact fin p
  · rintro h' tk m' news' F' N' _ hJ
    exact done m' news' h' tk hJ F' N'
end
section
variable {prog : Program} {w : World} {K : Frag} {p : Program} {loose : List Str} {mean : ExcName → Option Value} {mg mb : Str → Option Value} {k : Nat} {f : Addr} {vs : List Value} {news : List (Addr × Obj)} {R : Value → List (Addr × Obj) → Prop}
theorem Fun.use {dp un : Nat} {gd : Option (List Code)} {cn : Str} {cs : Scope} {a : Addr} {ccd : Value} {cl : List (Str × Addr)} {outer : List Env} {A₀ : Around} {base h₀ : Heap} {L : Addr} {m : Str → Option Value} {s : Shared} {Q E : Value → Shared → Prop}
    (C : Fun prog w K p loose mean mg mb k f vs news R) (B : Below A₀ base outer h₀) (F : Fr h₀ L s.heap m) (X : K.In h₀) (N : News h₀ L s.heap news) (T : Top p loose mean mg mb h₀) (hk : cs.kind = .function) (hd : dp + k < recursionLimit) (hu : un + 8 * k < cLine)
    (ret : ∀ r news' h' tk', R r news' → Fr h₀ L h' m → News h₀ L h' news' → Q r { s with heap := h', toks := tk' }) :
    wpAny (model prog w) (ktrTop dp un gd cn cs L a ccd cl outer) (call (.ref f) vs) Q E s := C _ _ _ _ _ _ _ _ _ _ _ _ _ _ _ _ _ B F X N T hk hd hu ret
end
/-- the ledger with o at O -/
def put (O : Addr) (o : Obj) (news : List (Addr × Obj)) : List (Addr × Obj) := news.map fun p => if p.1 = O then (O, o) else p
theorem put_nil {O : Addr} {o : Obj} : put O o [] = [] := rfl
theorem put_hit {O : Addr} {o o' : Obj} {r : List (Addr × Obj)} : put O o ((O, o') :: r) = (O, o) :: put O o r := by simp [put]
theorem put_miss {O : Addr} {o : Obj} {q : Addr × Obj} {r : List (Addr × Obj)} (h : q.1 ≠ O) : put O o (q :: r) = q :: put O o r := by simp [put, h]
theorem put_off {O : Addr} {o : Obj} {r : List (Addr × Obj)} (h : ∀ q ∈ r, q.1 ≠ O) : put O o r = r := by
  induction r with
  | nil => rfl
  | cons q r ih => rw [put_miss (h q (.head _)), ih fun x hx => h x (.tail _ hx)]
theorem mem_put {O : Addr} {o : Obj} {news : List (Addr × Obj)} {q : Addr × Obj} (h : q ∈ put O o news) : q = (O, o) ∨ (q.1 ≠ O ∧ q ∈ news) := by
  obtain ⟨x, hx, rfl⟩ := List.mem_map.mp h
  by_cases e : x.1 = O
  · rw [if_pos e]; exact .inl rfl
  · rw [if_neg e]; exact .inr ⟨e, hx⟩
section
variable {prog : Program} {w : World} {A : Around} {E : Value → Shared → Prop} {s : Shared} {h₀ : Heap} {L D b : Addr} {m : Str → Option Value} {news : List (Addr × Obj)} {its its2 : Array Value} {n n2 : Nat}
/-- extend by a list of the ledger's -/
theorem extend_U {g : Obj → List (Addr × Obj)} {Q : Value → Shared → Prop} (F : Fr h₀ L s.heap m) (N : News h₀ L s.heap news) (hb : (b, listOf its2 n2) ∈ news) (U : UpdF D (listOf its n) news g) (hz : its.size + its2.size ≤ sizeLine)
    (h : ∀ h' n', Fr h₀ L h' m → News h₀ L h' (g (listOf (its ++ its2) n')) → Q .none { s with heap := h' }) : wpAny (model prog w) A (call (.builtin "list.extend") [.ref D, .ref b]) Q E s := by
  obtain ⟨pre, post, rfl, hg, a, c⟩ := U.split
  obtain ⟨ys, rfl⟩ : ∃ ys : List Value, its = ys.toArray := ⟨its.toList, by rw [Array.toArray_toList]⟩
  refine extend_in F N a c (N _ hb).1 (fun h' n' F' N' => h h' n' F' ?_) (by rw [List.size_toArray] at hz; exact hz)
  rw [hg]
  have e : ys.toArray ++ its2 = (ys ++ its2.toList).toArray := by simp
  rw [e]
  exact N'
end
theorem off_lt {l : List (Addr × Obj)} {D : Addr} (h : ∀ p ∈ l, p.1 < D) : ∀ p ∈ l, p.1 ≠ D := fun p hp => Nat.ne_of_lt (h p hp)
theorem off_gt {l : List (Addr × Obj)} {D : Addr} (h : ∀ p ∈ l, D < p.1) : ∀ p ∈ l, p.1 ≠ D := fun p hp => Nat.ne_of_gt (h p hp)
/-- what holds ahead of turn i of a for -/
def RgJ {σ : Type} (Led : σ → List (Addr × Obj)) (ps : σ → List (Str × Value)) (x : Str) (stored : List Str) (m₀ : Str → Option Value) (P : Nat → σ → Prop) (i : Nat) (m : Str → Option Value) (nx : List (Addr × Obj)) : Prop :=
  ∃ c, nx = Led c ∧ P i c ∧ (∀ p ∈ ps c, m p.1 = some p.2) ∧ (∀ z, z ≠ x → (∀ p ∈ ps c, z ≠ p.1) → stored.contains z = false → m z = m₀ z)
theorem rg_end {σ : Type} {Led : σ → List (Addr × Obj)} {ps : σ → List (Str × Value)} {x : Str} {stored : List Str} {m₀ m' : Str → Option Value} {P : Nat → σ → Prop} {i : Nat} {h₀ h' : Heap} {L : Addr} {own news' : List (Addr × Obj)} {s₁ : Shared} {tk : Nat} (c' : σ)
    (F : Fr h₀ L h' m') (N : News h₀ L h' news') (hn : ∀ p ∈ Led c', p ∈ news') (ho : ∀ p ∈ own, p ∈ news') (ha : ∀ p ∈ own, ∀ q ∈ Led c', p.1 ≠ q.1) (hk : ∀ p ∈ ps c', m' p.1 = some p.2) (hr : ∀ z, z ≠ x → (∀ p ∈ ps c', z ≠ p.1) → stored.contains z = false → m' z = m₀ z) (hp : P i c') :
    InvEndG h₀ L (RgJ Led ps x stored m₀ P i) own s₁ { s₁ with heap := h', toks := tk } :=
  InvEndG.intro F N ⟨c', rfl, hp, hk, hr⟩ (fun p hp b hb => by obtain ⟨q, hq, rfl⟩ := List.mem_map.mp hb; exact ha p hp q hq) hn ho
section
variable {prog : Program} {w : World} {A : Around} {E : Value → Shared → Prop} {s : Shared} {env : Env} {h₀ : Heap} {x : Str} {body : List Stmt} {Q : Flow → Shared → Prop}
/-- a for over a range -/
theorem rg_for {σ : Type} {r : Addr} {a₀ b₀ : Int} {t₀ u₀ v₀ : Tok} {n : Nat} {m₀ : Str → Option Value} {news : List (Addr × Obj)} (Led : σ → List (Addr × Obj)) (ps : σ → List (Str × Value)) (stored : List Str) (P : Nat → σ → Prop) (c₀ : σ)
    (hh : A.handled = none) (hr : IsRange s.heap r a₀ b₀ 1 t₀ u₀ v₀) (hsmall : Builtin.Range.small a₀ b₀ 1 = true) (hsz : Builtin.Range.rangeSize a₀ b₀ 1 = (n : Int)) (F : Fr h₀ env.locals s.heap m₀) (N : News h₀ env.locals s.heap news) (hn : ∀ p ∈ Led c₀, p ∈ news) (hk : ∀ p ∈ ps c₀, m₀ p.1 = some p.2) (hp : P 0 c₀)
    (turn : ∀ (c : σ) (i : Nat) t (u : Str → Option Value) h tk own, i < n → P i c → (∀ p ∈ own, ∀ q ∈ Led c, p.1 ≠ q.1) →
      Fr h₀ env.locals h (fun y => if y = x then some (.int (a₀ + i) t) else kstB (fun z => if stored.contains z then u z else m₀ z) (ps c) y) → News h₀ env.locals h (Led c ++ own) →
      wpAny (model prog w) A (execs body env) (InvPostG h₀ env.locals (RgJ Led ps x stored m₀ P (i + 1)) own { s with heap := h, toks := tk } Q) E { s with heap := h, toks := tk })
    (done : ∀ (c : σ) (u : Str → Option Value) h tk, P n c → Fr h₀ env.locals h (fun y => if y = x then u y else kstB (fun z => if stored.contains z then u z else m₀ z) (ps c) y) → News h₀ env.locals h (Led c) → Q .next { s with heap := h, toks := tk }) :
    wpAny (model prog w) A (pyIter (.ref r)) (fun it s₂ => LoopAtV prog w A h₀ env x body Q E it s₂) E s := by
  refine wpAny_pyIter_range hr hsmall ?_
  have W : Walks prog w A s.heap.objs.size [s.heap.objs.size] [s.heap.objs.size] n (fun i v => i < n ∧ ∃ t, v = .int (a₀ + i * 1) t)
      (fun i h => IsRangeIter h s.heap.objs.size (a₀ + (i : Nat) * 1) ((n : Int) - (i : Nat)) 1) := (Walks.range hh _ a₀ 1 n).bound
  refine kdr_loop (RgJ Led ps x stored m₀ P) W (fun _ h => h) (fun _ h => h) ?_ ?_ ?_ ?_ (by show IsRangeIter _ _ _ _ _; rw [hsz]; simpa using Heap.get?_push_size _ rfl) (F.push _) (fun p hp => ⟨Heap.get?_push_of_some _ (N p (hn p hp)).1, (N p (hn p hp)).2⟩) ⟨c₀, rfl, hp, hk, fun _ _ _ _ => rfl⟩ ?_ ?_
  · intro i h hi b hb
    rw [List.mem_singleton.mp hb]
    exact ⟨_, hi⟩
  · intro hm
    exact absurd F.ns.lt ((List.mem_singleton.mp hm) ▸ Nat.lt_irrefl _)
  · intro b hb
    rw [List.mem_singleton.mp hb]
    exact next_is_new F
  · intro p hp hI
    exact absurd (Heap.lt_size (N p (hn p hp)).1) ((List.mem_singleton.mp hI) ▸ Nat.lt_irrefl _)
  · rintro i v m₁ nx h tk own hi ⟨_, t, rfl⟩ hoff ⟨c, rfl, hp', h1, h2⟩ F₁ N₁
    have e1 : a₀ + (i : Int) * 1 = a₀ + (i : Int) := by omega
    rw [e1] at F₁
    exact turn c i t m₁ h tk own hi hp' (fun p hp q hq => hoff p hp q.1 (List.mem_map.mpr ⟨q, hq, rfl⟩)) (kst_fr h1 h2 F₁) N₁
  · rintro m₁ nx h tk ⟨c, rfl, hp', h1, h2⟩ F₁ N₁
    exact done c m₁ h tk hp' (kst_frOut h1 h2 F₁) N₁
/-- a for over a list of the ledger's, by a name -/
theorem ls_for {σ : Type} {l : Addr} {vs : List Value} {nn : Nat} {m₀ : Str → Option Value} {news : List (Addr × Obj)} (Led : σ → List (Addr × Obj)) (ps : σ → List (Str × Value)) (stored : List Str) (P : Nat → σ → Prop) (c₀ : σ)
    (hh : A.handled = none) (hl : (l, listOf vs.toArray nn) ∈ news) (hlL : ∀ c, (l, listOf vs.toArray nn) ∈ Led c) (F : Fr h₀ env.locals s.heap m₀) (N : News h₀ env.locals s.heap news) (hn : ∀ p ∈ Led c₀, p ∈ news) (hk : ∀ p ∈ ps c₀, m₀ p.1 = some p.2) (hp : P 0 c₀)
    (turn : ∀ (c : σ) (i : Nat) v (u : Str → Option Value) h tk own, vs[i]? = some v → P i c → (∀ p ∈ own, ∀ q ∈ Led c, p.1 ≠ q.1) →
      Fr h₀ env.locals h (fun y => if y = x then some v else kstB (fun z => if stored.contains z then u z else m₀ z) (ps c) y) → News h₀ env.locals h (Led c ++ own) →
      wpAny (model prog w) A (execs body env) (InvPostG h₀ env.locals (fun m' nx => (l, listOf vs.toArray nn) ∈ nx ∧ RgJ Led ps x stored m₀ P (i + 1) m' nx) own { s with heap := h, toks := tk } Q) E { s with heap := h, toks := tk })
    (done : ∀ (c : σ) (u : Str → Option Value) h tk, P vs.length c → Fr h₀ env.locals h (fun y => if y = x then u y else kstB (fun z => if stored.contains z then u z else m₀ z) (ps c) y) → News h₀ env.locals h (Led c) → Q .next { s with heap := h, toks := tk }) :
    wpAny (model prog w) A (pyIter (.ref l)) (fun it s₂ => LoopAtV prog w A h₀ env x body Q E it s₂) E s := by
  refine kdl_iter (RgJ Led ps x stored m₀ P) hh (hlL c₀) F (fun p hp => N p (hn p hp)) ⟨c₀, rfl, hp, hk, fun _ _ _ _ => rfl⟩ ?_ ?_
  · rintro i v m₁ nx h tk own hi hoff hm ⟨c, rfl, hp', h1, h2⟩ F₁ N₁
    exact turn c i v m₁ h tk own hi hp' (fun p hp q hq => hoff p hp q.1 (List.mem_map.mpr ⟨q, hq, rfl⟩)) (kst_fr h1 h2 F₁) N₁
  · rintro m₁ nx h tk ⟨c, rfl, hp', h1, h2⟩ F₁ N₁
    exact done c m₁ h tk hp' (kst_frOut h1 h2 F₁) N₁
theorem ls_end {σ : Type} {Led : σ → List (Addr × Obj)} {ps : σ → List (Str × Value)} {x : Str} {stored : List Str} {m₀ m' : Str → Option Value} {P : Nat → σ → Prop} {i : Nat} {h' : Heap} {L l : Addr} {ol : Obj} {own news' : List (Addr × Obj)} {s₁ : Shared} {tk : Nat} (c' : σ)
    (F : Fr h₀ L h' m') (N : News h₀ L h' news') (hn : ∀ p ∈ Led c', p ∈ news') (ho : ∀ p ∈ own, p ∈ news') (hl : (l, ol) ∈ Led c') (ha : ∀ p ∈ own, ∀ q ∈ Led c', p.1 ≠ q.1) (hk : ∀ p ∈ ps c', m' p.1 = some p.2) (hr : ∀ z, z ≠ x → (∀ p ∈ ps c', z ≠ p.1) → stored.contains z = false → m' z = m₀ z) (hp : P i c') :
    InvEndG h₀ L (fun m' nx => (l, ol) ∈ nx ∧ RgJ Led ps x stored m₀ P i m' nx) own s₁ { s₁ with heap := h', toks := tk } :=
  InvEndG.intro F N ⟨hl, c', rfl, hp, hk, hr⟩ (fun p hp b hb => by obtain ⟨q, hq, rfl⟩ := List.mem_map.mp hb; exact ha p hp q hq) hn ho
end
/-- an object of the ledger's is set anew -/
theorem news_put {h₀ h h' : Heap} {L D : Addr} {o o' : Obj} {news : List (Addr × Obj)} (N : News h₀ L h news) (hm : (D, o) ∈ news) (hs : Heap.SameBut D h h') (ho : h'.get? D = some o') : News h₀ L h' (put D o' news) := by
  intro q hq
  rcases mem_put hq with rfl | ⟨hne, hq⟩
  · exact ⟨ho, (N _ hm).2.1, (N _ hm).2.2⟩
  · exact ⟨(hs.2 _ hne).trans (N q hq).1, (N q hq).2⟩
/-- a number in groups of seven bits, the lowest first -/
def vint (n : Nat) : List Int := if n < 128 then [(n : Int)] else (128 + (n % 128 : Nat) : Int) :: vint (n / 128)
termination_by n
decreasing_by omega
theorem vint_small {n : Nat} (h : n < 128) : vint n = [(n : Int)] := by rw [vint, if_pos h]
theorem vint_big {n : Nat} (h : ¬ n < 128) : vint n = (128 + (n % 128 : Nat) : Int) :: vint (n / 128) := by rw [vint, if_neg h]
theorem vint_len : ∀ n : Nat, 0 < (vint n).length ∧ (vint n).length ≤ n + 1 := by
  intro n
  induction n using Nat.strongRecOn with
  | ind n ih =>
    by_cases h : n < 128
    · rw [vint_small h]; simp
    · rw [vint_big h, List.length_cons]
      have := ih (n / 128) (by omega)
      omega
/-- two numbers whose bits do not meet -/
theorem or_apart {a : Int} {b : Int} {k : Nat} (h0 : 0 ≤ a) (h1 : a < 2 ^ k) (hb : 0 ≤ b) : Builtin.bitOr a (b * 2 ^ k) = a + b * 2 ^ k := by
  obtain ⟨x, rfl⟩ := Int.eq_ofNat_of_zero_le h0
  obtain ⟨y, rfl⟩ := Int.eq_ofNat_of_zero_le hb
  have e : ((y : Int) * 2 ^ k) = ((y * 2 ^ k : Nat) : Int) := by simp
  have hx : x < 2 ^ k := by
    have e2 : ((2 ^ k : Nat) : Int) = (2 : Int) ^ k := by simp
    rw [← e2] at h1
    exact Int.ofNat_lt.mp h1
  rw [e, bitOr_and, bitAnd_pp (Int.natCast_nonneg _) (Int.natCast_nonneg _)]
  have z : x &&& y * 2 ^ k = 0 := by
    refine Nat.eq_of_testBit_eq fun i => ?_
    rw [Nat.testBit_and, Nat.zero_testBit]
    by_cases hi : i < k
    · rw [← Nat.shiftLeft_eq, Nat.testBit_shiftLeft]
      simp [Nat.not_le.mpr hi]
    · have hxi : x.testBit i = false := Nat.testBit_lt_two_pow (Nat.lt_of_lt_of_le hx (Nat.pow_le_pow_right (by decide) (by omega)))
      rw [hxi]; rfl
  rw [Int.toNat_natCast, Int.toNat_natCast, z]
  simp
theorem or_128 {x : Int} (h0 : 0 ≤ x) (h1 : x < 128) : Builtin.bitOr 128 x = 128 + x := by
  rw [bitOr_comm]
  have := or_apart (a := x) (b := 1) (k := 7) h0 (by simpa using h1) (by decide)
  simp at this
  rw [this]; omega
theorem vint_one {n : Nat} (h : n < 128) : (vint n).length = 1 := by rw [vint_small h]; rfl
/-- a number from its bits, the lowest first -/
def toN : List Nat → Nat
  | [] => 0
  | b :: r => b + 2 * toN r
def Bits (bs : List Nat) : Prop := ∀ b ∈ bs, b < 2
theorem Bits.app {a b : List Nat} (ha : Bits a) (hb : Bits b) : Bits (a ++ b) := fun x hx => (List.mem_append.mp hx).elim (ha x) (hb x)
theorem toN_lt : ∀ {bs : List Nat}, Bits bs → toN bs < 2 ^ bs.length
  | [], _ => by simp [toN]
  | b :: r, h => by
    have h1 := h b (.head _)
    have h2 := toN_lt (bs := r) fun x hx => h x (.tail _ hx)
    rw [toN, List.length_cons, Nat.pow_succ]
    omega
theorem toN_app : ∀ (a b : List Nat), toN (a ++ b) = toN a + 2 ^ a.length * toN b
  | [], b => by simp [toN]
  | x :: a, b => by
    rw [List.cons_append, toN, toN, toN_app a b, List.length_cons, Nat.pow_succ, Nat.mul_add, Nat.add_assoc, ← Nat.mul_assoc, Nat.mul_comm 2 (2 ^ a.length)]
/-- the c lowest bits of v -/
def le (v : Nat) : Nat → List Nat
  | 0 => []
  | c + 1 => v % 2 :: le (v / 2) c
theorem le_len (v c : Nat) : (le v c).length = c := by
  induction c generalizing v with
  | zero => rfl
  | succ c ih => rw [le, List.length_cons, ih]
theorem le_bits (v c : Nat) : Bits (le v c) := by
  induction c generalizing v with
  | zero => intro x hx; cases hx
  | succ c ih =>
    intro x hx
    rw [le] at hx
    rcases List.mem_cons.mp hx with rfl | hx
    · omega
    · exact ih _ x hx
theorem toN_le (v c : Nat) (h : v < 2 ^ c) : toN (le v c) = v := by
  induction c generalizing v with
  | zero => simp at h; simp [le, toN, h]
  | succ c ih =>
    rw [Nat.pow_succ] at h
    rw [le, toN, ih (v / 2) (by omega)]
    omega
theorem le_zero (c : Nat) : le 0 c = List.replicate c 0 := by
  induction c with
  | zero => rfl
  | succ c ih => rw [le, List.replicate_succ]; simp [ih]
theorem le_one {b : Nat} (h : b < 2) : le b 1 = [b] := by simp [le]; omega
theorem toN_bit : ∀ (bs : List Nat) (i : Nat), Bits bs → toN bs / 2 ^ i % 2 = bs.getD i 0
  | [], i, _ => by simp [toN]
  | b :: r, 0, h => by
    have := h b (.head _)
    simp [toN]
    omega
  | b :: r, i + 1, h => by
    have hb := h b (.head _)
    have ih := toN_bit r i fun x hx => h x (.tail _ hx)
    rw [toN, Nat.pow_succ, Nat.mul_comm (2 ^ i) 2, ← Nat.div_div_eq_div_mul]
    have : (b + 2 * toN r) / 2 = toN r := by omega
    rw [this, ih]
    simp
/-- byte k of the stream -/
def byteK (bs : List Nat) (k : Nat) : Int := ((toN bs / 2 ^ (8 * k) % 256 : Nat) : Int)
def bytesK (bs : List Nat) (n : Nat) : List Int := (List.range n).map (byteK bs)
theorem bytesK_len (bs : List Nat) (n : Nat) : (bytesK bs n).length = n := by simp [bytesK]
theorem bytesK_succ (bs : List Nat) (n : Nat) : bytesK bs (n + 1) = bytesK bs n ++ [byteK bs n] := by simp [bytesK, List.range_succ]
theorem bytesK_get (bs : List Nat) (n k : Nat) (h : k < n) : (bytesK bs n).getD k 0 = byteK bs k := by
  simp [bytesK, List.getD, h]
/-- what stands whole stays as more comes behind -/
theorem byteK_app (a b : List Nat) (k : Nat) (h : 8 * (k + 1) ≤ a.length) : byteK (a ++ b) k = byteK a k := by
  unfold byteK
  congr 1
  rw [toN_app]
  obtain ⟨d, hd⟩ : ∃ d, a.length = 8 * k + (8 + d) := ⟨a.length - 8 * (k + 1), by omega⟩
  rw [hd, Nat.pow_add, Nat.mul_assoc, Nat.add_mul_div_left _ _ (Nat.two_pow_pos _), Nat.pow_add, Nat.mul_assoc]
  have : (2 : Nat) ^ 8 = 256 := by decide
  rw [this, Nat.add_mul_mod_self_left]
theorem bytesK_app (a b : List Nat) (n : Nat) (h : 8 * n ≤ a.length) : bytesK (a ++ b) n = bytesK a n := by
  refine List.map_congr_left fun k hk => byteK_app a b k ?_
  have := List.mem_range.mp hk
  omega
theorem byteK_in (bs : List Nat) (k : Nat) : 0 ≤ byteK bs k ∧ byteK bs k < 256 := by unfold byteK; omega
/-- what is held behind the whole bytes -/
theorem held_lt {bs : List Nat} (h : Bits bs) (k : Nat) (hk : 8 * k ≤ bs.length) : toN bs / 2 ^ (8 * k) < 2 ^ (bs.length - 8 * k) := by
  rw [Nat.div_lt_iff_lt_mul (Nat.two_pow_pos _), ← Nat.pow_add]
  have : bs.length - 8 * k + 8 * k = bs.length := by omega
  rw [this]
  exact toN_lt h
theorem held_app {a : List Nat} (b : List Nat) (k : Nat) (hk : 8 * k ≤ a.length) : toN (a ++ b) / 2 ^ (8 * k) = toN a / 2 ^ (8 * k) + toN b * 2 ^ (a.length - 8 * k) := by
  have e : 2 ^ a.length = 2 ^ (8 * k) * 2 ^ (a.length - 8 * k) := by rw [← Nat.pow_add]; congr 1; omega
  rw [toN_app, e, Nat.mul_assoc, Nat.add_mul_div_left _ _ (Nat.two_pow_pos _), Nat.mul_comm (toN b)]
theorem held_next (bs : List Nat) (k : Nat) : toN bs / 2 ^ (8 * k) / 256 = toN bs / 2 ^ (8 * (k + 1)) := by
  rw [Nat.div_div_eq_div_mul, Nat.mul_add, Nat.pow_add]
/-- the reader's bit -/
theorem bit_of (bs : List Nat) (h : Bits bs) (a : Nat) : (toN bs / 2 ^ (8 * (a / 8)) % 256) / 2 ^ (a % 8) % 2 = bs.getD a 0 := by
  rw [← toN_bit bs a h]
  have e : a = 8 * (a / 8) + a % 8 := by omega
  have e2 : 2 ^ a = 2 ^ (8 * (a / 8)) * 2 ^ (a % 8) := by rw [← Nat.pow_add, ← e]
  rw [e2, ← Nat.div_div_eq_div_mul]
  generalize toN bs / 2 ^ (8 * (a / 8)) = y
  have h8 : a % 8 < 8 := by omega
  generalize a % 8 = r at h8
  have : r = 0 ∨ r = 1 ∨ r = 2 ∨ r = 3 ∨ r = 4 ∨ r = 5 ∨ r = 6 ∨ r = 7 := by omega
  rcases this with rfl | rfl | rfl | rfl | rfl | rfl | rfl | rfl <;> simp <;> omega
/-- ones, a nought, and noughts up to a whole byte where asked -/
def pad8 (n : Nat) : Nat := (8 - n % 8) % 8
def uend (n c : Nat) (b : Bool) : Nat := if b then n + c + 1 + pad8 (n + c + 1) else n + c + 1
def uadd (s : List Nat) (c : Nat) (b : Bool) : List Nat := if b then s ++ List.replicate c 1 ++ [0] ++ List.replicate (pad8 (s ++ List.replicate c 1 ++ [0]).length) 0 else s ++ List.replicate c 1 ++ [0]
def ust (c : Nat → Nat) (b : Nat → Bool) : Nat → List Nat
  | 0 => []
  | k + 1 => uadd (ust c b k) (c k) (b k)
theorem uadd_len (s : List Nat) (c : Nat) (b : Bool) : (uadd s c b).length = uend s.length c b := by
  unfold uadd uend
  cases b <;> simp [Nat.add_assoc]
  omega
theorem uadd_pre (s : List Nat) (c : Nat) (b : Bool) : ∃ r, uadd s c b = s ++ (List.replicate c 1 ++ 0 :: r) := by
  unfold uadd
  cases b
  · exact ⟨[], by simp⟩
  · exact ⟨List.replicate (pad8 (s ++ List.replicate c 1 ++ [0]).length) 0, by simp⟩
theorem uadd_bits {s : List Nat} (h : Bits s) (c : Nat) (b : Bool) : Bits (uadd s c b) := by
  have h1 : Bits (List.replicate c 1) := fun x hx => by rw [List.eq_of_mem_replicate hx]; decide
  have h0 : Bits [0] := fun x hx => by rw [List.mem_singleton.mp hx]; decide
  unfold uadd
  cases b
  · exact (h.app h1).app h0
  · exact ((h.app h1).app h0).app fun x hx => by rw [List.eq_of_mem_replicate hx]; decide
theorem ust_bits (c : Nat → Nat) (b : Nat → Bool) : ∀ k, Bits (ust c b k)
  | 0 => fun _ h => nomatch h
  | k + 1 => uadd_bits (ust_bits c b k) _ _
theorem ust_more (c : Nat → Nat) (b : Nat → Bool) (k : Nat) : ∀ n, k ≤ n → ∃ r, ust c b n = ust c b k ++ r
  | 0, h => by
    obtain rfl : k = 0 := by omega
    exact ⟨[], by simp⟩
  | n + 1, h => by
    rcases Nat.lt_or_ge k (n + 1) with h' | h'
    · obtain ⟨r, hr⟩ := ust_more c b k n (by omega)
      obtain ⟨r', hr'⟩ := uadd_pre (ust c b n) (c n) (b n)
      exact ⟨r ++ (List.replicate (c n) 1 ++ 0 :: r'), by rw [ust, hr', hr, List.append_assoc]⟩
    · obtain rfl : k = n + 1 := by omega
      exact ⟨[], by simp⟩
theorem ust_at (c : Nat → Nat) (b : Nat → Bool) {k n : Nat} (h : k < n) : ∃ r, ust c b n = ust c b k ++ (List.replicate (c k) 1 ++ 0 :: r) := by
  obtain ⟨r, hr⟩ := ust_more c b (k + 1) n h
  obtain ⟨r', hr'⟩ := uadd_pre (ust c b k) (c k) (b k)
  exact ⟨r' ++ r, by rw [hr, ust, hr']; simp⟩
/-- what the reader meets behind a place -/
theorem ust_ones (c : Nat → Nat) (b : Nat → Bool) {k n i : Nat} (h : k < n) (hi : i < c k) : (ust c b n).getD ((ust c b k).length + i) 0 = 1 := by
  obtain ⟨r, hr⟩ := ust_at c b h
  rw [hr, List.getD, List.getElem?_append_right (by omega), show (ust c b k).length + i - (ust c b k).length = i by omega, List.getElem?_append_left (by simpa using hi)]
  simp [hi]
theorem ust_zero (c : Nat → Nat) (b : Nat → Bool) {k n : Nat} (h : k < n) : (ust c b n).getD ((ust c b k).length + c k) 0 = 0 := by
  obtain ⟨r, hr⟩ := ust_at c b h
  rw [hr, List.getD, List.getElem?_append_right (by omega), show (ust c b k).length + c k - (ust c b k).length = c k by omega, List.getElem?_append_right (by simp)]
  simp
theorem ust_len_lt (c : Nat → Nat) (b : Nat → Bool) {k n : Nat} (h : k < n) : (ust c b k).length + c k + 1 ≤ (ust c b n).length := by
  obtain ⟨r, hr⟩ := ust_at c b h
  rw [hr]
  simp
  omega
theorem ust_len_le {c : Nat → Nat} {b : Nat → Bool} {m : Nat} (hc : ∀ k, c k ≤ m) : ∀ n, (ust c b n).length ≤ n * (m + 8)
  | 0 => by simp [ust]
  | n + 1 => by
    have := ust_len_le hc (b := b) n
    have h1 := hc n
    rw [ust, uadd_len, uend, Nat.succ_mul]
    unfold pad8
    split <;> omega
theorem pow_cast' (k : Nat) : ((2 ^ k : Nat) : Int) = (2 : Int) ^ k := by simp
theorem zero_lt_pow (c : Int) : (0 : Int) < 2 ^ c.toNat := by
  rw [← pow_cast']; exact Int.natCast_pos.mpr (Nat.two_pow_pos _)
/-- the ledger without what stands at D and O -/
def rest2 (D O : Addr) (news : List (Addr × Obj)) : List (Addr × Obj) := news.filter fun q => decide (q.1 ≠ D ∧ q.1 ≠ O)
theorem rest2_D {D O : Addr} {news : List (Addr × Obj)} : ∀ q ∈ rest2 D O news, q.1 ≠ D := fun q hq => (of_decide_eq_true (List.mem_filter.mp hq).2).1
theorem rest2_O {D O : Addr} {news : List (Addr × Obj)} : ∀ q ∈ rest2 D O news, q.1 ≠ O := fun q hq => (of_decide_eq_true (List.mem_filter.mp hq).2).2
theorem news_split2 {h₀ h : Heap} {L D O : Addr} {a b c : Addr × Obj} {news : List (Addr × Obj)} (N : News h₀ L h news) (ha : a ∈ news) (hb : b ∈ news) (hc : c ∈ news) : News h₀ L h (a :: b :: c :: rest2 D O news) := by
  intro q hq
  rcases List.mem_cons.mp hq with rfl | hq
  · exact N _ ha
  · rcases List.mem_cons.mp hq with rfl | hq
    · exact N _ hb
    · rcases List.mem_cons.mp hq with rfl | hq
      · exact N _ hc
      · exact N q (List.mem_filter.mp hq).1
theorem news_join2 {h₀ h : Heap} {L D O : Addr} {a : Addr × Obj} {d o : Obj} {news : List (Addr × Obj)} (N : News h₀ L h (a :: (D, d) :: (O, o) :: rest2 D O news)) : News h₀ L h (put D d (put O o news)) := by
  intro q hq
  rcases mem_put hq with rfl | ⟨hD, hq⟩
  · exact N _ (.tail _ (.head _))
  · rcases mem_put hq with rfl | ⟨hO, hq⟩
    · exact N _ (.tail _ (.tail _ (.head _)))
    · exact N q (.tail _ (.tail _ (.tail _ (List.mem_filter.mpr ⟨hq, decide_eq_true ⟨hD, hO⟩⟩))))
/-- the writer's dict -/
def bwEs (P : Params) (t1 t2 t3 : Tok) (O : Addr) (hv : Int) (th : Tok) (cv : Int) (tc : Tok) : List DictEntry :=
  [⟨PyData.keyHash P (Str.ofString "_out"), .str (Str.ofString "_out") t1, .ref O⟩, ⟨PyData.keyHash P (Str.ofString "_held"), .str (Str.ofString "_held") t2, .int hv th⟩, ⟨PyData.keyHash P (Str.ofString "_count"), .str (Str.ofString "_count") t3, .int cv tc⟩]
structure BwS where
  i : Nat
  hv : Int
  th : Tok
  cv : Int
  tc : Tok
  vs : List Value
  cn : Nat
def bwLed (P : Params) (t1 t2 t3 : Tok) (S D O : Addr) (oS : Obj) (news : List (Addr × Obj)) (c : BwS) : List (Addr × Obj) :=
  (S, oS) :: (D, dictOf (bwEs P t1 t2 t3 O c.hv c.th c.cv c.tc) 3) :: (O, listOf c.vs.toArray c.cn) :: news
def bwFacts (bs : List Nat) (c : BwS) : Prop := IntsAre c.vs (bytesK bs c.i)
def bwP (bs : List Nat) (c : BwS) : Prop := c.hv = ((toN bs / 2 ^ (8 * c.i) : Nat) : Int) ∧ c.cv = (bs.length : Int) - 8 * c.i ∧ 8 * c.i ≤ bs.length
def bwMu (c : BwS) : Nat := c.cv.toNat
section
variable {prog : Program} {w : World} {A : Around} {E : Value → Shared → Prop} {Q : Flow → Shared → Prop} {s : Shared} {env : Env} {h₀ : Heap} {L : Addr}
theorem bw_while {test : Expr} {body : List Stmt} {pos : Pos} {m₀ : Str → Option Value} {P : Params} {t1 t2 t3 th tc : Tok} {S D O : Addr} {oS : Obj} {hv cv : Int} {cn : Nat} {vs : List Value} {news : List (Addr × Obj)} {bs : List Nat} {i : Nat}
    (F : Fr h₀ L s.heap m₀) (N : News h₀ L s.heap ((S, oS) :: (D, dictOf [⟨PyData.keyHash P (Str.ofString "_out"), .str (Str.ofString "_out") t1, .ref O⟩, ⟨PyData.keyHash P (Str.ofString "_held"), .str (Str.ofString "_held") t2, .int hv th⟩, ⟨PyData.keyHash P (Str.ofString "_count"), .str (Str.ofString "_count") t3, .int cv tc⟩] 3) :: (O, listOf vs.toArray cn) :: news))
    (kI : IntsAre vs (bytesK bs i)) (hh : hv = ((toN bs / 2 ^ (8 * i) : Nat) : Int)) (hc : cv = (bs.length : Int) - 8 * i) (hi : 8 * i ≤ bs.length) (hb : bs.length ≤ 100000)
    (turn : ∀ (i : Nat) (hv : Int) (th : Tok) (cv : Int) (tc : Tok) (vs : List Value) (cn : Nat) (u : Str → Option Value) h tk,
      IntsAre vs (bytesK bs i) → vs.length = i → hv = ((toN bs / 2 ^ (8 * i) : Nat) : Int) → cv = (bs.length : Int) - 8 * i → 8 * i ≤ bs.length → 0 ≤ hv → 0 ≤ cv → i ≤ 100000 →
      Fr h₀ L h (fun y => if ([] : List Str).contains y then u y else m₀ y) → News h₀ L h ((S, oS) :: (D, dictOf [⟨PyData.keyHash P (Str.ofString "_out"), .str (Str.ofString "_out") t1, .ref O⟩, ⟨PyData.keyHash P (Str.ofString "_held"), .str (Str.ofString "_held") t2, .int hv th⟩, ⟨PyData.keyHash P (Str.ofString "_count"), .str (Str.ofString "_count") t3, .int cv tc⟩] 3) :: (O, listOf vs.toArray cn) :: news) →
      wpAny (model prog w) A (isTrue test env (eval test env)) (fun b s₂ =>
        if b = true then wpAny (model prog w) A (execs body env) (KswPost h₀ L s (bwLed P t1 t2 t3 S D O oS news) (fun _ => []) (bwFacts bs) [] m₀ (bwP bs) bwMu Q ⟨i, hv, th, cv, tc, vs, cn⟩) E s₂ else Q .next s₂) E { s with heap := h, toks := tk })
    (hE : PassesOwn (model prog w) A env E := by passes_own) :
    wpAny (model prog w) A (exec (.While test body [] pos) env) Q E s := by
  refine ksw_while (bwLed P t1 t2 t3 S D O oS news) (fun _ => []) (bwFacts bs) [] (bwP bs) bwMu ⟨i, hv, th, cv, tc, vs, cn⟩ F N kI (fun _ h => nomatch h) ⟨hh, hc, hi⟩ ?_ hE
  rintro ⟨i, hv, th, cv, tc, vs, cn⟩ u h tk f1 ⟨p1, p2, p3⟩ F₁ N₁
  have p1' : hv = ((toN bs / 2 ^ (8 * i) : Nat) : Int) := p1
  have p2' : cv = (bs.length : Int) - 8 * i := p2
  have p3' : 8 * i ≤ bs.length := p3
  have hl : vs.length = i := by rw [IntsAre.length f1]; exact bytesK_len _ _
  exact turn i hv th cv tc vs cn u h tk f1 hl p1' p2' p3' (by rw [p1']; exact Int.natCast_nonneg _) (by omega) (by omega) F₁ N₁
theorem bw_end {m₀ m' : Str → Option Value} {P : Params} {t1 t2 t3 th tc th' tc' tv : Tok} {S D O : Addr} {oS : Obj} {hv cv : Int} {cn cn' : Nat} {vs : List Value} {news : List (Addr × Obj)} {bs : List Nat} {i : Nat} {h' : Heap} {tk : Nat}
    (F : Fr h₀ L h' m') (N : News h₀ L h' ((S, oS) :: (D, dictOf [⟨PyData.keyHash P (Str.ofString "_out"), .str (Str.ofString "_out") t1, .ref O⟩, ⟨PyData.keyHash P (Str.ofString "_held"), .str (Str.ofString "_held") t2, .int (hv.fdiv (2 ^ (8 : Int).toNat)) th'⟩, ⟨PyData.keyHash P (Str.ofString "_count"), .str (Str.ofString "_count") t3, .int (cv - 8) tc'⟩] 3) :: (O, listOf (vs.toArray.push (.int (Builtin.bitAnd hv 255) tv)) cn') :: news))
    (hr : ∀ z, (∀ p ∈ ([] : List (Str × Value)), z ≠ p.1) → ([] : List Str).contains z = false → m' z = m₀ z)
    (kI : IntsAre vs (bytesK bs i)) (hh : hv = ((toN bs / 2 ^ (8 * i) : Nat) : Int)) (hc : cv = (bs.length : Int) - 8 * i) (hi : 8 * i ≤ bs.length) (h8 : 8 ≤ cv) :
    KswEnd h₀ L s (bwLed P t1 t2 t3 S D O oS news) (fun _ => []) (bwFacts bs) [] m₀ (bwP bs) bwMu ⟨i, hv, th, cv, tc, vs, cn⟩ { s with heap := h', toks := tk } := by
  have e1 : hv.fdiv (2 ^ (8 : Int).toNat) = ((toN bs / 2 ^ (8 * (i + 1)) : Nat) : Int) := by
    have : ((2 : Int) ^ (8 : Int).toNat) = 256 := by decide
    rw [this, hh, Int.fdiv_eq_ediv_of_nonneg _ (by decide), ← held_next]
    omega
  have e2 : Builtin.bitAnd hv 255 = byteK bs i := by
    rw [bitAnd_m8, hh]
    unfold byteK
    omega
  have ea : vs.toArray.push (.int (Builtin.bitAnd hv 255) tv) = (vs ++ [Value.int (byteK bs i) tv]).toArray := by rw [e2]; simp
  rw [ea, e1] at N
  refine ksw_end (c' := ⟨i + 1, _, th', cv - 8, tc', vs ++ [Value.int (byteK bs i) tv], cn'⟩) F N (fun _ h => h) ?_ (fun _ h => nomatch h) hr ⟨rfl, ?_, ?_⟩ ?_
  · show IntsAre _ (bytesK bs (i + 1))
    rw [bytesK_succ]
    exact kI.append (.cons _ _ .nil)
  · show cv - 8 = (bs.length : Int) - 8 * ((i + 1 : Nat) : Int)
    omega
  · show 8 * (i + 1) ≤ bs.length
    omega
  · show (cv - 8).toNat < cv.toNat
    omega
end
/-- what the writer holds, by the bits written -/
def BwHeld (bs : List Nat) (hv cv : Int) (vs : List Value) : Prop := IntsAre vs (bytesK bs (bs.length / 8)) ∧ hv = ((toN bs / 2 ^ (8 * (bs.length / 8)) : Nat) : Int) ∧ cv = ((bs.length % 8 : Nat) : Int) ∧ Bits bs
/-- more bits are held -/
theorem bw_or {bs : List Nat} {hv cv v c : Int} {vs : List Value} (h : BwHeld bs hv cv vs) (hv2 : v < 2 ^ c.toNat) (h0 : 0 ≤ v) (hc0 : 0 ≤ c) :
    Builtin.bitOr hv (v * 2 ^ cv.toNat) = ((toN (bs ++ le v.toNat c.toNat) / 2 ^ (8 * (bs.length / 8)) : Nat) : Int) ∧ cv + c = ((bs ++ le v.toNat c.toNat).length : Int) - 8 * (bs.length / 8 : Nat) ∧ 8 * (bs.length / 8) ≤ (bs ++ le v.toNat c.toNat).length ∧
      IntsAre vs (bytesK (bs ++ le v.toNat c.toNat) (bs.length / 8)) ∧ Bits (bs ++ le v.toNat c.toNat) := by
  obtain ⟨a1, a2, a3, a4⟩ := h
  have hle : 8 * (bs.length / 8) ≤ bs.length := by omega
  have hcv : cv.toNat = bs.length - 8 * (bs.length / 8) := by omega
  refine ⟨?_, ?_, ?_, ?_, a4.app (le_bits _ _)⟩
  · have hlt := held_lt a4 (bs.length / 8) hle
    rw [← hcv] at hlt
    rw [or_apart (by rw [a2]; exact Int.natCast_nonneg _) ?_ h0, held_app _ _ hle, ← hcv, toN_le, a2]
    · push_cast
      rw [Int.toNat_of_nonneg h0]
    · have e : ((2 ^ c.toNat : Nat) : Int) = (2 : Int) ^ c.toNat := by simp
      rw [← e] at hv2
      omega
    · have e : ((2 ^ cv.toNat : Nat) : Int) = (2 : Int) ^ cv.toNat := by simp
      rw [a2, ← e]
      exact Int.ofNat_lt.mpr hlt
  · rw [List.length_append, le_len]
    omega
  · rw [List.length_append]
    omega
  · rw [bytesK_app _ _ _ hle]
    exact a1
/-- the loop's end -/
theorem bw_fin {bs : List Nat} {hv cv : Int} {vs : List Value} {i : Nat} (kI : IntsAre vs (bytesK bs i)) (hh : hv = ((toN bs / 2 ^ (8 * i) : Nat) : Int)) (hc : cv = (bs.length : Int) - 8 * i) (hi : 8 * i ≤ bs.length) (h8 : ¬ 8 ≤ cv) (hb : Bits bs) : BwHeld bs hv cv vs := by
  have e : bs.length / 8 = i := by omega
  refine ⟨by rw [e]; exact kI, by rw [e]; exact hh, by omega, hb⟩
def BwOut (P : Params) (t1 t2 t3 : Tok) (D O : Addr) (bs : List Nat) (news : List (Addr × Obj)) (r : Value) (news' : List (Addr × Obj)) : Prop :=
  ∃ hv th cv tc vs cn, r = .none ∧ news' = put D (dictOf [⟨PyData.keyHash P (Str.ofString "_out"), .str (Str.ofString "_out") t1, .ref O⟩, ⟨PyData.keyHash P (Str.ofString "_held"), .str (Str.ofString "_held") t2, .int hv th⟩, ⟨PyData.keyHash P (Str.ofString "_count"), .str (Str.ofString "_count") t3, .int cv tc⟩] 3) (put O (listOf vs.toArray cn) news) ∧ BwHeld bs hv cv vs
def BwC (f cls : Addr) (prog : Program) (w : World) (K : Frag) (p : Program) (loose : List Str) (mean : ExcName → Option Value) (mg mb : Str → Option Value) : Prop :=
  ∀ (bs : List Nat) (S D O : Addr) (t1 t2 t3 th tc t u : Tok) (hv cv v c : Int) (vs : List Value) (cn : Nat) (news : List (Addr × Obj)), (S, instObj cls D) ∈ news →
    (D, dictOf [⟨PyData.keyHash w.params (Str.ofString "_out"), .str (Str.ofString "_out") t1, .ref O⟩, ⟨PyData.keyHash w.params (Str.ofString "_held"), .str (Str.ofString "_held") t2, .int hv th⟩, ⟨PyData.keyHash w.params (Str.ofString "_count"), .str (Str.ofString "_count") t3, .int cv tc⟩] 3) ∈ news →
    (O, listOf vs.toArray cn) ∈ news → S ≠ D → S ≠ O → D ≠ O → BwHeld bs hv cv vs → 0 ≤ v → 0 ≤ c → c ≤ 64 → v < 2 ^ c.toNat → bs.length ≤ 90000 →
    Fun prog w K p loose mean mg mb 20 f [.ref S, .int v t, .int c u] news (BwOut w.params t1 t2 t3 D O (bs ++ le v.toNat c.toNat) news)
theorem lt64 {v c : Int} (hc : c ≤ 64) (h : v < 2 ^ c.toNat) : v < 18446744073709551616 := by
  have e : ((2 ^ c.toNat : Nat) : Int) = (2 : Int) ^ c.toNat := by simp
  have h2 : 2 ^ c.toNat ≤ 2 ^ 64 := Nat.pow_le_pow_right (by decide) (by omega)
  have h3 : (2 : Nat) ^ 64 = 18446744073709551616 := by decide
  rw [← e] at h
  omega
theorem shr_zero {v c : Int} (h0 : 0 ≤ v) (h : v < 2 ^ c.toNat) : v.fdiv (2 ^ c.toNat) = 0 := by
  rw [Int.fdiv_eq_ediv_of_nonneg _ (by exact Int.le_of_lt (Int.lt_of_le_of_lt h0 h))]
  exact Int.ediv_eq_zero_of_lt h0 h
theorem held_count {bs : List Nat} {hv cv : Int} {vs : List Value} (h : BwHeld bs hv cv vs) : 0 ≤ hv ∧ hv < 256 ∧ 0 ≤ cv ∧ cv ≤ 7 ∧ vs.length = bs.length / 8 := by
  obtain ⟨a1, a2, a3, a4⟩ := h
  have hlt := held_lt a4 (bs.length / 8) (by omega)
  have h2 : 2 ^ (bs.length - 8 * (bs.length / 8)) ≤ 2 ^ 8 := Nat.pow_le_pow_right (by decide) (by omega)
  have h3 : (2 : Nat) ^ 8 = 256 := by decide
  refine ⟨by rw [a2]; exact Int.natCast_nonneg _, by rw [a2]; exact Int.ofNat_lt.mpr (Nat.lt_of_lt_of_le hlt h2), by omega, by omega, ?_⟩
  rw [a1.length, bytesK_len]
theorem rshift_fit {prog : Program} {w : World} {A : Around} {E : Value → Shared → Prop} {s : Shared} {Q : Value → Shared → Prop} {a n : Int} {t u : Tok} (hn : 0 ≤ n) (h0 : a.fdiv (2 ^ n.toNat) = 0) (h : Q (.int 0 s.toks) { s with toks := s.toks + 1 }) : wpAny (model prog w) A (binaryOp .RShift (.int a t) (.int n u)) Q E s :=
  rshift_int hn (by rw [h0]; exact h)
theorem bw_ret {h₀ h : Heap} {L S D O : Addr} {oS : Obj} {m : Str → Option Value} {s : Shared} {Q : Value → Shared → Prop} {P : Params} {t1 t2 t3 th tc : Tok} {hv cv : Int} {vs : List Value} {cn : Nat} {bs : List Nat} {i : Nat} {news : List (Addr × Obj)} {tk : Nat}
    (hret : ∀ r news' h' tk', BwOut P t1 t2 t3 D O bs news r news' → Fr h₀ L h' m → News h₀ L h' news' → Q r { s with heap := h', toks := tk' })
    (N : News h₀ L h ((S, oS) :: (D, dictOf [⟨PyData.keyHash P (Str.ofString "_out"), .str (Str.ofString "_out") t1, .ref O⟩, ⟨PyData.keyHash P (Str.ofString "_held"), .str (Str.ofString "_held") t2, .int hv th⟩, ⟨PyData.keyHash P (Str.ofString "_count"), .str (Str.ofString "_count") t3, .int cv tc⟩] 3) :: (O, listOf vs.toArray cn) :: rest2 D O news)) (F : Fr h₀ L h m)
    (kI : IntsAre vs (bytesK bs i)) (hh : hv = ((toN bs / 2 ^ (8 * i) : Nat) : Int)) (hc : cv = (bs.length : Int) - 8 * i) (hi : 8 * i ≤ bs.length) (h8 : ¬ 8 ≤ cv) (hb : Bits bs) : Q .none { s with heap := h, toks := tk } :=
  hret _ _ _ _ ⟨_, _, _, _, _, _, rfl, rfl, bw_fin kI hh hc hi h8 hb⟩ F (news_join2 N)
theorem bw_new : BwHeld [] 0 0 [] := ⟨.nil, by simp [toN], rfl, fun _ h => nomatch h⟩
theorem news_join1 {h₀ h : Heap} {L D : Addr} {a : Addr × Obj} {d : Obj} {news : List (Addr × Obj)} (N : News h₀ L h (a :: (D, d) :: rest2 D D news)) : News h₀ L h (put D d news) := by
  intro q hq
  rcases mem_put hq with rfl | ⟨hD, hq⟩
  · exact N _ (.tail _ (.head _))
  · exact N q (.tail _ (.tail _ (List.mem_filter.mpr ⟨hq, decide_eq_true ⟨hD, hD⟩⟩)))
theorem news_split1 {h₀ h : Heap} {L D : Addr} {a b : Addr × Obj} {news : List (Addr × Obj)} (N : News h₀ L h news) (ha : a ∈ news) (hb : b ∈ news) : News h₀ L h (a :: b :: rest2 D D news) := by
  intro q hq
  rcases List.mem_cons.mp hq with rfl | hq
  · exact N _ ha
  · rcases List.mem_cons.mp hq with rfl | hq
    · exact N _ hb
    · exact N q (List.mem_filter.mp hq).1
/-- the bytes at the end -/
theorem bytesK_in (bs : List Nat) (n : Nat) : KBa.In (bytesK bs n) := by
  intro x hx
  obtain ⟨k, _, rfl⟩ := List.mem_map.mp hx
  exact byteK_in bs k
theorem fin_more {bs : List Nat} {hv cv : Int} {vs ws : List Value} {t : Tok} (h : BwHeld bs hv cv vs) (hI : IntsAre ws (bytesK bs (bs.length / 8))) (hc : 0 < cv) : IntsAre (ws ++ [.int hv t]) (bytesK bs ((bs.length + 7) / 8)) := by
  obtain ⟨a1, a2, a3, a4⟩ := h
  have e : (bs.length + 7) / 8 = bs.length / 8 + 1 := by omega
  rw [e, bytesK_succ]
  have hlt := held_lt a4 (bs.length / 8) (by omega)
  have h2 : 2 ^ (bs.length - 8 * (bs.length / 8)) ≤ 2 ^ 8 := Nat.pow_le_pow_right (by decide) (by omega)
  have e2 : byteK bs (bs.length / 8) = hv := by
    unfold byteK
    rw [a2, Nat.mod_eq_of_lt (Nat.lt_of_lt_of_le hlt h2)]
  rw [e2]
  exact hI.append (.cons _ _ .nil)
theorem fin_same {bs : List Nat} {hv cv : Int} {vs ws : List Value} (h : BwHeld bs hv cv vs) (hI : IntsAre ws (bytesK bs (bs.length / 8))) (hc : ¬ 0 < cv) : IntsAre ws (bytesK bs ((bs.length + 7) / 8)) := by
  obtain ⟨a1, a2, a3, a4⟩ := h
  have e : (bs.length + 7) / 8 = bs.length / 8 := by omega
  rw [e]
  exact hI
theorem news_back2 {h₀ h h' : Heap} {L D O : Addr} {x a : Addr × Obj} {d o : Obj} {news : List (Addr × Obj)} (N0 : News h₀ L h news) (hD : (D, d) ∈ news) (hO : (O, o) ∈ news) (N : News h₀ L h' (x :: a :: (D, d) :: (O, o) :: rest2 D O news)) : News h₀ L h' news := by
  intro q hq
  by_cases h1 : q.1 = D
  · have e1 := (N0 q hq).1
    rw [h1, (N0 _ hD).1] at e1
    have e2 : q = (D, d) := Prod.ext h1 (Option.some.inj e1).symm
    rw [e2]
    exact N _ (.tail _ (.tail _ (.head _)))
  · by_cases h2 : q.1 = O
    · have e1 := (N0 q hq).1
      rw [h2, (N0 _ hO).1] at e1
      have e2 : q = (O, o) := Prod.ext h2 (Option.some.inj e1).symm
      rw [e2]
      exact N _ (.tail _ (.tail _ (.tail _ (.head _))))
    · exact N q (.tail _ (.tail _ (.tail _ (.tail _ (List.mem_filter.mpr ⟨hq, decide_eq_true ⟨h1, h2⟩⟩)))))
def FnOut (bs : List Nat) (news : List (Addr × Obj)) (r : Value) (news' : List (Addr × Obj)) : Prop := ∃ b t, r = .bytes b t ∧ news' = news ∧ KBw.bInts b = bytesK bs ((bs.length + 7) / 8)
def FnC (f cls : Addr) (prog : Program) (w : World) (K : Frag) (p : Program) (loose : List Str) (mean : ExcName → Option Value) (mg mb : Str → Option Value) : Prop :=
  ∀ (bs : List Nat) (S D O : Addr) (t1 t2 t3 th tc : Tok) (hv cv : Int) (vs : List Value) (cn : Nat) (news : List (Addr × Obj)), (S, instObj cls D) ∈ news →
    (D, dictOf [⟨PyData.keyHash w.params (Str.ofString "_out"), .str (Str.ofString "_out") t1, .ref O⟩, ⟨PyData.keyHash w.params (Str.ofString "_held"), .str (Str.ofString "_held") t2, .int hv th⟩, ⟨PyData.keyHash w.params (Str.ofString "_count"), .str (Str.ofString "_count") t3, .int cv tc⟩] 3) ∈ news →
    (O, listOf vs.toArray cn) ∈ news → S ≠ D → S ≠ O → D ≠ O → BwHeld bs hv cv vs → bs.length ≤ 90000 →
    Fun prog w K p loose mean mg mb 20 f [.ref S] news (FnOut bs news)
/-- the reader's bit -/
theorem rb_val0 {bs : List Nat} {n : Nat} {a : Int} (hb : Bits bs) (h0 : 0 ≤ a) (h1 : a < 8 * n) : Builtin.bitAnd (((bytesK bs n).getD (a / 8).toNat 0).fdiv (2 ^ (a % 8).toNat)) 1 = ((bs.getD a.toNat 0 : Nat) : Int) := by
  obtain ⟨k, rfl⟩ := Int.eq_ofNat_of_zero_le h0
  have e1 : ((k : Int) / 8).toNat = k / 8 := by omega
  have e2 : ((k : Int) % 8).toNat = k % 8 := by omega
  rw [e1, e2, bytesK_get _ _ _ (by omega), bitAnd_m1, Int.toNat_natCast, ← bit_of bs hb k]
  unfold byteK
  have e : ((2 : Int) ^ (k % 8)) = ((2 ^ (k % 8) : Nat) : Int) := by simp
  rw [Int.fdiv_eq_ediv_of_nonneg _ (by rw [e]; exact Int.natCast_nonneg _), e]
  simp only [← Int.natCast_ediv]
  omega
theorem rb_val {bs : List Nat} {n : Nat} {a : Int} (hb : Bits bs) (h0 : 0 ≤ a) (h1 : a < 8 * n) : Builtin.bitAnd (((bytesK bs n).getD (a.fdiv 8).toNat 0).fdiv (2 ^ (a.fmod 8).toNat)) 1 = ((bs.getD a.toNat 0 : Nat) : Int) := by
  have e1 : a.fdiv 8 = a / 8 := Int.fdiv_eq_ediv_of_nonneg _ (by decide)
  have e2 : a.fmod 8 = a % 8 := Int.fmod_eq_emod_of_nonneg _ (by decide)
  rw [e1, e2]
  exact rb_val0 hb h0 h1
def RbOut (P : Params) (t1 t2 tb : Tok) (D : Addr) (b : Array UInt8) (x : Nat) (a : Int) (news : List (Addr × Obj)) (r : Value) (news' : List (Addr × Obj)) : Prop :=
  ∃ y t ta, r = .int y t ∧ y = (x : Int) ∧ news' = put D (dictOf [⟨PyData.keyHash P (Str.ofString "_data"), .str (Str.ofString "_data") t1, .bytes b tb⟩, ⟨PyData.keyHash P (Str.ofString "_at"), .str (Str.ofString "_at") t2, .int (a + 1) ta⟩] 2) news
def RbC (f cls : Addr) (prog : Program) (w : World) (K : Frag) (p : Program) (loose : List Str) (mean : ExcName → Option Value) (mg mb : Str → Option Value) : Prop :=
  ∀ (bs : List Nat) (n : Nat) (S D : Addr) (t1 t2 tb ta : Tok) (b : Array UInt8) (a : Int) (news : List (Addr × Obj)), (S, instObj cls D) ∈ news →
    (D, dictOf [⟨PyData.keyHash w.params (Str.ofString "_data"), .str (Str.ofString "_data") t1, .bytes b tb⟩, ⟨PyData.keyHash w.params (Str.ofString "_at"), .str (Str.ofString "_at") t2, .int a ta⟩] 2) ∈ news →
    S ≠ D → KBw.bInts b = bytesK bs n → Bits bs → 0 ≤ a → a < 8 * n → n ≤ 90000 →
    Fun prog w K p loose mean mg mb 20 f [.ref S] news (RbOut w.params t1 t2 tb D b (bs.getD a.toNat 0) a news)
section
variable {prog : Program} {w : World} {A : Around} {E : Value → Shared → Prop} {Q : Flow → Shared → Prop} {s : Shared} {env : Env} {h₀ : Heap} {L : Addr}
structure WuS where
  bs : List Nat
  hv : Int
  th : Tok
  cv : Int
  tc : Tok
  vs : List Value
  cn : Nat
def wuLed (P : Params) (t1 t2 t3 : Tok) (S D O : Addr) (oS : Obj) (news : List (Addr × Obj)) (c : WuS) : List (Addr × Obj) :=
  (S, oS) :: (D, dictOf (bwEs P t1 t2 t3 O c.hv c.th c.cv c.tc) 3) :: (O, listOf c.vs.toArray c.cn) :: news
def wuP (bs : List Nat) (i : Nat) (c : WuS) : Prop := c.bs = bs ++ List.replicate i 1 ∧ BwHeld c.bs c.hv c.cv c.vs
theorem wu_for {body : List Stmt} {r : Addr} {m₀ : Str → Option Value} {P : Params} {t1 t2 t3 th tc t₀ u₀ v₀ : Tok} {S D O : Addr} {oS : Obj} {hv cv : Int} {cn : Nat} {vs : List Value} {news : List (Addr × Obj)} {bs : List Nat} {n : Nat} {e : Int}
    (hh : A.handled = none) (hr : IsRange s.heap r 0 e 1 t₀ u₀ v₀) (hsmall : Builtin.Range.small 0 e 1 = true) (hsz : Builtin.Range.rangeSize 0 e 1 = (n : Int)) (F : Fr h₀ env.locals s.heap m₀)
    (N : News h₀ env.locals s.heap ((S, oS) :: (D, dictOf [⟨PyData.keyHash P (Str.ofString "_out"), .str (Str.ofString "_out") t1, .ref O⟩, ⟨PyData.keyHash P (Str.ofString "_held"), .str (Str.ofString "_held") t2, .int hv th⟩, ⟨PyData.keyHash P (Str.ofString "_count"), .str (Str.ofString "_count") t3, .int cv tc⟩] 3) :: (O, listOf vs.toArray cn) :: news)) (hW : BwHeld bs hv cv vs)
    (turn : ∀ (bs' : List Nat) (hv : Int) (th : Tok) (cv : Int) (tc : Tok) (vs : List Value) (cn : Nat) (i : Nat) t (u : Str → Option Value) h tk own, i < n → bs' = bs ++ List.replicate i 1 → bs'.length = bs.length + i → BwHeld bs' hv cv vs → (∀ p ∈ own, p.1 ≠ S) → (∀ p ∈ own, p.1 ≠ D) → (∀ p ∈ own, p.1 ≠ O) → (∀ p ∈ own, ∀ q ∈ news, p.1 ≠ q.1) →
      Fr h₀ env.locals h (fun y => if y = Str.ofString "k" then some (.int (0 + i) t) else if ([] : List Str).contains y then u y else m₀ y) →
      News h₀ env.locals h ((S, oS) :: (D, dictOf [⟨PyData.keyHash P (Str.ofString "_out"), .str (Str.ofString "_out") t1, .ref O⟩, ⟨PyData.keyHash P (Str.ofString "_held"), .str (Str.ofString "_held") t2, .int hv th⟩, ⟨PyData.keyHash P (Str.ofString "_count"), .str (Str.ofString "_count") t3, .int cv tc⟩] 3) :: (O, listOf vs.toArray cn) :: (news ++ own)) →
      wpAny (model prog w) A (execs body env) (InvPostG h₀ env.locals (RgJ (wuLed P t1 t2 t3 S D O oS news) (fun _ => []) (Str.ofString "k") [] m₀ (wuP bs) (i + 1)) own { s with heap := h, toks := tk } Q) E { s with heap := h, toks := tk })
    (done : ∀ (bs' : List Nat) (hv : Int) (th : Tok) (cv : Int) (tc : Tok) (vs : List Value) (cn : Nat) (u : Str → Option Value) h tk, bs' = bs ++ List.replicate n 1 → bs'.length = bs.length + n → BwHeld bs' hv cv vs →
      Fr h₀ env.locals h (fun y => if y = Str.ofString "k" then u y else if ([] : List Str).contains y then u y else m₀ y) →
      News h₀ env.locals h ((S, oS) :: (D, dictOf [⟨PyData.keyHash P (Str.ofString "_out"), .str (Str.ofString "_out") t1, .ref O⟩, ⟨PyData.keyHash P (Str.ofString "_held"), .str (Str.ofString "_held") t2, .int hv th⟩, ⟨PyData.keyHash P (Str.ofString "_count"), .str (Str.ofString "_count") t3, .int cv tc⟩] 3) :: (O, listOf vs.toArray cn) :: news) → Q .next { s with heap := h, toks := tk }) :
    wpAny (model prog w) A (pyIter (.ref r)) (fun it s₂ => LoopAtV prog w A h₀ env (Str.ofString "k") body Q E it s₂) E s := by
  refine rg_for (wuLed P t1 t2 t3 S D O oS news) (fun _ => []) [] (wuP bs) ⟨bs, hv, th, cv, tc, vs, cn⟩ hh hr hsmall hsz F N (fun _ h => h) (fun _ h => nomatch h) ⟨by simp, hW⟩ ?_ ?_
  · rintro ⟨bs', hv, th, cv, tc, vs, cn⟩ i t u h tk own hi ⟨p1, p2⟩ hoff F₁ N₁
    have p1' : bs' = bs ++ List.replicate i 1 := p1
    exact turn bs' hv th cv tc vs cn i t u h tk own hi p1' (by rw [p1']; simp) p2 (fun p hp => hoff p hp _ (.head _)) (fun p hp => hoff p hp _ (.tail _ (.head _))) (fun p hp => hoff p hp _ (.tail _ (.tail _ (.head _)))) (fun p hp q hq => hoff p hp q (.tail _ (.tail _ (.tail _ hq)))) F₁ N₁
  · rintro ⟨bs', hv, th, cv, tc, vs, cn⟩ u h tk ⟨p1, p2⟩ F₁ N₁
    have p1' : bs' = bs ++ List.replicate n 1 := p1
    exact done bs' hv th cv tc vs cn u h tk p1' (by rw [p1']; simp) p2 F₁ N₁
theorem wu_end {m₀ m' : Str → Option Value} {P : Params} {t1 t2 t3 th' tc' : Tok} {S D O : Addr} {oS : Obj} {hv' cv' : Int} {cn' : Nat} {vs' : List Value} {news own : List (Addr × Obj)} {bs bs' : List Nat} {i : Nat} {s₁ : Shared} {h' : Heap} {tk : Nat}
    (F : Fr h₀ L h' m') (N : News h₀ L h' ((S, oS) :: (D, dictOf [⟨PyData.keyHash P (Str.ofString "_out"), .str (Str.ofString "_out") t1, .ref O⟩, ⟨PyData.keyHash P (Str.ofString "_held"), .str (Str.ofString "_held") t2, .int hv' th'⟩, ⟨PyData.keyHash P (Str.ofString "_count"), .str (Str.ofString "_count") t3, .int cv' tc'⟩] 3) :: (O, listOf vs'.toArray cn') :: (news ++ own)))
    (hr : ∀ z, z ≠ Str.ofString "k" → (∀ p ∈ ([] : List (Str × Value)), z ≠ p.1) → ([] : List Str).contains z = false → m' z = m₀ z)
    (o1 : ∀ p ∈ own, p.1 ≠ S) (o2 : ∀ p ∈ own, p.1 ≠ D) (o3 : ∀ p ∈ own, p.1 ≠ O) (o4 : ∀ p ∈ own, ∀ q ∈ news, p.1 ≠ q.1) (hW : BwHeld (bs' ++ le (1 : Int).toNat (1 : Int).toNat) hv' cv' vs') (hb : bs' = bs ++ List.replicate i 1) :
    InvEndG h₀ L (RgJ (wuLed P t1 t2 t3 S D O oS news) (fun _ => []) (Str.ofString "k") [] m₀ (wuP bs) (i + 1)) own s₁ { s₁ with heap := h', toks := tk } := by
  have e : bs' ++ le (1 : Int).toNat (1 : Int).toNat = bs ++ List.replicate (i + 1) 1 := by
    rw [show (1 : Int).toNat = 1 from rfl, le_one (by decide), hb, List.append_assoc, ← List.replicate_succ']
  refine rg_end (c' := ⟨bs' ++ le (1 : Int).toNat (1 : Int).toNat, hv', th', cv', tc', vs', cn'⟩) F N ?_ ?_ ?_ (fun _ h => nomatch h) hr ⟨e, hW⟩
  · intro p hp
    rcases List.mem_cons.mp hp with rfl | hp
    · exact .head _
    · rcases List.mem_cons.mp hp with rfl | hp
      · exact .tail _ (.head _)
      · rcases List.mem_cons.mp hp with rfl | hp
        · exact .tail _ (.tail _ (.head _))
        · exact .tail _ (.tail _ (.tail _ (List.mem_append.mpr (.inl hp))))
  · exact fun p hp => .tail _ (.tail _ (.tail _ (List.mem_append.mpr (.inr hp))))
  · intro p hp q hq
    rcases List.mem_cons.mp hq with rfl | hq
    · exact o1 p hp
    · rcases List.mem_cons.mp hq with rfl | hq
      · exact o2 p hp
      · rcases List.mem_cons.mp hq with rfl | hq
        · exact o3 p hp
        · exact o4 p hp q hq
end
def WuC (f cls : Addr) (prog : Program) (w : World) (K : Frag) (p : Program) (loose : List Str) (mean : ExcName → Option Value) (mg mb : Str → Option Value) : Prop :=
  ∀ (bs : List Nat) (S D O : Addr) (t1 t2 t3 th tc t : Tok) (hv cv c : Int) (vs : List Value) (cn : Nat) (news : List (Addr × Obj)), (S, instObj cls D) ∈ news →
    (D, dictOf [⟨PyData.keyHash w.params (Str.ofString "_out"), .str (Str.ofString "_out") t1, .ref O⟩, ⟨PyData.keyHash w.params (Str.ofString "_held"), .str (Str.ofString "_held") t2, .int hv th⟩, ⟨PyData.keyHash w.params (Str.ofString "_count"), .str (Str.ofString "_count") t3, .int cv tc⟩] 3) ∈ news →
    (O, listOf vs.toArray cn) ∈ news → S ≠ D → S ≠ O → D ≠ O → BwHeld bs hv cv vs → 0 ≤ c → c ≤ 1000 → bs.length ≤ 80000 →
    Fun prog w K p loose mean mg mb 40 f [.ref S, .int c t] news (BwOut w.params t1 t2 t3 D O (bs ++ List.replicate c.toNat 1 ++ [0]) news)
def WaC (f cls : Addr) (prog : Program) (w : World) (K : Frag) (p : Program) (loose : List Str) (mean : ExcName → Option Value) (mg mb : Str → Option Value) : Prop :=
  ∀ (bs : List Nat) (S D O : Addr) (t1 t2 t3 th tc : Tok) (hv cv : Int) (vs : List Value) (cn : Nat) (news : List (Addr × Obj)), (S, instObj cls D) ∈ news →
    (D, dictOf [⟨PyData.keyHash w.params (Str.ofString "_out"), .str (Str.ofString "_out") t1, .ref O⟩, ⟨PyData.keyHash w.params (Str.ofString "_held"), .str (Str.ofString "_held") t2, .int hv th⟩, ⟨PyData.keyHash w.params (Str.ofString "_count"), .str (Str.ofString "_count") t3, .int cv tc⟩] 3) ∈ news →
    (O, listOf vs.toArray cn) ∈ news → S ≠ D → S ≠ O → D ≠ O → BwHeld bs hv cv vs → bs.length ≤ 80000 →
    Fun prog w K p loose mean mg mb 40 f [.ref S] news (BwOut w.params t1 t2 t3 D O (bs ++ List.replicate (pad8 bs.length) 0) news)
section
variable {h₀ h : Heap} {L S D O : Addr} {oS : Obj} {m : Str → Option Value} {s : Shared} {Q : Value → Shared → Prop} {P : Params} {t1 t2 t3 th tc : Tok} {hv cv c : Int} {vs : List Value} {cn : Nat} {bs bs' bs₁ : List Nat} {n : Nat} {news : List (Addr × Obj)} {tk : Nat}
theorem wu_ret (hret : ∀ r news' h' tk', BwOut P t1 t2 t3 D O bs₁ news r news' → Fr h₀ L h' m → News h₀ L h' news' → Q r { s with heap := h', toks := tk' })
    (N : News h₀ L h ((S, oS) :: (D, dictOf [⟨PyData.keyHash P (Str.ofString "_out"), .str (Str.ofString "_out") t1, .ref O⟩, ⟨PyData.keyHash P (Str.ofString "_held"), .str (Str.ofString "_held") t2, .int hv th⟩, ⟨PyData.keyHash P (Str.ofString "_count"), .str (Str.ofString "_count") t3, .int cv tc⟩] 3) :: (O, listOf vs.toArray cn) :: rest2 D O news)) (F : Fr h₀ L h m)
    (hW : BwHeld bs' hv cv vs) (e : bs' = bs₁) : Q .none { s with heap := h, toks := tk } :=
  hret _ _ _ _ ⟨_, _, _, _, _, _, rfl, rfl, e ▸ hW⟩ F (news_join2 N)
theorem wu_eq (hb : bs' = bs ++ List.replicate n 1) (hc : c = (n : Int)) : bs' ++ le (0 : Int).toNat (1 : Int).toNat = bs ++ List.replicate c.toNat 1 ++ [0] := by
  rw [show (1 : Int).toNat = 1 from rfl, show (0 : Int).toNat = 0 from rfl, le_one (by decide), hb, hc, Int.toNat_natCast]
theorem wa_eq (hW : BwHeld bs hv cv vs) (hc : 0 < cv) : bs ++ le (0 : Int).toNat (8 - cv).toNat = bs ++ List.replicate (pad8 bs.length) 0 := by
  have e : cv = ((bs.length % 8 : Nat) : Int) := hW.2.2.1
  have e2 : (8 - cv).toNat = pad8 bs.length := by unfold pad8; omega
  rw [e2, show (0 : Int).toNat = 0 from rfl, le_zero]
theorem wa_eq0 (hW : BwHeld bs hv cv vs) (hc : ¬ 0 < cv) : bs = bs ++ List.replicate (pad8 bs.length) 0 := by
  have e : cv = ((bs.length % 8 : Nat) : Int) := hW.2.2.1
  have e2 : pad8 bs.length = 0 := by unfold pad8; omega
  rw [e2]; simp
end
theorem put2_rest {D O : Addr} {d o : Obj} {news : List (Addr × Obj)} : put D d (put O o (rest2 D O news)) = rest2 D O news := by
  rw [put_off rest2_O, put_off rest2_D]
theorem put2_own {D O : Addr} {d o : Obj} {news own : List (Addr × Obj)} (h1 : ∀ p ∈ own, p.1 ≠ D) (h2 : ∀ p ∈ own, p.1 ≠ O) : put D d (put O o (rest2 D O news ++ own)) = rest2 D O news ++ own := by
  rw [put_off (List.forall_mem_append.mpr ⟨rest2_O, h2⟩), put_off (List.forall_mem_append.mpr ⟨rest2_D, h1⟩)]
theorem put1_rest {D : Addr} {d : Obj} {news : List (Addr × Obj)} : put D d (rest2 D D news) = rest2 D D news := put_off rest2_D
section
variable {prog : Program} {w : World} {A : Around} {E : Value → Shared → Prop} {Q : Flow → Shared → Prop} {s : Shared} {env : Env} {h₀ : Heap} {L : Addr}
structure RuS where
  k : Nat
  t : Tok
  ta : Tok
def rdEs (P : Params) (t1 t2 tb : Tok) (b : Array UInt8) (a : Int) (ta : Tok) : List DictEntry :=
  [⟨PyData.keyHash P (Str.ofString "_data"), .str (Str.ofString "_data") t1, .bytes b tb⟩, ⟨PyData.keyHash P (Str.ofString "_at"), .str (Str.ofString "_at") t2, .int a ta⟩]
def ruLed (P : Params) (t1 t2 tb : Tok) (b : Array UInt8) (S D : Addr) (oS : Obj) (a : Int) (news : List (Addr × Obj)) (c : RuS) : List (Addr × Obj) := (S, oS) :: (D, dictOf (rdEs P t1 t2 tb b (a + c.k) c.ta) 2) :: news
def ruPs (c : RuS) : List (Str × Value) := [(Str.ofString "count", .int c.k c.t)]
def ruP (z : Nat) (c : RuS) : Prop := c.k ≤ z
def ruMu (z : Nat) (c : RuS) : Nat := z + 1 - c.k
theorem ru_facts {bs : List Nat} {a : Int} {z k : Nat} (ha : 0 ≤ a) (h1 : ∀ i, i < z → bs.getD (a.toNat + i) 0 = 1) (h2 : bs.getD (a.toNat + z) 0 = 0) (h : k ≤ z) : (k < z ∧ bs.getD (a + (k : Int)).toNat 0 = 1) ∨ (k = z ∧ bs.getD (a + (k : Int)).toNat 0 = 0) := by
  have e : (a + (k : Int)).toNat = a.toNat + k := by omega
  rw [e]
  rcases Nat.lt_or_ge k z with hk | hk
  · exact .inl ⟨hk, h1 k hk⟩
  · have e : k = z := by omega
    exact .inr ⟨e, e ▸ h2⟩
theorem ru_while {test : Expr} {body : List Stmt} {pos : Pos} {m₀ : Str → Option Value} {P : Params} {t1 t2 tb t₀ ta : Tok} {b : Array UInt8} {S D : Addr} {oS : Obj} {news : List (Addr × Obj)} {a : Int} {bs : List Nat} {z n : Nat}
    (F : Fr h₀ L s.heap m₀) (N : News h₀ L s.heap ((S, oS) :: (D, dictOf [⟨PyData.keyHash P (Str.ofString "_data"), .str (Str.ofString "_data") t1, .bytes b tb⟩, ⟨PyData.keyHash P (Str.ofString "_at"), .str (Str.ofString "_at") t2, .int a ta⟩] 2) :: news))
    (hs : m₀ (Str.ofString "count") = some (.int 0 t₀)) (_hb : KBw.bInts b = bytesK bs n) (ha : 0 ≤ a) (h1 : ∀ i, i < z → bs.getD (a.toNat + i) 0 = 1) (h2 : bs.getD (a.toNat + z) 0 = 0)
    (turn : ∀ (k : Nat) (t ta : Tok) (u : Str → Option Value) h tk, k ≤ z → ((k < z ∧ bs.getD (a + (k : Int)).toNat 0 = 1) ∨ (k = z ∧ bs.getD (a + (k : Int)).toNat 0 = 0)) →
      Fr h₀ L h (fun y => if y = Str.ofString "count" then some (.int k t) else if ([] : List Str).contains y then u y else m₀ y) → News h₀ L h ((S, oS) :: (D, dictOf [⟨PyData.keyHash P (Str.ofString "_data"), .str (Str.ofString "_data") t1, .bytes b tb⟩, ⟨PyData.keyHash P (Str.ofString "_at"), .str (Str.ofString "_at") t2, .int (a + k) ta⟩] 2) :: news) →
      wpAny (model prog w) A (isTrue test env (eval test env)) (fun b' s₂ =>
        if b' = true then wpAny (model prog w) A (execs body env) (KswPost h₀ L s (ruLed P t1 t2 tb b S D oS a news) ruPs (fun _ => True) [] m₀ (ruP z) (ruMu z) Q ⟨k, t, ta⟩) E s₂ else Q .next s₂) E { s with heap := h, toks := tk })
    (hE : PassesOwn (model prog w) A env E := by passes_own) :
    wpAny (model prog w) A (exec (.While test body [] pos) env) Q E s := by
  have N' : News h₀ L s.heap (ruLed P t1 t2 tb b S D oS a news ⟨0, t₀, ta⟩) := by
    unfold ruLed rdEs
    simpa using N
  refine ksw_while (ruLed P t1 t2 tb b S D oS a news) ruPs (fun _ => True) [] (ruP z) (ruMu z) ⟨0, t₀, ta⟩ F N' trivial ?_ (Nat.zero_le _) ?_ hE
  · intro q hq
    rw [List.mem_singleton.mp hq]
    exact hs
  · rintro ⟨k, t, ta⟩ u h tk _ q F₁ N₁
    exact turn k t ta u h tk q (ru_facts ha h1 h2 q) F₁ N₁
theorem ru_end {m₀ m' : Str → Option Value} {P : Params} {t1 t2 tb t t' ta ta' : Tok} {b : Array UInt8} {S D : Addr} {oS : Obj} {news : List (Addr × Obj)} {a : Int} {z k : Nat} {h' : Heap} {tk : Nat}
    (F : Fr h₀ L h' m') (N : News h₀ L h' ((S, oS) :: (D, dictOf [⟨PyData.keyHash P (Str.ofString "_data"), .str (Str.ofString "_data") t1, .bytes b tb⟩, ⟨PyData.keyHash P (Str.ofString "_at"), .str (Str.ofString "_at") t2, .int (a + (k : Int) + 1) ta'⟩] 2) :: news))
    (hm : m' (Str.ofString "count") = some (.int ((k : Int) + 1) t')) (hr : ∀ z, (∀ p ∈ [(Str.ofString "count", Value.int ((k : Int) + 1) t')], z ≠ p.1) → ([] : List Str).contains z = false → m' z = m₀ z) (hk : k < z) :
    KswEnd h₀ L s (ruLed P t1 t2 tb b S D oS a news) ruPs (fun _ => True) [] m₀ (ruP z) (ruMu z) ⟨k, t, ta⟩ { s with heap := h', toks := tk } := by
  have e : a + (k : Int) + 1 = a + ((k + 1 : Nat) : Int) := by omega
  rw [e] at N
  refine ksw_end (c' := ⟨k + 1, t', ta'⟩) F N (fun _ h => h) trivial ?_ hr hk ?_
  · intro q hq
    rw [List.mem_singleton.mp hq]
    exact hm
  · show z + 1 - (k + 1) < z + 1 - k
    omega
end
def RuOut (P : Params) (t1 t2 tb : Tok) (D : Addr) (b : Array UInt8) (z : Nat) (a : Int) (news : List (Addr × Obj)) (r : Value) (news' : List (Addr × Obj)) : Prop :=
  ∃ y t ta, r = .int y t ∧ y = (z : Int) ∧ news' = put D (dictOf [⟨PyData.keyHash P (Str.ofString "_data"), .str (Str.ofString "_data") t1, .bytes b tb⟩, ⟨PyData.keyHash P (Str.ofString "_at"), .str (Str.ofString "_at") t2, .int (a + z + 1) ta⟩] 2) news
def RuC (f cls : Addr) (prog : Program) (w : World) (K : Frag) (p : Program) (loose : List Str) (mean : ExcName → Option Value) (mg mb : Str → Option Value) : Prop :=
  ∀ (bs : List Nat) (n z : Nat) (S D : Addr) (t1 t2 tb ta : Tok) (b : Array UInt8) (a : Int) (news : List (Addr × Obj)), (S, instObj cls D) ∈ news →
    (D, dictOf [⟨PyData.keyHash w.params (Str.ofString "_data"), .str (Str.ofString "_data") t1, .bytes b tb⟩, ⟨PyData.keyHash w.params (Str.ofString "_at"), .str (Str.ofString "_at") t2, .int a ta⟩] 2) ∈ news →
    S ≠ D → KBw.bInts b = bytesK bs n → Bits bs → 0 ≤ a → (∀ i, i < z → bs.getD (a.toNat + i) 0 = 1) → bs.getD (a.toNat + z) 0 = 0 → a + z < 8 * n → n ≤ 90000 → z ≤ 1000 →
    Fun prog w K p loose mean mg mb 40 f [.ref S] news (RuOut w.params t1 t2 tb D b z a news)
theorem ru_ret {h₀ h : Heap} {L S D : Addr} {oS : Obj} {m : Str → Option Value} {s : Shared} {Q : Value → Shared → Prop} {P : Params} {t1 t2 tb t ta : Tok} {b : Array UInt8} {a : Int} {z k : Nat} {news : List (Addr × Obj)} {tk : Nat}
    (hret : ∀ r news' h' tk', RuOut P t1 t2 tb D b z a news r news' → Fr h₀ L h' m → News h₀ L h' news' → Q r { s with heap := h', toks := tk' })
    (N : News h₀ L h ((S, oS) :: (D, dictOf [⟨PyData.keyHash P (Str.ofString "_data"), .str (Str.ofString "_data") t1, .bytes b tb⟩, ⟨PyData.keyHash P (Str.ofString "_at"), .str (Str.ofString "_at") t2, .int (a + (k : Int) + 1) ta⟩] 2) :: rest2 D D news)) (F : Fr h₀ L h m) (e : k = z) : Q (.int (k : Int) t) { s with heap := h, toks := tk } := by
  subst e
  exact hret _ _ _ _ ⟨_, _, _, rfl, rfl, rfl⟩ F (news_join1 N)
section
variable {prog : Program} {w : World} {A₀ : Around} {E : Value → Shared → Prop} {s' : Shared} {h₀ h : Heap} {outer : List Env} {L e t : Addr} {m : Str → Option Value} {env : Env}
  {vs : List Value} {b₀ : Stmt} {suite : List Stmt} {pos np : Pos} {rest : List ExceptHandler} {Q : Flow → Shared → Prop} {news : List (Addr × Obj)} {KF : Frag} {C : Addr} {bmB : List Value} {newId : String}
  {p : Program} {loose : List Str} {mg mb : Str → Option Value} {x y : Str} {T' : String}
/-- an own exception caught by the name of a built-in base, in whatever frame -/
theorem caught_env (hf : env.frame = some L) (K : Below A₀ h₀ outer h₀) (F : Fr h₀ L h m) (hsm : h.UpToSlots s'.heap) (R : RaisedK h₀ (env :: outer) e (.ref C) t vs news s'.heap)
    (X : KF.In h₀) (T : TopRead p loose mg mb h₀) (ey : nsIn KF mainGlobals y = some (some (.ref C))) (q : excIn KF C bmB newId = true)
    (hname : ∀ (s₁ : Shared) (A₁ : Around) (Q₁ : Value → Shared → Prop) (E₁ : Value → Shared → Prop), Fr h₀ L s₁.heap m → Q₁ (.type T') s₁ → wpAny (model prog w) A₁ (eval (.Name x np) env) Q₁ E₁ s₁)
    (hexc : isSubtype (.type T') (.type "BaseException") = pure true) (hnt : isSubtype (.type ((Manifest.find? T').elim "type" fun y => y.metatype)) (.type "tuple") = pure false) (hb : bmB.contains (.type T') = true)
    (k : ∀ h', Fr h₀ L h' m → News h₀ L h' news → wpAny (model prog w) ((A₀.deeper env).mark (some (.ref e))) (execs (b₀ :: suite) env) Q E { s' with heap := h' })
    (hE : PassesOwnAt (model prog w) ((A₀.deeper env).mark (some (.ref e))) (A₀.deeper env) env E := by passes_own) :
    wpAny (model prog w) (A₀.deeper env) (noteFrame (.ref e) env)
      (fun _ s₂ => wpAny (model prog w) (A₀.deeper env) (setFlight (.ref e) none) (fun _ s₃ =>
        wpAny (model prog w) (A₀.deeper env) (handleBy (.ref e) env (.ExceptHandler (some (.Name x np)) none (b₀ :: suite) pos :: rest)) Q E s₃) E s₂) E s' := by
  obtain ⟨⟨B, hB, hl, hfl, hnew⟩, htup⟩ := R
  have hL : B.get? L = none := by
    obtain ⟨_, ⟨L', _, hf', hn', _⟩, _⟩ := hfl.2.2.1
    rw [hf] at hf'
    obtain rfl : L = L' := Option.some.inj hf'
    exact hn'
  refine wpAny_looks_onW (Around.frames_deeper K.stack) hf hfl fun h₄ hheld₄ hsm₄ => ?_
  refine wpAny_landsW hheld₄ fun h₅ hheld hsm₅' => ?_
  have hheld' := flyingW_base hB hheld
  have F₅ := F.of_stays hheld'.1 (hsm.trans (hsm₄.trans hsm₅'))
  obtain ⟨ob, hob, hobc⟩ := hheld'.there
  refine wpAny_handleBy_cons (codeAny_handlers_test (hname _ _ _ _ F₅ ?_)) (by intro q; cases q)
  obtain ⟨bm, N, nm, qn, bs, hdct, sn, sub, ab, col, dd, k0, k1, k2, k3, k5, mN, hC, hN, hni, TL⟩ := ((own_of_in X T ey q).keeps F₅.keep).obj
  refine wpAny_excMatches_sub_type hC hob hobc hexc hnt ?_
  rw [TL.hasType hb]
  refine codeAny_handlers_suite ?_
  refine lands_againW hheld fun h₆ hfl₆ hsm₆ => ?_
  have F₆ := F.of_stays (flyingW_base hB hfl₆).1 ((hsm.trans (hsm₄.trans hsm₅')).trans hsm₆)
  exact wpAny_passesOwnAt hE (k h₆ F₆ fun q hq => ⟨hfl₆.1 _ _ (hl q hq).1, (fun z => by have := (hl q hq).1; rw [z, hL] at this; cases this), (hl q hq).2⟩)
end
open LSm
/-- an element of a comprehension that is a bool -/
def ElB (news : List (Addr × Obj)) (b : Bool) (y : Value) (news' : List (Addr × Obj)) : Prop := news' = news ∧ y = .bool b
section
variable {prog : Program} {w : World} {A : Around} {h₀ : Heap} {L : Addr} {m : Str → Option Value} {env : Env} {elt : Expr} {x : Str} {scope : Scope} {cl : List (Str × Addr)} {s : Shared} {S : List (Addr × Obj) → Prop} {Fin : List Value → List (Addr × Obj) → Prop} {news : List (Addr × Obj)}
theorem cmpB {n : Nat} {a : Int} (g : Int → Bool)
    (turn : ∀ k t I oI C oC D m₂ ys h tk (E' : Value → Shared → Prop), a ≤ k → k < a + (n : Int) → LCg.NsObj oC m₂ → m₂ x = some (.int k t) → Fr h₀ L h m → News h₀ L h ((I, oI) :: (C, oC) :: (D, LCg.lst ys) :: news) → LCg.Off3 I C D news → ((@Ne Nat I C) ∧ (@Ne Nat I D) ∧ (@Ne Nat C D)) →
      wpAny (model prog w) A (eval elt (compEnvC scope cl C env)) (LCg.CompEnd h₀ L m { s with heap := h, toks := tk } I oI C oC D (LCg.lst ys) S (fun y news' => ElB news (g k) y news')) E' { s with heap := h, toks := tk })
    (fin : ∀ ys, BoolsAre ys ((rangeKs a n).map g) → Fin ys news) : LCg.CompRest prog w A h₀ L m env elt x scope cl s S (fun i v => ∃ t, v = .int (a + (i : Int)) t) Fin n 0 [] news := by
  have key : ∀ (j i : Nat) (ys : List Value), i + j = n → BoolsAre ys (((rangeKs a n).take i).map g) → LCg.CompRest prog w A h₀ L m env elt x scope cl s S (fun i v => ∃ t, v = .int (a + (i : Int)) t) Fin j i ys news := by
    intro j
    induction j with
    | zero =>
      intro i ys hi hy
      rw [List.take_of_length_le (by rw [rangeKs_length]; omega)] at hy
      exact LCg.CompRest.zero (fin ys hy)
    | succ j ih =>
      intro i ys hi hy
      refine LCg.CompRest.succ ?_
      rintro v I oI C oC D m₂ h tk E' ⟨t, rfl⟩ hC hx F N off ne
      have hk : (rangeKs a n)[i]? = some (a + (i : Int)) := by
        have hi' : i < n := by omega
        simp [rangeKs, hi']
      refine wpAny_mono (turn _ t I oI C oC D m₂ ys h tk E' (by omega) (by omega) hC hx F N off ne) (fun y s₂ hq => ?_) fun _ _ e => e
      obtain ⟨h', tk', nw, e, F', N', off', hS, hn, hy'⟩ := hq
      rw [hn] at N' off' hS
      refine ⟨h', tk', news, e, F', N', off', hS, ?_⟩
      rw [hy']
      refine ih (i + 1) _ (by omega) ?_
      rw [List.take_add_one, hk]
      simpa using kbo_app hy (.cons (g (a + (i : Int))) .nil)
  exact key n 0 [] (by omega) (by simp only [List.take_zero, List.map_nil]; exact .nil)
theorem whole_range {n n₀ : Nat} {a b : Int} {vs : List Value} {ns : List Int} (_hI : IntsAre vs (List.map (fun k => (cellAt ns (1 + k) 0).fmod 20) (rangeKs b n₀)))
    (turn : ∀ k t I oI C oC D m₂ ys h tk (E' : Value → Shared → Prop), a ≤ k → k < a + (n : Int) → LCg.NsObj oC m₂ → m₂ x = some (.int k t) → Fr h₀ L h m → News h₀ L h ((I, oI) :: (C, oC) :: (D, LCg.lst ys) :: news) → LCg.Off3 I C D news → ((@Ne Nat I C) ∧ (@Ne Nat I D) ∧ (@Ne Nat C D)) →
      wpAny (model prog w) A (eval elt (compEnvC scope cl C env)) (LCg.CompEnd h₀ L m { s with heap := h, toks := tk } I oI C oC D (LCg.lst ys) S (fun y news' => ElB news ((cellAt ns (8 + k) 0).fmod 2 == 1) y news')) E' { s with heap := h, toks := tk })
    (fin : ∀ ys, BoolsAre ys ((rangeKs a n).map fun k => (cellAt ns (8 + k) 0).fmod 2 == 1) → Fin ys news) : LCg.CompRest prog w A h₀ L m env elt x scope cl s S (fun i v => ∃ t, v = .int (a + (i : Int)) t) Fin n 0 [] news :=
  cmpB _ turn fin
theorem endB {I C D : Addr} {oI oC oD : Obj} {y : Value} {h' : Heap} {tk : Nat} {all : List (Addr × Obj)} {b : Bool}
    (F : Fr h₀ L h' m) (N : News h₀ L h' all) (sub : ∀ p ∈ (I, oI) :: (C, oC) :: (D, oD) :: news, p ∈ all) (off : LCg.Off3 I C D news) (hS : S news) (hy : y = .bool b) :
    LCg.CompEnd h₀ L m s I oI C oC D oD S (fun y news' => ElB news b y news') y { s with heap := h', toks := tk } := LCg.CompEnd.intro F N news sub off hS ⟨rfl, hy⟩
end
/-- the law's first loop -/
structure LaS where
  bs : List Nat
  hv : Int
  th : Tok
  cv : Int
  tc : Tok
  vs : List Value
  cn : Nat
  at' : Int
  ta : Tok
  pv : List Value
  pn : Nat
def cfOf (cns : List Int) (k : Nat) : Nat := (cns.getD k 0).toNat
def bfOf (wbs : List Bool) (k : Nat) : Bool := wbs.getD k false
def plOf (cns : List Int) (wbs : List Bool) (i : Nat) : List Int := (List.range i).map fun k => ((ust (cfOf cns) (bfOf wbs) (k + 1)).length : Int)
theorem plOf_len (cns : List Int) (wbs : List Bool) (i : Nat) : (plOf cns wbs i).length = i := by simp [plOf]
theorem plOf_get (cns : List Int) (wbs : List Bool) {i n : Nat} (h : i < n) : (plOf cns wbs n).getD i 0 = ((ust (cfOf cns) (bfOf wbs) (i + 1)).length : Int) := by simp [plOf, List.getD, h]
section
variable {prog : Program} {w : World} {A : Around} {E : Value → Shared → Prop} {Q : Flow → Shared → Prop} {s : Shared} {env : Env} {h₀ : Heap} {L : Addr} {P : Params} {t1 t2 t3 : Tok} {S D O PL CA WA : Addr} {oS oC oW : Obj} {cns : List Int} {wbs : List Bool} {m₀ : Str → Option Value}
def laLed (P : Params) (t1 t2 t3 : Tok) (S D O PL CA WA : Addr) (oS oC oW : Obj) (c : LaS) : List (Addr × Obj) :=
  [(PL, listOf c.pv.toArray c.pn), (S, oS), (D, dictOf (bwEs P t1 t2 t3 O c.hv c.th c.cv c.tc) 3), (O, listOf c.vs.toArray c.cn), (CA, oC), (WA, oW)]
def laPs (c : LaS) : List (Str × Value) := [(Str.ofString "at", .int c.at' c.ta)]
def laP (cns : List Int) (wbs : List Bool) (i : Nat) (c : LaS) : Prop := c.bs = ust (cfOf cns) (bfOf wbs) i ∧ BwHeld c.bs c.hv c.cv c.vs ∧ c.at' = (c.bs.length : Int) ∧ IntsAre c.pv (plOf cns wbs i)
theorem ust6 {n i : Nat} (hR : ∀ k, 0 ≤ cns.getD k 0 ∧ cns.getD k 0 < 20) (hn : n ≤ 6) (hi : i ≤ n) : (ust (cfOf cns) (bfOf wbs) i).length ≤ 168 := by
  have := ust_len_le (c := cfOf cns) (b := bfOf wbs) (m := 20) (fun k => by have := hR k; unfold cfOf; omega) i
  omega
theorem la_for {body : List Stmt} {r : Addr} {th tc ta t₀ u₀ v₀ : Tok} {cn pn n : Nat} {news : List (Addr × Obj)} {e : Int} {cvs wvs : List Value}
    (hh : A.handled = none) (hr : IsRange s.heap r 0 e 1 t₀ u₀ v₀) (hsmall : Builtin.Range.small 0 e 1 = true) (hsz : Builtin.Range.rangeSize 0 e 1 = (n : Int)) (F : Fr h₀ env.locals s.heap m₀) (N : News h₀ env.locals s.heap news)
    (fW : m₀ (Str.ofString "writer") = some (.ref S)) (fC : m₀ (Str.ofString "counts") = some (.ref CA)) (fB : m₀ (Str.ofString "whole") = some (.ref WA)) (fP : m₀ (Str.ofString "places") = some (.ref PL)) (ha : m₀ (Str.ofString "at") = some (.int 0 ta))
    (hS : (S, instObj 124 D) ∈ news) (hD : (D, dictOf [⟨PyData.keyHash P (Str.ofString "_out"), .str (Str.ofString "_out") t1, .ref O⟩, ⟨PyData.keyHash P (Str.ofString "_held"), .str (Str.ofString "_held") t2, .int 0 th⟩, ⟨PyData.keyHash P (Str.ofString "_count"), .str (Str.ofString "_count") t3, .int 0 tc⟩] 3) ∈ news)
    (hO : (O, listOf #[] cn) ∈ news) (hP : (PL, listOf #[] pn) ∈ news) (hC : (CA, LCg.lst cvs) ∈ news) (hB : (WA, LCg.lst wvs) ∈ news) (hI : IntsAre cvs cns) (hJ : BoolsAre wvs wbs)
    (hR : ∀ k, 0 ≤ cns.getD k 0 ∧ cns.getD k 0 < 20) (hn : n ≤ 6) (hcn : n = cns.length) (hwn : n = wbs.length)
    (turn : ∀ (bs : List Nat) (hv : Int) (th : Tok) (cv : Int) (tc : Tok) (vs : List Value) (cn : Nat) (a : Int) (ta : Tok) (pv : List Value) (pn : Nat) (i : Nat) t (u : Str → Option Value) h tk own, i < n → bs = ust (cfOf cns) (bfOf wbs) i → bs.length ≤ 168 → BwHeld bs hv cv vs → a = (bs.length : Int) → IntsAre pv (plOf cns wbs i) → pv.length = i →
      0 ≤ cns.getD (0 + (i : Int)).toNat 0 → cns.getD (0 + (i : Int)).toNat 0 < 20 → 0 + (i : Int) < (cns.length : Int) → 0 + (i : Int) < (wbs.length : Int) → i ≤ 6 →
      (∀ p ∈ own, p.1 ≠ PL) → (∀ p ∈ own, p.1 ≠ S) → (∀ p ∈ own, p.1 ≠ D) → (∀ p ∈ own, p.1 ≠ O) → (∀ p ∈ own, p.1 ≠ CA) → (∀ p ∈ own, p.1 ≠ WA) →
      Fr h₀ env.locals h (fun y => if y = Str.ofString "k" then some (.int (0 + i) t) else if y = Str.ofString "at" then some (.int a ta) else if ([] : List Str).contains y then u y else m₀ y) →
      News h₀ env.locals h ((PL, listOf pv.toArray pn) :: (S, instObj 124 D) :: (D, dictOf [⟨PyData.keyHash P (Str.ofString "_out"), .str (Str.ofString "_out") t1, .ref O⟩, ⟨PyData.keyHash P (Str.ofString "_held"), .str (Str.ofString "_held") t2, .int hv th⟩, ⟨PyData.keyHash P (Str.ofString "_count"), .str (Str.ofString "_count") t3, .int cv tc⟩] 3) :: (O, listOf vs.toArray cn) :: (CA, LCg.lst cvs) :: (WA, LCg.lst wvs) :: own) →
      wpAny (model prog w) A (execs body env) (InvPostG h₀ env.locals (RgJ (laLed P t1 t2 t3 S D O PL CA WA (instObj 124 D) (LCg.lst cvs) (LCg.lst wvs)) laPs (Str.ofString "k") [] m₀ (laP cns wbs) (i + 1)) own { s with heap := h, toks := tk } Q) E { s with heap := h, toks := tk })
    (done : ∀ (bs : List Nat) (hv : Int) (th : Tok) (cv : Int) (tc : Tok) (vs : List Value) (cn : Nat) (a : Int) (ta : Tok) (pv : List Value) (pn : Nat) (u : Str → Option Value) h tk, bs = ust (cfOf cns) (bfOf wbs) n → bs.length ≤ 168 → BwHeld bs hv cv vs → a = (bs.length : Int) → IntsAre pv (plOf cns wbs n) → pv.length = n →
      Fr h₀ env.locals h (fun y => if y = Str.ofString "k" then u y else if y = Str.ofString "at" then some (.int a ta) else if ([] : List Str).contains y then u y else m₀ y) →
      News h₀ env.locals h ((PL, listOf pv.toArray pn) :: (S, instObj 124 D) :: (D, dictOf [⟨PyData.keyHash P (Str.ofString "_out"), .str (Str.ofString "_out") t1, .ref O⟩, ⟨PyData.keyHash P (Str.ofString "_held"), .str (Str.ofString "_held") t2, .int hv th⟩, ⟨PyData.keyHash P (Str.ofString "_count"), .str (Str.ofString "_count") t3, .int cv tc⟩] 3) :: (O, listOf vs.toArray cn) :: (CA, LCg.lst cvs) :: (WA, LCg.lst wvs) :: []) → Q .next { s with heap := h, toks := tk }) :
    wpAny (model prog w) A (pyIter (.ref r)) (fun it s₂ => LoopAtV prog w A h₀ env (Str.ofString "k") body Q E it s₂) E s := by
  refine rg_for (laLed P t1 t2 t3 S D O PL CA WA (instObj 124 D) (LCg.lst cvs) (LCg.lst wvs)) laPs [] (laP cns wbs) ⟨[], 0, th, 0, tc, [], cn, 0, ta, [], pn⟩ hh hr hsmall hsz F N ?_ ?_ ⟨rfl, bw_new, rfl, .nil⟩ ?_ ?_
  · intro p hp
    simp only [laLed, List.mem_cons, List.not_mem_nil, or_false] at hp
    rcases hp with rfl | rfl | rfl | rfl | rfl | rfl
    · exact hP
    · exact hS
    · exact hD
    · exact hO
    · exact hC
    · exact hB
  · intro q hq
    rw [List.mem_singleton.mp hq]
    exact ha
  · rintro ⟨bs, hv, th, cv, tc, vs, cn, a, ta, pv, pn⟩ i t u h tk own hi ⟨p1, p2, p3, p4⟩ hoff F₁ N₁
    have p1' : bs = ust (cfOf cns) (bfOf wbs) i := p1
    have e0 : (0 + (i : Int)).toNat = i := by omega
    exact turn bs hv th cv tc vs cn a ta pv pn i t u h tk own hi p1' (by rw [p1']; exact ust6 hR hn (by omega)) p2 p3 p4 (by rw [IntsAre.length p4]; exact plOf_len _ _ _) (hR _).1 (hR _).2 (by omega) (by omega) (by omega)
      (fun p hp => hoff p hp _ (.head _)) (fun p hp => hoff p hp _ (.tail _ (.head _))) (fun p hp => hoff p hp _ (.tail _ (.tail _ (.head _)))) (fun p hp => hoff p hp _ (.tail _ (.tail _ (.tail _ (.head _))))) (fun p hp => hoff p hp _ (.tail _ (.tail _ (.tail _ (.tail _ (.head _)))))) (fun p hp => hoff p hp _ (.tail _ (.tail _ (.tail _ (.tail _ (.tail _ (.head _))))))) F₁ N₁
  · rintro ⟨bs, hv, th, cv, tc, vs, cn, a, ta, pv, pn⟩ u h tk ⟨p1, p2, p3, p4⟩ F₁ N₁
    have p1' : bs = ust (cfOf cns) (bfOf wbs) n := p1
    exact done bs hv th cv tc vs cn a ta pv pn u h tk p1' (by rw [p1']; exact ust6 hR hn (Nat.le_refl _)) p2 p3 p4 (by rw [IntsAre.length p4]; exact plOf_len _ _ _) F₁ N₁
theorem la_end {m' : Str → Option Value} {th' tc' tX tX' : Tok} {hv' cv' X : Int} {cn' pn' : Nat} {vs' pv : List Value} {own : List (Addr × Obj)} {bs'' : List Nat} {i : Nat} {s₁ : Shared} {h' : Heap} {tk : Nat}
    (F : Fr h₀ L h' m') (N : News h₀ L h' ((PL, listOf (pv.toArray.push (.int X tX)) pn') :: (S, oS) :: (D, dictOf [⟨PyData.keyHash P (Str.ofString "_out"), .str (Str.ofString "_out") t1, .ref O⟩, ⟨PyData.keyHash P (Str.ofString "_held"), .str (Str.ofString "_held") t2, .int hv' th'⟩, ⟨PyData.keyHash P (Str.ofString "_count"), .str (Str.ofString "_count") t3, .int cv' tc'⟩] 3) :: (O, listOf vs'.toArray cn') :: (CA, oC) :: (WA, oW) :: own))
    (hm : m' (Str.ofString "at") = some (.int X tX')) (hr : ∀ z, z ≠ Str.ofString "k" → (∀ p ∈ [(Str.ofString "at", Value.int X tX')], z ≠ p.1) → ([] : List Str).contains z = false → m' z = m₀ z)
    (o1 : ∀ p ∈ own, p.1 ≠ PL) (o2 : ∀ p ∈ own, p.1 ≠ S) (o3 : ∀ p ∈ own, p.1 ≠ D) (o4 : ∀ p ∈ own, p.1 ≠ O) (o5 : ∀ p ∈ own, p.1 ≠ CA) (o6 : ∀ p ∈ own, p.1 ≠ WA)
    (hW : BwHeld bs'' hv' cv' vs') (hp : IntsAre pv (plOf cns wbs i)) (hb : bs'' = ust (cfOf cns) (bfOf wbs) (i + 1)) (hX : X = (bs''.length : Int)) :
    InvEndG h₀ L (RgJ (laLed P t1 t2 t3 S D O PL CA WA oS oC oW) laPs (Str.ofString "k") [] m₀ (laP cns wbs) (i + 1)) own s₁ { s₁ with heap := h', toks := tk } := by
  have ea : pv.toArray.push (.int X tX) = (pv ++ [Value.int X tX]).toArray := by simp
  rw [ea] at N
  refine rg_end (c' := ⟨bs'', hv', th', cv', tc', vs', cn', X, tX', pv ++ [Value.int X tX], pn'⟩) F N ?_ ?_ ?_ ?_ hr ⟨hb, hW, hX, ?_⟩
  · intro p hp
    simp only [laLed, List.mem_cons, List.not_mem_nil, or_false] at hp
    rcases hp with rfl | rfl | rfl | rfl | rfl | rfl
    · exact .head _
    · exact .tail _ (.head _)
    · exact .tail _ (.tail _ (.head _))
    · exact .tail _ (.tail _ (.tail _ (.head _)))
    · exact .tail _ (.tail _ (.tail _ (.tail _ (.head _))))
    · exact .tail _ (.tail _ (.tail _ (.tail _ (.tail _ (.head _)))))
  · exact fun p hp => .tail _ (.tail _ (.tail _ (.tail _ (.tail _ (.tail _ hp)))))
  · intro p hp q hq
    simp only [laLed, List.mem_cons, List.not_mem_nil, or_false] at hq
    rcases hq with rfl | rfl | rfl | rfl | rfl | rfl
    · exact o1 p hp
    · exact o2 p hp
    · exact o3 p hp
    · exact o4 p hp
    · exact o5 p hp
    · exact o6 p hp
  · intro q hq
    rw [List.mem_singleton.mp hq]
    exact hm
  · show IntsAre _ (plOf cns wbs (i + 1))
    unfold plOf
    rw [List.range_succ, List.map_append, List.map_singleton]
    have e : ((ust (cfOf cns) (bfOf wbs) (i + 1)).length : Int) = X := by rw [hX, hb]
    rw [e]
    exact hp.append (.cons _ _ .nil)
end
theorem la_no {cns : List Int} {wbs : List Bool} {bs : List Nat} {i : Nat} (hb : bs = ust (cfOf cns) (bfOf wbs) i) (hw : wbs.getD (0 + (i : Int)).toNat false = false) : bs ++ List.replicate (cns.getD (0 + (i : Int)).toNat 0).toNat 1 ++ [0] = ust (cfOf cns) (bfOf wbs) (i + 1) := by
  have e0 : (0 + (i : Int)).toNat = i := by omega
  rw [e0] at hw ⊢
  have hw' : bfOf wbs i = false := hw
  rw [ust, uadd, hw', hb]
  rfl
theorem la_yes {cns : List Int} {wbs : List Bool} {bs : List Nat} {i : Nat} (hb : bs = ust (cfOf cns) (bfOf wbs) i) (hw : wbs.getD (0 + (i : Int)).toNat false = true) : bs ++ List.replicate (cns.getD (0 + (i : Int)).toNat 0).toNat 1 ++ [0] ++ List.replicate (pad8 (bs ++ List.replicate (cns.getD (0 + (i : Int)).toNat 0).toNat 1 ++ [0]).length) 0 = ust (cfOf cns) (bfOf wbs) (i + 1) := by
  have e0 : (0 + (i : Int)).toNat = i := by omega
  rw [e0] at hw ⊢
  have hw' : bfOf wbs i = true := hw
  rw [ust, uadd, hw', hb]
  rfl
theorem la_atN {bs : List Nat} {a c : Int} (h : a = (bs.length : Int)) (hc : 0 ≤ c) : a + c + 1 = ((bs ++ List.replicate c.toNat 1 ++ [0]).length : Int) := by
  simp only [List.length_append, List.length_replicate, List.length_singleton]
  omega
theorem la_atY {bs : List Nat} {a c : Int} (h : a = (bs.length : Int)) (hc : 0 ≤ c) : (a + c + 1 + 7).fdiv 8 * 8 = ((bs ++ List.replicate c.toNat 1 ++ [0] ++ List.replicate (pad8 (bs ++ List.replicate c.toNat 1 ++ [0]).length) 0).length : Int) := by
  rw [la_atN h hc, Int.fdiv_eq_ediv_of_nonneg _ (by decide), List.length_append (as := bs ++ List.replicate c.toNat 1 ++ [0]), List.length_replicate]
  unfold pad8
  omega
theorem put2_off {D O : Addr} {d o : Obj} {own : List (Addr × Obj)} (h1 : ∀ p ∈ own, p.1 ≠ D) (h2 : ∀ p ∈ own, p.1 ≠ O) : put D d (put O o own) = own := by
  rw [put_off h2, put_off h1]
theorem put1_off {D : Addr} {d : Obj} {own : List (Addr × Obj)} (h1 : ∀ p ∈ own, p.1 ≠ D) : put D d own = own := put_off h1
theorem map_fmod_rng {f : Int → Int} {l : List Int} (k : Nat) : 0 ≤ (l.map fun x => (f x).fmod 20).getD k 0 ∧ (l.map fun x => (f x).fmod 20).getD k 0 < 20 := by
  rw [List.getD, List.getElem?_map]
  cases l[k]? with
  | none => simp
  | some x =>
    simp only [Option.map_some, Option.getD_some]
    rw [Int.fmod_eq_emod_of_nonneg _ (by decide)]
    omega
theorem fn_len {b : Array UInt8} {bs : List Nat} {n : Nat} (_h : KBw.bInts b = bytesK bs n) : (bytesK bs n).length = n := bytesK_len bs n
theorem at_div {bs : List Nat} {a : Int} (h : a = (bs.length : Int)) : (a + 7).fdiv 8 = (((bs.length + 7) / 8 : Nat) : Int) := by
  rw [Int.fdiv_eq_ediv_of_nonneg _ (by decide)]; omega
/-- the law's second loop -/
structure LbS where
  a : Int
  ta : Tok
section
variable {prog : Program} {w : World} {A : Around} {E : Value → Shared → Prop} {Q : Flow → Shared → Prop} {s : Shared} {env : Env} {h₀ : Heap} {L : Addr} {P : Params} {t1 t2 tb : Tok} {b : Array UInt8} {S D PL CA WA : Addr} {oS oP oC oW : Obj} {cns : List Int} {wbs : List Bool} {m₀ : Str → Option Value}
def lbLed (P : Params) (t1 t2 tb : Tok) (b : Array UInt8) (S D PL CA WA : Addr) (oS oP oC oW : Obj) (c : LbS) : List (Addr × Obj) :=
  [(S, oS), (D, dictOf (rdEs P t1 t2 tb b c.a c.ta) 2), (PL, oP), (CA, oC), (WA, oW)]
def lbP (cns : List Int) (wbs : List Bool) (i : Nat) (c : LbS) : Prop := c.a = ((ust (cfOf cns) (bfOf wbs) i).length : Int)
theorem lb_e {i : Nat} {a : Int} {z : Nat} (ha : a = ((ust (cfOf cns) (bfOf wbs) i).length : Int)) (hz : z = cfOf cns i) :
    (wbs.getD (0 + (i : Int)).toNat false = true ∧ ((ust (cfOf cns) (bfOf wbs) (i + 1)).length : Int) = (a + z + 1 + 7) / 8 * 8) ∨ (wbs.getD (0 + (i : Int)).toNat false = false ∧ ((ust (cfOf cns) (bfOf wbs) (i + 1)).length : Int) = a + z + 1) := by
  have e0 : (0 + (i : Int)).toNat = i := by omega
  rw [e0, ust, uadd_len, uend, ha, hz]
  have hb : bfOf wbs i = wbs.getD i false := rfl
  cases h : wbs.getD i false with
  | true => refine .inl ⟨rfl, ?_⟩; rw [hb, h, if_pos rfl]; unfold pad8; omega
  | false => refine .inr ⟨rfl, ?_⟩; rw [hb, h, if_neg (by decide)]; omega
theorem lb_for {body : List Stmt} {r : Addr} {ta t₀ u₀ v₀ : Tok} {pn n : Nat} {news : List (Addr × Obj)} {e : Int} {cvs wvs pv : List Value} {bs : List Nat}
    (hh : A.handled = none) (hr : IsRange s.heap r 0 e 1 t₀ u₀ v₀) (hsmall : Builtin.Range.small 0 e 1 = true) (hsz : Builtin.Range.rangeSize 0 e 1 = (n : Int)) (F : Fr h₀ env.locals s.heap m₀) (N : News h₀ env.locals s.heap news)
    (fW : m₀ (Str.ofString "reader") = some (.ref S)) (fC : m₀ (Str.ofString "counts") = some (.ref CA)) (fB : m₀ (Str.ofString "whole") = some (.ref WA)) (fP : m₀ (Str.ofString "places") = some (.ref PL))
    (hS : (S, instObj 201 D) ∈ news) (hD : (D, dictOf [⟨PyData.keyHash P (Str.ofString "_data"), .str (Str.ofString "_data") t1, .bytes b tb⟩, ⟨PyData.keyHash P (Str.ofString "_at"), .str (Str.ofString "_at") t2, .int 0 ta⟩] 2) ∈ news)
    (hP : (PL, listOf pv.toArray pn) ∈ news) (hC : (CA, LCg.lst cvs) ∈ news) (hB : (WA, LCg.lst wvs) ∈ news) (hI : IntsAre cvs cns) (hJ : BoolsAre wvs wbs) (hK : IntsAre pv (plOf cns wbs n)) (hb : bs = ust (cfOf cns) (bfOf wbs) n) (_hB : KBw.bInts b = bytesK bs ((bs.length + 7) / 8))
    (hR : ∀ k, 0 ≤ cns.getD k 0 ∧ cns.getD k 0 < 20) (hn : n ≤ 6) (hcn : n = cns.length) (hwn : n = wbs.length)
    (turn : ∀ (a : Int) (ta : Tok) (i z : Nat) (e : Int) t (u : Str → Option Value) h tk own, i < n → a = ((ust (cfOf cns) (bfOf wbs) i).length : Int) → 0 ≤ a → (z : Int) = cns.getD (0 + (i : Int)).toNat 0 → z ≤ 20 → (∀ j, j < z → bs.getD (a.toNat + j) 0 = 1) → bs.getD (a.toNat + z) 0 = 0 → a + z < 8 * (((bs.length + 7) / 8 : Nat) : Int) →
      ((wbs.getD (0 + (i : Int)).toNat false = true ∧ e = (a + z + 1 + 7) / 8 * 8) ∨ (wbs.getD (0 + (i : Int)).toNat false = false ∧ e = a + z + 1)) → (plOf cns wbs n).getD (0 + (i : Int)).toNat 0 = e → e = ((ust (cfOf cns) (bfOf wbs) (i + 1)).length : Int) →
      0 + (i : Int) < (cns.length : Int) → 0 + (i : Int) < (wbs.length : Int) → 0 + (i : Int) < ((plOf cns wbs n).length : Int) →
      (∀ p ∈ own, p.1 ≠ S) → (∀ p ∈ own, p.1 ≠ D) → (∀ p ∈ own, p.1 ≠ PL) → (∀ p ∈ own, p.1 ≠ CA) → (∀ p ∈ own, p.1 ≠ WA) →
      Fr h₀ env.locals h (fun y => if y = Str.ofString "k" then some (.int (0 + i) t) else if [Str.ofString "found", Str.ofString "place"].contains y then u y else m₀ y) →
      News h₀ env.locals h ((S, instObj 201 D) :: (D, dictOf [⟨PyData.keyHash P (Str.ofString "_data"), .str (Str.ofString "_data") t1, .bytes b tb⟩, ⟨PyData.keyHash P (Str.ofString "_at"), .str (Str.ofString "_at") t2, .int a ta⟩] 2) :: (PL, listOf pv.toArray pn) :: (CA, LCg.lst cvs) :: (WA, LCg.lst wvs) :: own) →
      wpAny (model prog w) A (execs body env) (InvPostG h₀ env.locals (RgJ (lbLed P t1 t2 tb b S D PL CA WA (instObj 201 D) (listOf pv.toArray pn) (LCg.lst cvs) (LCg.lst wvs)) (fun _ => []) (Str.ofString "k") [Str.ofString "found", Str.ofString "place"] m₀ (lbP cns wbs) (i + 1)) own { s with heap := h, toks := tk } Q) E { s with heap := h, toks := tk })
    (done : ∀ (a : Int) (ta : Tok) (u : Str → Option Value) h tk, a = (bs.length : Int) →
      Fr h₀ env.locals h (fun y => if y = Str.ofString "k" then u y else if [Str.ofString "found", Str.ofString "place"].contains y then u y else m₀ y) →
      News h₀ env.locals h ((S, instObj 201 D) :: (D, dictOf [⟨PyData.keyHash P (Str.ofString "_data"), .str (Str.ofString "_data") t1, .bytes b tb⟩, ⟨PyData.keyHash P (Str.ofString "_at"), .str (Str.ofString "_at") t2, .int a ta⟩] 2) :: (PL, listOf pv.toArray pn) :: (CA, LCg.lst cvs) :: (WA, LCg.lst wvs) :: []) → Q .next { s with heap := h, toks := tk }) :
    wpAny (model prog w) A (pyIter (.ref r)) (fun it s₂ => LoopAtV prog w A h₀ env (Str.ofString "k") body Q E it s₂) E s := by
  refine rg_for (lbLed P t1 t2 tb b S D PL CA WA (instObj 201 D) (listOf pv.toArray pn) (LCg.lst cvs) (LCg.lst wvs)) (fun _ => []) [Str.ofString "found", Str.ofString "place"] (lbP cns wbs) ⟨0, ta⟩ hh hr hsmall hsz F N ?_ (fun _ h => nomatch h) rfl ?_ ?_
  · intro p hp
    simp only [lbLed, List.mem_cons, List.not_mem_nil, or_false] at hp
    rcases hp with rfl | rfl | rfl | rfl | rfl
    · exact hS
    · exact hD
    · exact hP
    · exact hC
    · exact hB
  · rintro ⟨a, ta⟩ i t u h tk own hi p1 hoff F₁ N₁
    have p1' : a = ((ust (cfOf cns) (bfOf wbs) i).length : Int) := p1
    have e0 : (0 + (i : Int)).toNat = i := by omega
    have hz : ((cfOf cns i : Nat) : Int) = cns.getD (0 + (i : Int)).toNat 0 := by
      rw [e0]; have := (hR i).1; unfold cfOf; omega
    have ea : a.toNat = (ust (cfOf cns) (bfOf wbs) i).length := by omega
    have hlt := ust_len_lt (cfOf cns) (bfOf wbs) hi
    refine turn a ta i (cfOf cns i) _ t u h tk own hi p1' (by omega) hz (by have := (hR i).2; unfold cfOf; omega) (fun j hj => ?_) ?_ ?_ (lb_e p1' rfl) (by rw [e0]; exact plOf_get cns wbs hi) rfl (by omega) (by omega) (by rw [plOf_len]; omega)
      (fun p hp => hoff p hp _ (.head _)) (fun p hp => hoff p hp _ (.tail _ (.head _))) (fun p hp => hoff p hp _ (.tail _ (.tail _ (.head _)))) (fun p hp => hoff p hp _ (.tail _ (.tail _ (.tail _ (.head _))))) (fun p hp => hoff p hp _ (.tail _ (.tail _ (.tail _ (.tail _ (.head _)))))) F₁ N₁
    · rw [ea, hb]; exact ust_ones _ _ hi hj
    · rw [ea, hb]; exact ust_zero _ _ hi
    · rw [← hb] at hlt; omega
  · rintro ⟨a, ta⟩ u h tk p1 F₁ N₁
    exact done a ta u h tk (by rw [hb]; exact p1) F₁ N₁
theorem lb_end {m' : Str → Option Value} {ta' : Tok} {X e : Int} {own : List (Addr × Obj)} {i : Nat} {s₁ : Shared} {h' : Heap} {tk : Nat}
    (F : Fr h₀ L h' m') (N : News h₀ L h' ((S, oS) :: (D, dictOf [⟨PyData.keyHash P (Str.ofString "_data"), .str (Str.ofString "_data") t1, .bytes b tb⟩, ⟨PyData.keyHash P (Str.ofString "_at"), .str (Str.ofString "_at") t2, .int X ta'⟩] 2) :: (PL, oP) :: (CA, oC) :: (WA, oW) :: own))
    (hr : ∀ z, z ≠ Str.ofString "k" → (∀ p ∈ ([] : List (Str × Value)), z ≠ p.1) → [Str.ofString "found", Str.ofString "place"].contains z = false → m' z = m₀ z)
    (o1 : ∀ p ∈ own, p.1 ≠ S) (o2 : ∀ p ∈ own, p.1 ≠ D) (o3 : ∀ p ∈ own, p.1 ≠ PL) (o4 : ∀ p ∈ own, p.1 ≠ CA) (o5 : ∀ p ∈ own, p.1 ≠ WA) (he : e = ((ust (cfOf cns) (bfOf wbs) (i + 1)).length : Int)) (hX : X = e) :
    InvEndG h₀ L (RgJ (lbLed P t1 t2 tb b S D PL CA WA oS oP oC oW) (fun _ => []) (Str.ofString "k") [Str.ofString "found", Str.ofString "place"] m₀ (lbP cns wbs) (i + 1)) own s₁ { s₁ with heap := h', toks := tk } := by
  refine rg_end (c' := ⟨X, ta'⟩) F N ?_ ?_ ?_ (fun _ h => nomatch h) hr (hX.trans he)
  · intro p hp
    simp only [lbLed, List.mem_cons, List.not_mem_nil, or_false] at hp
    rcases hp with rfl | rfl | rfl | rfl | rfl
    · exact .head _
    · exact .tail _ (.head _)
    · exact .tail _ (.tail _ (.head _))
    · exact .tail _ (.tail _ (.tail _ (.head _)))
    · exact .tail _ (.tail _ (.tail _ (.tail _ (.head _))))
  · exact fun p hp => .tail _ (.tail _ (.tail _ (.tail _ (.tail _ hp))))
  · intro p hp q hq
    simp only [lbLed, List.mem_cons, List.not_mem_nil, or_false] at hq
    rcases hq with rfl | rfl | rfl | rfl | rfl
    · exact o1 p hp
    · exact o2 p hp
    · exact o3 p hp
    · exact o4 p hp
    · exact o5 p hp
end
theorem ust_bits' {c : Nat → Nat} {b : Nat → Bool} {n : Nat} {bs : List Nat} (h : bs = ust c b n) : Bits bs := by rw [h]; exact ust_bits c b n
theorem cont2 {a b z : Str} (h : [a, b].contains z = false) : z ≠ a ∧ z ≠ b := by
  constructor
  · rintro rfl
    simp at h
  · rintro rfl
    simp at h
theorem lb_x1 {b : Bool} {y e : Int} (h : (b = true ∧ e = (y + 7) / 8 * 8) ∨ (b = false ∧ e = y)) (hb : b = true) (hf : y.fmod 8 ≠ 0) : y + 8 - y.fmod 8 = e := by
  rw [Int.fmod_eq_emod_of_nonneg _ (by decide)] at hf ⊢
  rcases h with ⟨_, h⟩ | ⟨h, _⟩
  · omega
  · rw [hb] at h; cases h
theorem lb_x2 {b : Bool} {y e : Int} (h : (b = true ∧ e = (y + 7) / 8 * 8) ∨ (b = false ∧ e = y)) (hb : b = true) (hf : y.fmod 8 = 0) : y = e := by
  rw [Int.fmod_eq_emod_of_nonneg _ (by decide)] at hf
  rcases h with ⟨_, h⟩ | ⟨h, _⟩
  · omega
  · rw [hb] at h; cases h
theorem lb_x3 {b : Bool} {y e : Int} (h : (b = true ∧ e = (y + 7) / 8 * 8) ∨ (b = false ∧ e = y)) (hb : b = false) : y = e := by
  rcases h with ⟨h, _⟩ | ⟨_, h⟩
  · rw [hb] at h; cases h
  · exact h.symm
theorem item_pl {prog : Program} {w : World} {A : Around} {E : Value → Shared → Prop} {s : Shared} {h₀ : Heap} {L D : Addr} {news : List (Addr × Obj)} {vs : List Value} {ns : List Int} {n : Nat} {k y : Int} {u : Tok} {value slice : PySem.Expr} {Q : Value → Shared → Prop} (N : News h₀ L s.heap news) (hm : (D, listOf vs.toArray n) ∈ news) (hi : IntsAre vs ns) (he : ns.getD k.toNat 0 = y) (h0 : 0 ≤ k) (h1 : k < ns.length) (hfit : k < 2 ^ 63) (h : ∀ t, Q (.int y t) s)
    (hs : subscripted slice false (.ref D) (.int k u) = operate [.ref D, .int k u] (getItem (.ref D) (.int k u)) := by with_unfolding_all rfl) :
    wpAny (model prog w) A (subscriptTail value slice (.ref D) (.int k u)) Q E s := ksa_sub N hm hi h0 h1 hfit (fun t => by rw [he]; exact h t) hs
theorem ne_same {prog : Program} {w : World} {A : Around} {E : Value → Shared → Prop} {s : Shared} {c d : Bool} {Q : Value → Shared → Prop} (e : c = d) (h : Q (.bool false) s) : wpAny (model prog w) A (compareOp .NotEq (.bool c) (.bool d)) Q E s :=
  PyProof.Rows.ne_bool (by subst e; rw [bne_self_eq_false]; exact h)
theorem t_eq {x : Int} (h : x = 0) : true = (x == 0) := by rw [h]; rfl
theorem f_eq {x : Int} (h : x ≠ 0) : false = (x == 0) := (beq_eq_false_iff_ne.mpr h).symm
theorem lb_m1 {y e : Int} (_ : y + 8 - y.fmod 8 = e) : (y + 8 - y.fmod 8).fmod 8 = 0 := by
  rw [Int.fmod_eq_emod_of_nonneg _ (by decide), Int.fmod_eq_emod_of_nonneg _ (by decide)]
  omega
/-- behind `if whole[k]: reader.align()` the ways meet -/
def LbJ (h₀ : Heap) (L : Addr) (m : Str → Option Value) (P : Params) (t1 t2 tb : Tok) (b : Array UInt8) (S D : Addr) (oS : Obj) (rest : List (Addr × Obj)) (e : Int) (s : Shared) (f : Flow) (s' : Shared) : Prop :=
  f = .next ∧ ∃ h tk ta, s' = { s with heap := h, toks := tk } ∧ Fr h₀ L h m ∧ News h₀ L h ((S, oS) :: (D, dictOf [⟨PyData.keyHash P (Str.ofString "_data"), .str (Str.ofString "_data") t1, .bytes b tb⟩, ⟨PyData.keyHash P (Str.ofString "_at"), .str (Str.ofString "_at") t2, .int e ta⟩] 2) :: rest)
section
variable {prog : Program} {w : World} {A : Around} {E : Value → Shared → Prop} {Q : Flow → Shared → Prop} {s : Shared} {h₀ : Heap} {L : Addr} {m : Str → Option Value} {P : Params} {t1 t2 tb : Tok} {b : Array UInt8} {S D : Addr} {oS : Obj} {rest : List (Addr × Obj)} {e : Int}
theorem lbJ_if {t : Sem Flow} {a : Int} {ta : Tok} (_F : Fr h₀ L s.heap m) (_N : News h₀ L s.heap ((S, oS) :: (D, dictOf [⟨PyData.keyHash P (Str.ofString "_data"), .str (Str.ofString "_data") t1, .bytes b tb⟩, ⟨PyData.keyHash P (Str.ofString "_at"), .str (Str.ofString "_at") t2, .int a ta⟩] 2) :: rest)) {y : Int} (_he : y = e)
    (h : wpAny (model prog w) A t (fun f s' => LbJ h₀ L m P t1 t2 tb b S D oS rest e s f s') E s)
    (k : ∀ h tk ta, Fr h₀ L h m → News h₀ L h ((S, oS) :: (D, dictOf [⟨PyData.keyHash P (Str.ofString "_data"), .str (Str.ofString "_data") t1, .bytes b tb⟩, ⟨PyData.keyHash P (Str.ofString "_at"), .str (Str.ofString "_at") t2, .int e ta⟩] 2) :: rest) → Q .next { s with heap := h, toks := tk }) :
    wpAny (model prog w) A t Q E s :=
  wpAny_mono h (fun f s' ⟨hf, h, tk, ta, hs, F, N⟩ => by subst hf hs; exact k h tk ta F N) fun _ _ x => x
theorem lbJ_end {X : Int} {ta : Tok} {h : Heap} {tk : Nat} (F : Fr h₀ L h m) (N : News h₀ L h ((S, oS) :: (D, dictOf [⟨PyData.keyHash P (Str.ofString "_data"), .str (Str.ofString "_data") t1, .bytes b tb⟩, ⟨PyData.keyHash P (Str.ofString "_at"), .str (Str.ofString "_at") t2, .int X ta⟩] 2) :: rest)) (hX : X = e) :
    LbJ h₀ L m P t1 t2 tb b S D oS rest e s .next { s with heap := h, toks := tk } := ⟨rfl, h, tk, ta, rfl, F, hX ▸ N⟩
end
end Mine
local macro_rules | `(tactic| walk_at "mine ne") => `(tactic| ((try dsimp only); first | assumption | k_ne | (refine Ne.symm ?_; assumption)))
local macro_rules | `(tactic| walk_at "mine off") => `(tactic| first | exact List.forall_mem_nil _ | assumption | exact Mine.off_lt (by assumption) | exact Mine.off_gt (by assumption) | (refine' List.forall_mem_cons.mpr ⟨?a, ?b⟩; (case a => walk_at "mine ne"); (case b => walk_at "mine off")) | (refine' List.forall_mem_append.mpr ⟨?a, ?b⟩; (case a => walk_at "mine off"); (case b => walk_at "mine off")))
local macro_rules | `(tactic| walk_at "mine upd") => `(tactic| first | (refine' Upd.head ?a; (case a => walk_at "mine off")) | (refine' Upd.tail ?a ?b; (case a => walk_at "mine ne"); (case b => walk_at "mine upd")))
local macro_rules | `(tactic| walk_at "mine size") => `(tactic| ((try law_lens); (simp only [List.size_toArray, Array.size_push, Array.size_append, List.length_append, List.length_cons, List.length_nil, List.length_take, List.length_drop, List.length_replicate, sizeLine_eq]); omega))
local macro_rules | `(tactic| walk_at "call builtin:list.append") => `(tactic| (k_here; (with_reducible show wpAny _ _ (call (Value.builtin "list.append") [Value.ref _, _]) _ _ _); k_dflt (refine' append_K ?k1 ?k2 ?k3 ?_ ?z; (case k1 => k_asm); (case k2 => k_asm); (case k3 => walk_at "mine upd"); (case z => walk_at "mine size"); k_whole); intro h' F' N'; (try k_sweep)))
local macro_rules | `(tactic| walk_at "setAttr ref") => `(tactic| (k_here; (with_reducible show wpAny _ _ (setAttr (Value.ref _) _ _) _ _ _); k_dflt (refine' set_dict ?k1 ?k2 ?k3 ?k4 ?k5 ?k6 ?k7 ?k8 ?k9 ?k10 ?k11 ?k12 ?k13 ?_; (case k1 => k_asm); (case k2 => k_asm); (case k3 => k_asm); (case k4 => k_inst); (case k5 => exact rfl); (case k6 => k_is); (case k7 => k_is); (case k8 => k_is); (case k9 => k_is); (case k10 => k_get); (case k11 => k_put); (case k12 => walk_at "mine upd"); (case k13 => exact Nat.le_of_ble_eq_true rfl); k_whole); intro h' F' N'; (try k_sweep)))
local macro_rules | `(tactic| walk_at "binaryOp RShift int int") => `(tactic| (k_here; (with_reducible refine Mine.rshift_fit ?ka ?kb ?_); (case ka => assumption); (case kb => assumption)))
local macro_rules | `(tactic| walk_at "exec While Compare cons nil") => `(tactic| (k_here; (rename Mine.BwHeld _ _ _ _ => kW); (have kO := Mine.bw_or kW (by assumption) (by assumption) (by assumption)); (obtain ⟨o1, o2, o3, o4, o5⟩ := kO); (rename Fr _ _ _ _ => lF'); (rename News _ _ _ _ => lN'); (with_unfolding_all refine' Mine.bw_while lF' lN' o4 o1 o2 o3 ?k5 ?_; (case k5 => (rw [List.length_append, Mine.le_len]; omega)); k_whole); (clear lF' lN' kW o1 o2 o3 o4); intro i9 hv9 th9 cv9 tc9 vs9 cn9 u9 h9 tk9 kI kL kH kC k8 kH0 kC0 kI2 kF kN; (try k_fold)))
local macro_rules | `(tactic| walk_at "KswEnd") => `(tactic| (k_here; (rename Fr _ _ _ _ => lF'); (rename News _ _ _ _ => lN'); with_unfolding_all (refine' Mine.bw_end lF' lN' ?k1 ?k2 ?k3 ?k4 ?k5 ?k6; (case k1 => ksw_same); (case k2 => assumption); (case k3 => assumption); (case k4 => assumption); (case k5 => assumption); (case k6 => omega))))
local macro_rules | `(tactic| walk_at "call type:bytes") => `(tactic| (k_here; (with_reducible show wpAny _ _ (call (Value.type "bytes") [Value.ref _]) _ _ _); (rename News _ _ _ _ => lN'); (try simp only [List.push_toArray] at lN'); k_dflt (refine' KBa.make_K ?kbaF ?kbaN ?kbah ?kbal ?kbai ?kbar ?kban ?_; (case kbaF => k_asm); (case kbaN => k_asm); (case kbah => rfl); (case kbal => exact News.isList (by k_asm) (by k_mem)); (case kbai => first | exact Mine.fin_more (by assumption) (by assumption) (by assumption) | exact Mine.fin_same (by assumption) (by assumption) (by assumption)); (case kbar => exact Mine.bytesK_in _ _); (case kban => (rw [Mine.bytesK_len]; omega)); k_whole); intro h' t' k' F' N' kbaIn))
local macro_rules | `(tactic| walk_at "subscriptTail Name Slice ref ref") => `(tactic| (k_here; (with_reducible show wpAny _ _ (subscriptTail _ (PySem.Expr.Slice none none none _) (Value.ref _) (Value.ref _)) _ _ _); (rename (IntsAre _ (Mine.bytesK _ _)) => kI9); k_dflt (refine' kmk_slice_ints ?F ?N ?l ?p ?q ?i ?m ?c ?_ ?s ?t ?z; (case F => k_asm); (case N => k_asm); (case i => exact kI9); (case l => exact News.isList (by k_asm) (by k_mem)); (case p => exact IsPart.none); (case q => exact IsPart.none); (case m => exact kmk_all kI9); (case c => exact rfl); (case s => with_unfolding_all rfl); (case t => kmk_pure); (case z => (rw [List.size_toArray, sizeLine_eq]; omega))); intro D' ws' h' F' N' l1 hI' hC' hL'; (try k_lt l1); (try k_sweep)))
set_option maxRecDepth 100000 in
set_option maxHeartbeats 8000000 in
theorem Mine.bw_ctr {w : World} {p : Program} {loose : List Str} {mean : ExcName → Option Value} {mg mb : Str → Option Value} : Mine.BwC 79 124 PySem.Challenge.rw_ui0507_13.row.prog w (Mine.hd.heap_39 w.params) p loose mean mg mb := by
  k_fill
  w_top off
  unfold Mine.BwC
  intro bs S D O t1 t2 t3 th tc t u hv cv v c vs cn news hS hD hO n1 n2 n3 kW hv0 hc0 hc1 hv1 hbl
  have hv2 := Mine.lt64 hc1 hv1
  have hz := Mine.shr_zero hv0 hv1
  have hw := Mine.held_count kW
  obtain ⟨hw1, hw2, hw3, hw4, hw5⟩ := hw
  unfold Mine.Fun
  intro dp un gd cn cs a ccd cl outer A₀ base h₀ L m s Q E B F X N T hk hd hu hret
  replace N := Mine.news_split2 (D := D) (O := O) N hS hD hO
  have r1 := Mine.rest2_D (D := D) (O := O) (news := news)
  have r2 := Mine.rest2_O (D := D) (O := O) (news := news)
  clear hS hD hO
  refine wpAny_call ?_
  k_dflt cell_enter
  k_steps
  exact Mine.bw_ret hret (by assumption) (by assumption) (by assumption) (by assumption) (by assumption) (by assumption) (by assumption) (by assumption)
set_option maxRecDepth 100000 in
set_option maxHeartbeats 8000000 in
theorem Mine.rb_ctr {w : World} {p : Program} {loose : List Str} {mean : ExcName → Option Value} {mg mb : Str → Option Value} : Mine.RbC 156 201 PySem.Challenge.rw_ui0507_13.row.prog w (Mine.hd.heap_39 w.params) p loose mean mg mb := by
  k_fill
  w_top off
  unfold Mine.RbC
  intro bs n S D t1 t2 tb ta b a0 news hS hD n1 kB kBb ha0 ha1 hn
  have kV := Mine.rb_val kBb ha0 ha1
  have kBl := Mine.bytesK_len bs n
  unfold Mine.Fun
  intro dp un gd cn cs a ccd cl outer A₀ base h₀ L m s Q E B F X N T hk hd hu hret
  replace N := Mine.news_split1 (D := D) N hS hD
  have r1 := Mine.rest2_D (D := D) (O := D) (news := news)
  clear hS hD
  refine wpAny_call ?_
  k_dflt cell_enter
  k_steps
  exact hret _ _ _ _ ⟨_, _, _, rfl, kV, rfl⟩ (by assumption) (Mine.news_join1 (by assumption))
set_option maxRecDepth 100000 in
set_option maxHeartbeats 8000000 in
theorem Mine.fn_ctr {w : World} {p : Program} {loose : List Str} {mean : ExcName → Option Value} {mg mb : Str → Option Value} : Mine.FnC 121 124 PySem.Challenge.rw_ui0507_13.row.prog w (Mine.hd.heap_39 w.params) p loose mean mg mb := by
  k_fill
  w_top off
  unfold Mine.FnC
  intro bs S D O t1 t2 t3 th tc hv cv vs cn news hS hD hO n1 n2 n3 kW hbl
  have hw := Mine.held_count kW
  obtain ⟨hw1, hw2, hw3, hw4, hw5⟩ := hw
  unfold Mine.Fun
  intro dp un gd cn cs a ccd cl outer A₀ base h₀ L m s Q E B F X N T hk hd hu hret
  have N0 := N
  have kI0 : IntsAre vs (Mine.bytesK bs (bs.length / 8)) := kW.1
  have kIl := Mine.bytesK_len bs (bs.length / 8)
  replace N := Mine.news_split2 (D := D) (O := O) N hS hD hO
  refine wpAny_call ?_
  k_dflt cell_enter
  k_steps
  all_goals exact hret _ _ _ _ ⟨_, _, rfl, rfl, KBa.ints_make (Mine.bytesK_in _ _)⟩ (by assumption) (Mine.news_back2 N0 hD hO (by assumption))
local macro_rules | `(tactic| walk_at "mine put") => `(tactic| ((rename News _ _ _ (Mine.put _ _ _) => kP); (repeat (first | rw [Mine.put_hit] at kP | rw [Mine.put_miss (by walk_at "mine ne")] at kP | rw [Mine.put2_rest] at kP | rw [Mine.put1_rest] at kP | (rw [Mine.put2_own] at kP; rotate_left; assumption; assumption) | rw [Mine.put_nil] at kP))))
local macro_rules | `(tactic| walk_at "call ref") => `(tactic| (k_here; (with_reducible show wpAny _ _ (call (Value.ref 79) [Value.ref _, Value.int _ _, Value.int _ _]) _ _ _); (k_dflt ((rename Mine.BwC _ _ _ _ _ _ _ _ _ _ => cL); refine' Mine.Fun.use ?kC ?k1 ?k2 ?k3 ?k4 ?k5 ?kK ?kd ?ku ?_; (case k2 => k_asm); (case k4 => k_asm); (case kC => (refine' cL _ _ _ _ _ _ _ _ _ _ _ _ _ _ _ _ _ _ ?l1 ?l2 ?l3 ?l4 ?l5 ?l6 ?l7 ?l8 ?l9 ?la ?lb ?lc; (case l1 => k_mem); (case l2 => k_mem); (case l3 => k_mem); (case l4 => walk_at "mine ne"); (case l5 => walk_at "mine ne"); (case l6 => walk_at "mine ne"); (case l7 => assumption); (case l8 => first | exact Int.le_refl _ | omega); (case l9 => omega); (case la => omega); (case lb => first | exact Mine.zero_lt_pow _ | decide); (case lc => omega))); (case k1 => k_asm); (case k3 => k_asm); (case k5 => k_asm); (case kK => first | exact rfl | assumption); (case kd => ktr_room); (case ku => ktr_units); k_whole); intro r9 news9 h9 tk9 hR F9 N9; (unfold Mine.BwOut at hR); (obtain ⟨hv9, th9, cv9, tc9, vs9, cn9, e1, e2, kW9⟩ := hR); (subst e1); (subst e2); (walk_at "mine put"); (try k_sweep))))
local macro_rules | `(tactic| walk_at "exec For Name Call cons nil") => `(tactic| (k_here; (rename Fr _ _ _ _ => lF'); (with_unfolding_all refine' For_invVF lF' ?k1 ?k2 ?_; (case k1 => exact rfl); (case k2 => exact rfl); k_whole)))
local macro_rules | `(tactic| walk_at "pyIter ref") => `(tactic| (k_here; (with_reducible show wpAny _ _ (pyIter (Value.ref _)) (fun it s₂ => LoopAtV _ _ _ _ _ _ _ _ _ it s₂) _ _); ((rename Fr _ _ _ _ => lF'); (rename News _ _ _ _ => lN'); (rename IsRange _ _ _ _ _ _ _ _ => rgX); (with_unfolding_all refine' Mine.wu_for ?hh rgX ?hs ?hz lF' lN' ?k1 ?tn ?dn; (case hh => exact rfl); (case k1 => assumption); (case hs => exact small_one (by omega) (by omega) (by omega) (by omega)); (case hz => (rw [rangeSize_nat]))); (all_goals (try clear lF' lN')); (case' tn => (intro bs9 hv9 th9 cv9 tc9 vs9 cn9 i9 t9 u9 h9 tk9 own9 kV1 kV2 kV3 kV4 kO1 kO2 kO3 kO4 kF kN; (try k_fold))); (case' dn => (intro bs9 hv9 th9 cv9 tc9 vs9 cn9 u9 h9 tk9 kV1 kV2 kV3 kF kN; (try k_unfold); (try dsimp only))))))
local macro_rules | `(tactic| walk_at "InvEndG") => `(tactic| (k_here; (rename Fr _ _ _ _ => lF'); (rename News _ _ _ _ => lN'); with_unfolding_all ((refine' Mine.wu_end lF' lN' ?k2 ?k3 ?k4 ?k5 ?k6 ?k7 ?k8; (case k2 => (intro q h1 h2 h3; (simp [h1]; done))); (case k3 => assumption); (case k4 => assumption); (case k5 => assumption); (case k6 => assumption); (case k7 => assumption); (case k8 => assumption)))))
set_option maxRecDepth 100000 in
set_option maxHeartbeats 8000000 in
theorem Mine.wu_ctr {w : World} {p : Program} {loose : List Str} {mean : ExcName → Option Value} {mg mb : Str → Option Value} (cW : Mine.BwC 79 124 PySem.Challenge.rw_ui0507_13.row.prog w (Mine.hd.heap_39 w.params) p loose mean mg mb) : Mine.WuC 93 124 PySem.Challenge.rw_ui0507_13.row.prog w (Mine.hd.heap_39 w.params) p loose mean mg mb := by
  k_fill
  w_top off
  unfold Mine.WuC
  intro bs S D O t1 t2 t3 th tc t hv cv c vs cn news hS hD hO n1 n2 n3 kW hc0 hc1 hbl
  unfold Mine.Fun
  intro dp un gd cn cs a ccd cl outer A₀ base h₀ L m s Q E B F X N T hk hd hu hret
  replace N := Mine.news_split2 (D := D) (O := O) N hS hD hO
  have r1 := Mine.rest2_D (D := D) (O := O) (news := news)
  have r2 := Mine.rest2_O (D := D) (O := O) (news := news)
  clear hS hD hO
  refine wpAny_call ?_
  k_dflt cell_enter
  k_steps
  exact Mine.wu_ret hret (by assumption) (by assumption) (by assumption) (Mine.wu_eq (by assumption) (by omega))
set_option maxRecDepth 100000 in
set_option maxHeartbeats 8000000 in
theorem Mine.wa_ctr {w : World} {p : Program} {loose : List Str} {mean : ExcName → Option Value} {mg mb : Str → Option Value} (cW : Mine.BwC 79 124 PySem.Challenge.rw_ui0507_13.row.prog w (Mine.hd.heap_39 w.params) p loose mean mg mb) : Mine.WaC 107 124 PySem.Challenge.rw_ui0507_13.row.prog w (Mine.hd.heap_39 w.params) p loose mean mg mb := by
  k_fill
  w_top off
  unfold Mine.WaC
  intro bs S D O t1 t2 t3 th tc hv cv vs cn news hS hD hO n1 n2 n3 kW hbl
  have hw := Mine.held_count kW
  obtain ⟨hw1, hw2, hw3, hw4, hw5⟩ := hw
  unfold Mine.Fun
  intro dp un gd cn cs a ccd cl outer A₀ base h₀ L m s Q E B F X N T hk hd hu hret
  replace N := Mine.news_split2 (D := D) (O := O) N hS hD hO
  have r1 := Mine.rest2_D (D := D) (O := O) (news := news)
  have r2 := Mine.rest2_O (D := D) (O := O) (news := news)
  clear hS hD hO
  refine wpAny_call ?_
  k_dflt cell_enter
  k_steps
  all_goals first | exact Mine.wu_ret hret (by assumption) (by assumption) (by assumption) (Mine.wa_eq kW (by assumption)) | exact Mine.wu_ret hret (by assumption) (by assumption) kW (Mine.wa_eq0 kW (by assumption))
local macro_rules | `(tactic| walk_at "call ref") => `(tactic| (k_here; (with_reducible show wpAny _ _ (call (Value.ref 156) _) _ _ _); (k_dflt ((rename Mine.RbC _ _ _ _ _ _ _ _ _ _ => cL); refine' Mine.Fun.use ?kC ?k1 ?k2 ?k3 ?k4 ?k5 ?kK ?kd ?ku ?_; (case k2 => k_asm); (case k4 => k_asm); (case kC => (refine' cL _ _ _ _ _ _ _ _ _ _ _ ?l1 ?l2 ?l3 ?l4 ?l5 ?l6 ?l7 ?l8; (case l1 => k_mem); (case l2 => k_mem); (case l3 => walk_at "mine ne"); (case l4 => assumption); (case l5 => assumption); (case l6 => omega); (case l7 => omega); (case l8 => omega))); (case k1 => k_asm); (case k3 => k_asm); (case k5 => k_asm); (case kK => first | exact rfl | assumption); (case kd => ktr_room); (case ku => ktr_units); k_whole); intro r9 news9 h9 tk9 hR F9 N9; (unfold Mine.RbOut at hR); (obtain ⟨y9, t9, ta9, e1, e2, e3⟩ := hR); (subst e1); (subst e3); (walk_at "mine put"); (try k_sweep))))
local macro_rules | `(tactic| walk_at "exec While Compare cons nil") => `(tactic| (k_here; (rename Fr _ _ _ _ => lF'); (rename News _ _ _ _ => lN'); (with_unfolding_all refine' Mine.ru_while lF' lN' ?k1 ?k2 ?k3 ?k4 ?k5 ?_; (case k1 => exact rfl); (case k2 => assumption); (case k3 => assumption); (case k4 => assumption); (case k5 => assumption); k_whole); (clear lF' lN'); intro q9 t9 ta9 u9 h9 tk9 kR1 kR2 kF kN; (try k_fold)))
local macro_rules | `(tactic| walk_at "KswEnd") => `(tactic| (k_here; (rename Fr _ _ _ _ => lF'); (rename News _ _ _ _ => lN'); with_unfolding_all (refine' Mine.ru_end lF' lN' ?k1 ?k2 ?k3; (case k1 => exact rfl); (case k2 => ksw_same); (case k3 => omega))))
set_option maxRecDepth 100000 in
set_option maxHeartbeats 8000000 in
theorem Mine.ru_ctr {w : World} {p : Program} {loose : List Str} {mean : ExcName → Option Value} {mg mb : Str → Option Value} (cR : Mine.RbC 156 201 PySem.Challenge.rw_ui0507_13.row.prog w (Mine.hd.heap_39 w.params) p loose mean mg mb) : Mine.RuC 177 201 PySem.Challenge.rw_ui0507_13.row.prog w (Mine.hd.heap_39 w.params) p loose mean mg mb := by
  k_fill
  w_top off
  unfold Mine.RuC
  intro bs n z S D t1 t2 tb ta b a0 news hS hD n1 kB kBb ha0 h1 h2 hz hn hz1
  unfold Mine.Fun
  intro dp un gd cn cs a ccd cl outer A₀ base h₀ L m s Q E B F X N T hk hd hu hret
  replace N := Mine.news_split1 (D := D) N hS hD
  have r1 := Mine.rest2_D (D := D) (O := D) (news := news)
  clear hS hD
  refine wpAny_call ?_
  k_dflt cell_enter
  k_steps
  exact Mine.ru_ret hret (by assumption) (by assumption) (by omega)
local macro_rules | `(tactic| walk_at "CompSrc") => `(tactic| (k_here; (rename IntsAre _ (List.map _ (rangeKs _ _)) => hI9); (try k_fmods); (try kcf_lens); k_dflt (refine LCg.CompSrc.range (by rfl) (by k_asm) (by k_asm) (by assumption) (by exact small_one (by kcf_bnd) (by kcf_bnd) (by kcf_bnd) (by kcf_bnd)) (by exact rangeSize_nat _ _) (by (rw [PySem.sizeLine_eq]; omega)) ?_; intro g'; (refine' Mine.whole_range hI9 ?tn ?dn); (case' tn => (intro k' t' I' oI' C' oC' D' m' ys' h' tk' E' hlo' hhi' hC' hx' F' N' off' ne'; (try (simp only [LCg.Off3, and_true] at off')); (try k_fold))); (case' dn => (intro ys9 hB9)))))
local macro_rules | `(tactic| walk_at "CompEnd") => `(tactic| (refine Mine.endB (by assumption) (by assumption) (by kcf_all) (by first | assumption | (simp only [LCg.Off3, and_true]; done) | (simp only [LCg.Off3, and_true]; assumption)) (by exact True.intro) rfl))
local macro_rules | `(tactic| walk_at "mine put") => `(tactic| ((rename News _ _ _ (Mine.put _ _ _) => kP); (repeat (first | rw [Mine.put_hit] at kP | rw [Mine.put_miss (by walk_at "mine ne")] at kP | (rw [Mine.put2_off] at kP; rotate_left; assumption; assumption) | (rw [Mine.put1_off] at kP; rotate_left; assumption) | rw [Mine.put_nil] at kP))))
local macro_rules | `(tactic| walk_at "call ref") => `(tactic| (k_here; (with_reducible show wpAny _ _ (call (Value.ref 93) [Value.ref _, Value.int _ _]) _ _ _); (k_dflt ((rename Mine.WuC _ _ _ _ _ _ _ _ _ _ => cL); refine' Mine.Fun.use ?kC ?k1 ?k2 ?k3 ?k4 ?k5 ?kK ?kd ?ku ?_; (case k2 => k_asm); (case k4 => k_asm); (case kC => (refine' cL _ _ _ _ _ _ _ _ _ _ _ _ _ _ _ _ ?l1 ?l2 ?l3 ?l4 ?l5 ?l6 ?l7 ?l8 ?l9 ?la; (case l1 => k_mem); (case l2 => k_mem); (case l3 => k_mem); (case l4 => walk_at "mine ne"); (case l5 => walk_at "mine ne"); (case l6 => walk_at "mine ne"); (case l7 => assumption); (case l8 => assumption); (case l9 => omega); (case la => omega))); (case k1 => k_asm); (case k3 => k_asm); (case k5 => k_asm); (case kK => first | exact rfl | assumption); (case kd => ktr_room); (case ku => ktr_units); k_whole); intro r9 news9 h9 tk9 hR F9 N9; (unfold Mine.BwOut at hR); (obtain ⟨hv9, th9, cv9, tc9, vs9, cn9, e1, e2, kW9⟩ := hR); (subst e1); (subst e2); (walk_at "mine put"); (try k_sweep))))
local macro_rules | `(tactic| walk_at "call ref") => `(tactic| (k_here; (with_reducible show wpAny _ _ (call (Value.ref 107) _) _ _ _); (k_dflt ((rename Mine.WaC _ _ _ _ _ _ _ _ _ _ => cL); refine' Mine.Fun.use ?kC ?k1 ?k2 ?k3 ?k4 ?k5 ?kK ?kd ?ku ?_; (case k2 => k_asm); (case k4 => k_asm); (case kC => (refine' cL _ _ _ _ _ _ _ _ _ _ _ _ _ _ ?l1 ?l2 ?l3 ?l4 ?l5 ?l6 ?l7 ?la; (case l1 => k_mem); (case l2 => k_mem); (case l3 => k_mem); (case l4 => walk_at "mine ne"); (case l5 => walk_at "mine ne"); (case l6 => walk_at "mine ne"); (case l7 => assumption); (case la => (simp only [List.length_append, List.length_replicate, List.length_singleton]; omega)))); (case k1 => k_asm); (case k3 => k_asm); (case k5 => k_asm); (case kK => first | exact rfl | assumption); (case kd => ktr_room); (case ku => ktr_units); k_whole); intro r9 news9 h9 tk9 hR F9 N9; (unfold Mine.BwOut at hR); (obtain ⟨hv9, th9, cv9, tc9, vs9, cn9, e1, e2, kW9⟩ := hR); (subst e1); (subst e2); (walk_at "mine put"); (try k_sweep))))
local macro_rules | `(tactic| walk_at "call ref") => `(tactic| (k_here; (with_reducible show wpAny _ _ (call (Value.ref 121) _) _ _ _); (k_dflt ((rename Mine.FnC _ _ _ _ _ _ _ _ _ _ => cL); refine' Mine.Fun.use ?kC ?k1 ?k2 ?k3 ?k4 ?k5 ?kK ?kd ?ku ?_; (case k2 => k_asm); (case k4 => k_asm); (case kC => (refine' cL _ _ _ _ _ _ _ _ _ _ _ _ _ _ ?l1 ?l2 ?l3 ?l4 ?l5 ?l6 ?l7 ?l8; (case l1 => k_mem); (case l2 => k_mem); (case l3 => k_mem); (case l4 => walk_at "mine ne"); (case l5 => walk_at "mine ne"); (case l6 => walk_at "mine ne"); (case l7 => assumption); (case l8 => omega))); (case k1 => k_asm); (case k3 => k_asm); (case k5 => k_asm); (case kK => first | exact rfl | assumption); (case kd => ktr_room); (case ku => ktr_units); k_whole); intro r9 news9 h9 tk9 hR F9 N9; (unfold Mine.FnOut at hR); (obtain ⟨b9, t9, e1, e2, kB9⟩ := hR); (subst e1); (subst e2); (have kBl9 := Mine.fn_len kB9); (try (with_reducible show (_ : Value → Shared → Prop) _ _)); (try k_sweep))))
local macro_rules | `(tactic| walk_at "call ref") => `(tactic| (k_here; (with_reducible show wpAny _ _ (call (Value.ref 177) _) _ _ _); (k_dflt ((rename Mine.RuC _ _ _ _ _ _ _ _ _ _ => cL); refine' Mine.Fun.use ?kC ?k1 ?k2 ?k3 ?k4 ?k5 ?kK ?kd ?ku ?_; (case k2 => k_asm); (case k4 => k_asm); (case kC => (refine' cL _ _ _ _ _ _ _ _ _ _ _ _ ?l1 ?l2 ?l3 ?l4 ?l5 ?l6 ?l7 ?l8 ?l9 ?la ?lb; (case l1 => k_mem); (case l2 => k_mem); (case l3 => walk_at "mine ne"); (case l4 => assumption); (case l5 => exact Mine.ust_bits' (by assumption)); (case l6 => assumption); (case l7 => assumption); (case l8 => assumption); (case l9 => assumption); (case la => omega); (case lb => omega))); (case k1 => k_asm); (case k3 => k_asm); (case k5 => k_asm); (case kK => first | exact rfl | assumption); (case kd => ktr_room); (case ku => ktr_units); k_whole); intro r9 news9 h9 tk9 hR F9 N9; (unfold Mine.RuOut at hR); (obtain ⟨y9, t9, ta9, e1, e2, e3⟩ := hR); (subst e1); (subst e3); (walk_at "mine put"); (try k_sweep))))
local macro_rules | `(tactic| walk_at "noteFrame ref") => `(tactic| (k_here; (rename RaisedK _ _ _ _ _ _ _ _ => rkX); (refine' Mine.caught_env (bmB := [.type "ValueError", .type "Exception", .type "BaseException", .type "object"]) (newId := "ValueError.__new__") (T' := "ValueError") ?hf ?K ?F ?U ?R ?X ?T ?ey ?q ?nm PySem.F.isExc_ValueError PySem.F.notTuple_ValueError ?hb ?_; (case hf => rfl); (case K => assumption); (case R => exact rkX); (case F => assumption); (case U => assumption); (case X => k_asm); (case T => k_asm); (case ey => k_ownname); (case q => k_exc); (case nm => (intro s₁ A₁ Q₁ E₁ F₁ h₁; (with_unfolding_all exact nameX_B F₁ (by k_asm) (by k_asm) (by k_is) PyProof.Rows.Boot.«ValueError» (by decide) h₁))); (case hb => rfl); k_whole); intro h' F' N'; (try k_sweep)))
local macro_rules | `(tactic| walk_at "compareOp NotEq bool bool") => `(tactic| (k_here; first | (refine Mine.ne_same (Eq.trans (b := true) (by decide +kernel) (Mine.t_eq (by assumption))) ?_) | (refine Mine.ne_same (Eq.trans (b := false) (by decide +kernel) (Mine.f_eq (by assumption))) ?_)))
local macro_rules | `(tactic| walk_at "exec Try") => `(tactic| (k_here; refine wpAny_Try_except ?_))
local macro_rules | `(tactic| walk_at "exec If") => `(tactic| (k_here; (with_reducible show wpAny _ _ (exec (Stmt.If (Expr.Subscript (Expr.Name (PySem.Str.ofString "whole") _) _ _) _ _ _) _) _ _ _); (rename ((Mine.plOf _ _ _).getD _ _ = _) => kP9); (rename Fr _ _ _ _ => lF'); (rename News _ _ _ _ => lN'); (with_unfolding_all refine' Mine.lbJ_if lF' lN' kP9 ?ky ?kn; (case' ky => (try k_fold)); (case' kn => (intro h9 tk9 ta9 kF kN; (clear lF' lN'); (try k_unfold); (try dsimp only))))))
local macro_rules | `(tactic| walk_at "LbJ") => `(tactic| (k_here; (rename Fr _ _ _ _ => lF'); (rename News _ _ _ _ => lN'); (rename ((_ ∧ _) ∨ (_ ∧ _)) => kH9); with_unfolding_all (refine' Mine.lbJ_end lF' lN' ?k4; (case k4 => first | exact Mine.lb_x3 kH9 (by assumption) | exact Mine.lb_x1 kH9 (by assumption) (by assumption) | exact Mine.lb_x2 kH9 (by assumption) (by assumption)))))
local macro_rules | `(tactic| walk_at "subscriptTail Name Name ref int") => `(tactic| (k_here; (with_reducible show wpAny _ _ (subscriptTail _ _ (Value.ref _) (Value.int _ _)) _ _ _); (rename ((Mine.plOf _ _ _).getD _ _ = _) => kP9); (rename IntsAre _ (Mine.plOf _ _ _) => hP9); k_dflt (refine' Mine.item_pl ?k1 ?k2 hP9 kP9 ?k4 ?k5 ?k6 ?_ ?k7; (case k1 => k_asm); (case k2 => k_mem); (case k4 => omega); (case k5 => assumption); (case k6 => omega); (case k7 => with_unfolding_all rfl); k_whole); intro _))
local macro_rules | `(tactic| walk_at "call type:range") => `(tactic| ((with_reducible show wpAny _ _ (call (Value.type "range") [Value.int _ _]) _ _ _); (rename Fr _ _ _ _ => F'); (rename News _ _ _ _ => N'); (with_unfolding_all refine range1_rows F' N' ?_; intro _ _ _ _ _ _ _ _ _)))
local macro_rules | `(tactic| walk_at "mine loop") => `(tactic| (k_here; (with_reducible show wpAny _ _ (pyIter (Value.ref _)) (fun it s₂ => LoopAtV _ _ _ _ _ _ _ _ _ it s₂) _ _); ((rename Fr _ _ _ _ => lF'); (rename News _ _ _ _ => lN'); (rename IsRange _ _ _ _ _ _ _ _ => rgX); (rename IntsAre _ (List.map _ (rangeKs _ _)) => hI9); (rename LSm.BoolsAre _ _ => hB9); (try dsimp only at lF' lN'); (with_unfolding_all refine' Mine.la_for ?hh rgX ?hs ?hz lF' lN' ?f1 ?f2 ?f3 ?f4 ?f5 ?m1 ?m2 ?m3 ?m4 ?m5 ?m6 hI9 hB9 ?k1 ?k2 ?k3 ?k4 ?tn ?dn; (case hh => exact rfl); (case f1 => exact rfl); (case f2 => exact rfl); (case f3 => exact rfl); (case f4 => exact rfl); (case f5 => exact rfl); (case m1 => k_mem); (case m2 => k_mem); (case m3 => k_mem); (case m4 => k_mem); (case m5 => k_mem); (case m6 => k_mem); (case k1 => exact Mine.map_fmod_rng); (case hs => exact small_one (by kcf_bnd) (by kcf_bnd) (by kcf_bnd) (by kcf_bnd)); (case hz => exact rangeSize_nat _ _); (case k2 => (first | ((simp only [List.length_map, rangeKs_length]); done) | ((simp only [List.length_map, rangeKs_length]); omega))); (case k3 => (first | ((simp only [List.length_map, rangeKs_length]); done) | ((simp only [List.length_map, rangeKs_length]); omega))); (case k4 => (first | ((simp only [List.length_map, rangeKs_length]); done) | ((simp only [List.length_map, rangeKs_length]); omega)))); (all_goals (try clear lF' lN')); (case' tn => (intro bs9 hv9 th9 cv9 tc9 vs9 cn9 a9 ta9 pv9 pn9 i9 t9 u9 h9 tk9 own9 kV1 kV2 kV3 kV4 kV5 kV6 kV7 kV8 kV9 kVa kVb kVc kO1 kO2 kO3 kO4 kO5 kO6 kF kN; (try k_fold))); (case' dn => (intro bs9 hv9 th9 cv9 tc9 vs9 cn9 a9 ta9 pv9 pn9 u9 h9 tk9 kV1 kV2 kV3 kV4 kV5 kV6 kF kN; (have kD9 := Mine.at_div kV4); (try (with_reducible show (_ : Flow → Shared → Prop) _ _)); (try k_unfold); (try dsimp only))))))
local macro_rules | `(tactic| walk_at "InvEndG") => `(tactic| (k_here; (rename Fr _ _ _ _ => lF'); (rename News _ _ _ _ => lN'); with_unfolding_all ((refine' Mine.la_end lF' lN' ?k1 ?k2 ?o1 ?o2 ?o3 ?o4 ?o5 ?o6 ?k3 ?k4 ?k5 ?k6; (case k1 => exact rfl); (case k2 => (intro q h1 h2 h3; (simp only [List.forall_mem_cons, List.not_mem_nil, false_implies, implies_true, and_true, ne_eq] at h2); (simp [h1, h2]; done))); (case o1 => assumption); (case o2 => assumption); (case o3 => assumption); (case o4 => assumption); (case o5 => assumption); (case o6 => assumption); (case k3 => assumption); (case k4 => assumption); (case k5 => first | exact Mine.la_no (by assumption) (by assumption) | exact Mine.la_yes (by assumption) (by assumption)); (case k6 => first | exact Mine.la_atN (by assumption) (by assumption) | exact Mine.la_atY (by assumption) (by assumption))))))
local macro_rules | `(tactic| walk_at "pyIter ref") => `(tactic| (k_here; (with_reducible show wpAny _ _ (pyIter (Value.ref _)) (fun it s₂ => LoopAtV _ _ _ _ _ _ _ _ _ it s₂) _ _); ((rename Fr _ _ _ _ => lF'); (rename News _ _ _ _ => lN'); (rename IsRange _ _ _ _ _ _ _ _ => rgX); (rename IntsAre _ (List.map _ (rangeKs _ _)) => hI9); (rename LSm.BoolsAre _ _ => hB9); (rename IntsAre _ (Mine.plOf _ _ _) => hP9); (rename KBw.bInts _ = Mine.bytesK _ _ => hK9); (rename _ = Mine.ust _ _ _ => hU9); (try dsimp only at lF' lN'); (with_unfolding_all refine' Mine.lb_for ?hh rgX ?hs ?hz lF' lN' ?f1 ?f2 ?f3 ?f4 ?m1 ?m2 ?m3 ?m4 ?m5 hI9 hB9 hP9 hU9 hK9 ?k1 ?k2 ?k3 ?k4 ?tn ?dn; (case hh => exact rfl); (case f1 => exact rfl); (case f2 => exact rfl); (case f3 => exact rfl); (case f4 => exact rfl); (case m1 => k_mem); (case m2 => k_mem); (case m3 => k_mem); (case m4 => k_mem); (case m5 => k_mem); (case k1 => exact Mine.map_fmod_rng); (case hs => exact small_one (by kcf_bnd) (by kcf_bnd) (by kcf_bnd) (by kcf_bnd)); (case hz => exact rangeSize_nat _ _); (case k2 => (first | ((simp only [List.length_map, rangeKs_length]); done) | ((simp only [List.length_map, rangeKs_length]); omega))); (case k3 => (first | ((simp only [List.length_map, rangeKs_length]); done) | ((simp only [List.length_map, rangeKs_length]); omega))); (case k4 => (first | ((simp only [List.length_map, rangeKs_length]); done) | ((simp only [List.length_map, rangeKs_length]); omega)))); (all_goals (try clear lF' lN')); (case' tn => (intro a9 ta9 i9 z9 e9 t9 u9 h9 tk9 own9 kV1 kV2 kV3 kV4 kV5 kV6 kV7 kV8 kV9 kVa kVb kVc kVd kVe kO1 kO2 kO3 kO4 kO5 kF kN; (try k_fold))); (case' dn => (intro a9 ta9 u9 h9 tk9 kV1 kF kN; (try k_unfold); (try dsimp only))))))
local macro_rules | `(tactic| walk_at "InvEndG") => `(tactic| (k_here; (rename Fr _ _ _ _ => lF'); (rename News _ _ _ _ => lN'); with_unfolding_all ((refine' Mine.lb_end lF' lN' ?k2 ?o1 ?o2 ?o3 ?o4 ?o5 ?k3 ?k4; (case k3 => assumption); (case k2 => (intro q h1 h2 h3; (obtain ⟨h4, h5⟩ := Mine.cont2 h3); (simp only [h1, h4, h5, h3, if_false, Bool.false_eq_true]; done))); (case o1 => assumption); (case o2 => assumption); (case o3 => assumption); (case o4 => assumption); (case o5 => assumption); (case k4 => rfl)))))
local macro_rules | `(tactic| walk_at "pyIter ref") => `(tactic| (walk_at "mine loop"))
set_option maxRecDepth 100000 in
set_option maxHeartbeats 8000000 in
theorem PySem.Challenge.cw_ui0507_13_holds : PySem.Challenge.rw_ui0507_13.Holds :=
  Mine.hd (by
  w_strict (k_go0; (all_goals try k_fold); (refine Mine.bring (fun prog w K p loose mean mg mb => Mine.BwC 79 124 prog w K p loose mean mg mb ∧ Mine.FnC 121 124 prog w K p loose mean mg mb ∧ Mine.WuC 93 124 prog w K p loose mean mg mb ∧ Mine.WaC 107 124 prog w K p loose mean mg mb ∧ Mine.RuC 177 201 prog w K p loose mean mg mb) (by assumption) (by assumption) ?ctr ?_); (case ctr => exact ⟨Mine.bw_ctr, Mine.fn_ctr, Mine.wu_ctr Mine.bw_ctr, Mine.wa_ctr Mine.bw_ctr, Mine.ru_ctr Mine.rb_ctr⟩); intro cW0; (obtain ⟨cB, cF, cU, cA, cR⟩ := cW0); k_steps; (all_goals (try k_data)); all_goals w_report))
