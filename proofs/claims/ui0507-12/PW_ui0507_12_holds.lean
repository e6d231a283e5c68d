import PyProof.Rows.All
import Wide.All
import OpenK.AllK
import Wide.FinOn
import PySem.Challenge.RW_ui0507_12
open PySem PySem.W PyProof.Rows PySem.Spec PySem.Calls
set_option Elab.async false
namespace Mine
set_option maxRecDepth 100000 in
set_option maxHeartbeats 0 in
open_top hd for PySem.Challenge.rw_ui0507_12
/-- what a def does, wherever it is called: from the ledger news and the arguments vs it comes back with r and the ledger news' that R tells -/
def Fun (prog : Program) (w : World) (K : Frag) (p : Program) (loose : List Str) (mean : ExcName → Option Value) (mg mb : Str → Option Value) (k : Nat) (f : Addr) (vs : List Value) (news : List (Addr × Obj)) (R : Value → List (Addr × Obj) → Prop) : Prop :=
  ∀ (dp un : Nat) (gd : Option (List Code)) (cn : Str) (cs : Scope) (a : Addr) (ccd : Value) (cl : List (Str × Addr)) (outer : List Env) (A₀ : Around) (base h₀ : Heap) (L : Addr) (m : Str → Option Value) (s : Shared) (Q E : Value → Shared → Prop),
    Below A₀ base outer h₀ → Fr h₀ L s.heap m → K.In h₀ → News h₀ L s.heap news → Top p loose mean mg mb h₀ → cs.kind = .function → dp + k < recursionLimit → un + 8 * k < cLine →
    (∀ r news' h' tk', R r news' → Fr h₀ L h' m → News h₀ L h' news' → Q r { s with heap := h', toks := tk' }) →
    wpAny (model prog w) (ktrTop dp un gd cn cs L a ccd cl outer) (call (.ref f) vs) Q E s
theorem bring {α : Type} {prog : Program} {w : World} {A : Around} {tree : Sem α} {Q : α → Shared → Prop} {E : Value → Shared → Prop} {s : Shared} {K : Frag} {h₀ : Heap} {p : Program} {loose : List Str} {mean : ExcName → Option Value} {mg mb : Str → Option Value}
    (C : Program → World → Frag → Program → List Str → (ExcName → Option Value) → (Str → Option Value) → (Str → Option Value) → Prop) (_X : K.In h₀) (_T : Top p loose mean mg mb h₀) (ctr : C prog w K p loose mean mg mb) (h : C prog w K p loose mean mg mb → wpAny (model prog w) A tree Q E s) : wpAny (model prog w) A tree Q E s := h ctr
section
variable {prog : Program} {w : World} {A : Around} {E : Value → Shared → Prop} {s : Shared} {env : Env} {h₀ : Heap} {target : Expr} {body : List Stmt} {Q : Flow → Shared → Prop}
/-- a for over a list of the ledger's, its target whatever it is -/
theorem turns_list {l : Addr} {vs : List Value} {nn : Nat} {m₀ : Str → Option Value} {news : List (Addr × Obj)} (J : Nat → (Str → Option Value) → List (Addr × Obj) → Prop)
    (hh : A.handled = none) (hl : (l, listOf vs.toArray nn) ∈ news) (F : Fr h₀ env.locals s.heap m₀) (N : News h₀ env.locals s.heap news) (hj : J 0 m₀ news) (hJl : ∀ i m nx, J i m nx → (l, listOf vs.toArray nn) ∈ nx)
    (turn : ∀ i v m₁ news₁ h tk own, vs[i]? = some v → OwnOff own (news₁.map (·.1)) → J i m₁ news₁ → Fr h₀ env.locals h m₁ → News h₀ env.locals h (news₁ ++ own) →
      wpAny (model prog w) A (assign target env v) (fun _ s₃ => wpAny (model prog w) A (execs body env) (InvPostG h₀ env.locals (J (i + 1)) own { s with heap := h, toks := tk } Q) E s₃) E { s with heap := h, toks := tk })
    (done : ∀ m₁ news₁ h tk, J vs.length m₁ news₁ → Fr h₀ env.locals h m₁ → News h₀ env.locals h news₁ → Q .next { s with heap := h, toks := tk }) :
    wpAny (model prog w) A (pyIter (.ref l)) (fun it s₂ => TurnsAt prog w A h₀ env target body Q E it s₂) E s := by
  have hol : s.heap.get? l = some (listOf vs.toArray nn) := (N _ hl).1
  have hls : s.heap.IsList l vs.toArray := ⟨_, hol, rfl, nn, rfl⟩
  have hne : l ≠ s.heap.objs.size := Nat.ne_of_lt (Heap.lt_size hol)
  refine wpAny_pyIter_list hls ?_
  have W := Walks.list (prog := prog) (w := w) hh s.heap.objs.size l hne vs.toArray
  have hlen : vs.toArray.size = vs.length := by simp
  rw [hlen] at W
  refine ⟨_, _, _, vs.length, _, _, _, m₀, news, J, rfl, KTurns.ofWalks W fun i v s Q E st q => letGo_listiter st.1 q, ?_, ?_, ?_, ⟨⟨_, Heap.get?_push_size _ rfl, rfl, rfl⟩, hls.at fun o e => Heap.get?_push_of_some _ e⟩, F.push _, (fun p hp => ⟨Heap.get?_push_of_some _ (N p hp).1, (N p hp).2⟩), hj, ?_, ?_⟩
  · intro hm
    rcases List.mem_cons.mp hm with e | hm
    · exact absurd F.ns.lt (e ▸ Nat.lt_irrefl _)
    · exact (N _ hl).2.1 ((List.mem_singleton.mp hm).symm)
  · intro b hb
    rw [List.mem_singleton.mp hb]
    exact next_is_new F
  · intro p hp hI
    exact absurd (Heap.lt_size (N p hp).1) ((List.mem_singleton.mp hI) ▸ Nat.lt_irrefl _)
  · intro i v m₁ news₁ hh' tk' own hin hP hJ hoff hown hget hfp hst F₁ N₁
    have hl₁ := hJl _ _ _ hJ
    have hP' : vs[i]? = some v := by simpa using hP
    have hI0 : h₀.get? s.heap.objs.size = none := next_is_new F
    obtain ⟨⟨oI, hoI, _⟩, _⟩ := id hst
    have hIown : (s.heap.objs.size, oI) ∈ own.filter fun p => decide (p.1 = s.heap.objs.size) := List.mem_filter.mpr ⟨hfp _ (List.mem_cons.mpr (.inl rfl)) hI0 _ hoI, by simp⟩
    have hsep : OwnOff (own.filter fun p => decide (p.1 = s.heap.objs.size)) (news₁.map (·.1)) := by
      intro p hp b hb e
      obtain ⟨q, hq, rfl⟩ := List.mem_map.mp hb
      have h1 : p.1 = s.heap.objs.size := by simpa using (List.mem_filter.mp hp).2
      exact hoff q hq (List.mem_singleton.mpr (e ▸ h1))
    have N₂ : News h₀ env.locals hh' (news₁ ++ own.filter fun p => decide (p.1 = s.heap.objs.size)) := fun p hp => N₁ p ((List.mem_append.mp hp).elim (fun h => List.mem_append.mpr (.inr h)) fun h => List.mem_append.mpr (.inl ((List.mem_filter.mp h).1)))
    have hlo : hh'.get? l = some (listOf vs.toArray nn) := (N₁ _ (List.mem_append.mpr (.inr hl₁))).1
    refine wpAny_mono (turn i v m₁ news₁ hh' tk' _ hP' hsep hJ F₁ N₂) (fun _ s₃ p3 => wpAny_mono p3 (fun f s₂ p => ?_) fun _ _ e => e) fun _ _ e => e
    have fin : InvEndG h₀ env.locals (J (i + 1)) (own.filter fun p => decide (p.1 = s.heap.objs.size)) { s with heap := hh', toks := tk' } s₂ →
        LoopStepU h₀ env.locals [s.heap.objs.size] own (J (i + 1)) { s with heap := hh', toks := tk' } .next s₂ := by
      rintro ⟨h', tk, m', news', nx, e, F', N', hn, ho, ha, hm⟩
      refine ⟨rfl, h', tk, m', nx, e, F', fun p hp => ?_, fun p hp hq => ?_, hm⟩
      · rcases List.mem_append.mp hp with h | h
        · by_cases hI : p.1 = s.heap.objs.size
          · exact N' p (ho p (List.mem_filter.mpr ⟨h, by simpa using hI⟩))
          · have h1 : p.1 = l := by
              rcases List.mem_cons.mp (hown p h) with h2 | h2
              · exact absurd h2 hI
              · exact List.mem_singleton.mp h2
            have h2 : hh'.get? p.1 = some p.2 := hget p h
            rw [h1, hlo] at h2
            have h3 : p = (l, listOf vs.toArray nn) := Prod.ext h1 (Option.some.inj h2).symm
            rw [h3]
            exact N' _ (hn _ (hJl _ _ _ hm))
        · exact N' p (hn p h)
      · exact ha _ hIown p.1 (List.mem_map.mpr ⟨p, hp, rfl⟩) (List.mem_singleton.mp hq).symm
    cases f with
    | ret v => exact p
    | brk => exact p
    | next => exact fin p
    | cont => exact fin p
  · rintro h' tk m' news' F' N' _ hJ
    exact done m' news' h' tk hJ F' N'
end
section
variable {prog : Program} {w : World} {K : Frag} {p : Program} {loose : List Str} {mean : ExcName → Option Value} {mg mb : Str → Option Value} {k : Nat} {f : Addr} {vs : List Value} {news : List (Addr × Obj)} {R : Value → List (Addr × Obj) → Prop}
theorem Fun.use {dp un : Nat} {gd : Option (List Code)} {cn : Str} {cs : Scope} {a : Addr} {ccd : Value} {cl : List (Str × Addr)} {outer : List Env} {A₀ : Around} {base h₀ : Heap} {L : Addr} {m : Str → Option Value} {s : Shared} {Q E : Value → Shared → Prop}
    (C : Fun prog w K p loose mean mg mb k f vs news R) (B : Below A₀ base outer h₀) (F : Fr h₀ L s.heap m) (X : K.In h₀) (N : News h₀ L s.heap news) (T : Top p loose mean mg mb h₀) (hk : cs.kind = .function) (hd : dp + k < recursionLimit) (hu : un + 8 * k < cLine)
    (ret : ∀ r news' h' tk', R r news' → Fr h₀ L h' m → News h₀ L h' news' → Q r { s with heap := h', toks := tk' }) :
    wpAny (model prog w) (ktrTop dp un gd cn cs L a ccd cl outer) (call (.ref f) vs) Q E s := C _ _ _ _ _ _ _ _ _ _ _ _ _ _ _ _ _ B F X N T hk hd hu ret
end
/-- the ledger with o at O -/
def put (O : Addr) (o : Obj) (news : List (Addr × Obj)) : List (Addr × Obj) := news.map fun p => if p.1 = O then (O, o) else p
theorem put_nil {O : Addr} {o : Obj} : put O o [] = [] := rfl
theorem put_hit {O : Addr} {o o' : Obj} {r : List (Addr × Obj)} : put O o ((O, o') :: r) = (O, o) :: put O o r := by simp [put]
theorem put_miss {O : Addr} {o : Obj} {q : Addr × Obj} {r : List (Addr × Obj)} (h : q.1 ≠ O) : put O o (q :: r) = q :: put O o r := by simp [put, h]
theorem put_off {O : Addr} {o : Obj} {r : List (Addr × Obj)} (h : ∀ q ∈ r, q.1 ≠ O) : put O o r = r := by
  induction r with
  | nil => rfl
  | cons q r ih => rw [put_miss (h q (.head _)), ih fun x hx => h x (.tail _ hx)]
theorem mem_put {O : Addr} {o : Obj} {news : List (Addr × Obj)} {q : Addr × Obj} (h : q ∈ put O o news) : q = (O, o) ∨ (q.1 ≠ O ∧ q ∈ news) := by
  obtain ⟨x, hx, rfl⟩ := List.mem_map.mp h
  by_cases e : x.1 = O
  · rw [if_pos e]; exact .inl rfl
  · rw [if_neg e]; exact .inr ⟨e, hx⟩
section
variable {prog : Program} {w : World} {A : Around} {E : Value → Shared → Prop} {s : Shared} {h₀ : Heap} {L D b : Addr} {m : Str → Option Value} {news : List (Addr × Obj)} {its its2 : Array Value} {n n2 : Nat}
/-- extend by a list of the ledger's -/
theorem extend_U {g : Obj → List (Addr × Obj)} {Q : Value → Shared → Prop} (F : Fr h₀ L s.heap m) (N : News h₀ L s.heap news) (hb : (b, listOf its2 n2) ∈ news) (U : UpdF D (listOf its n) news g) (hz : its.size + its2.size ≤ sizeLine)
    (h : ∀ h' n', Fr h₀ L h' m → News h₀ L h' (g (listOf (its ++ its2) n')) → Q .none { s with heap := h' }) : wpAny (model prog w) A (call (.builtin "list.extend") [.ref D, .ref b]) Q E s := by
  obtain ⟨pre, post, rfl, hg, a, c⟩ := U.split
  obtain ⟨ys, rfl⟩ : ∃ ys : List Value, its = ys.toArray := ⟨its.toList, by rw [Array.toArray_toList]⟩
  refine extend_in F N a c (N _ hb).1 (fun h' n' F' N' => h h' n' F' ?_) (by rw [List.size_toArray] at hz; exact hz)
  rw [hg]
  have e : ys.toArray ++ its2 = (ys ++ its2.toList).toArray := by simp
  rw [e]
  exact N'
end
theorem off_lt {l : List (Addr × Obj)} {D : Addr} (h : ∀ p ∈ l, p.1 < D) : ∀ p ∈ l, p.1 ≠ D := fun p hp => Nat.ne_of_lt (h p hp)
theorem off_gt {l : List (Addr × Obj)} {D : Addr} (h : ∀ p ∈ l, D < p.1) : ∀ p ∈ l, p.1 ≠ D := fun p hp => Nat.ne_of_gt (h p hp)
/-- what holds ahead of turn i of a for -/
def RgJ {σ : Type} (Led : σ → List (Addr × Obj)) (ps : σ → List (Str × Value)) (x : Str) (stored : List Str) (m₀ : Str → Option Value) (P : Nat → σ → Prop) (i : Nat) (m : Str → Option Value) (nx : List (Addr × Obj)) : Prop :=
  ∃ c, nx = Led c ∧ P i c ∧ (∀ p ∈ ps c, m p.1 = some p.2) ∧ (∀ z, z ≠ x → (∀ p ∈ ps c, z ≠ p.1) → stored.contains z = false → m z = m₀ z)
theorem rg_end {σ : Type} {Led : σ → List (Addr × Obj)} {ps : σ → List (Str × Value)} {x : Str} {stored : List Str} {m₀ m' : Str → Option Value} {P : Nat → σ → Prop} {i : Nat} {h₀ h' : Heap} {L : Addr} {own news' : List (Addr × Obj)} {s₁ : Shared} {tk : Nat} (c' : σ)
    (F : Fr h₀ L h' m') (N : News h₀ L h' news') (hn : ∀ p ∈ Led c', p ∈ news') (ho : ∀ p ∈ own, p ∈ news') (ha : ∀ p ∈ own, ∀ q ∈ Led c', p.1 ≠ q.1) (hk : ∀ p ∈ ps c', m' p.1 = some p.2) (hr : ∀ z, z ≠ x → (∀ p ∈ ps c', z ≠ p.1) → stored.contains z = false → m' z = m₀ z) (hp : P i c') :
    InvEndG h₀ L (RgJ Led ps x stored m₀ P i) own s₁ { s₁ with heap := h', toks := tk } :=
  InvEndG.intro F N ⟨c', rfl, hp, hk, hr⟩ (fun p hp b hb => by obtain ⟨q, hq, rfl⟩ := List.mem_map.mp hb; exact ha p hp q hq) hn ho
section
variable {prog : Program} {w : World} {A : Around} {E : Value → Shared → Prop} {s : Shared} {env : Env} {h₀ : Heap} {x : Str} {body : List Stmt} {Q : Flow → Shared → Prop}
/-- a for over a range -/
theorem rg_for {σ : Type} {r : Addr} {a₀ b₀ : Int} {t₀ u₀ v₀ : Tok} {n : Nat} {m₀ : Str → Option Value} {news : List (Addr × Obj)} (Led : σ → List (Addr × Obj)) (ps : σ → List (Str × Value)) (stored : List Str) (P : Nat → σ → Prop) (c₀ : σ)
    (hh : A.handled = none) (hr : IsRange s.heap r a₀ b₀ 1 t₀ u₀ v₀) (hsmall : Builtin.Range.small a₀ b₀ 1 = true) (hsz : Builtin.Range.rangeSize a₀ b₀ 1 = (n : Int)) (F : Fr h₀ env.locals s.heap m₀) (N : News h₀ env.locals s.heap news) (hn : ∀ p ∈ Led c₀, p ∈ news) (hk : ∀ p ∈ ps c₀, m₀ p.1 = some p.2) (hp : P 0 c₀)
    (turn : ∀ (c : σ) (i : Nat) t (u : Str → Option Value) h tk own, i < n → P i c → (∀ p ∈ own, ∀ q ∈ Led c, p.1 ≠ q.1) →
      Fr h₀ env.locals h (fun y => if y = x then some (.int (a₀ + i) t) else kstB (fun z => if stored.contains z then u z else m₀ z) (ps c) y) → News h₀ env.locals h (Led c ++ own) →
      wpAny (model prog w) A (execs body env) (InvPostG h₀ env.locals (RgJ Led ps x stored m₀ P (i + 1)) own { s with heap := h, toks := tk } Q) E { s with heap := h, toks := tk })
    (done : ∀ (c : σ) (u : Str → Option Value) h tk, P n c → Fr h₀ env.locals h (fun y => if y = x then u y else kstB (fun z => if stored.contains z then u z else m₀ z) (ps c) y) → News h₀ env.locals h (Led c) → Q .next { s with heap := h, toks := tk }) :
    wpAny (model prog w) A (pyIter (.ref r)) (fun it s₂ => LoopAtV prog w A h₀ env x body Q E it s₂) E s := by
  refine wpAny_pyIter_range hr hsmall ?_
  have W : Walks prog w A s.heap.objs.size [s.heap.objs.size] [s.heap.objs.size] n (fun i v => i < n ∧ ∃ t, v = .int (a₀ + i * 1) t)
      (fun i h => IsRangeIter h s.heap.objs.size (a₀ + (i : Nat) * 1) ((n : Int) - (i : Nat)) 1) := (Walks.range hh _ a₀ 1 n).bound
  refine kdr_loop (RgJ Led ps x stored m₀ P) W (fun _ h => h) (fun _ h => h) ?_ ?_ ?_ ?_ (by show IsRangeIter _ _ _ _ _; rw [hsz]; simpa using Heap.get?_push_size _ rfl) (F.push _) (fun p hp => ⟨Heap.get?_push_of_some _ (N p (hn p hp)).1, (N p (hn p hp)).2⟩) ⟨c₀, rfl, hp, hk, fun _ _ _ _ => rfl⟩ ?_ ?_
  · intro i h hi b hb
    rw [List.mem_singleton.mp hb]
    exact ⟨_, hi⟩
  · intro hm
    exact absurd F.ns.lt ((List.mem_singleton.mp hm) ▸ Nat.lt_irrefl _)
  · intro b hb
    rw [List.mem_singleton.mp hb]
    exact next_is_new F
  · intro p hp hI
    exact absurd (Heap.lt_size (N p (hn p hp)).1) ((List.mem_singleton.mp hI) ▸ Nat.lt_irrefl _)
  · rintro i v m₁ nx h tk own hi ⟨_, t, rfl⟩ hoff ⟨c, rfl, hp', h1, h2⟩ F₁ N₁
    have e1 : a₀ + (i : Int) * 1 = a₀ + (i : Int) := by omega
    rw [e1] at F₁
    exact turn c i t m₁ h tk own hi hp' (fun p hp q hq => hoff p hp q.1 (List.mem_map.mpr ⟨q, hq, rfl⟩)) (kst_fr h1 h2 F₁) N₁
  · rintro m₁ nx h tk ⟨c, rfl, hp', h1, h2⟩ F₁ N₁
    exact done c m₁ h tk hp' (kst_frOut h1 h2 F₁) N₁
/-- a for over a list of the ledger's, by a name -/
theorem ls_for {σ : Type} {l : Addr} {vs : List Value} {nn : Nat} {m₀ : Str → Option Value} {news : List (Addr × Obj)} (Led : σ → List (Addr × Obj)) (ps : σ → List (Str × Value)) (stored : List Str) (P : Nat → σ → Prop) (c₀ : σ)
    (hh : A.handled = none) (hl : (l, listOf vs.toArray nn) ∈ news) (hlL : ∀ c, (l, listOf vs.toArray nn) ∈ Led c) (F : Fr h₀ env.locals s.heap m₀) (N : News h₀ env.locals s.heap news) (hn : ∀ p ∈ Led c₀, p ∈ news) (hk : ∀ p ∈ ps c₀, m₀ p.1 = some p.2) (hp : P 0 c₀)
    (turn : ∀ (c : σ) (i : Nat) v (u : Str → Option Value) h tk own, vs[i]? = some v → P i c → (∀ p ∈ own, ∀ q ∈ Led c, p.1 ≠ q.1) →
      Fr h₀ env.locals h (fun y => if y = x then some v else kstB (fun z => if stored.contains z then u z else m₀ z) (ps c) y) → News h₀ env.locals h (Led c ++ own) →
      wpAny (model prog w) A (execs body env) (InvPostG h₀ env.locals (fun m' nx => (l, listOf vs.toArray nn) ∈ nx ∧ RgJ Led ps x stored m₀ P (i + 1) m' nx) own { s with heap := h, toks := tk } Q) E { s with heap := h, toks := tk })
    (done : ∀ (c : σ) (u : Str → Option Value) h tk, P vs.length c → Fr h₀ env.locals h (fun y => if y = x then u y else kstB (fun z => if stored.contains z then u z else m₀ z) (ps c) y) → News h₀ env.locals h (Led c) → Q .next { s with heap := h, toks := tk }) :
    wpAny (model prog w) A (pyIter (.ref l)) (fun it s₂ => LoopAtV prog w A h₀ env x body Q E it s₂) E s := by
  refine kdl_iter (RgJ Led ps x stored m₀ P) hh (hlL c₀) F (fun p hp => N p (hn p hp)) ⟨c₀, rfl, hp, hk, fun _ _ _ _ => rfl⟩ ?_ ?_
  · rintro i v m₁ nx h tk own hi hoff hm ⟨c, rfl, hp', h1, h2⟩ F₁ N₁
    exact turn c i v m₁ h tk own hi hp' (fun p hp q hq => hoff p hp q.1 (List.mem_map.mpr ⟨q, hq, rfl⟩)) (kst_fr h1 h2 F₁) N₁
  · rintro m₁ nx h tk ⟨c, rfl, hp', h1, h2⟩ F₁ N₁
    exact done c m₁ h tk hp' (kst_frOut h1 h2 F₁) N₁
theorem ls_end {σ : Type} {Led : σ → List (Addr × Obj)} {ps : σ → List (Str × Value)} {x : Str} {stored : List Str} {m₀ m' : Str → Option Value} {P : Nat → σ → Prop} {i : Nat} {h' : Heap} {L l : Addr} {ol : Obj} {own news' : List (Addr × Obj)} {s₁ : Shared} {tk : Nat} (c' : σ)
    (F : Fr h₀ L h' m') (N : News h₀ L h' news') (hn : ∀ p ∈ Led c', p ∈ news') (ho : ∀ p ∈ own, p ∈ news') (hl : (l, ol) ∈ Led c') (ha : ∀ p ∈ own, ∀ q ∈ Led c', p.1 ≠ q.1) (hk : ∀ p ∈ ps c', m' p.1 = some p.2) (hr : ∀ z, z ≠ x → (∀ p ∈ ps c', z ≠ p.1) → stored.contains z = false → m' z = m₀ z) (hp : P i c') :
    InvEndG h₀ L (fun m' nx => (l, ol) ∈ nx ∧ RgJ Led ps x stored m₀ P i m' nx) own s₁ { s₁ with heap := h', toks := tk } :=
  InvEndG.intro F N ⟨hl, c', rfl, hp, hk, hr⟩ (fun p hp b hb => by obtain ⟨q, hq, rfl⟩ := List.mem_map.mp hb; exact ha p hp q hq) hn ho
end
/-- an object of the ledger's is set anew -/
theorem news_put {h₀ h h' : Heap} {L D : Addr} {o o' : Obj} {news : List (Addr × Obj)} (N : News h₀ L h news) (hm : (D, o) ∈ news) (hs : Heap.SameBut D h h') (ho : h'.get? D = some o') : News h₀ L h' (put D o' news) := by
  intro q hq
  rcases mem_put hq with rfl | ⟨hne, hq⟩
  · exact ⟨ho, (N _ hm).2.1, (N _ hm).2.2⟩
  · exact ⟨(hs.2 _ hne).trans (N q hq).1, (N q hq).2⟩
/-- a number in groups of seven bits, the lowest first -/
def vint (n : Nat) : List Int := if n < 128 then [(n : Int)] else (128 + (n % 128 : Nat) : Int) :: vint (n / 128)
termination_by n
decreasing_by omega
theorem vint_small {n : Nat} (h : n < 128) : vint n = [(n : Int)] := by rw [vint, if_pos h]
theorem vint_big {n : Nat} (h : ¬ n < 128) : vint n = (128 + (n % 128 : Nat) : Int) :: vint (n / 128) := by rw [vint, if_neg h]
theorem vint_len : ∀ n : Nat, 0 < (vint n).length ∧ (vint n).length ≤ n + 1 := by
  intro n
  induction n using Nat.strongRecOn with
  | ind n ih =>
    by_cases h : n < 128
    · rw [vint_small h]; simp
    · rw [vint_big h, List.length_cons]
      have := ih (n / 128) (by omega)
      omega
/-- two numbers whose bits do not meet -/
theorem or_apart {a : Int} {b : Int} {k : Nat} (h0 : 0 ≤ a) (h1 : a < 2 ^ k) (hb : 0 ≤ b) : Builtin.bitOr a (b * 2 ^ k) = a + b * 2 ^ k := by
  obtain ⟨x, rfl⟩ := Int.eq_ofNat_of_zero_le h0
  obtain ⟨y, rfl⟩ := Int.eq_ofNat_of_zero_le hb
  have e : ((y : Int) * 2 ^ k) = ((y * 2 ^ k : Nat) : Int) := by simp
  have hx : x < 2 ^ k := by
    have e2 : ((2 ^ k : Nat) : Int) = (2 : Int) ^ k := by simp
    rw [← e2] at h1
    exact Int.ofNat_lt.mp h1
  rw [e, bitOr_and, bitAnd_pp (Int.natCast_nonneg _) (Int.natCast_nonneg _)]
  have z : x &&& y * 2 ^ k = 0 := by
    refine Nat.eq_of_testBit_eq fun i => ?_
    rw [Nat.testBit_and, Nat.zero_testBit]
    by_cases hi : i < k
    · rw [← Nat.shiftLeft_eq, Nat.testBit_shiftLeft]
      simp [Nat.not_le.mpr hi]
    · have hxi : x.testBit i = false := Nat.testBit_lt_two_pow (Nat.lt_of_lt_of_le hx (Nat.pow_le_pow_right (by decide) (by omega)))
      rw [hxi]; rfl
  rw [Int.toNat_natCast, Int.toNat_natCast, z]
  simp
theorem or_128 {x : Int} (h0 : 0 ≤ x) (h1 : x < 128) : Builtin.bitOr 128 x = 128 + x := by
  rw [bitOr_comm]
  have := or_apart (a := x) (b := 1) (k := 7) h0 (by simpa using h1) (by decide)
  simp at this
  rw [this]; omega
theorem vint_one {n : Nat} (h : n < 128) : (vint n).length = 1 := by rw [vint_small h]; rfl
/-- a number from its bits, the lowest first -/
def toN : List Nat → Nat
  | [] => 0
  | b :: r => b + 2 * toN r
def Bits (bs : List Nat) : Prop := ∀ b ∈ bs, b < 2
theorem Bits.app {a b : List Nat} (ha : Bits a) (hb : Bits b) : Bits (a ++ b) := fun x hx => (List.mem_append.mp hx).elim (ha x) (hb x)
theorem toN_lt : ∀ {bs : List Nat}, Bits bs → toN bs < 2 ^ bs.length
  | [], _ => by simp [toN]
  | b :: r, h => by
    have h1 := h b (.head _)
    have h2 := toN_lt (bs := r) fun x hx => h x (.tail _ hx)
    rw [toN, List.length_cons, Nat.pow_succ]
    omega
theorem toN_app : ∀ (a b : List Nat), toN (a ++ b) = toN a + 2 ^ a.length * toN b
  | [], b => by simp [toN]
  | x :: a, b => by
    rw [List.cons_append, toN, toN, toN_app a b, List.length_cons, Nat.pow_succ, Nat.mul_add, Nat.add_assoc, ← Nat.mul_assoc, Nat.mul_comm 2 (2 ^ a.length)]
/-- the c lowest bits of v -/
def le (v : Nat) : Nat → List Nat
  | 0 => []
  | c + 1 => v % 2 :: le (v / 2) c
theorem le_len (v c : Nat) : (le v c).length = c := by
  induction c generalizing v with
  | zero => rfl
  | succ c ih => rw [le, List.length_cons, ih]
theorem le_bits (v c : Nat) : Bits (le v c) := by
  induction c generalizing v with
  | zero => intro x hx; cases hx
  | succ c ih =>
    intro x hx
    rw [le] at hx
    rcases List.mem_cons.mp hx with rfl | hx
    · omega
    · exact ih _ x hx
theorem toN_le (v c : Nat) (h : v < 2 ^ c) : toN (le v c) = v := by
  induction c generalizing v with
  | zero => simp at h; simp [le, toN, h]
  | succ c ih =>
    rw [Nat.pow_succ] at h
    rw [le, toN, ih (v / 2) (by omega)]
    omega
theorem le_zero (c : Nat) : le 0 c = List.replicate c 0 := by
  induction c with
  | zero => rfl
  | succ c ih => rw [le, List.replicate_succ]; simp [ih]
theorem le_one {b : Nat} (h : b < 2) : le b 1 = [b] := by simp [le]; omega
theorem toN_bit : ∀ (bs : List Nat) (i : Nat), Bits bs → toN bs / 2 ^ i % 2 = bs.getD i 0
  | [], i, _ => by simp [toN]
  | b :: r, 0, h => by
    have := h b (.head _)
    simp [toN]
    omega
  | b :: r, i + 1, h => by
    have hb := h b (.head _)
    have ih := toN_bit r i fun x hx => h x (.tail _ hx)
    rw [toN, Nat.pow_succ, Nat.mul_comm (2 ^ i) 2, ← Nat.div_div_eq_div_mul]
    have : (b + 2 * toN r) / 2 = toN r := by omega
    rw [this, ih]
    simp
/-- byte k of the stream -/
def byteK (bs : List Nat) (k : Nat) : Int := ((toN bs / 2 ^ (8 * k) % 256 : Nat) : Int)
def bytesK (bs : List Nat) (n : Nat) : List Int := (List.range n).map (byteK bs)
theorem bytesK_len (bs : List Nat) (n : Nat) : (bytesK bs n).length = n := by simp [bytesK]
theorem bytesK_succ (bs : List Nat) (n : Nat) : bytesK bs (n + 1) = bytesK bs n ++ [byteK bs n] := by simp [bytesK, List.range_succ]
theorem bytesK_get (bs : List Nat) (n k : Nat) (h : k < n) : (bytesK bs n).getD k 0 = byteK bs k := by
  simp [bytesK, List.getD, h]
/-- what stands whole stays as more comes behind -/
theorem byteK_app (a b : List Nat) (k : Nat) (h : 8 * (k + 1) ≤ a.length) : byteK (a ++ b) k = byteK a k := by
  unfold byteK
  congr 1
  rw [toN_app]
  obtain ⟨d, hd⟩ : ∃ d, a.length = 8 * k + (8 + d) := ⟨a.length - 8 * (k + 1), by omega⟩
  rw [hd, Nat.pow_add, Nat.mul_assoc, Nat.add_mul_div_left _ _ (Nat.two_pow_pos _), Nat.pow_add, Nat.mul_assoc]
  have : (2 : Nat) ^ 8 = 256 := by decide
  rw [this, Nat.add_mul_mod_self_left]
theorem bytesK_app (a b : List Nat) (n : Nat) (h : 8 * n ≤ a.length) : bytesK (a ++ b) n = bytesK a n := by
  refine List.map_congr_left fun k hk => byteK_app a b k ?_
  have := List.mem_range.mp hk
  omega
theorem byteK_in (bs : List Nat) (k : Nat) : 0 ≤ byteK bs k ∧ byteK bs k < 256 := by unfold byteK; omega
/-- what is held behind the whole bytes -/
theorem held_lt {bs : List Nat} (h : Bits bs) (k : Nat) (hk : 8 * k ≤ bs.length) : toN bs / 2 ^ (8 * k) < 2 ^ (bs.length - 8 * k) := by
  rw [Nat.div_lt_iff_lt_mul (Nat.two_pow_pos _), ← Nat.pow_add]
  have : bs.length - 8 * k + 8 * k = bs.length := by omega
  rw [this]
  exact toN_lt h
theorem held_app {a : List Nat} (b : List Nat) (k : Nat) (hk : 8 * k ≤ a.length) : toN (a ++ b) / 2 ^ (8 * k) = toN a / 2 ^ (8 * k) + toN b * 2 ^ (a.length - 8 * k) := by
  have e : 2 ^ a.length = 2 ^ (8 * k) * 2 ^ (a.length - 8 * k) := by rw [← Nat.pow_add]; congr 1; omega
  rw [toN_app, e, Nat.mul_assoc, Nat.add_mul_div_left _ _ (Nat.two_pow_pos _), Nat.mul_comm (toN b)]
theorem held_next (bs : List Nat) (k : Nat) : toN bs / 2 ^ (8 * k) / 256 = toN bs / 2 ^ (8 * (k + 1)) := by
  rw [Nat.div_div_eq_div_mul, Nat.mul_add, Nat.pow_add]
/-- the reader's bit -/
theorem bit_of (bs : List Nat) (h : Bits bs) (a : Nat) : (toN bs / 2 ^ (8 * (a / 8)) % 256) / 2 ^ (a % 8) % 2 = bs.getD a 0 := by
  rw [← toN_bit bs a h]
  have e : a = 8 * (a / 8) + a % 8 := by omega
  have e2 : 2 ^ a = 2 ^ (8 * (a / 8)) * 2 ^ (a % 8) := by rw [← Nat.pow_add, ← e]
  rw [e2, ← Nat.div_div_eq_div_mul]
  generalize toN bs / 2 ^ (8 * (a / 8)) = y
  have h8 : a % 8 < 8 := by omega
  generalize a % 8 = r at h8
  have : r = 0 ∨ r = 1 ∨ r = 2 ∨ r = 3 ∨ r = 4 ∨ r = 5 ∨ r = 6 ∨ r = 7 := by omega
  rcases this with rfl | rfl | rfl | rfl | rfl | rfl | rfl | rfl <;> simp <;> omega
/-- the ledger without what stands at D and O -/
def rest2 (D O : Addr) (news : List (Addr × Obj)) : List (Addr × Obj) := news.filter fun q => decide (q.1 ≠ D ∧ q.1 ≠ O)
theorem rest2_D {D O : Addr} {news : List (Addr × Obj)} : ∀ q ∈ rest2 D O news, q.1 ≠ D := fun q hq => (of_decide_eq_true (List.mem_filter.mp hq).2).1
theorem rest2_O {D O : Addr} {news : List (Addr × Obj)} : ∀ q ∈ rest2 D O news, q.1 ≠ O := fun q hq => (of_decide_eq_true (List.mem_filter.mp hq).2).2
theorem news_split2 {h₀ h : Heap} {L D O : Addr} {a b c : Addr × Obj} {news : List (Addr × Obj)} (N : News h₀ L h news) (ha : a ∈ news) (hb : b ∈ news) (hc : c ∈ news) : News h₀ L h (a :: b :: c :: rest2 D O news) := by
  intro q hq
  rcases List.mem_cons.mp hq with rfl | hq
  · exact N _ ha
  · rcases List.mem_cons.mp hq with rfl | hq
    · exact N _ hb
    · rcases List.mem_cons.mp hq with rfl | hq
      · exact N _ hc
      · exact N q (List.mem_filter.mp hq).1
theorem news_join2 {h₀ h : Heap} {L D O : Addr} {a : Addr × Obj} {d o : Obj} {news : List (Addr × Obj)} (N : News h₀ L h (a :: (D, d) :: (O, o) :: rest2 D O news)) : News h₀ L h (put D d (put O o news)) := by
  intro q hq
  rcases mem_put hq with rfl | ⟨hD, hq⟩
  · exact N _ (.tail _ (.head _))
  · rcases mem_put hq with rfl | ⟨hO, hq⟩
    · exact N _ (.tail _ (.tail _ (.head _)))
    · exact N q (.tail _ (.tail _ (.tail _ (List.mem_filter.mpr ⟨hq, decide_eq_true ⟨hD, hO⟩⟩))))
/-- the writer's dict -/
def bwEs (P : Params) (t1 t2 t3 : Tok) (O : Addr) (hv : Int) (th : Tok) (cv : Int) (tc : Tok) : List DictEntry :=
  [⟨PyData.keyHash P (Str.ofString "_out"), .str (Str.ofString "_out") t1, .ref O⟩, ⟨PyData.keyHash P (Str.ofString "_held"), .str (Str.ofString "_held") t2, .int hv th⟩, ⟨PyData.keyHash P (Str.ofString "_count"), .str (Str.ofString "_count") t3, .int cv tc⟩]
structure BwS where
  i : Nat
  hv : Int
  th : Tok
  cv : Int
  tc : Tok
  vs : List Value
  cn : Nat
def bwLed (P : Params) (t1 t2 t3 : Tok) (S D O : Addr) (oS : Obj) (news : List (Addr × Obj)) (c : BwS) : List (Addr × Obj) :=
  (S, oS) :: (D, dictOf (bwEs P t1 t2 t3 O c.hv c.th c.cv c.tc) 3) :: (O, listOf c.vs.toArray c.cn) :: news
def bwFacts (bs : List Nat) (c : BwS) : Prop := IntsAre c.vs (bytesK bs c.i)
def bwP (bs : List Nat) (c : BwS) : Prop := c.hv = ((toN bs / 2 ^ (8 * c.i) : Nat) : Int) ∧ c.cv = (bs.length : Int) - 8 * c.i ∧ 8 * c.i ≤ bs.length
def bwMu (c : BwS) : Nat := c.cv.toNat
section
variable {prog : Program} {w : World} {A : Around} {E : Value → Shared → Prop} {Q : Flow → Shared → Prop} {s : Shared} {env : Env} {h₀ : Heap} {L : Addr}
theorem bw_while {test : Expr} {body : List Stmt} {pos : Pos} {m₀ : Str → Option Value} {P : Params} {t1 t2 t3 th tc : Tok} {S D O : Addr} {oS : Obj} {hv cv : Int} {cn : Nat} {vs : List Value} {news : List (Addr × Obj)} {bs : List Nat} {i : Nat}
    (F : Fr h₀ L s.heap m₀) (N : News h₀ L s.heap ((S, oS) :: (D, dictOf [⟨PyData.keyHash P (Str.ofString "_out"), .str (Str.ofString "_out") t1, .ref O⟩, ⟨PyData.keyHash P (Str.ofString "_held"), .str (Str.ofString "_held") t2, .int hv th⟩, ⟨PyData.keyHash P (Str.ofString "_count"), .str (Str.ofString "_count") t3, .int cv tc⟩] 3) :: (O, listOf vs.toArray cn) :: news))
    (kI : IntsAre vs (bytesK bs i)) (hh : hv = ((toN bs / 2 ^ (8 * i) : Nat) : Int)) (hc : cv = (bs.length : Int) - 8 * i) (hi : 8 * i ≤ bs.length) (hb : bs.length ≤ 100000)
    (turn : ∀ (i : Nat) (hv : Int) (th : Tok) (cv : Int) (tc : Tok) (vs : List Value) (cn : Nat) (u : Str → Option Value) h tk,
      IntsAre vs (bytesK bs i) → vs.length = i → hv = ((toN bs / 2 ^ (8 * i) : Nat) : Int) → cv = (bs.length : Int) - 8 * i → 8 * i ≤ bs.length → 0 ≤ hv → 0 ≤ cv → i ≤ 100000 →
      Fr h₀ L h (fun y => if ([] : List Str).contains y then u y else m₀ y) → News h₀ L h ((S, oS) :: (D, dictOf [⟨PyData.keyHash P (Str.ofString "_out"), .str (Str.ofString "_out") t1, .ref O⟩, ⟨PyData.keyHash P (Str.ofString "_held"), .str (Str.ofString "_held") t2, .int hv th⟩, ⟨PyData.keyHash P (Str.ofString "_count"), .str (Str.ofString "_count") t3, .int cv tc⟩] 3) :: (O, listOf vs.toArray cn) :: news) →
      wpAny (model prog w) A (isTrue test env (eval test env)) (fun b s₂ =>
        if b = true then wpAny (model prog w) A (execs body env) (KswPost h₀ L s (bwLed P t1 t2 t3 S D O oS news) (fun _ => []) (bwFacts bs) [] m₀ (bwP bs) bwMu Q ⟨i, hv, th, cv, tc, vs, cn⟩) E s₂ else Q .next s₂) E { s with heap := h, toks := tk })
    (hE : PassesOwn (model prog w) A env E := by passes_own) :
    wpAny (model prog w) A (exec (.While test body [] pos) env) Q E s := by
  refine ksw_while (bwLed P t1 t2 t3 S D O oS news) (fun _ => []) (bwFacts bs) [] (bwP bs) bwMu ⟨i, hv, th, cv, tc, vs, cn⟩ F N kI (fun _ h => nomatch h) ⟨hh, hc, hi⟩ ?_ hE
  rintro ⟨i, hv, th, cv, tc, vs, cn⟩ u h tk f1 ⟨p1, p2, p3⟩ F₁ N₁
  have p1' : hv = ((toN bs / 2 ^ (8 * i) : Nat) : Int) := p1
  have p2' : cv = (bs.length : Int) - 8 * i := p2
  have p3' : 8 * i ≤ bs.length := p3
  have hl : vs.length = i := by rw [IntsAre.length f1]; exact bytesK_len _ _
  exact turn i hv th cv tc vs cn u h tk f1 hl p1' p2' p3' (by rw [p1']; exact Int.natCast_nonneg _) (by omega) (by omega) F₁ N₁
theorem bw_end {m₀ m' : Str → Option Value} {P : Params} {t1 t2 t3 th tc th' tc' tv : Tok} {S D O : Addr} {oS : Obj} {hv cv : Int} {cn cn' : Nat} {vs : List Value} {news : List (Addr × Obj)} {bs : List Nat} {i : Nat} {h' : Heap} {tk : Nat}
    (F : Fr h₀ L h' m') (N : News h₀ L h' ((S, oS) :: (D, dictOf [⟨PyData.keyHash P (Str.ofString "_out"), .str (Str.ofString "_out") t1, .ref O⟩, ⟨PyData.keyHash P (Str.ofString "_held"), .str (Str.ofString "_held") t2, .int (hv.fdiv (2 ^ (8 : Int).toNat)) th'⟩, ⟨PyData.keyHash P (Str.ofString "_count"), .str (Str.ofString "_count") t3, .int (cv - 8) tc'⟩] 3) :: (O, listOf (vs.toArray.push (.int (Builtin.bitAnd hv 255) tv)) cn') :: news))
    (hr : ∀ z, (∀ p ∈ ([] : List (Str × Value)), z ≠ p.1) → ([] : List Str).contains z = false → m' z = m₀ z)
    (kI : IntsAre vs (bytesK bs i)) (hh : hv = ((toN bs / 2 ^ (8 * i) : Nat) : Int)) (hc : cv = (bs.length : Int) - 8 * i) (hi : 8 * i ≤ bs.length) (h8 : 8 ≤ cv) :
    KswEnd h₀ L s (bwLed P t1 t2 t3 S D O oS news) (fun _ => []) (bwFacts bs) [] m₀ (bwP bs) bwMu ⟨i, hv, th, cv, tc, vs, cn⟩ { s with heap := h', toks := tk } := by
  have e1 : hv.fdiv (2 ^ (8 : Int).toNat) = ((toN bs / 2 ^ (8 * (i + 1)) : Nat) : Int) := by
    have : ((2 : Int) ^ (8 : Int).toNat) = 256 := by decide
    rw [this, hh, Int.fdiv_eq_ediv_of_nonneg _ (by decide), ← held_next]
    omega
  have e2 : Builtin.bitAnd hv 255 = byteK bs i := by
    rw [bitAnd_m8, hh]
    unfold byteK
    omega
  have ea : vs.toArray.push (.int (Builtin.bitAnd hv 255) tv) = (vs ++ [Value.int (byteK bs i) tv]).toArray := by rw [e2]; simp
  rw [ea, e1] at N
  refine ksw_end (c' := ⟨i + 1, _, th', cv - 8, tc', vs ++ [Value.int (byteK bs i) tv], cn'⟩) F N (fun _ h => h) ?_ (fun _ h => nomatch h) hr ⟨rfl, ?_, ?_⟩ ?_
  · show IntsAre _ (bytesK bs (i + 1))
    rw [bytesK_succ]
    exact kI.append (.cons _ _ .nil)
  · show cv - 8 = (bs.length : Int) - 8 * ((i + 1 : Nat) : Int)
    omega
  · show 8 * (i + 1) ≤ bs.length
    omega
  · show (cv - 8).toNat < cv.toNat
    omega
end
/-- what the writer holds, by the bits written -/
def BwHeld (bs : List Nat) (hv cv : Int) (vs : List Value) : Prop := IntsAre vs (bytesK bs (bs.length / 8)) ∧ hv = ((toN bs / 2 ^ (8 * (bs.length / 8)) : Nat) : Int) ∧ cv = ((bs.length % 8 : Nat) : Int) ∧ Bits bs
/-- more bits are held -/
theorem bw_or {bs : List Nat} {hv cv v c : Int} {vs : List Value} (h : BwHeld bs hv cv vs) (hv2 : v < 2 ^ c.toNat) (h0 : 0 ≤ v) (hc0 : 0 ≤ c) :
    Builtin.bitOr hv (v * 2 ^ cv.toNat) = ((toN (bs ++ le v.toNat c.toNat) / 2 ^ (8 * (bs.length / 8)) : Nat) : Int) ∧ cv + c = ((bs ++ le v.toNat c.toNat).length : Int) - 8 * (bs.length / 8 : Nat) ∧ 8 * (bs.length / 8) ≤ (bs ++ le v.toNat c.toNat).length ∧
      IntsAre vs (bytesK (bs ++ le v.toNat c.toNat) (bs.length / 8)) ∧ Bits (bs ++ le v.toNat c.toNat) := by
  obtain ⟨a1, a2, a3, a4⟩ := h
  have hle : 8 * (bs.length / 8) ≤ bs.length := by omega
  have hcv : cv.toNat = bs.length - 8 * (bs.length / 8) := by omega
  refine ⟨?_, ?_, ?_, ?_, a4.app (le_bits _ _)⟩
  · have hlt := held_lt a4 (bs.length / 8) hle
    rw [← hcv] at hlt
    rw [or_apart (by rw [a2]; exact Int.natCast_nonneg _) ?_ h0, held_app _ _ hle, ← hcv, toN_le, a2]
    · push_cast
      rw [Int.toNat_of_nonneg h0]
    · have e : ((2 ^ c.toNat : Nat) : Int) = (2 : Int) ^ c.toNat := by simp
      rw [← e] at hv2
      omega
    · have e : ((2 ^ cv.toNat : Nat) : Int) = (2 : Int) ^ cv.toNat := by simp
      rw [a2, ← e]
      exact Int.ofNat_lt.mpr hlt
  · rw [List.length_append, le_len]
    omega
  · rw [List.length_append]
    omega
  · rw [bytesK_app _ _ _ hle]
    exact a1
/-- the loop's end -/
theorem bw_fin {bs : List Nat} {hv cv : Int} {vs : List Value} {i : Nat} (kI : IntsAre vs (bytesK bs i)) (hh : hv = ((toN bs / 2 ^ (8 * i) : Nat) : Int)) (hc : cv = (bs.length : Int) - 8 * i) (hi : 8 * i ≤ bs.length) (h8 : ¬ 8 ≤ cv) (hb : Bits bs) : BwHeld bs hv cv vs := by
  have e : bs.length / 8 = i := by omega
  refine ⟨by rw [e]; exact kI, by rw [e]; exact hh, by omega, hb⟩
def BwOut (P : Params) (t1 t2 t3 : Tok) (D O : Addr) (bs : List Nat) (news : List (Addr × Obj)) (r : Value) (news' : List (Addr × Obj)) : Prop :=
  ∃ hv th cv tc vs cn, r = .none ∧ news' = put D (dictOf [⟨PyData.keyHash P (Str.ofString "_out"), .str (Str.ofString "_out") t1, .ref O⟩, ⟨PyData.keyHash P (Str.ofString "_held"), .str (Str.ofString "_held") t2, .int hv th⟩, ⟨PyData.keyHash P (Str.ofString "_count"), .str (Str.ofString "_count") t3, .int cv tc⟩] 3) (put O (listOf vs.toArray cn) news) ∧ BwHeld bs hv cv vs
def BwC (f cls : Addr) (prog : Program) (w : World) (K : Frag) (p : Program) (loose : List Str) (mean : ExcName → Option Value) (mg mb : Str → Option Value) : Prop :=
  ∀ (bs : List Nat) (S D O : Addr) (t1 t2 t3 th tc t u : Tok) (hv cv v c : Int) (vs : List Value) (cn : Nat) (news : List (Addr × Obj)), (S, instObj cls D) ∈ news →
    (D, dictOf [⟨PyData.keyHash w.params (Str.ofString "_out"), .str (Str.ofString "_out") t1, .ref O⟩, ⟨PyData.keyHash w.params (Str.ofString "_held"), .str (Str.ofString "_held") t2, .int hv th⟩, ⟨PyData.keyHash w.params (Str.ofString "_count"), .str (Str.ofString "_count") t3, .int cv tc⟩] 3) ∈ news →
    (O, listOf vs.toArray cn) ∈ news → S ≠ D → S ≠ O → D ≠ O → BwHeld bs hv cv vs → 0 ≤ v → 0 ≤ c → c ≤ 64 → v < 2 ^ c.toNat → bs.length ≤ 90000 →
    Fun prog w K p loose mean mg mb 20 f [.ref S, .int v t, .int c u] news (BwOut w.params t1 t2 t3 D O (bs ++ le v.toNat c.toNat) news)
theorem lt64 {v c : Int} (hc : c ≤ 64) (h : v < 2 ^ c.toNat) : v < 18446744073709551616 := by
  have e : ((2 ^ c.toNat : Nat) : Int) = (2 : Int) ^ c.toNat := by simp
  have h2 : 2 ^ c.toNat ≤ 2 ^ 64 := Nat.pow_le_pow_right (by decide) (by omega)
  have h3 : (2 : Nat) ^ 64 = 18446744073709551616 := by decide
  rw [← e] at h
  omega
theorem shr_zero {v c : Int} (h0 : 0 ≤ v) (h : v < 2 ^ c.toNat) : v.fdiv (2 ^ c.toNat) = 0 := by
  rw [Int.fdiv_eq_ediv_of_nonneg _ (by exact Int.le_of_lt (Int.lt_of_le_of_lt h0 h))]
  exact Int.ediv_eq_zero_of_lt h0 h
theorem held_count {bs : List Nat} {hv cv : Int} {vs : List Value} (h : BwHeld bs hv cv vs) : 0 ≤ hv ∧ hv < 256 ∧ 0 ≤ cv ∧ cv ≤ 7 ∧ vs.length = bs.length / 8 := by
  obtain ⟨a1, a2, a3, a4⟩ := h
  have hlt := held_lt a4 (bs.length / 8) (by omega)
  have h2 : 2 ^ (bs.length - 8 * (bs.length / 8)) ≤ 2 ^ 8 := Nat.pow_le_pow_right (by decide) (by omega)
  have h3 : (2 : Nat) ^ 8 = 256 := by decide
  refine ⟨by rw [a2]; exact Int.natCast_nonneg _, by rw [a2]; exact Int.ofNat_lt.mpr (Nat.lt_of_lt_of_le hlt h2), by omega, by omega, ?_⟩
  rw [a1.length, bytesK_len]
theorem rshift_fit {prog : Program} {w : World} {A : Around} {E : Value → Shared → Prop} {s : Shared} {Q : Value → Shared → Prop} {a n : Int} {t u : Tok} (hn : 0 ≤ n) (h0 : a.fdiv (2 ^ n.toNat) = 0) (h : Q (.int 0 s.toks) { s with toks := s.toks + 1 }) : wpAny (model prog w) A (binaryOp .RShift (.int a t) (.int n u)) Q E s :=
  rshift_int hn (by rw [h0]; exact h)
theorem bw_ret {h₀ h : Heap} {L S D O : Addr} {oS : Obj} {m : Str → Option Value} {s : Shared} {Q : Value → Shared → Prop} {P : Params} {t1 t2 t3 th tc : Tok} {hv cv : Int} {vs : List Value} {cn : Nat} {bs : List Nat} {i : Nat} {news : List (Addr × Obj)} {tk : Nat}
    (hret : ∀ r news' h' tk', BwOut P t1 t2 t3 D O bs news r news' → Fr h₀ L h' m → News h₀ L h' news' → Q r { s with heap := h', toks := tk' })
    (N : News h₀ L h ((S, oS) :: (D, dictOf [⟨PyData.keyHash P (Str.ofString "_out"), .str (Str.ofString "_out") t1, .ref O⟩, ⟨PyData.keyHash P (Str.ofString "_held"), .str (Str.ofString "_held") t2, .int hv th⟩, ⟨PyData.keyHash P (Str.ofString "_count"), .str (Str.ofString "_count") t3, .int cv tc⟩] 3) :: (O, listOf vs.toArray cn) :: rest2 D O news)) (F : Fr h₀ L h m)
    (kI : IntsAre vs (bytesK bs i)) (hh : hv = ((toN bs / 2 ^ (8 * i) : Nat) : Int)) (hc : cv = (bs.length : Int) - 8 * i) (hi : 8 * i ≤ bs.length) (h8 : ¬ 8 ≤ cv) (hb : Bits bs) : Q .none { s with heap := h, toks := tk } :=
  hret _ _ _ _ ⟨_, _, _, _, _, _, rfl, rfl, bw_fin kI hh hc hi h8 hb⟩ F (news_join2 N)
theorem bw_new : BwHeld [] 0 0 [] := ⟨.nil, by simp [toN], rfl, fun _ h => nomatch h⟩
theorem news_join1 {h₀ h : Heap} {L D : Addr} {a : Addr × Obj} {d : Obj} {news : List (Addr × Obj)} (N : News h₀ L h (a :: (D, d) :: rest2 D D news)) : News h₀ L h (put D d news) := by
  intro q hq
  rcases mem_put hq with rfl | ⟨hD, hq⟩
  · exact N _ (.tail _ (.head _))
  · exact N q (.tail _ (.tail _ (List.mem_filter.mpr ⟨hq, decide_eq_true ⟨hD, hD⟩⟩)))
theorem news_split1 {h₀ h : Heap} {L D : Addr} {a b : Addr × Obj} {news : List (Addr × Obj)} (N : News h₀ L h news) (ha : a ∈ news) (hb : b ∈ news) : News h₀ L h (a :: b :: rest2 D D news) := by
  intro q hq
  rcases List.mem_cons.mp hq with rfl | hq
  · exact N _ ha
  · rcases List.mem_cons.mp hq with rfl | hq
    · exact N _ hb
    · exact N q (List.mem_filter.mp hq).1
/-- the bytes at the end -/
theorem bytesK_in (bs : List Nat) (n : Nat) : KBa.In (bytesK bs n) := by
  intro x hx
  obtain ⟨k, _, rfl⟩ := List.mem_map.mp hx
  exact byteK_in bs k
theorem fin_more {bs : List Nat} {hv cv : Int} {vs ws : List Value} {t : Tok} (h : BwHeld bs hv cv vs) (hI : IntsAre ws (bytesK bs (bs.length / 8))) (hc : 0 < cv) : IntsAre (ws ++ [.int hv t]) (bytesK bs ((bs.length + 7) / 8)) := by
  obtain ⟨a1, a2, a3, a4⟩ := h
  have e : (bs.length + 7) / 8 = bs.length / 8 + 1 := by omega
  rw [e, bytesK_succ]
  have hlt := held_lt a4 (bs.length / 8) (by omega)
  have h2 : 2 ^ (bs.length - 8 * (bs.length / 8)) ≤ 2 ^ 8 := Nat.pow_le_pow_right (by decide) (by omega)
  have e2 : byteK bs (bs.length / 8) = hv := by
    unfold byteK
    rw [a2, Nat.mod_eq_of_lt (Nat.lt_of_lt_of_le hlt h2)]
  rw [e2]
  exact hI.append (.cons _ _ .nil)
theorem fin_same {bs : List Nat} {hv cv : Int} {vs ws : List Value} (h : BwHeld bs hv cv vs) (hI : IntsAre ws (bytesK bs (bs.length / 8))) (hc : ¬ 0 < cv) : IntsAre ws (bytesK bs ((bs.length + 7) / 8)) := by
  obtain ⟨a1, a2, a3, a4⟩ := h
  have e : (bs.length + 7) / 8 = bs.length / 8 := by omega
  rw [e]
  exact hI
theorem news_back2 {h₀ h h' : Heap} {L D O : Addr} {x a : Addr × Obj} {d o : Obj} {news : List (Addr × Obj)} (N0 : News h₀ L h news) (hD : (D, d) ∈ news) (hO : (O, o) ∈ news) (N : News h₀ L h' (x :: a :: (D, d) :: (O, o) :: rest2 D O news)) : News h₀ L h' news := by
  intro q hq
  by_cases h1 : q.1 = D
  · have e1 := (N0 q hq).1
    rw [h1, (N0 _ hD).1] at e1
    have e2 : q = (D, d) := Prod.ext h1 (Option.some.inj e1).symm
    rw [e2]
    exact N _ (.tail _ (.tail _ (.head _)))
  · by_cases h2 : q.1 = O
    · have e1 := (N0 q hq).1
      rw [h2, (N0 _ hO).1] at e1
      have e2 : q = (O, o) := Prod.ext h2 (Option.some.inj e1).symm
      rw [e2]
      exact N _ (.tail _ (.tail _ (.tail _ (.head _))))
    · exact N q (.tail _ (.tail _ (.tail _ (.tail _ (List.mem_filter.mpr ⟨hq, decide_eq_true ⟨h1, h2⟩⟩)))))
def FnOut (bs : List Nat) (news : List (Addr × Obj)) (r : Value) (news' : List (Addr × Obj)) : Prop := ∃ b t, r = .bytes b t ∧ news' = news ∧ KBw.bInts b = bytesK bs ((bs.length + 7) / 8)
def FnC (f cls : Addr) (prog : Program) (w : World) (K : Frag) (p : Program) (loose : List Str) (mean : ExcName → Option Value) (mg mb : Str → Option Value) : Prop :=
  ∀ (bs : List Nat) (S D O : Addr) (t1 t2 t3 th tc : Tok) (hv cv : Int) (vs : List Value) (cn : Nat) (news : List (Addr × Obj)), (S, instObj cls D) ∈ news →
    (D, dictOf [⟨PyData.keyHash w.params (Str.ofString "_out"), .str (Str.ofString "_out") t1, .ref O⟩, ⟨PyData.keyHash w.params (Str.ofString "_held"), .str (Str.ofString "_held") t2, .int hv th⟩, ⟨PyData.keyHash w.params (Str.ofString "_count"), .str (Str.ofString "_count") t3, .int cv tc⟩] 3) ∈ news →
    (O, listOf vs.toArray cn) ∈ news → S ≠ D → S ≠ O → D ≠ O → BwHeld bs hv cv vs → bs.length ≤ 90000 →
    Fun prog w K p loose mean mg mb 20 f [.ref S] news (FnOut bs news)
/-- the reader's bit -/
theorem rb_val0 {bs : List Nat} {n : Nat} {a : Int} (hb : Bits bs) (h0 : 0 ≤ a) (h1 : a < 8 * n) : Builtin.bitAnd (((bytesK bs n).getD (a / 8).toNat 0).fdiv (2 ^ (a % 8).toNat)) 1 = ((bs.getD a.toNat 0 : Nat) : Int) := by
  obtain ⟨k, rfl⟩ := Int.eq_ofNat_of_zero_le h0
  have e1 : ((k : Int) / 8).toNat = k / 8 := by omega
  have e2 : ((k : Int) % 8).toNat = k % 8 := by omega
  rw [e1, e2, bytesK_get _ _ _ (by omega), bitAnd_m1, Int.toNat_natCast, ← bit_of bs hb k]
  unfold byteK
  have e : ((2 : Int) ^ (k % 8)) = ((2 ^ (k % 8) : Nat) : Int) := by simp
  rw [Int.fdiv_eq_ediv_of_nonneg _ (by rw [e]; exact Int.natCast_nonneg _), e]
  simp only [← Int.natCast_ediv]
  omega
theorem rb_val {bs : List Nat} {n : Nat} {a : Int} (hb : Bits bs) (h0 : 0 ≤ a) (h1 : a < 8 * n) : Builtin.bitAnd (((bytesK bs n).getD (a.fdiv 8).toNat 0).fdiv (2 ^ (a.fmod 8).toNat)) 1 = ((bs.getD a.toNat 0 : Nat) : Int) := by
  have e1 : a.fdiv 8 = a / 8 := Int.fdiv_eq_ediv_of_nonneg _ (by decide)
  have e2 : a.fmod 8 = a % 8 := Int.fmod_eq_emod_of_nonneg _ (by decide)
  rw [e1, e2]
  exact rb_val0 hb h0 h1
def RbOut (P : Params) (t1 t2 tb : Tok) (D : Addr) (b : Array UInt8) (x : Nat) (a : Int) (news : List (Addr × Obj)) (r : Value) (news' : List (Addr × Obj)) : Prop :=
  ∃ y t ta, r = .int y t ∧ y = (x : Int) ∧ news' = put D (dictOf [⟨PyData.keyHash P (Str.ofString "_data"), .str (Str.ofString "_data") t1, .bytes b tb⟩, ⟨PyData.keyHash P (Str.ofString "_at"), .str (Str.ofString "_at") t2, .int (a + 1) ta⟩] 2) news
def RbC (f cls : Addr) (prog : Program) (w : World) (K : Frag) (p : Program) (loose : List Str) (mean : ExcName → Option Value) (mg mb : Str → Option Value) : Prop :=
  ∀ (bs : List Nat) (n : Nat) (S D : Addr) (t1 t2 tb ta : Tok) (b : Array UInt8) (a : Int) (news : List (Addr × Obj)), (S, instObj cls D) ∈ news →
    (D, dictOf [⟨PyData.keyHash w.params (Str.ofString "_data"), .str (Str.ofString "_data") t1, .bytes b tb⟩, ⟨PyData.keyHash w.params (Str.ofString "_at"), .str (Str.ofString "_at") t2, .int a ta⟩] 2) ∈ news →
    S ≠ D → KBw.bInts b = bytesK bs n → Bits bs → 0 ≤ a → a < 8 * n → n ≤ 90000 →
    Fun prog w K p loose mean mg mb 20 f [.ref S] news (RbOut w.params t1 t2 tb D b (bs.getD a.toNat 0) a news)
theorem pow_cast (k : Nat) : ((2 ^ k : Nat) : Int) = (2 : Int) ^ k := by simp
theorem bits_is {x : Int} {k : Nat} (hk : 1 ≤ k) (h1 : (2 : Int) ^ (k - 1) ≤ x) (h2 : x < 2 ^ (k : Int).toNat) : Builtin.Int.intBits x = k := by
  rw [Int.toNat_natCast, ← pow_cast] at h2
  rw [← pow_cast] at h1
  have hp := Nat.two_pow_pos (k - 1)
  obtain ⟨n, rfl⟩ := Int.eq_ofNat_of_zero_le (show 0 ≤ x by omega)
  have h1' : 2 ^ (k - 1) ≤ n := Int.ofNat_le.mp h1
  have h2' : n < 2 ^ k := Int.ofNat_lt.mp h2
  have h0 : n ≠ 0 := by omega
  unfold Builtin.Int.intBits
  have e0 : ((n : Int) == 0) = false := by rw [beq_eq_false_iff_ne]; omega
  rw [e0]
  have e1 : (n : Int).natAbs = n := Int.natAbs_natCast n
  have a1 : n.log2 < k := (Nat.log2_lt h0).mpr h2'
  have a2 : k - 1 ≤ n.log2 := (Nat.le_log2 h0).mpr h1'
  simp only [Bool.false_eq_true, if_false, e1]
  omega
theorem call_bl {prog : Program} {w : World} {A : Around} {E : Value → Shared → Prop} {s : Shared} {a : Int} {k : Nat} {t : Tok} {Q : Value → Shared → Prop} (hk : 1 ≤ k) (h1 : (2 : Int) ^ (k - 1) ≤ a) (h2 : a < 2 ^ (k : Int).toNat) (h : Q (.int (k : Int) s.toks) { s with toks := s.toks + 1 }) :
    wpAny (model prog w) A (call (.builtin "int.bit_length") [.int a t]) Q E s := call_int_bit_length (by rw [bits_is hk h1 h2]; exact h)
/-- the c highest of z + 1 bits -/
def msb (x z c : Nat) : List Nat := (List.range c).map fun t => x / 2 ^ (z - t) % 2
theorem msb_len (x z c : Nat) : (msb x z c).length = c := by simp [msb]
theorem msb_succ (x z c : Nat) : msb x z (c + 1) = msb x z c ++ [x / 2 ^ (z - c) % 2] := by simp [msb, List.range_succ]
theorem msb_bits (x z c : Nat) : Bits (msb x z c) := by
  intro b hb
  obtain ⟨t, _, rfl⟩ := List.mem_map.mp hb
  omega
theorem msb_get (x z c t : Nat) (h : t < c) : (msb x z c).getD t 0 = x / 2 ^ (z - t) % 2 := by simp [msb, List.getD, h]
def strm (x z : Nat) : List Nat := List.replicate z 0 ++ msb x z (z + 1)
theorem strm_len (x z : Nat) : (strm x z).length = 2 * z + 1 := by simp [strm, msb_len]; omega
theorem strm_bits (x z : Nat) : Bits (strm x z) := by
  refine Bits.app (fun b hb => ?_) (msb_bits _ _ _)
  rw [(List.mem_replicate.mp hb).2]; decide
theorem strm_low (x z s : Nat) (h : s < z) : (strm x z).getD s 0 = 0 := by
  unfold strm
  rw [List.getD, List.getElem?_append_left (by simpa using h)]
  simp [h]
theorem strm_high (x z t : Nat) (h : t ≤ z) : (strm x z).getD (z + t) 0 = x / 2 ^ (z - t) % 2 := by
  unfold strm
  have e : (List.replicate z 0 ++ msb x z (z + 1))[z + t]? = (msb x z (z + 1))[t]? := by
    rw [List.getElem?_append_right (by simp)]
    simp
  rw [List.getD, e]
  exact msb_get x z (z + 1) t (by omega)
theorem top_bit {x z : Nat} (h1 : 2 ^ z ≤ x) (h2 : x < 2 ^ (z + 1)) : x / 2 ^ z = 1 := by
  rw [Nat.pow_succ] at h2
  exact (Nat.div_eq_iff (Nat.two_pow_pos _)).mpr ⟨by omega, by omega⟩
section
variable {prog : Program} {w : World} {A : Around} {E : Value → Shared → Prop} {Q : Flow → Shared → Prop} {s : Shared} {env : Env} {h₀ : Heap} {L : Addr}
def lwP (x : Int) (c : Nat × Tok) : Prop := 1 ≤ c.1 ∧ (2 : Int) ^ (c.1 - 1) ≤ x
def lwMu (x : Int) (c : Nat × Tok) : Nat := 2 ^ 14 - c.1
theorem lw_lt {x : Int} {k : Nat} (hx : x ≤ 5000) (h : (2 : Int) ^ (k - 1) ≤ x) : k ≤ 13 := by
  rw [← pow_cast] at h
  rcases Nat.lt_or_ge k 14 with h1 | h1
  · omega
  · have : 2 ^ 13 ≤ 2 ^ (k - 1) := Nat.pow_le_pow_right (by decide) (by omega)
    have h2 : (2 : Nat) ^ 13 = 8192 := by decide
    omega
theorem lw_while {test : Expr} {body : List Stmt} {pos : Pos} {m₀ : Str → Option Value} {news : List (Addr × Obj)} {t₀ tn : Tok} {x : Int}
    (F : Fr h₀ L s.heap m₀) (N : News h₀ L s.heap news) (hs : m₀ (Str.ofString "size") = some (.int 1 t₀)) (_hn : m₀ (Str.ofString "n") = some (.int x tn)) (hx : 1 ≤ x) (hx2 : x ≤ 5000)
    (turn : ∀ (k : Nat) (t : Tok) (u : Str → Option Value) h tk, 1 ≤ k → (2 : Int) ^ (k - 1) ≤ x → k ≤ 13 → Fr h₀ L h (fun y => if y = Str.ofString "size" then some (.int k t) else if ([] : List Str).contains y then u y else m₀ y) → News h₀ L h news →
      wpAny (model prog w) A (isTrue test env (eval test env)) (fun b s₂ =>
        if b = true then wpAny (model prog w) A (execs body env) (KswPost h₀ L s (fun _ => news) (fun c : Nat × Tok => [(Str.ofString "size", .int (c.1 : Int) c.2)]) (fun _ => True) [] m₀ (lwP x) (lwMu x) Q (k, t)) E s₂ else Q .next s₂) E { s with heap := h, toks := tk })
    (hE : PassesOwn (model prog w) A env E := by passes_own) :
    wpAny (model prog w) A (exec (.While test body [] pos) env) Q E s := by
  refine ksw_while (fun _ => news) (fun c : Nat × Tok => [(Str.ofString "size", .int (c.1 : Int) c.2)]) (fun _ => True) [] (lwP x) (lwMu x) (1, t₀) F N trivial ?_ ⟨Nat.le_refl _, by simpa using hx⟩ ?_ hE
  · intro p hp
    rw [List.mem_singleton.mp hp]
    exact hs
  · rintro ⟨k, t⟩ u h tk _ ⟨p1, p2⟩ F₁ N₁
    exact turn k t u h tk p1 p2 (lw_lt hx2 p2) F₁ N₁
theorem lw_end {m₀ m' : Str → Option Value} {news : List (Addr × Obj)} {x : Int} {k : Nat} {t t' : Tok} {h' : Heap} {tk : Nat}
    (F : Fr h₀ L h' m') (N : News h₀ L h' news) (hm : m' (Str.ofString "size") = some (.int ((k : Int) + 1) t')) (hr : ∀ z, (∀ p ∈ [(Str.ofString "size", Value.int ((k : Int) + 1) t')], z ≠ p.1) → ([] : List Str).contains z = false → m' z = m₀ z)
    (h1 : 1 ≤ k) (h2 : k ≤ 13) (h3 : ¬ x < 2 ^ (k : Int).toNat) :
    KswEnd h₀ L s (fun _ => news) (fun c : Nat × Tok => [(Str.ofString "size", .int (c.1 : Int) c.2)]) (fun _ => True) [] m₀ (lwP x) (lwMu x) (k, t) { s with heap := h', toks := tk } := by
  refine ksw_end (c' := (k + 1, t')) F N (fun _ h => h) trivial ?_ hr ⟨by show 1 ≤ k + 1; omega, ?_⟩ ?_
  · intro q hq
    rw [List.mem_singleton.mp hq]
    exact hm
  · show (2 : Int) ^ (k + 1 - 1) ≤ x
    rw [Int.toNat_natCast] at h3
    rw [Nat.add_sub_cancel]
    omega
  · show 2 ^ 14 - (k + 1) < 2 ^ 14 - k
    have : (2 : Nat) ^ 14 = 16384 := by decide
    omega
/-- code's loop -/
structure CdS where
  p : Int
  t : Tok
  c : Nat
  bs : List Nat
  hv : Int
  th : Tok
  cv : Int
  tc : Tok
  vs : List Value
  cn : Nat
def cdLed (P : Params) (t1 t2 t3 : Tok) (S D O : Addr) (oS : Obj) (news : List (Addr × Obj)) (c : CdS) : List (Addr × Obj) :=
  (O, listOf c.vs.toArray c.cn) :: (S, oS) :: (D, dictOf (bwEs P t1 t2 t3 O c.hv c.th c.cv c.tc) 3) :: news
def cdPs (c : CdS) : List (Str × Value) := [(Str.ofString "place", .int c.p c.t)]
def cdP (x z : Nat) (bs0 : List Nat) (c : CdS) : Prop := c.p = (z : Int) - c.c ∧ c.c ≤ z + 1 ∧ c.bs = bs0 ++ msb x z c.c ∧ BwHeld c.bs c.hv c.cv c.vs
def cdMu (c : CdS) : Nat := (c.p + 1).toNat
theorem cd_bit {x z c : Nat} {p : Int} (hp : p = (z : Int) - c) (h : c ≤ z + 1) : p = -1 ∨ (0 ≤ p ∧ c ≤ z ∧ Builtin.bitAnd ((x : Int).fdiv (2 ^ p.toNat)) 1 = ((x / 2 ^ (z - c) % 2 : Nat) : Int)) := by
  rcases Nat.lt_or_ge z c with h1 | h1
  · exact .inl (by omega)
  · refine .inr ⟨by omega, h1, ?_⟩
    have e : p.toNat = z - c := by omega
    rw [e, bitAnd_m1, ← pow_cast, Int.fdiv_eq_ediv_of_nonneg _ (Int.natCast_nonneg _)]
    omega
theorem cd_while {test : Expr} {body : List Stmt} {pos : Pos} {m₀ : Str → Option Value} {P : Params} {t1 t2 t3 th tc tp tv : Tok} {S D O : Addr} {oS : Obj} {hv cv X p₀ : Int} {cn : Nat} {vs : List Value} {news : List (Addr × Obj)} {bs : List Nat} {x z : Nat}
    (F : Fr h₀ L s.heap m₀) (N : News h₀ L s.heap ((O, listOf vs.toArray cn) :: (S, oS) :: (D, dictOf [⟨PyData.keyHash P (Str.ofString "_out"), .str (Str.ofString "_out") t1, .ref O⟩, ⟨PyData.keyHash P (Str.ofString "_held"), .str (Str.ofString "_held") t2, .int hv th⟩, ⟨PyData.keyHash P (Str.ofString "_count"), .str (Str.ofString "_count") t3, .int cv tc⟩] 3) :: news))
    (hp : m₀ (Str.ofString "place") = some (.int p₀ tp)) (_hv : m₀ (Str.ofString "value") = some (.int X tv)) (hX : X = (x : Int)) (hz : p₀ = (z : Int)) (hW : BwHeld bs hv cv vs)
    (turn : ∀ (p : Int) (t : Tok) (c : Nat) (bs' : List Nat) (hv : Int) (th : Tok) (cv : Int) (tc : Tok) (vs : List Value) (cn : Nat) (u : Str → Option Value) h tk,
      p = (z : Int) - c → c ≤ z + 1 → bs' = bs ++ msb x z c → bs'.length = bs.length + c → BwHeld bs' hv cv vs →
      (p = -1 ∨ (0 ≤ p ∧ c ≤ z ∧ Builtin.bitAnd (X.fdiv (2 ^ p.toNat)) 1 = ((x / 2 ^ (z - c) % 2 : Nat) : Int))) →
      Fr h₀ L h (fun y => if y = Str.ofString "place" then some (.int p t) else if ([] : List Str).contains y then u y else m₀ y) → News h₀ L h ((O, listOf vs.toArray cn) :: (S, oS) :: (D, dictOf [⟨PyData.keyHash P (Str.ofString "_out"), .str (Str.ofString "_out") t1, .ref O⟩, ⟨PyData.keyHash P (Str.ofString "_held"), .str (Str.ofString "_held") t2, .int hv th⟩, ⟨PyData.keyHash P (Str.ofString "_count"), .str (Str.ofString "_count") t3, .int cv tc⟩] 3) :: news) →
      wpAny (model prog w) A (isTrue test env (eval test env)) (fun b s₂ =>
        if b = true then wpAny (model prog w) A (execs body env) (KswPost h₀ L s (cdLed P t1 t2 t3 S D O oS news) cdPs (fun _ => True) [] m₀ (cdP x z bs) cdMu Q ⟨p, t, c, bs', hv, th, cv, tc, vs, cn⟩) E s₂ else Q .next s₂) E { s with heap := h, toks := tk })
    (hE : PassesOwn (model prog w) A env E := by passes_own) :
    wpAny (model prog w) A (exec (.While test body [] pos) env) Q E s := by
  refine ksw_while (cdLed P t1 t2 t3 S D O oS news) cdPs (fun _ => True) [] (cdP x z bs) cdMu ⟨p₀, tp, 0, bs, hv, th, cv, tc, vs, cn⟩ F N trivial ?_ ⟨by show p₀ = (z : Int) - ((0 : Nat) : Int); omega, Nat.zero_le _, by simp [msb], hW⟩ ?_ hE
  · intro q hq
    rw [List.mem_singleton.mp hq]
    exact hp
  · rintro ⟨p, t, c, bs', hv, th, cv, tc, vs, cn⟩ u h tk _ ⟨q1, q2, q3, q4⟩ F₁ N₁
    have q1' : p = (z : Int) - c := q1
    have q2' : c ≤ z + 1 := q2
    have q3' : bs' = bs ++ msb x z c := q3
    exact turn p t c bs' hv th cv tc vs cn u h tk q1' q2' q3' (by rw [q3', List.length_append, msb_len]) q4 (by rw [hX]; exact cd_bit q1' q2') F₁ N₁
theorem cd_end {m₀ m' : Str → Option Value} {P : Params} {t1 t2 t3 th tc th' tc' t t' : Tok} {S D O : Addr} {oS : Obj} {hv cv hv' cv' X : Int} {cn cn' : Nat} {vs vs' : List Value} {news : List (Addr × Obj)} {bs bs' : List Nat} {x z c : Nat} {p : Int} {h' : Heap} {tk : Nat}
    (F : Fr h₀ L h' m') (N : News h₀ L h' ((O, listOf vs'.toArray cn') :: (S, oS) :: (D, dictOf [⟨PyData.keyHash P (Str.ofString "_out"), .str (Str.ofString "_out") t1, .ref O⟩, ⟨PyData.keyHash P (Str.ofString "_held"), .str (Str.ofString "_held") t2, .int hv' th'⟩, ⟨PyData.keyHash P (Str.ofString "_count"), .str (Str.ofString "_count") t3, .int cv' tc'⟩] 3) :: news))
    (hm : m' (Str.ofString "place") = some (.int (p - 1) t')) (hr : ∀ y, (∀ q ∈ [(Str.ofString "place", Value.int (p - 1) t')], y ≠ q.1) → ([] : List Str).contains y = false → m' y = m₀ y)
    (hW : BwHeld (bs' ++ le (Builtin.bitAnd (X.fdiv (2 ^ p.toNat)) 1).toNat (1 : Int).toNat) hv' cv' vs') (hp : p = (z : Int) - c) (hb : bs' = bs ++ msb x z c) (hc : c ≤ z) (hx : Builtin.bitAnd (X.fdiv (2 ^ p.toNat)) 1 = ((x / 2 ^ (z - c) % 2 : Nat) : Int)) :
    KswEnd h₀ L s (cdLed P t1 t2 t3 S D O oS news) cdPs (fun _ => True) [] m₀ (cdP x z bs) cdMu ⟨p, t, c, bs', hv, th, cv, tc, vs, cn⟩ { s with heap := h', toks := tk } := by
  rw [hx, Int.toNat_natCast, show (1 : Int).toNat = 1 from rfl, le_one (by omega)] at hW
  refine ksw_end (c' := ⟨p - 1, t', c + 1, _, hv', th', cv', tc', vs', cn'⟩) F N (fun _ h => h) trivial ?_ hr ⟨?_, ?_, ?_, hW⟩ ?_
  · intro q hq
    rw [List.mem_singleton.mp hq]
    exact hm
  · show p - 1 = (z : Int) - ((c + 1 : Nat) : Int)
    omega
  · show c + 1 ≤ z + 1
    omega
  · show bs' ++ [x / 2 ^ (z - c) % 2] = bs ++ msb x z (c + 1)
    rw [hb, msb_succ, List.append_assoc]
  · show (p - 1 + 1).toNat < (p + 1).toNat
    omega
end
section
variable {prog : Program} {w : World} {A : Around} {E : Value → Shared → Prop} {Q : Flow → Shared → Prop} {s : Shared} {env : Env} {h₀ : Heap} {L : Addr}
structure RgS where
  k : Nat
  t : Tok
  ta : Tok
def rdEs (P : Params) (t1 t2 tb : Tok) (b : Array UInt8) (a : Int) (ta : Tok) : List DictEntry :=
  [⟨PyData.keyHash P (Str.ofString "_data"), .str (Str.ofString "_data") t1, .bytes b tb⟩, ⟨PyData.keyHash P (Str.ofString "_at"), .str (Str.ofString "_at") t2, .int a ta⟩]
def rgLed (P : Params) (t1 t2 tb : Tok) (b : Array UInt8) (S D : Addr) (oS : Obj) (news : List (Addr × Obj)) (c : RgS) : List (Addr × Obj) := (S, oS) :: (D, dictOf (rdEs P t1 t2 tb b c.k c.ta) 2) :: news
def rgPs (c : RgS) : List (Str × Value) := [(Str.ofString "size", .int c.k c.t)]
def rgP (z : Nat) (c : RgS) : Prop := c.k ≤ z
def rgMu (z : Nat) (c : RgS) : Nat := z + 1 - c.k
theorem rg_facts {x z k : Nat} (h1 : 2 ^ z ≤ x) (h2 : x < 2 ^ (z + 1)) (h : k ≤ z) : (k < z ∧ (strm x z).getD (k : Int).toNat 0 = 0) ∨ (k = z ∧ (strm x z).getD (k : Int).toNat 0 = 1) := by
  rw [Int.toNat_natCast]
  rcases Nat.lt_or_ge k z with hk | hk
  · exact .inl ⟨hk, strm_low x z k hk⟩
  · have e : k = z := by omega
    refine .inr ⟨e, ?_⟩
    have := strm_high x z 0 (Nat.zero_le _)
    rw [Nat.add_zero, Nat.sub_zero, top_bit h1 h2] at this
    rw [e, this]
theorem rg_while {test : Expr} {body : List Stmt} {pos : Pos} {m₀ : Str → Option Value} {P : Params} {t1 t2 tb t₀ ta : Tok} {b : Array UInt8} {S D : Addr} {oS : Obj} {news : List (Addr × Obj)} {x z n : Nat}
    (F : Fr h₀ L s.heap m₀) (N : News h₀ L s.heap ((S, oS) :: (D, dictOf [⟨PyData.keyHash P (Str.ofString "_data"), .str (Str.ofString "_data") t1, .bytes b tb⟩, ⟨PyData.keyHash P (Str.ofString "_at"), .str (Str.ofString "_at") t2, .int 0 ta⟩] 2) :: news))
    (hs : m₀ (Str.ofString "size") = some (.int 0 t₀)) (_hb : KBw.bInts b = bytesK (strm x z) n) (h1 : 2 ^ z ≤ x) (h2 : x < 2 ^ (z + 1))
    (turn : ∀ (k : Nat) (t ta : Tok) (u : Str → Option Value) h tk, k ≤ z → ((k < z ∧ (strm x z).getD (k : Int).toNat 0 = 0) ∨ (k = z ∧ (strm x z).getD (k : Int).toNat 0 = 1)) →
      Fr h₀ L h (fun y => if y = Str.ofString "size" then some (.int k t) else if ([] : List Str).contains y then u y else m₀ y) → News h₀ L h ((S, oS) :: (D, dictOf [⟨PyData.keyHash P (Str.ofString "_data"), .str (Str.ofString "_data") t1, .bytes b tb⟩, ⟨PyData.keyHash P (Str.ofString "_at"), .str (Str.ofString "_at") t2, .int k ta⟩] 2) :: news) →
      wpAny (model prog w) A (isTrue test env (eval test env)) (fun b' s₂ =>
        if b' = true then wpAny (model prog w) A (execs body env) (KswPost h₀ L s (rgLed P t1 t2 tb b S D oS news) rgPs (fun _ => True) [] m₀ (rgP z) (rgMu z) Q ⟨k, t, ta⟩) E s₂ else Q .next s₂) E { s with heap := h, toks := tk })
    (hE : PassesOwn (model prog w) A env E := by passes_own) :
    wpAny (model prog w) A (exec (.While test body [] pos) env) Q E s := by
  refine ksw_while (rgLed P t1 t2 tb b S D oS news) rgPs (fun _ => True) [] (rgP z) (rgMu z) ⟨0, t₀, ta⟩ F N trivial ?_ (Nat.zero_le _) ?_ hE
  · intro q hq
    rw [List.mem_singleton.mp hq]
    exact hs
  · rintro ⟨k, t, ta⟩ u h tk _ q F₁ N₁
    exact turn k t ta u h tk q (rg_facts h1 h2 q) F₁ N₁
theorem rgw_end {m₀ m' : Str → Option Value} {P : Params} {t1 t2 tb t t' ta ta' : Tok} {b : Array UInt8} {S D : Addr} {oS : Obj} {news : List (Addr × Obj)} {z k : Nat} {h' : Heap} {tk : Nat}
    (F : Fr h₀ L h' m') (N : News h₀ L h' ((S, oS) :: (D, dictOf [⟨PyData.keyHash P (Str.ofString "_data"), .str (Str.ofString "_data") t1, .bytes b tb⟩, ⟨PyData.keyHash P (Str.ofString "_at"), .str (Str.ofString "_at") t2, .int ((k : Int) + 1) ta'⟩] 2) :: news))
    (hm : m' (Str.ofString "size") = some (.int ((k : Int) + 1) t')) (hr : ∀ z, (∀ p ∈ [(Str.ofString "size", Value.int ((k : Int) + 1) t')], z ≠ p.1) → ([] : List Str).contains z = false → m' z = m₀ z) (hk : k < z) :
    KswEnd h₀ L s (rgLed P t1 t2 tb b S D oS news) rgPs (fun _ => True) [] m₀ (rgP z) (rgMu z) ⟨k, t, ta⟩ { s with heap := h', toks := tk } := by
  refine ksw_end (c' := ⟨k + 1, t', ta'⟩) F N (fun _ h => h) trivial ?_ hr hk ?_
  · intro q hq
    rw [List.mem_singleton.mp hq]
    exact hm
  · show z + 1 - (k + 1) < z + 1 - k
    omega
structure RvS where
  v : Int
  tv : Tok
  a : Int
  ta : Tok
def rvLed (P : Params) (t1 t2 tb : Tok) (b : Array UInt8) (S D : Addr) (oS : Obj) (news : List (Addr × Obj)) (c : RvS) : List (Addr × Obj) := (S, oS) :: (D, dictOf (rdEs P t1 t2 tb b c.a c.ta) 2) :: news
def rvPs (c : RvS) : List (Str × Value) := [(Str.ofString "value", .int c.v c.tv)]
def rvP (x z : Nat) (i : Nat) (c : RvS) : Prop := c.v = ((x / 2 ^ (z - i) : Nat) : Int) ∧ c.a = (z : Int) + 1 + i
theorem rv_for {body : List Stmt} {r : Addr} {m₀ : Str → Option Value} {P : Params} {t1 t2 tb tv ta t₀ u₀ v₀ : Tok} {b : Array UInt8} {S D : Addr} {oS : Obj} {news : List (Addr × Obj)} {x z n : Nat} {e a : Int}
    (hh : A.handled = none) (hr : IsRange s.heap r 0 e 1 t₀ u₀ v₀) (hsmall : Builtin.Range.small 0 e 1 = true) (hsz : Builtin.Range.rangeSize 0 e 1 = (z : Int)) (F : Fr h₀ env.locals s.heap m₀) (N : News h₀ env.locals s.heap ((S, oS) :: (D, dictOf [⟨PyData.keyHash P (Str.ofString "_data"), .str (Str.ofString "_data") t1, .bytes b tb⟩, ⟨PyData.keyHash P (Str.ofString "_at"), .str (Str.ofString "_at") t2, .int a ta⟩] 2) :: news))
    (hv : m₀ (Str.ofString "value") = some (.int 1 tv)) (_hb : KBw.bInts b = bytesK (strm x z) n) (h1 : 2 ^ z ≤ x) (h2 : x < 2 ^ (z + 1)) (ha : a = (z : Int) + 1)
    (turn : ∀ (v : Int) (tv : Tok) (a : Int) (ta : Tok) (i : Nat) t (u : Str → Option Value) h tk own, i < z → v = ((x / 2 ^ (z - i) : Nat) : Int) → a = (z : Int) + 1 + i → 0 ≤ a → ((strm x z).getD a.toNat 0 : Nat) = x / 2 ^ (z - (i + 1)) % 2 → (∀ p ∈ own, p.1 ≠ S) → (∀ p ∈ own, p.1 ≠ D) →
      (∀ p ∈ own, ∀ q ∈ news, p.1 ≠ q.1) →
      Fr h₀ env.locals h (fun y => if y = Str.ofString "k" then some (.int (0 + i) t) else if y = Str.ofString "value" then some (.int v tv) else if ([] : List Str).contains y then u y else m₀ y) → News h₀ env.locals h ((S, oS) :: (D, dictOf [⟨PyData.keyHash P (Str.ofString "_data"), .str (Str.ofString "_data") t1, .bytes b tb⟩, ⟨PyData.keyHash P (Str.ofString "_at"), .str (Str.ofString "_at") t2, .int a ta⟩] 2) :: (news ++ own)) →
      wpAny (model prog w) A (execs body env) (InvPostG h₀ env.locals (RgJ (rvLed P t1 t2 tb b S D oS news) rvPs (Str.ofString "k") [] m₀ (rvP x z) (i + 1)) own { s with heap := h, toks := tk } Q) E { s with heap := h, toks := tk })
    (done : ∀ (v : Int) (tv : Tok) (a : Int) (ta : Tok) (u : Str → Option Value) h tk, v = (x : Int) → Fr h₀ env.locals h (fun y => if y = Str.ofString "k" then u y else if y = Str.ofString "value" then some (.int v tv) else if ([] : List Str).contains y then u y else m₀ y) → News h₀ env.locals h ((S, oS) :: (D, dictOf [⟨PyData.keyHash P (Str.ofString "_data"), .str (Str.ofString "_data") t1, .bytes b tb⟩, ⟨PyData.keyHash P (Str.ofString "_at"), .str (Str.ofString "_at") t2, .int a ta⟩] 2) :: news) → Q .next { s with heap := h, toks := tk }) :
    wpAny (model prog w) A (pyIter (.ref r)) (fun it s₂ => LoopAtV prog w A h₀ env (Str.ofString "k") body Q E it s₂) E s := by
  refine rg_for (rvLed P t1 t2 tb b S D oS news) rvPs [] (rvP x z) ⟨1, tv, a, ta⟩ hh hr hsmall hsz F N (fun _ h => h) ?_ ⟨?_, ?_⟩ ?_ ?_
  · intro q hq
    rw [List.mem_singleton.mp hq]
    exact hv
  · show (1 : Int) = ((x / 2 ^ (z - 0) : Nat) : Int)
    rw [Nat.sub_zero, top_bit h1 h2]; rfl
  · show a = (z : Int) + 1 + ((0 : Nat) : Int)
    omega
  · rintro ⟨v, tv, a, ta⟩ i t u h tk own hi ⟨p1, p2⟩ hoff F₁ N₁
    have p2' : a = (z : Int) + 1 + i := p2
    have e : a.toNat = z + (i + 1) := by omega
    exact turn v tv a ta i t u h tk own hi p1 p2' (by omega) (by rw [e]; exact strm_high x z (i + 1) (by omega)) (fun p hp => hoff p hp _ (.head _)) (fun p hp => hoff p hp _ (.tail _ (.head _))) (fun p hp q hq => hoff p hp q (.tail _ (.tail _ hq))) F₁ N₁
  · rintro ⟨v, tv, a, ta⟩ u h tk ⟨p1, p2⟩ F₁ N₁
    have p1' : v = ((x / 2 ^ (z - z) : Nat) : Int) := p1
    exact done v tv a ta u h tk (by rw [p1', Nat.sub_self, Nat.pow_zero, Nat.div_one]) F₁ N₁
theorem rv_next {x z i : Nat} {v y : Int} (hi : i < z) (hv : v = ((x / 2 ^ (z - i) : Nat) : Int)) (hy : y = ((x / 2 ^ (z - (i + 1)) % 2 : Nat) : Int)) : v * 2 + y = ((x / 2 ^ (z - (i + 1)) : Nat) : Int) := by
  have e : z - i = (z - (i + 1)) + 1 := by omega
  have e2 : x / 2 ^ (z - i) = x / 2 ^ (z - (i + 1)) / 2 := by rw [e, Nat.pow_succ, Nat.div_div_eq_div_mul]
  rw [hv, hy, e2]
  generalize x / 2 ^ (z - (i + 1)) = m
  omega
theorem rv_end {m₀ m' : Str → Option Value} {P : Params} {t1 t2 tb tv' ta' : Tok} {b : Array UInt8} {S D : Addr} {oS : Obj} {news own : List (Addr × Obj)} {x z i : Nat} {v y a : Int} {s₁ : Shared} {h' : Heap} {tk : Nat}
    (F : Fr h₀ L h' m') (N : News h₀ L h' ((S, oS) :: (D, dictOf [⟨PyData.keyHash P (Str.ofString "_data"), .str (Str.ofString "_data") t1, .bytes b tb⟩, ⟨PyData.keyHash P (Str.ofString "_at"), .str (Str.ofString "_at") t2, .int (a + 1) ta'⟩] 2) :: (news ++ own)))
    (hm : m' (Str.ofString "value") = some (.int (v * 2 + y) tv')) (hr : ∀ q, q ≠ Str.ofString "k" → (∀ p ∈ [(Str.ofString "value", Value.int (v * 2 + y) tv')], q ≠ p.1) → ([] : List Str).contains q = false → m' q = m₀ q)
    (o1 : ∀ p ∈ own, p.1 ≠ S) (o2 : ∀ p ∈ own, p.1 ≠ D) (o3 : ∀ p ∈ own, ∀ q ∈ news, p.1 ≠ q.1) (hi : i < z) (hv : v = ((x / 2 ^ (z - i) : Nat) : Int)) (ha : a = (z : Int) + 1 + i) (hy : y = ((x / 2 ^ (z - (i + 1)) % 2 : Nat) : Int)) :
    InvEndG h₀ L (RgJ (rvLed P t1 t2 tb b S D oS news) rvPs (Str.ofString "k") [] m₀ (rvP x z) (i + 1)) own s₁ { s₁ with heap := h', toks := tk } := by
  refine rg_end (c' := ⟨v * 2 + y, tv', a + 1, ta'⟩) F N ?_ ?_ ?_ ?_ hr ⟨rv_next hi hv hy, ?_⟩
  · intro p hp
    rcases List.mem_cons.mp hp with rfl | hp
    · exact .head _
    · rcases List.mem_cons.mp hp with rfl | hp
      · exact .tail _ (.head _)
      · exact .tail _ (.tail _ (List.mem_append.mpr (.inl hp)))
  · exact fun p hp => .tail _ (.tail _ (List.mem_append.mpr (.inr hp)))
  · intro p hp q hq
    rcases List.mem_cons.mp hq with rfl | hq
    · exact o1 p hp
    · rcases List.mem_cons.mp hq with rfl | hq
      · exact o2 p hp
      · exact o3 p hp q hq
  · intro q hq
    rw [List.mem_singleton.mp hq]
    exact hm
  · show a + 1 = (z : Int) + 1 + ((i + 1 : Nat) : Int)
    omega
end
theorem pred_cast {k : Nat} (h : 1 ≤ k) : (k : Int) - 1 = ((k - 1 : Nat) : Int) := by omega
theorem first_bits {k : Nat} (h : 1 ≤ k) : [] ++ le (0 : Int).toNat ((k : Int) - 1).toNat = List.replicate (k - 1) 0 := by
  have e : ((k : Int) - 1).toNat = k - 1 := by omega
  rw [e, List.nil_append]
  exact le_zero _
theorem strm_of {bs : List Nat} {x z c : Nat} {p : Int} (hb : bs = List.replicate z 0 ++ msb x z c) (hp : p = (z : Int) - c) (hc : c ≤ z + 1) (hn : ¬ 0 ≤ p) : bs = strm x z := by
  have e : c = z + 1 := by omega
  rw [hb, e]; rfl
theorem strm_room {x z : Nat} {a : Int} (h : a ≤ 2 * (z : Int)) : a < 8 * ((((strm x z).length + 7) / 8 : Nat) : Int) := by
  rw [strm_len]; omega
theorem nat_low {X : Int} {k : Nat} (h : (2 : Int) ^ (k - 1) ≤ X) : 2 ^ (k - 1) ≤ X.toNat := by
  rw [← pow_cast] at h; omega
theorem nat_high {X : Int} {k : Nat} (hk : 1 ≤ k) (h : X < 2 ^ (k : Int).toNat) : X.toNat < 2 ^ (k - 1 + 1) := by
  rw [Int.toNat_natCast, ← pow_cast] at h
  have e : k - 1 + 1 = k := by omega
  have := Nat.two_pow_pos k
  rw [e]; omega
theorem bit_lt {X : Int} {y : Nat} (h : X = ((y % 2 : Nat) : Int)) : 0 ≤ X ∧ X < 2 ^ (1 : Int).toNat := by
  have : (2 : Int) ^ (1 : Int).toNat = 2 := by decide
  rw [this]; omega
theorem zero_lt_pow (c : Int) : (0 : Int) < 2 ^ c.toNat := by
  rw [← pow_cast]; exact Int.natCast_pos.mpr (Nat.two_pow_pos _)
theorem bit_lt2 {p : Int} {c z y : Nat} {X : Int} (h : p = -1 ∨ (0 ≤ p ∧ c ≤ z ∧ X = ((y % 2 : Nat) : Int))) (hp : 0 ≤ p) : 0 ≤ X ∧ X < 2 ^ (1 : Int).toNat := by
  rcases h with h | ⟨_, _, h⟩
  · omega
  · exact bit_lt h
theorem held_cv {bs : List Nat} {hv cv : Int} {vs : List Value} (h : BwHeld bs hv cv vs) : cv = ((bs.length % 8 : Nat) : Int) := h.2.2.1
theorem len_vs {prog : Program} {w : World} {A : Around} {E : Value → Shared → Prop} {s : Shared} {h₀ : Heap} {L D : Addr} {news : List (Addr × Obj)} {vs : List Value} {cn k : Nat} {Q : Value → Shared → Prop} (N : News h₀ L s.heap news) (hm : (D, listOf vs.toArray cn) ∈ news) (hl : vs.length = k) (hk : k < 1000000) (h : Q (.int (k : Nat) (s.toks + 1)) { s with toks := s.toks + 1 + 1 }) :
    wpAny (model prog w) A (call (.builtin "len") [.ref D]) Q E s :=
  KM.len_K N hm (by rw [List.size_toArray]; exact hl) (by omega) h
end Mine
local macro_rules | `(tactic| walk_at "mine ne") => `(tactic| ((try dsimp only); first | assumption | k_ne | (refine Ne.symm ?_; assumption)))
local macro_rules | `(tactic| walk_at "mine off") => `(tactic| first | exact List.forall_mem_nil _ | assumption | exact Mine.off_lt (by assumption) | exact Mine.off_gt (by assumption) | (refine' List.forall_mem_cons.mpr ⟨?a, ?b⟩; (case a => walk_at "mine ne"); (case b => walk_at "mine off")) | (refine' List.forall_mem_append.mpr ⟨?a, ?b⟩; (case a => walk_at "mine off"); (case b => walk_at "mine off")))
local macro_rules | `(tactic| walk_at "mine upd") => `(tactic| first | (refine' Upd.head ?a; (case a => walk_at "mine off")) | (refine' Upd.tail ?a ?b; (case a => walk_at "mine ne"); (case b => walk_at "mine upd")))
local macro_rules | `(tactic| walk_at "mine size") => `(tactic| ((try law_lens); (simp only [List.size_toArray, Array.size_push, Array.size_append, List.length_append, List.length_cons, List.length_nil, List.length_take, List.length_drop, List.length_replicate, sizeLine_eq]); omega))
local macro_rules | `(tactic| walk_at "call builtin:list.append") => `(tactic| (k_here; (with_reducible show wpAny _ _ (call (Value.builtin "list.append") [Value.ref _, _]) _ _ _); k_dflt (refine' append_K ?k1 ?k2 ?k3 ?_ ?z; (case k1 => k_asm); (case k2 => k_asm); (case k3 => walk_at "mine upd"); (case z => walk_at "mine size"); k_whole); intro h' F' N'; (try k_sweep)))
local macro_rules | `(tactic| walk_at "mine updF") => `(tactic| first | (refine' UpdF.head ?a; (case a => walk_at "mine off")) | (refine' UpdF.tail ?a ?b; (case a => walk_at "mine ne"); (case b => walk_at "mine updF")))
local macro_rules | `(tactic| walk_at "call builtin:list.extend") => `(tactic| (k_here; (with_reducible show wpAny _ _ (call (Value.builtin "list.extend") [Value.ref _, Value.ref _]) _ _ _); k_dflt (refine' Mine.extend_U ?k1 ?k2 ?kb ?k3 ?z ?_; (case k1 => k_asm); (case k2 => k_asm); (case kb => k_mem); (case k3 => walk_at "mine updF"); (case z => walk_at "mine size"); k_whole); intro h' n' F' N'; (try dsimp only at N'); (try k_sweep)))
local macro_rules | `(tactic| walk_at "setAttr ref") => `(tactic| (k_here; (with_reducible show wpAny _ _ (setAttr (Value.ref _) _ _) _ _ _); k_dflt (refine' set_dict ?k1 ?k2 ?k3 ?k4 ?k5 ?k6 ?k7 ?k8 ?k9 ?k10 ?k11 ?k12 ?k13 ?_; (case k1 => k_asm); (case k2 => k_asm); (case k3 => k_asm); (case k4 => k_inst); (case k5 => exact rfl); (case k6 => k_is); (case k7 => k_is); (case k8 => k_is); (case k9 => k_is); (case k10 => k_get); (case k11 => k_put); (case k12 => walk_at "mine upd"); (case k13 => exact Nat.le_of_ble_eq_true rfl); k_whole); intro h' F' N'; (try k_sweep)))
local macro_rules | `(tactic| walk_at "binaryOp RShift int int") => `(tactic| (k_here; (with_reducible refine Mine.rshift_fit ?ka ?kb ?_); (case ka => assumption); (case kb => assumption)))
local macro_rules | `(tactic| walk_at "exec While Compare cons nil") => `(tactic| (k_here; (rename Mine.BwHeld _ _ _ _ => kW); (have kO := Mine.bw_or kW (by assumption) (by assumption) (by assumption)); (obtain ⟨o1, o2, o3, o4, o5⟩ := kO); (rename Fr _ _ _ _ => lF'); (rename News _ _ _ _ => lN'); (with_unfolding_all refine' Mine.bw_while lF' lN' o4 o1 o2 o3 ?k5 ?_; (case k5 => (rw [List.length_append, Mine.le_len]; omega)); k_whole); (clear lF' lN' kW o1 o2 o3 o4); intro i9 hv9 th9 cv9 tc9 vs9 cn9 u9 h9 tk9 kI kL kH kC k8 kH0 kC0 kI2 kF kN; (try k_fold)))
local macro_rules | `(tactic| walk_at "KswEnd") => `(tactic| (k_here; (rename Fr _ _ _ _ => lF'); (rename News _ _ _ _ => lN'); with_unfolding_all (refine' Mine.bw_end lF' lN' ?k1 ?k2 ?k3 ?k4 ?k5 ?k6; (case k1 => ksw_same); (case k2 => assumption); (case k3 => assumption); (case k4 => assumption); (case k5 => assumption); (case k6 => omega))))
local macro_rules | `(tactic| walk_at "mine bits") => `(tactic| (
  unfold Mine.BwC
  intro bs S D O t1 t2 t3 th tc t u hv cv v c vs cn news hS hD hO n1 n2 n3 kW hv0 hc0 hc1 hv1 hbl
  have hv2 := Mine.lt64 hc1 hv1
  have hz := Mine.shr_zero hv0 hv1
  have hw := Mine.held_count kW
  obtain ⟨hw1, hw2, hw3, hw4, hw5⟩ := hw
  unfold Mine.Fun
  intro dp un gd cn cs a ccd cl outer A₀ base h₀ L m s Q E B F X N T hk hd hu hret
  replace N := Mine.news_split2 (D := D) (O := O) N hS hD hO
  have r1 := Mine.rest2_D (D := D) (O := O) (news := news)
  have r2 := Mine.rest2_O (D := D) (O := O) (news := news)
  clear hS hD hO
  refine wpAny_call ?_
  k_dflt cell_enter
  k_steps
  exact Mine.bw_ret hret (by assumption) (by assumption) (by assumption) (by assumption) (by assumption) (by assumption) (by assumption) (by assumption)))
local macro_rules | `(tactic| walk_at "mine bit") => `(tactic| (
  unfold Mine.RbC
  intro bs n S D t1 t2 tb ta b a0 news hS hD n1 kB kBb ha0 ha1 hn
  have kV := Mine.rb_val kBb ha0 ha1
  have kBl := Mine.bytesK_len bs n
  unfold Mine.Fun
  intro dp un gd cn cs a ccd cl outer A₀ base h₀ L m s Q E B F X N T hk hd hu hret
  replace N := Mine.news_split1 (D := D) N hS hD
  have r1 := Mine.rest2_D (D := D) (O := D) (news := news)
  clear hS hD
  refine wpAny_call ?_
  k_dflt cell_enter
  k_steps
  exact hret _ _ _ _ ⟨_, _, _, rfl, kV, rfl⟩ (by assumption) (Mine.news_join1 (by assumption))))
local macro_rules | `(tactic| walk_at "call type:bytes") => `(tactic| (k_here; (with_reducible show wpAny _ _ (call (Value.type "bytes") [Value.ref _]) _ _ _); (rename News _ _ _ _ => lN'); (try simp only [List.push_toArray] at lN'); k_dflt (refine' KBa.make_K ?kbaF ?kbaN ?kbah ?kbal ?kbai ?kbar ?kban ?_; (case kbaF => k_asm); (case kbaN => k_asm); (case kbah => rfl); (case kbal => exact News.isList (by k_asm) (by k_mem)); (case kbai => first | exact Mine.fin_more (by assumption) (by assumption) (by assumption) | exact Mine.fin_same (by assumption) (by assumption) (by assumption)); (case kbar => exact Mine.bytesK_in _ _); (case kban => (rw [Mine.bytesK_len]; omega)); k_whole); intro h' t' k' F' N' kbaIn))
local macro_rules | `(tactic| walk_at "subscriptTail Name Slice ref ref") => `(tactic| (k_here; (with_reducible show wpAny _ _ (subscriptTail _ (PySem.Expr.Slice none none none _) (Value.ref _) (Value.ref _)) _ _ _); (rename (IntsAre _ (Mine.bytesK _ _)) => kI9); k_dflt (refine' kmk_slice_ints ?F ?N ?l ?p ?q ?i ?m ?c ?_ ?s ?t ?z; (case F => k_asm); (case N => k_asm); (case i => exact kI9); (case l => exact News.isList (by k_asm) (by k_mem)); (case p => exact IsPart.none); (case q => exact IsPart.none); (case m => exact kmk_all kI9); (case c => exact rfl); (case s => with_unfolding_all rfl); (case t => kmk_pure); (case z => (rw [List.size_toArray, sizeLine_eq]; omega))); intro D' ws' h' F' N' l1 hI' hC' hL'; (try k_lt l1); (try k_sweep)))
local macro_rules | `(tactic| walk_at "mine finish") => `(tactic| (
  unfold Mine.FnC
  intro bs S D O t1 t2 t3 th tc hv cv vs cn news hS hD hO n1 n2 n3 kW hbl
  have hw := Mine.held_count kW
  obtain ⟨hw1, hw2, hw3, hw4, hw5⟩ := hw
  unfold Mine.Fun
  intro dp un gd cn cs a ccd cl outer A₀ base h₀ L m s Q E B F X N T hk hd hu hret
  have N0 := N
  have kI0 : IntsAre vs (Mine.bytesK bs (bs.length / 8)) := kW.1
  have kIl := Mine.bytesK_len bs (bs.length / 8)
  replace N := Mine.news_split2 (D := D) (O := O) N hS hD hO
  refine wpAny_call ?_
  k_dflt cell_enter
  k_steps
  all_goals exact hret _ _ _ _ ⟨_, _, rfl, rfl, KBa.ints_make (Mine.bytesK_in _ _)⟩ (by assumption) (Mine.news_back2 N0 hD hO (by assumption))))
set_option maxRecDepth 100000 in
set_option maxHeartbeats 8000000 in
theorem Mine.bw_ctr {w : World} {p : Program} {loose : List Str} {mean : ExcName → Option Value} {mg mb : Str → Option Value} : Mine.BwC 79 124 PySem.Challenge.rw_ui0507_12.row.prog w (Mine.hd.heap_39 w.params) p loose mean mg mb := by
  k_fill
  w_top off
  unfold Mine.BwC
  intro bs S D O t1 t2 t3 th tc t u hv cv v c vs cn news hS hD hO n1 n2 n3 kW hv0 hc0 hc1 hv1 hbl
  have hv2 := Mine.lt64 hc1 hv1
  have hz := Mine.shr_zero hv0 hv1
  have hw := Mine.held_count kW
  obtain ⟨hw1, hw2, hw3, hw4, hw5⟩ := hw
  unfold Mine.Fun
  intro dp un gd cn cs a ccd cl outer A₀ base h₀ L m s Q E B F X N T hk hd hu hret
  replace N := Mine.news_split2 (D := D) (O := O) N hS hD hO
  have r1 := Mine.rest2_D (D := D) (O := O) (news := news)
  have r2 := Mine.rest2_O (D := D) (O := O) (news := news)
  clear hS hD hO
  refine wpAny_call ?_
  k_dflt cell_enter
  k_steps
  exact Mine.bw_ret hret (by assumption) (by assumption) (by assumption) (by assumption) (by assumption) (by assumption) (by assumption) (by assumption)
set_option maxRecDepth 100000 in
set_option maxHeartbeats 8000000 in
theorem Mine.rb_ctr {w : World} {p : Program} {loose : List Str} {mean : ExcName → Option Value} {mg mb : Str → Option Value} : Mine.RbC 156 201 PySem.Challenge.rw_ui0507_12.row.prog w (Mine.hd.heap_39 w.params) p loose mean mg mb := by
  k_fill
  w_top off
  unfold Mine.RbC
  intro bs n S D t1 t2 tb ta b a0 news hS hD n1 kB kBb ha0 ha1 hn
  have kV := Mine.rb_val kBb ha0 ha1
  have kBl := Mine.bytesK_len bs n
  unfold Mine.Fun
  intro dp un gd cn cs a ccd cl outer A₀ base h₀ L m s Q E B F X N T hk hd hu hret
  replace N := Mine.news_split1 (D := D) N hS hD
  have r1 := Mine.rest2_D (D := D) (O := D) (news := news)
  clear hS hD
  refine wpAny_call ?_
  k_dflt cell_enter
  k_steps
  exact hret _ _ _ _ ⟨_, _, _, rfl, kV, rfl⟩ (by assumption) (Mine.news_join1 (by assumption))
set_option maxRecDepth 100000 in
set_option maxHeartbeats 8000000 in
theorem Mine.fn_ctr {w : World} {p : Program} {loose : List Str} {mean : ExcName → Option Value} {mg mb : Str → Option Value} : Mine.FnC 121 124 PySem.Challenge.rw_ui0507_12.row.prog w (Mine.hd.heap_39 w.params) p loose mean mg mb := by
  k_fill
  w_top off
  unfold Mine.FnC
  intro bs S D O t1 t2 t3 th tc hv cv vs cn news hS hD hO n1 n2 n3 kW hbl
  have hw := Mine.held_count kW
  obtain ⟨hw1, hw2, hw3, hw4, hw5⟩ := hw
  unfold Mine.Fun
  intro dp un gd cn cs a ccd cl outer A₀ base h₀ L m s Q E B F X N T hk hd hu hret
  have N0 := N
  have kI0 : IntsAre vs (Mine.bytesK bs (bs.length / 8)) := kW.1
  have kIl := Mine.bytesK_len bs (bs.length / 8)
  replace N := Mine.news_split2 (D := D) (O := O) N hS hD hO
  refine wpAny_call ?_
  k_dflt cell_enter
  k_steps
  all_goals exact hret _ _ _ _ ⟨_, _, rfl, rfl, KBa.ints_make (Mine.bytesK_in _ _)⟩ (by assumption) (Mine.news_back2 N0 hD hO (by assumption))
local macro_rules | `(tactic| walk_at "mine put") => `(tactic| ((rename News _ _ _ (Mine.put _ _ _) => kP); (repeat (first | rw [Mine.put_hit] at kP | rw [Mine.put_miss (by walk_at "mine ne")] at kP | rw [Mine.put_off (by walk_at "mine off")] at kP | rw [Mine.put_nil] at kP))))
local macro_rules | `(tactic| walk_at "exec While Constant cons nil") => `(tactic| (k_here; (rename Fr _ _ _ _ => lF'); (rename News _ _ _ _ => lN'); (with_unfolding_all refine' Mine.lw_while lF' lN' ?k1 ?k2 ?k3 ?k4 ?_; (case k1 => exact rfl); (case k2 => exact rfl); (case k3 => l_fact); (case k4 => l_fact); k_whole); (clear lF' lN'); intro k9 t9 u9 h9 tk9 kK kL kM kF kN; (try k_fold)))
local macro_rules | `(tactic| walk_at "KswEnd") => `(tactic| (k_here; (rename Fr _ _ _ _ => lF'); (rename News _ _ _ _ => lN'); with_unfolding_all (refine' Mine.lw_end lF' lN' ?k1 ?k2 ?k3 ?k4 ?k5; (case k1 => exact rfl); (case k2 => ksw_same); (case k3 => assumption); (case k4 => assumption); (case k5 => assumption))))
local macro_rules | `(tactic| walk_at "call builtin:int.bit_length") => `(tactic| (k_here; (with_reducible show wpAny _ _ (call (Value.builtin "int.bit_length") [Value.int _ _]) _ _ _); k_dflt (refine' Mine.call_bl ?k1 ?k2 ?k3 ?_; (case k3 => assumption); (case k1 => assumption); (case k2 => assumption); k_whole)))
local macro_rules | `(tactic| walk_at "call ref") => `(tactic| (k_here; (with_reducible show wpAny _ _ (call (Value.ref 79) [Value.ref _, Value.int _ _, Value.int _ _]) _ _ _); (k_dflt ((rename Mine.BwC _ _ _ _ _ _ _ _ _ _ => cL); refine' Mine.Fun.use ?kC ?k1 ?k2 ?k3 ?k4 ?k5 ?kK ?kd ?ku ?_; (case k2 => k_asm); (case k4 => k_asm); (case kC => (refine' cL _ _ _ _ _ _ _ _ _ _ _ _ _ _ _ _ _ _ ?l1 ?l2 ?l3 ?l4 ?l5 ?l6 ?l7 ?l8 ?l9 ?la ?lb ?lc; (case l1 => k_mem); (case l2 => k_mem); (case l3 => k_mem); (case l4 => walk_at "mine ne"); (case l5 => walk_at "mine ne"); (case l6 => walk_at "mine ne"); (case l7 => first | assumption | exact Mine.bw_new); (case l8 => first | exact Int.le_refl _ | (exact (Mine.bit_lt2 (by assumption) (by assumption)).1)); (case l9 => omega); (case la => omega); (case lb => first | exact Mine.zero_lt_pow _ | (exact (Mine.bit_lt2 (by assumption) (by assumption)).2)); (case lc => first | exact Nat.zero_le _ | ((rename (List.length _ = List.length _ + _) => kq9); (rw [List.length_replicate] at kq9); omega)))); (case k1 => k_asm); (case k3 => k_asm); (case k5 => k_asm); (case kK => first | exact rfl | assumption); (case kd => ktr_room); (case ku => ktr_units); k_whole); intro r9 news9 h9 tk9 hR F9 N9; (unfold Mine.BwOut at hR); (obtain ⟨hv9, th9, cv9, tc9, vs9, cn9, e1, e2, kW9⟩ := hR); (subst e1); (subst e2); (walk_at "mine put"); (try rw [Mine.first_bits (by assumption)] at kW9); (try k_sweep))))
local macro_rules | `(tactic| walk_at "exec While Compare cons nil") => `(tactic| (k_here; (rename Fr _ _ _ _ => lF'); (rename News _ _ _ _ => lN'); (with_unfolding_all refine' Mine.cd_while lF' lN' ?k1 ?k2 ?k3 ?k4 ?k5 ?_; (case k1 => exact rfl); (case k2 => exact rfl); (case k3 => exact (Int.toNat_of_nonneg (by l_fact)).symm); (case k4 => exact Mine.pred_cast (by assumption)); (case k5 => assumption); k_whole); (clear lF' lN'); intro p9 t9 c9 bs9 hv9 th9 cv9 tc9 vs9 cn9 u9 h9 tk9 kQ1 kQ2 kQ3 kQ4 kW9 kB9 kF kN; (try k_fold)))
local macro_rules | `(tactic| walk_at "KswEnd") => `(tactic| (k_here; (rename Fr _ _ _ _ => lF'); (rename News _ _ _ _ => lN'); (rename (_ = -1 ∨ _) => kH'); (rcases kH' with kH' | kH'; · (exfalso; omega)); (obtain ⟨kh1, kh2, kh3⟩ := kH'); with_unfolding_all (refine' Mine.cd_end lF' lN' ?k1 ?k2 ?k3 ?k4 ?k5 ?k6 ?k7; (case k1 => exact rfl); (case k2 => ksw_same); (case k3 => assumption); (case k4 => assumption); (case k5 => assumption); (case k6 => assumption); (case k7 => assumption))))
local macro_rules | `(tactic| walk_at "call ref") => `(tactic| (k_here; (with_reducible show wpAny _ _ (call (Value.ref 121) _) _ _ _); ((rename (_ = _ ++ Mine.msb _ _ _) => kE9); (have kS9 := Mine.strm_of kE9 (by assumption) (by assumption) (by assumption)); (subst kS9); (clear kE9); (rename Mine.BwHeld (Mine.strm _ _) _ _ _ => kW8); (have kw8 := Mine.held_count kW8); (have kc8 := Mine.held_cv kW8); (obtain ⟨kw1, kw2, kw3, kw4, kw5⟩ := kw8); (rw [Mine.strm_len] at kw5 kc8); k_dflt ((rename Mine.FnC _ _ _ _ _ _ _ _ _ _ => cL); refine' Mine.Fun.use ?kC ?k1 ?k2 ?k3 ?k4 ?k5 ?kK ?kd ?ku ?_; (case k2 => k_asm); (case k4 => k_asm); (case kC => (refine' cL _ _ _ _ _ _ _ _ _ _ _ _ _ _ ?l1 ?l2 ?l3 ?l4 ?l5 ?l6 ?l7 ?l8; (case l1 => k_mem); (case l2 => k_mem); (case l3 => k_mem); (case l4 => walk_at "mine ne"); (case l5 => walk_at "mine ne"); (case l6 => walk_at "mine ne"); (case l7 => exact kW8); (case l8 => (rw [Mine.strm_len]; omega)))); (case k1 => k_asm); (case k3 => k_asm); (case k5 => k_asm); (case kK => first | exact rfl | assumption); (case kd => ktr_room); (case ku => ktr_units); k_whole); intro r9 news9 h9 tk9 hR F9 N9; (unfold Mine.FnOut at hR); (obtain ⟨b9, t9, e1, e2, kB9⟩ := hR); (subst e1); (subst e2); (try k_sweep))))
local macro_rules | `(tactic| walk_at "call ref") => `(tactic| (k_here; (with_reducible show wpAny _ _ (call (Value.ref 156) _) _ _ _); (k_dflt ((rename Mine.RbC _ _ _ _ _ _ _ _ _ _ => cL); refine' Mine.Fun.use ?kC ?k1 ?k2 ?k3 ?k4 ?k5 ?kK ?kd ?ku ?_; (case k2 => k_asm); (case k4 => k_asm); (case kC => (refine' cL _ _ _ _ _ _ _ _ _ _ _ ?l1 ?l2 ?l3 ?l4 ?l5 ?l6 ?l7 ?l8; (case l1 => k_mem); (case l2 => k_mem); (case l3 => walk_at "mine ne"); (case l4 => assumption); (case l5 => exact Mine.strm_bits _ _); (case l6 => omega); (case l7 => exact Mine.strm_room (by omega)); (case l8 => (rw [Mine.strm_len]; omega)))); (case k1 => k_asm); (case k3 => k_asm); (case k5 => k_asm); (case kK => first | exact rfl | assumption); (case kd => ktr_room); (case ku => ktr_units); k_whole); intro r9 news9 h9 tk9 hR F9 N9; (unfold Mine.RbOut at hR); (obtain ⟨y9, t9, ta9, e1, e2, e3⟩ := hR); (subst e1); (subst e3); (walk_at "mine put"); (try k_sweep))))
local macro_rules | `(tactic| walk_at "exec While Compare cons nil") => `(tactic| (k_here; (rename Fr _ _ _ _ => lF'); (rename News _ _ _ _ => lN'); (with_unfolding_all refine' Mine.rg_while lF' lN' ?k1 ?k2 ?k3 ?k4 ?_; (case k1 => exact rfl); (case k2 => assumption); (case k3 => exact Mine.nat_low (by assumption)); (case k4 => exact Mine.nat_high (by assumption) (by assumption)); k_whole); (clear lF' lN'); intro q9 t9 ta9 u9 h9 tk9 kR1 kR2 kF kN; (try k_fold)))
local macro_rules | `(tactic| walk_at "KswEnd") => `(tactic| (k_here; (rename Fr _ _ _ _ => lF'); (rename News _ _ _ _ => lN'); with_unfolding_all (refine' Mine.rgw_end lF' lN' ?k1 ?k2 ?k3; (case k1 => exact rfl); (case k2 => ksw_same); (case k3 => omega))))
local macro_rules | `(tactic| walk_at "exec For Name Call cons nil") => `(tactic| (k_here; (rename Fr _ _ _ _ => lF'); (with_unfolding_all refine' For_invVF lF' ?k1 ?k2 ?_; (case k1 => exact rfl); (case k2 => exact rfl); k_whole)))
local macro_rules | `(tactic| walk_at "pyIter ref") => `(tactic| (k_here; (with_reducible show wpAny _ _ (pyIter (Value.ref _)) (fun it s₂ => LoopAtV _ _ _ _ _ _ _ _ _ it s₂) _ _); ((rename Fr _ _ _ _ => lF'); (rename News _ _ _ _ => lN'); (rename IsRange _ _ _ _ _ _ _ _ => rgX); (with_unfolding_all refine' Mine.rv_for ?hh rgX ?hs ?hz lF' lN' ?k1 ?k2 ?k3 ?k4 ?k5 ?tn ?dn; (case hh => exact rfl); (case k2 => assumption); (case hs => exact small_one (by omega) (by omega) (by omega) (by omega)); (case hz => (rw [rangeSize_nat]; omega)); (case k1 => exact rfl); (case k3 => exact Mine.nat_low (by assumption)); (case k4 => exact Mine.nat_high (by assumption) (by assumption)); (case k5 => omega)); (all_goals (try clear lF' lN')); (case' tn => (intro v9 tv9 a9 ta9 i9 t9 u9 h9 tk9 own9 kV1 kV2 kV3 kV4 kV5 kO1 kO2 kO3 kF kN; (try k_fold))); (case' dn => (intro v9 tv9 a9 ta9 u9 h9 tk9 kV1 kF kN; (try k_unfold); (try dsimp only))))))
local macro_rules | `(tactic| walk_at "InvEndG") => `(tactic| (k_here; (rename Fr _ _ _ _ => lF'); (rename News _ _ _ _ => lN'); with_unfolding_all ((refine' Mine.rv_end lF' lN' ?k1 ?k2 ?k3 ?k4 ?k5 ?k6 ?k7 ?k8 ?k9; (case k1 => exact rfl); (case k2 => (intro q h1 h2 h3; (simp only [List.forall_mem_cons, List.not_mem_nil, false_implies, implies_true, and_true, ne_eq] at h2); (simp [h1, h2]; done))); (case k3 => assumption); (case k4 => assumption); (case k5 => assumption); (case k6 => assumption); (case k7 => assumption); (case k8 => assumption); (case k9 => omega)))))
local macro_rules | `(tactic| walk_at "call builtin:len") => `(tactic| (k_here; (with_reducible show wpAny _ _ (call (Value.builtin "len") [Value.ref _]) _ _ _); k_dflt (refine' Mine.len_vs ?k1 ?k2 ?k3 ?k4 ?_; (case k1 => k_asm); (case k2 => k_mem); (case k3 => assumption); (case k4 => omega); k_whole)))
set_option maxRecDepth 100000 in
set_option maxHeartbeats 8000000 in
theorem PySem.Challenge.cw_ui0507_12_holds : PySem.Challenge.rw_ui0507_12.Holds :=
  Mine.hd (by
  w_strict (k_go0; (all_goals try k_fold); (refine Mine.bring (fun prog w K p loose mean mg mb => Mine.BwC 79 124 prog w K p loose mean mg mb ∧ Mine.FnC 121 124 prog w K p loose mean mg mb ∧ Mine.RbC 156 201 prog w K p loose mean mg mb) (by assumption) (by assumption) ?ctr ?_); (case ctr => exact ⟨Mine.bw_ctr, Mine.fn_ctr, Mine.rb_ctr⟩); intro cW0; (obtain ⟨cW, cF, cR⟩ := cW0); k_steps; (all_goals (try k_data)); all_goals w_report))
