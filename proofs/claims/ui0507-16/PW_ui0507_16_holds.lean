import PyProof.Rows.All
import Wide.All
import OpenK.AllK
import Wide.FinOn
import PySem.Challenge.RW_ui0507_16
open PySem PySem.W PyProof.Rows PySem.Spec PySem.Calls
set_option Elab.async false
set_option compiler.extract_closed false
set_option genSizeOf false
set_option genInjectivity false
namespace Mine
/-- what a def does, wherever it is called: from the ledger news and the arguments vs it comes back with r and the ledger news' that R tells -/
def Fun (prog : Program) (w : World) (K : Frag) (p : Program) (loose : List Str) (mean : ExcName → Option Value) (mg mb : Str → Option Value) (k : Nat) (f : Addr) (vs : List Value) (news : List (Addr × Obj)) (R : Value → List (Addr × Obj) → Prop) : Prop :=
  ∀ (dp un : Nat) (gd : Option (List Code)) (cn : Str) (cs : Scope) (a : Addr) (ccd : Value) (cl : List (Str × Addr)) (outer : List Env) (A₀ : Around) (base h₀ : Heap) (L : Addr) (m : Str → Option Value) (s : Shared) (Q E : Value → Shared → Prop),
    Below A₀ base outer h₀ → Fr h₀ L s.heap m → K.In h₀ → News h₀ L s.heap news → Top p loose mean mg mb h₀ → cs.kind = .function → dp + k < recursionLimit → un + 8 * k < cLine →
    (∀ r news' h' tk', R r news' → Fr h₀ L h' m → News h₀ L h' news' → Q r { s with heap := h', toks := tk' }) →
    wpAny (model prog w) (ktrTop dp un gd cn cs L a ccd cl outer) (call (.ref f) vs) Q E s
theorem bring {α : Type} {prog : Program} {w : World} {A : Around} {tree : Sem α} {Q : α → Shared → Prop} {E : Value → Shared → Prop} {s : Shared} {K : Frag} {h₀ : Heap} {p : Program} {loose : List Str} {mean : ExcName → Option Value} {mg mb : Str → Option Value}
    (C : Program → World → Frag → Program → List Str → (ExcName → Option Value) → (Str → Option Value) → (Str → Option Value) → Prop) (_X : K.In h₀) (_T : Top p loose mean mg mb h₀) (ctr : C prog w K p loose mean mg mb) (h : C prog w K p loose mean mg mb → wpAny (model prog w) A tree Q E s) : wpAny (model prog w) A tree Q E s := h ctr
section
variable {prog : Program} {w : World} {A : Around} {E : Value → Shared → Prop} {s : Shared} {env : Env} {h₀ : Heap} {target : Expr} {body : List Stmt} {Q : Flow → Shared → Prop}
/-- a for over a list of the ledger's, its target whatever it is -/
theorem turns_list {l : Addr} {vs : List Value} {nn : Nat} {m₀ : Str → Option Value} {news : List (Addr × Obj)} (J : Nat → (Str → Option Value) → List (Addr × Obj) → Prop)
    (hh : A.handled = none) (hl : (l, listOf vs.toArray nn) ∈ news) (F : Fr h₀ env.locals s.heap m₀) (N : News h₀ env.locals s.heap news) (hj : J 0 m₀ news) (hJl : ∀ i m nx, J i m nx → (l, listOf vs.toArray nn) ∈ nx)
    (turn : ∀ i v m₁ news₁ h tk own, vs[i]? = some v → OwnOff own (news₁.map (·.1)) → J i m₁ news₁ → Fr h₀ env.locals h m₁ → News h₀ env.locals h (news₁ ++ own) →
      wpAny (model prog w) A (assign target env v) (fun _ s₃ => wpAny (model prog w) A (execs body env) (InvPostG h₀ env.locals (J (i + 1)) own { s with heap := h, toks := tk } Q) E s₃) E { s with heap := h, toks := tk })
    (done : ∀ m₁ news₁ h tk, J vs.length m₁ news₁ → Fr h₀ env.locals h m₁ → News h₀ env.locals h news₁ → Q .next { s with heap := h, toks := tk }) :
    wpAny (model prog w) A (pyIter (.ref l)) (fun it s₂ => TurnsAt prog w A h₀ env target body Q E it s₂) E s := by
  have hol : s.heap.get? l = some (listOf vs.toArray nn) := (N _ hl).1
  have hls : s.heap.IsList l vs.toArray := ⟨_, hol, rfl, nn, rfl⟩
  have hne : l ≠ s.heap.objs.size := Nat.ne_of_lt (Heap.lt_size hol)
  refine wpAny_pyIter_list hls ?_
  have W := Walks.list (prog := prog) (w := w) hh s.heap.objs.size l hne vs.toArray
  have hlen : vs.toArray.size = vs.length := by simp
  rw [hlen] at W
  refine ⟨_, _, _, vs.length, _, _, _, m₀, news, J, rfl, KTurns.ofWalks W fun i v s Q E st q => letGo_listiter st.1 q, ?_, ?_, ?_, ⟨⟨_, Heap.get?_push_size _ rfl, rfl, rfl⟩, hls.at fun o e => Heap.get?_push_of_some _ e⟩, F.push _, (fun p hp => ⟨Heap.get?_push_of_some _ (N p hp).1, (N p hp).2⟩), hj, ?_, ?_⟩
  · intro hm
    rcases List.mem_cons.mp hm with e | hm
    · exact absurd F.ns.lt (e ▸ Nat.lt_irrefl _)
    · exact (N _ hl).2.1 ((List.mem_singleton.mp hm).symm)
  · intro b hb
    rw [List.mem_singleton.mp hb]
    exact next_is_new F
  · intro p hp hI
    exact absurd (Heap.lt_size (N p hp).1) ((List.mem_singleton.mp hI) ▸ Nat.lt_irrefl _)
  · intro i v m₁ news₁ hh' tk' own hin hP hJ hoff hown hget hfp hst F₁ N₁
    have hl₁ := hJl _ _ _ hJ
    have hP' : vs[i]? = some v := by simpa using hP
    have hI0 : h₀.get? s.heap.objs.size = none := next_is_new F
    obtain ⟨⟨oI, hoI, _⟩, _⟩ := id hst
    have hIown : (s.heap.objs.size, oI) ∈ own.filter fun p => decide (p.1 = s.heap.objs.size) := List.mem_filter.mpr ⟨hfp _ (List.mem_cons.mpr (.inl rfl)) hI0 _ hoI, by simp⟩
    have hsep : OwnOff (own.filter fun p => decide (p.1 = s.heap.objs.size)) (news₁.map (·.1)) := by
      intro p hp b hb e
      obtain ⟨q, hq, rfl⟩ := List.mem_map.mp hb
      have h1 : p.1 = s.heap.objs.size := by simpa using (List.mem_filter.mp hp).2
      exact hoff q hq (List.mem_singleton.mpr (e ▸ h1))
    have N₂ : News h₀ env.locals hh' (news₁ ++ own.filter fun p => decide (p.1 = s.heap.objs.size)) := fun p hp => N₁ p ((List.mem_append.mp hp).elim (fun h => List.mem_append.mpr (.inr h)) fun h => List.mem_append.mpr (.inl ((List.mem_filter.mp h).1)))
    have hlo : hh'.get? l = some (listOf vs.toArray nn) := (N₁ _ (List.mem_append.mpr (.inr hl₁))).1
    refine wpAny_mono (turn i v m₁ news₁ hh' tk' _ hP' hsep hJ F₁ N₂) (fun _ s₃ p3 => wpAny_mono p3 (fun f s₂ p => ?_) fun _ _ e => e) fun _ _ e => e
    have fin : InvEndG h₀ env.locals (J (i + 1)) (own.filter fun p => decide (p.1 = s.heap.objs.size)) { s with heap := hh', toks := tk' } s₂ →
        LoopStepU h₀ env.locals [s.heap.objs.size] own (J (i + 1)) { s with heap := hh', toks := tk' } .next s₂ := by
      rintro ⟨h', tk, m', news', nx, e, F', N', hn, ho, ha, hm⟩
      refine ⟨rfl, h', tk, m', nx, e, F', fun p hp => ?_, fun p hp hq => ?_, hm⟩
      · rcases List.mem_append.mp hp with h | h
        · by_cases hI : p.1 = s.heap.objs.size
          · exact N' p (ho p (List.mem_filter.mpr ⟨h, by simpa using hI⟩))
          · have h1 : p.1 = l := by
              rcases List.mem_cons.mp (hown p h) with h2 | h2
              · exact absurd h2 hI
              · exact List.mem_singleton.mp h2
            have h2 : hh'.get? p.1 = some p.2 := hget p h
            rw [h1, hlo] at h2
            have h3 : p = (l, listOf vs.toArray nn) := Prod.ext h1 (Option.some.inj h2).symm
            rw [h3]
            exact N' _ (hn _ (hJl _ _ _ hm))
        · exact N' p (hn p h)
      · exact ha _ hIown p.1 (List.mem_map.mpr ⟨p, hp, rfl⟩) (List.mem_singleton.mp hq).symm
    cases f with
    | ret v => exact p
    | brk => exact p
    | next => exact fin p
    | cont => exact fin p
  · rintro h' tk m' news' F' N' _ hJ
    exact done m' news' h' tk hJ F' N'
end
section
variable {prog : Program} {w : World} {K : Frag} {p : Program} {loose : List Str} {mean : ExcName → Option Value} {mg mb : Str → Option Value} {k : Nat} {f : Addr} {vs : List Value} {news : List (Addr × Obj)} {R : Value → List (Addr × Obj) → Prop}
theorem Fun.use {dp un : Nat} {gd : Option (List Code)} {cn : Str} {cs : Scope} {a : Addr} {ccd : Value} {cl : List (Str × Addr)} {outer : List Env} {A₀ : Around} {base h₀ : Heap} {L : Addr} {m : Str → Option Value} {s : Shared} {Q E : Value → Shared → Prop}
    (C : Fun prog w K p loose mean mg mb k f vs news R) (B : Below A₀ base outer h₀) (F : Fr h₀ L s.heap m) (X : K.In h₀) (N : News h₀ L s.heap news) (T : Top p loose mean mg mb h₀) (hk : cs.kind = .function) (hd : dp + k < recursionLimit) (hu : un + 8 * k < cLine)
    (ret : ∀ r news' h' tk', R r news' → Fr h₀ L h' m → News h₀ L h' news' → Q r { s with heap := h', toks := tk' }) :
    wpAny (model prog w) (ktrTop dp un gd cn cs L a ccd cl outer) (call (.ref f) vs) Q E s := C _ _ _ _ _ _ _ _ _ _ _ _ _ _ _ _ _ B F X N T hk hd hu ret
end
/-- Fun.use, its plain hypotheses found by themselves -/
theorem Fun.go {prog : Program} {w : World} {K : Frag} {p : Program} {loose : List Str} {mean : ExcName → Option Value} {mg mb : Str → Option Value} {k : Nat} {f : Addr} {vs : List Value} {news : List (Addr × Obj)} {R : Value → List (Addr × Obj) → Prop} {dp un : Nat} {gd : Option (List Code)} {cn : Str} {cs : Scope} {a : Addr} {ccd : Value} {cl : List (Str × Addr)} {outer : List Env} {A₀ : Around} {base h₀ : Heap} {L : Addr} {m : Str → Option Value} {s : Shared} {Q E : Value → Shared → Prop}
    (F : Fr h₀ L s.heap m) (N : News h₀ L s.heap news) (C : Fun prog w K p loose mean mg mb k f vs news R) (ret : ∀ r news' h' tk', R r news' → Fr h₀ L h' m → News h₀ L h' news' → Q r { s with heap := h', toks := tk' }) (B : Below A₀ base outer h₀ := by k_asm) (X : K.In h₀ := by k_asm) (T : Top p loose mean mg mb h₀ := by k_asm)
    (hk : cs.kind = .function := by first | exact rfl | assumption) (hd : dp + k < recursionLimit := by first | ktr_room | (simp only [depth_in1, depth_deeper, Around.mark_depth, depth_caller]; omega)) (hu : un + 8 * k < cLine := by walk_at "mine room") :
    wpAny (model prog w) (ktrTop dp un gd cn cs L a ccd cl outer) (call (.ref f) vs) Q E s := Fun.use C B F X N T hk hd hu ret
/-- the ledger with o at O -/
def put (O : Addr) (o : Obj) (news : List (Addr × Obj)) : List (Addr × Obj) := news.map fun p => if p.1 = O then (O, o) else p
section
variable {prog : Program} {w : World} {A : Around} {E : Value → Shared → Prop} {s : Shared} {h₀ : Heap} {L D b : Addr} {m : Str → Option Value} {news : List (Addr × Obj)} {its its2 : Array Value} {n n2 : Nat}
end
theorem off_lt {l : List (Addr × Obj)} {D : Addr} (h : ∀ p ∈ l, p.1 < D) : ∀ p ∈ l, p.1 ≠ D := fun p hp => Nat.ne_of_lt (h p hp)
theorem off_gt {l : List (Addr × Obj)} {D : Addr} (h : ∀ p ∈ l, D < p.1) : ∀ p ∈ l, p.1 ≠ D := fun p hp => Nat.ne_of_gt (h p hp)
/-- what holds ahead of turn i of a for -/
def RgJ {σ : Type} (Led : σ → List (Addr × Obj)) (ps : σ → List (Str × Value)) (x : Str) (stored : List Str) (m₀ : Str → Option Value) (P : Nat → σ → Prop) (i : Nat) (m : Str → Option Value) (nx : List (Addr × Obj)) : Prop :=
  ∃ c, nx = Led c ∧ P i c ∧ (∀ p ∈ ps c, m p.1 = some p.2) ∧ (∀ z, z ≠ x → (∀ p ∈ ps c, z ≠ p.1) → stored.contains z = false → m z = m₀ z)
theorem rg_end {σ : Type} {Led : σ → List (Addr × Obj)} {ps : σ → List (Str × Value)} {x : Str} {stored : List Str} {m₀ m' : Str → Option Value} {P : Nat → σ → Prop} {i : Nat} {h₀ h' : Heap} {L : Addr} {own news' : List (Addr × Obj)} {s₁ : Shared} {tk : Nat} (c' : σ)
    (F : Fr h₀ L h' m') (N : News h₀ L h' news') (hn : ∀ p ∈ Led c', p ∈ news') (ho : ∀ p ∈ own, p ∈ news') (ha : ∀ p ∈ own, ∀ q ∈ Led c', p.1 ≠ q.1) (hk : ∀ p ∈ ps c', m' p.1 = some p.2) (hr : ∀ z, z ≠ x → (∀ p ∈ ps c', z ≠ p.1) → stored.contains z = false → m' z = m₀ z) (hp : P i c') :
    InvEndG h₀ L (RgJ Led ps x stored m₀ P i) own s₁ { s₁ with heap := h', toks := tk } :=
  InvEndG.intro F N ⟨c', rfl, hp, hk, hr⟩ (fun p hp b hb => by obtain ⟨q, hq, rfl⟩ := List.mem_map.mp hb; exact ha p hp q hq) hn ho
section
variable {prog : Program} {w : World} {A : Around} {E : Value → Shared → Prop} {s : Shared} {env : Env} {h₀ : Heap} {x : Str} {body : List Stmt} {Q : Flow → Shared → Prop}
/-- a for over a range -/
theorem rg_for {σ : Type} {r : Addr} {a₀ b₀ : Int} {t₀ u₀ v₀ : Tok} {n : Nat} {m₀ : Str → Option Value} {news : List (Addr × Obj)} (Led : σ → List (Addr × Obj)) (ps : σ → List (Str × Value)) (stored : List Str) (P : Nat → σ → Prop) (c₀ : σ)
    (hh : A.handled = none) (hr : IsRange s.heap r a₀ b₀ 1 t₀ u₀ v₀) (hsmall : Builtin.Range.small a₀ b₀ 1 = true) (hsz : Builtin.Range.rangeSize a₀ b₀ 1 = (n : Int)) (F : Fr h₀ env.locals s.heap m₀) (N : News h₀ env.locals s.heap news) (hn : ∀ p ∈ Led c₀, p ∈ news) (hk : ∀ p ∈ ps c₀, m₀ p.1 = some p.2) (hp : P 0 c₀)
    (turn : ∀ (c : σ) (i : Nat) t (u : Str → Option Value) h tk own, i < n → P i c → (∀ p ∈ own, ∀ q ∈ Led c, p.1 ≠ q.1) →
      Fr h₀ env.locals h (fun y => if y = x then some (.int (a₀ + i) t) else kstB (fun z => if stored.contains z then u z else m₀ z) (ps c) y) → News h₀ env.locals h (Led c ++ own) →
      wpAny (model prog w) A (execs body env) (InvPostG h₀ env.locals (RgJ Led ps x stored m₀ P (i + 1)) own { s with heap := h, toks := tk } Q) E { s with heap := h, toks := tk })
    (done : ∀ (c : σ) (u : Str → Option Value) h tk, P n c → Fr h₀ env.locals h (fun y => if y = x then u y else kstB (fun z => if stored.contains z then u z else m₀ z) (ps c) y) → News h₀ env.locals h (Led c) → Q .next { s with heap := h, toks := tk }) :
    wpAny (model prog w) A (pyIter (.ref r)) (fun it s₂ => LoopAtV prog w A h₀ env x body Q E it s₂) E s := by
  refine wpAny_pyIter_range hr hsmall ?_
  have W : Walks prog w A s.heap.objs.size [s.heap.objs.size] [s.heap.objs.size] n (fun i v => i < n ∧ ∃ t, v = .int (a₀ + i * 1) t)
      (fun i h => IsRangeIter h s.heap.objs.size (a₀ + (i : Nat) * 1) ((n : Int) - (i : Nat)) 1) := (Walks.range hh _ a₀ 1 n).bound
  refine kdr_loop (RgJ Led ps x stored m₀ P) W (fun _ h => h) (fun _ h => h) ?_ ?_ ?_ ?_ (by show IsRangeIter _ _ _ _ _; rw [hsz]; simpa using Heap.get?_push_size _ rfl) (F.push _) (fun p hp => ⟨Heap.get?_push_of_some _ (N p (hn p hp)).1, (N p (hn p hp)).2⟩) ⟨c₀, rfl, hp, hk, fun _ _ _ _ => rfl⟩ ?_ ?_
  · intro i h hi b hb
    rw [List.mem_singleton.mp hb]
    exact ⟨_, hi⟩
  · intro hm
    exact absurd F.ns.lt ((List.mem_singleton.mp hm) ▸ Nat.lt_irrefl _)
  · intro b hb
    rw [List.mem_singleton.mp hb]
    exact next_is_new F
  · intro p hp hI
    exact absurd (Heap.lt_size (N p (hn p hp)).1) ((List.mem_singleton.mp hI) ▸ Nat.lt_irrefl _)
  · rintro i v m₁ nx h tk own hi ⟨_, t, rfl⟩ hoff ⟨c, rfl, hp', h1, h2⟩ F₁ N₁
    have e1 : a₀ + (i : Int) * 1 = a₀ + (i : Int) := by omega
    rw [e1] at F₁
    exact turn c i t m₁ h tk own hi hp' (fun p hp q hq => hoff p hp q.1 (List.mem_map.mpr ⟨q, hq, rfl⟩)) (kst_fr h1 h2 F₁) N₁
  · rintro m₁ nx h tk ⟨c, rfl, hp', h1, h2⟩ F₁ N₁
    exact done c m₁ h tk hp' (kst_frOut h1 h2 F₁) N₁
/-- a for over a list of the ledger's, by a name -/
theorem ls_for {σ : Type} {l : Addr} {vs : List Value} {nn : Nat} {m₀ : Str → Option Value} {news : List (Addr × Obj)} (Led : σ → List (Addr × Obj)) (ps : σ → List (Str × Value)) (stored : List Str) (P : Nat → σ → Prop) (c₀ : σ)
    (hh : A.handled = none) (hl : (l, listOf vs.toArray nn) ∈ news) (hlL : ∀ c, (l, listOf vs.toArray nn) ∈ Led c) (F : Fr h₀ env.locals s.heap m₀) (N : News h₀ env.locals s.heap news) (hn : ∀ p ∈ Led c₀, p ∈ news) (hk : ∀ p ∈ ps c₀, m₀ p.1 = some p.2) (hp : P 0 c₀)
    (turn : ∀ (c : σ) (i : Nat) v (u : Str → Option Value) h tk own, vs[i]? = some v → P i c → (∀ p ∈ own, ∀ q ∈ Led c, p.1 ≠ q.1) →
      Fr h₀ env.locals h (fun y => if y = x then some v else kstB (fun z => if stored.contains z then u z else m₀ z) (ps c) y) → News h₀ env.locals h (Led c ++ own) →
      wpAny (model prog w) A (execs body env) (InvPostG h₀ env.locals (fun m' nx => (l, listOf vs.toArray nn) ∈ nx ∧ RgJ Led ps x stored m₀ P (i + 1) m' nx) own { s with heap := h, toks := tk } Q) E { s with heap := h, toks := tk })
    (done : ∀ (c : σ) (u : Str → Option Value) h tk, P vs.length c → Fr h₀ env.locals h (fun y => if y = x then u y else kstB (fun z => if stored.contains z then u z else m₀ z) (ps c) y) → News h₀ env.locals h (Led c) → Q .next { s with heap := h, toks := tk }) :
    wpAny (model prog w) A (pyIter (.ref l)) (fun it s₂ => LoopAtV prog w A h₀ env x body Q E it s₂) E s := by
  refine kdl_iter (RgJ Led ps x stored m₀ P) hh (hlL c₀) F (fun p hp => N p (hn p hp)) ⟨c₀, rfl, hp, hk, fun _ _ _ _ => rfl⟩ ?_ ?_
  · rintro i v m₁ nx h tk own hi hoff hm ⟨c, rfl, hp', h1, h2⟩ F₁ N₁
    exact turn c i v m₁ h tk own hi hp' (fun p hp q hq => hoff p hp q.1 (List.mem_map.mpr ⟨q, hq, rfl⟩)) (kst_fr h1 h2 F₁) N₁
  · rintro m₁ nx h tk ⟨c, rfl, hp', h1, h2⟩ F₁ N₁
    exact done c m₁ h tk hp' (kst_frOut h1 h2 F₁) N₁
theorem ls_end {σ : Type} {Led : σ → List (Addr × Obj)} {ps : σ → List (Str × Value)} {x : Str} {stored : List Str} {m₀ m' : Str → Option Value} {P : Nat → σ → Prop} {i : Nat} {h' : Heap} {L l : Addr} {ol : Obj} {own news' : List (Addr × Obj)} {s₁ : Shared} {tk : Nat} (c' : σ)
    (F : Fr h₀ L h' m') (N : News h₀ L h' news') (hn : ∀ p ∈ Led c', p ∈ news') (ho : ∀ p ∈ own, p ∈ news') (hl : (l, ol) ∈ Led c') (ha : ∀ p ∈ own, ∀ q ∈ Led c', p.1 ≠ q.1) (hk : ∀ p ∈ ps c', m' p.1 = some p.2) (hr : ∀ z, z ≠ x → (∀ p ∈ ps c', z ≠ p.1) → stored.contains z = false → m' z = m₀ z) (hp : P i c') :
    InvEndG h₀ L (fun m' nx => (l, ol) ∈ nx ∧ RgJ Led ps x stored m₀ P i m' nx) own s₁ { s₁ with heap := h', toks := tk } :=
  InvEndG.intro F N ⟨hl, c', rfl, hp, hk, hr⟩ (fun p hp b hb => by obtain ⟨q, hq, rfl⟩ := List.mem_map.mp hb; exact ha p hp q hq) hn ho
end
/-- the pairs that are counted, one by one -/
def cntL : List Int → List (Int × Int)
  | [] => []
  | [_] => []
  | [a, b] => [(a, b)]
  | a :: b :: c :: r => (a, b) :: (if a = b ∧ b = c then cntL (c :: r) else cntL (b :: c :: r))
/-- the row with b for each x y -/
def rpl (x y b : Int) : List Int → List Int
  | [] => []
  | [a] => [a]
  | a :: c :: r => if a = x ∧ c = y then b :: rpl x y b r else a :: rpl x y b (c :: r)
/-- how many are replaced -/
def rcn (x y : Int) : List Int → Nat
  | [] => 0
  | [_] => 0
  | a :: c :: r => if a = x ∧ c = y then rcn x y r + 1 else rcn x y (c :: r)
theorem rpl_len (x y b : Int) : ∀ l : List Int, (rpl x y b l).length + rcn x y l = l.length
  | [] => rfl
  | [_] => rfl
  | a :: c :: r => by
    unfold rpl rcn
    split
    · have := rpl_len x y b r; simp only [List.length_cons]; omega
    · have := rpl_len x y b (c :: r); simp only [List.length_cons] at this ⊢; omega
theorem rcn_cons (x y a : Int) : ∀ l : List Int, rcn x y l ≤ rcn x y (a :: l) ∧ rcn x y (a :: l) ≤ rcn x y l + 1
  | [] => by simp [rcn]
  | b :: l => by
    have ih := rcn_cons x y b l
    rw [show rcn x y (a :: b :: l) = if a = x ∧ b = y then rcn x y l + 1 else rcn x y (b :: l) from rfl]
    split <;> omega
theorem rcn_app (x y : Int) (l2 : List Int) : ∀ l1 : List Int, rcn x y l1 + rcn x y l2 ≤ rcn x y (l1 ++ l2)
  | [] => by simp [rcn]
  | [a] => by have := (rcn_cons x y a l2).1; simp [rcn]; omega
  | a :: b :: r => by
    show rcn x y (a :: b :: r) + _ ≤ rcn x y (a :: b :: (r ++ l2))
    rw [show rcn x y (a :: b :: r) = if a = x ∧ b = y then rcn x y r + 1 else rcn x y (b :: r) from rfl, show rcn x y (a :: b :: (r ++ l2)) = if a = x ∧ b = y then rcn x y (r ++ l2) + 1 else rcn x y (b :: (r ++ l2)) from rfl]
    split
    · have := rcn_app x y l2 r; omega
    · exact rcn_app x y l2 (b :: r)
theorem rcn_pow (x y : Int) (u t : List Int) (hu : 1 ≤ rcn x y u) : ∀ k : Nat, k ≤ rcn x y ((List.replicate k u).flatten ++ t)
  | 0 => Nat.zero_le _
  | k + 1 => by
    rw [List.replicate_succ, List.flatten_cons, List.append_assoc]
    have h1 := rcn_app x y ((List.replicate k u).flatten ++ t) u
    have h2 := rcn_pow x y u t hu k
    omega
theorem cnt_rcn (x y : Int) : ∀ l : List Int, (cntL l).count (x, y) = rcn x y l
  | [] => rfl
  | [_] => rfl
  | [a, b] => by
    simp only [cntL, rcn, List.count_cons, List.count_nil, beq_iff_eq, Prod.mk.injEq]
    split <;> simp
  | a :: b :: c :: r => by
    have h1 := cnt_rcn x y (c :: r)
    have h2 := cnt_rcn x y (b :: c :: r)
    rw [show rcn x y (a :: b :: c :: r) = if a = x ∧ b = y then rcn x y (c :: r) + 1 else rcn x y (b :: c :: r) from rfl]
    have h3 : rcn x y (b :: c :: r) = if b = x ∧ c = y then rcn x y r + 1 else rcn x y (c :: r) := rfl
    rw [show cntL (a :: b :: c :: r) = (a, b) :: (if a = b ∧ b = c then cntL (c :: r) else cntL (b :: c :: r)) from rfl, List.count_cons]
    by_cases hs : a = b ∧ b = c
    · rw [if_pos hs, h1]
      obtain ⟨rfl, rfl⟩ := hs
      by_cases hp : a = x ∧ a = y
      · obtain ⟨rfl, rfl⟩ := hp; simp
      · rw [if_neg hp, h3, if_neg hp]
        simp only [beq_iff_eq, Prod.mk.injEq]
        rw [if_neg hp]; rfl
    · rw [if_neg hs, h2]
      by_cases hp : a = x ∧ b = y
      · obtain ⟨rfl, rfl⟩ := hp
        have h4 : rcn a b (b :: c :: r) = rcn a b (c :: r) := by
          rw [h3, if_neg]
          rintro ⟨q1, q2⟩
          exact hs ⟨q1.symm, q2.symm⟩
        simp [h4]
      · rw [if_neg hp]
        simp only [beq_iff_eq, Prod.mk.injEq]
        rw [if_neg hp]; rfl
theorem cntL_mem : ∀ (l : List Int) (p : Int × Int), p ∈ cntL l → p.1 ∈ l ∧ p.2 ∈ l
  | [], _, h => (nomatch h)
  | [_], _, h => (nomatch h)
  | [a, b], p, h => by rw [List.mem_singleton.mp h]; simp
  | a :: b :: c :: r, p, h => by
    unfold cntL at h
    rcases List.mem_cons.mp h with rfl | h
    · simp
    · split at h
      · have := cntL_mem (c :: r) p h; exact ⟨.tail _ (.tail _ this.1), .tail _ (.tail _ this.2)⟩
      · have := cntL_mem (b :: c :: r) p h; exact ⟨.tail _ this.1, .tail _ this.2⟩
theorem cntL_len : ∀ l : List Int, (cntL l).length ≤ l.length - 1
  | [] => Nat.le_refl _
  | [_] => Nat.le_refl _
  | [a, b] => Nat.le_refl _
  | a :: b :: c :: r => by
    unfold cntL
    split
    · have := cntL_len (c :: r); simp only [List.length_cons] at this ⊢; omega
    · have := cntL_len (b :: c :: r); simp only [List.length_cons] at this ⊢; omega
theorem rpl_mem (x y b : Int) : ∀ (l : List Int) (v : Int), v ∈ rpl x y b l → v = b ∨ v ∈ l
  | [], _, h => (nomatch h)
  | [_], _, h => .inr h
  | a :: c :: r, v, h => by
    unfold rpl at h
    split at h
    · rcases List.mem_cons.mp h with h | h
      · exact .inl h
      · exact (rpl_mem x y b r v h).imp id fun h => .tail _ (.tail _ h)
    · rcases List.mem_cons.mp h with h | h
      · exact .inr (h ▸ .head _)
      · exact (rpl_mem x y b (c :: r) v h).imp id fun h => .tail _ h
/-- one rule undone -/
def lenOne (b x y : Int) (row : List Int) : List Int := row.flatMap fun v => if v = b then [x, y] else [v]
theorem lenOne_rpl (x y b : Int) : ∀ l : List Int, b ∉ l → lenOne b x y (rpl x y b l) = l
  | [], _ => rfl
  | [a], h => by
    have : a ≠ b := fun e => h (e ▸ .head _)
    simp [rpl, lenOne, this]
  | a :: c :: r, h => by
    have ha : a ≠ b := fun e => h (e ▸ .head _)
    unfold rpl
    split
    · rename_i e
      have ih := lenOne_rpl x y b r fun q => h (.tail _ (.tail _ q))
      unfold lenOne at ih ⊢
      rw [List.flatMap_cons, ih, if_pos rfl, e.1, e.2]; rfl
    · have ih := lenOne_rpl x y b (c :: r) fun q => h (.tail _ q)
      unfold lenOne at ih ⊢
      rw [List.flatMap_cons, ih, if_neg ha]; rfl
abbrev PRule := Int × Int × Int
def lenAll (rules : List PRule) (row : List Int) : List Int := rules.reverse.foldl (fun row r => lenOne r.1 r.2.1 r.2.2 row) row
theorem lenAll_snoc (rules : List PRule) (r : PRule) (row : List Int) : lenAll (rules ++ [r]) row = lenAll rules (lenOne r.1 r.2.1 r.2.2 row) := by simp [lenAll]
/-- how many bytes a sign stands for -/
def szUp (s : Int → Int) (r : PRule) : Int → Int := fun v => if v = r.1 then s r.2.1 + s r.2.2 else s v
def szAll (rules : List PRule) : Int → Int := rules.foldl szUp fun _ => 1
theorem szUp_rpl (s : Int → Int) (x y b : Int) : ∀ l : List Int, b ∉ l → ((rpl x y b l).map (szUp s (b, x, y))).sum = (l.map s).sum
  | [], _ => rfl
  | [a], h => by
    have : a ≠ b := fun e => h (e ▸ .head _)
    simp [rpl, szUp, this]
  | a :: c :: r, h => by
    have ha : a ≠ b := fun e => h (e ▸ .head _)
    unfold rpl
    split
    · rename_i e
      have ih := szUp_rpl s x y b r fun q => h (.tail _ (.tail _ q))
      simp only [List.map_cons, List.sum_cons] at ih ⊢
      rw [ih, e.1, e.2]
      simp only [szUp, if_true]
      omega
    · have ih := szUp_rpl s x y b (c :: r) fun q => h (.tail _ q)
      rw [List.map_cons, List.sum_cons, ih]
      simp only [szUp, if_neg ha, List.map_cons, List.sum_cons]
/-- what holds of rules and row between the rounds -/
structure PInv (data : List Int) (k : Nat) (rules : List PRule) (row : List Int) : Prop where
  back : lenAll rules row = data
  size : (row.map (szAll rules)).sum = (data.length : Int)
  bytes : ∀ v ∈ row, 0 ≤ v ∧ v < 256
  rbytes : ∀ r ∈ rules, (0 ≤ r.1 ∧ r.1 < 256) ∧ (0 ≤ r.2.1 ∧ r.2.1 < 256) ∧ (0 ≤ r.2.2 ∧ r.2.2 < 256)
  alph : ∃ al : List Int, al.length ≤ 5 + rules.length ∧ ∀ v ∈ row, v ∈ al
  first : rules.length = 0 → row = data
  len : row.length ≤ data.length
  len1 : 1 ≤ rules.length → row.length + k + 4 * (rules.length - 1) ≤ data.length
theorem pinv_start {data : List Int} {k : Nat} (hb : ∀ v ∈ data, 0 ≤ v ∧ v < 256) (ha : ∃ al : List Int, al.length ≤ 5 ∧ ∀ v ∈ data, v ∈ al) : PInv data k [] data := by
  refine ⟨rfl, ?_, hb, fun _ h => (nomatch h), by obtain ⟨al, h1, h2⟩ := ha; exact ⟨al, h1, h2⟩, fun _ => rfl, Nat.le_refl _, fun h => absurd h (by decide)⟩
  have e : szAll [] = fun _ => 1 := rfl
  rw [e]
  clear hb ha
  induction data with
  | nil => rfl
  | cons a r ih => rw [List.map_cons, List.sum_cons, ih, List.length_cons]; omega
theorem pinv_step {data : List Int} {k : Nat} {rules : List PRule} {row : List Int} (h : PInv data k rules row) {x y b : Int} (hb : b ∉ row) (hb0 : 0 ≤ b) (hb1 : b < 256) (hx : x ∈ row) (hy : y ∈ row)
    (h4 : 4 ≤ rcn x y row) (hk : rules.length = 0 → k ≤ rcn x y row) : PInv data k (rules ++ [(b, x, y)]) (rpl x y b row) := by
  have hl := rpl_len x y b row
  refine ⟨?_, ?_, ?_, ?_, ?_, fun e => ?_, ?_, fun _ => ?_⟩
  · rw [lenAll_snoc]; show lenAll rules (lenOne b x y _) = _; rw [lenOne_rpl x y b row hb, h.back]
  · have e : szAll (rules ++ [(b, x, y)]) = szUp (szAll rules) (b, x, y) := by simp [szAll]
    rw [e, szUp_rpl _ x y b row hb, h.size]
  · intro v hv
    rcases rpl_mem x y b row v hv with rfl | hv
    · exact ⟨hb0, hb1⟩
    · exact h.bytes v hv
  · intro r hr
    rcases List.mem_append.mp hr with hr | hr
    · exact h.rbytes r hr
    · rw [List.mem_singleton.mp hr]; exact ⟨⟨hb0, hb1⟩, h.bytes x hx, h.bytes y hy⟩
  · obtain ⟨al, h1, h2⟩ := h.alph
    refine ⟨b :: al, by simp only [List.length_cons, List.length_append, List.length_nil]; omega, fun v hv => ?_⟩
    rcases rpl_mem x y b row v hv with rfl | hv
    · exact .head _
    · exact .tail _ (h2 v hv)
  · simp at e
  · have := h.len; omega
  · rw [List.length_append, List.length_singleton]
    have h0 := h.len
    rcases Nat.eq_zero_or_pos rules.length with e | e
    · have := hk e; omega
    · have := h.len1 e; omega
/-- at most so many kinds of pairs -/
theorem nodup_sub_len {α : Type} [DecidableEq α] : ∀ {a b : List α}, a.Nodup → (∀ x ∈ a, x ∈ b) → a.length ≤ b.length
  | [], _, _, _ => Nat.zero_le _
  | x :: a, b, hn, h => by
    obtain ⟨hx, hn⟩ := List.nodup_cons.mp hn
    have hb := h x (.head _)
    have := nodup_sub_len (a := a) (b := b.erase x) hn fun y hy => (List.mem_erase_of_ne (fun e => hx (by rw [← e]; exact hy))).mpr (h y (.tail _ hy))
    rw [List.length_erase_of_mem hb] at this
    have := List.length_pos_of_mem hb
    simp only [List.length_cons]
    omega
theorem pinv_kinds {data : List Int} {k : Nat} {rules : List PRule} {row : List Int} (h : PInv data k rules row) (hd : data.length ≤ 72 + k) {ps : List (Int × Int)} (hn : ps.Nodup) (hp : ∀ p ∈ ps, p ∈ cntL row) : ps.length < 64 := by
  have h1 : ps.length ≤ row.length - 1 := Nat.le_trans (nodup_sub_len hn hp) (cntL_len row)
  rcases Nat.lt_or_ge rules.length 3 with h3 | h3
  · obtain ⟨al, a1, a2⟩ := h.alph
    have h2 : ps.length ≤ (al.flatMap fun x => al.map fun y => (x, y)).length := nodup_sub_len hn fun p hp' => by
      have := cntL_mem row p (hp p hp')
      exact List.mem_flatMap.mpr ⟨p.1, a2 _ this.1, List.mem_map.mpr ⟨p.2, a2 _ this.2, rfl⟩⟩
    have e : (al.flatMap fun x => al.map fun y => (x, y)).length = al.length * al.length := by
      rw [List.length_flatMap]
      have : ∀ l : List Int, (l.map fun x => (al.map fun y => (x, y)).length).sum = l.length * al.length := by
        intro l
        induction l with
        | nil => simp
        | cons a l ih => rw [List.map_cons, List.sum_cons, ih, List.length_map, List.length_cons, Nat.succ_mul]; omega
      exact this al
    rw [e] at h2
    have : al.length * al.length ≤ 7 * 7 := Nat.mul_le_mul (by omega) (by omega)
    omega
  · have := h.len1 (by omega)
    omega
/-- a number in groups of seven bits, the lowest first -/
def vint (n : Nat) : List Int := if n < 128 then [(n : Int)] else (128 + (n % 128 : Nat) : Int) :: vint (n / 128)
termination_by n
decreasing_by omega
theorem vint_small {n : Nat} (h : n < 128) : vint n = [(n : Int)] := by rw [vint, if_pos h]
theorem vint_big {n : Nat} (h : ¬ n < 128) : vint n = (128 + (n % 128 : Nat) : Int) :: vint (n / 128) := by rw [vint, if_neg h]
theorem vint_len : ∀ n : Nat, 0 < (vint n).length ∧ (vint n).length ≤ n + 1 := by
  intro n
  induction n using Nat.strongRecOn with
  | ind n ih =>
    by_cases h : n < 128
    · rw [vint_small h]; simp
    · rw [vint_big h, List.length_cons]
      have := ih (n / 128) (by omega)
      omega
/-- two numbers whose bits do not meet -/
theorem or_apart {a : Int} {b : Int} {k : Nat} (h0 : 0 ≤ a) (h1 : a < 2 ^ k) (hb : 0 ≤ b) : Builtin.bitOr a (b * 2 ^ k) = a + b * 2 ^ k := by
  obtain ⟨x, rfl⟩ := Int.eq_ofNat_of_zero_le h0
  obtain ⟨y, rfl⟩ := Int.eq_ofNat_of_zero_le hb
  have e : ((y : Int) * 2 ^ k) = ((y * 2 ^ k : Nat) : Int) := by simp
  have hx : x < 2 ^ k := by
    have e2 : ((2 ^ k : Nat) : Int) = (2 : Int) ^ k := by simp
    rw [← e2] at h1
    exact Int.ofNat_lt.mp h1
  rw [e, bitOr_and, bitAnd_pp (Int.natCast_nonneg _) (Int.natCast_nonneg _)]
  have z : x &&& y * 2 ^ k = 0 := by
    refine Nat.eq_of_testBit_eq fun i => ?_
    rw [Nat.testBit_and, Nat.zero_testBit]
    by_cases hi : i < k
    · rw [← Nat.shiftLeft_eq, Nat.testBit_shiftLeft]
      simp [Nat.not_le.mpr hi]
    · have hxi : x.testBit i = false := Nat.testBit_lt_two_pow (Nat.lt_of_lt_of_le hx (Nat.pow_le_pow_right (by decide) (by omega)))
      rw [hxi]; rfl
  rw [Int.toNat_natCast, Int.toNat_natCast, z]
  simp
theorem or_128 {x : Int} (h0 : 0 ≤ x) (h1 : x < 128) : Builtin.bitOr 128 x = 128 + x := by
  rw [bitOr_comm]
  have := or_apart (a := x) (b := 1) (k := 7) h0 (by simpa using h1) (by decide)
  simp at this
  rw [this]; omega
theorem vint_in : ∀ n : Nat, KBa.In (vint n) := by
  intro n
  induction n using Nat.strongRecOn with
  | ind n ih =>
    by_cases h : n < 128
    · rw [vint_small h]
      intro x hx
      rw [List.mem_singleton.mp hx]
      omega
    · rw [vint_big h]
      intro x hx
      rcases List.mem_cons.mp hx with rfl | hx
      · omega
      · exact ih (n / 128) (by omega) x hx
structure NbS where
  m : Nat
  t : Tok
  vs : List Value
  cn : Nat
  os : List Int
def nbLed (O : Addr) (news : List (Addr × Obj)) (c : NbS) : List (Addr × Obj) := (O, listOf c.vs.toArray c.cn) :: news
def nbPs (c : NbS) : List (Str × Value) := [(Str.ofString "number", .int c.m c.t)]
def nbFacts (c : NbS) : Prop := IntsAre c.vs c.os
def nbP (n : Nat) (c : NbS) : Prop := c.os ++ vint c.m = vint n
def nbMu (c : NbS) : Nat := c.m
theorem nb_len {n m : Nat} {os : List Int} (h : os ++ vint m = vint n) : (os.length : Int) ≤ n := by
  have h1 := congrArg List.length h
  have h2 := vint_len n
  have h3 := vint_len m
  rw [List.length_append] at h1
  omega
section
variable {prog : Program} {w : World} {A : Around} {E : Value → Shared → Prop} {Q : Flow → Shared → Prop} {s : Shared} {env : Env} {h₀ : Heap} {L : Addr}
theorem nb_while {test : Expr} {body : List Stmt} {pos : Pos} {m₀ : Str → Option Value} {x : Int} {news : List (Addr × Obj)} {O : Addr} {t : Tok}
    (F : Fr h₀ L s.heap m₀) (N : News h₀ L s.heap ((O, listOf #[] 0) :: news)) (hi : m₀ (Str.ofString "number") = some (.int x t)) (_hO : m₀ (Str.ofString "out") = some (.ref O)) (hx : 0 ≤ x)
    (turn : ∀ (m : Nat) (t : Tok) (vs : List Value) (cn : Nat) (os : List Int) (u : Str → Option Value) h tk,
      IntsAre vs os → vs.length = os.length → os ++ vint m = vint x.toNat → (os.length : Int) ≤ x.toNat →
      Fr h₀ L h (fun y => if y = Str.ofString "number" then some (.int m t) else if ([] : List Str).contains y then u y else m₀ y) → News h₀ L h ((O, listOf vs.toArray cn) :: news) →
      wpAny (model prog w) A (isTrue test env (eval test env)) (fun b s₂ =>
        if b = true then wpAny (model prog w) A (execs body env) (KswPost h₀ L s (nbLed O news) nbPs nbFacts [] m₀ (nbP x.toNat) nbMu Q ⟨m, t, vs, cn, os⟩) E s₂ else Q .next s₂) E { s with heap := h, toks := tk })
    (hE : PassesOwn (model prog w) A env E := by passes_own) :
    wpAny (model prog w) A (exec (.While test body [] pos) env) Q E s := by
  refine ksw_while (nbLed O news) nbPs nbFacts [] (nbP x.toNat) nbMu ⟨x.toNat, t, [], 0, []⟩ F N .nil ?_ rfl ?_ hE
  · intro p hp
    rw [List.mem_singleton.mp hp]
    show m₀ _ = some (.int ((x.toNat : Nat) : Int) t)
    rw [Int.toNat_of_nonneg hx]
    exact hi
  · rintro ⟨m, t, vs, cn, os⟩ u h tk f1 p1 F₁ N₁
    exact turn m t vs cn os u h tk f1 f1.length p1 (nb_len p1) F₁ N₁
theorem nb_end {m₀ m' : Str → Option Value} {O : Addr} {news : List (Addr × Obj)} {vs : List Value} {cn n' : Nat} {os : List Int} {m n : Nat} {t t' ty : Tok} {h' : Heap} {tk : Nat}
    (F : Fr h₀ L h' m') (N : News h₀ L h' ((O, listOf (vs.toArray.push (.int (Builtin.bitOr 128 (Builtin.bitAnd m 127)) ty)) n') :: news))
    (hm : m' (Str.ofString "number") = some (.int ((m : Int).fdiv (2 ^ (7 : Int).toNat)) t')) (hr : ∀ z, (∀ p ∈ [(Str.ofString "number", Value.int ((m : Int).fdiv (2 ^ (7 : Int).toNat)) t')], z ≠ p.1) → ([] : List Str).contains z = false → m' z = m₀ z)
    (kI : IntsAre vs os) (kE : os ++ vint m = vint n) (h : (128 : Int) ≤ m) :
    KswEnd h₀ L s (nbLed O news) nbPs nbFacts [] m₀ (nbP n) nbMu ⟨m, t, vs, cn, os⟩ { s with heap := h', toks := tk } := by
  have ex : (m : Int).fdiv (2 ^ (7 : Int).toNat) = ((m / 128 : Nat) : Int) := by
    have : ((2 : Int) ^ (7 : Int).toNat) = 128 := by decide
    rw [this, Int.fdiv_eq_ediv_of_nonneg _ (by decide)]
    omega
  have ey : Builtin.bitOr 128 (Builtin.bitAnd m 127) = (128 + (m % 128 : Nat) : Int) := by
    rw [bitAnd_m7]
    rw [or_128 (by omega) (by omega)]
    omega
  rw [ey] at N
  rw [ex] at hm hr
  have ea : vs.toArray.push (.int (128 + (m % 128 : Nat) : Int) ty) = (vs ++ [Value.int (128 + (m % 128 : Nat) : Int) ty]).toArray := by simp
  rw [ea] at N
  refine ksw_end (c' := ⟨m / 128, t', vs ++ [Value.int (128 + (m % 128 : Nat) : Int) ty], n', os ++ [(128 + (m % 128 : Nat) : Int)]⟩) F N (fun _ h => h) (kI.append (.cons _ _ .nil)) ?_ hr ?_ ?_
  · intro q hq
    rw [List.mem_singleton.mp hq]
    exact hm
  · show (os ++ [(128 + (m % 128 : Nat) : Int)]) ++ vint (m / 128) = vint n
    rw [← kE, vint_big (n := m) (by omega)]
    simp
  · show m / 128 < m
    omega
end
def NbOut (ns : List Int) (news : List (Addr × Obj)) (r : Value) (news' : List (Addr × Obj)) : Prop := ∃ b t, r = .bytes b t ∧ news' = news ∧ KBw.bInts b = ns
def NbC (f : Addr) (prog : Program) (w : World) (K : Frag) (p : Program) (loose : List Str) (mean : ExcName → Option Value) (mg mb : Str → Option Value) : Prop :=
  ∀ (x : Int) (t : Tok) (news : List (Addr × Obj)), 0 ≤ x → x ≤ 1000000 → Fun prog w K p loose mean mg mb 20 f [.int x t] news (NbOut (vint x.toNat) news)
theorem nb_ints {n m : Nat} {vs : List Value} {os : List Int} {t : Tok} (kI : IntsAre vs os) (kE : os ++ vint m = vint n) (h : ¬ (128 : Int) ≤ m) : IntsAre (vs ++ [.int (m : Int) t]) (vint n) := by
  rw [← kE, vint_small (by omega)]
  exact kI.append (.cons _ _ .nil)
theorem num_done {h₀ h : Heap} {L O : Addr} {o : Obj} {news : List (Addr × Obj)} (N : News h₀ L h ((O, o) :: news)) : News h₀ L h news := fun q hq => N q (.tail _ hq)
/-- read_number: how far it is -/
structure RnS where
  i : Nat
  v : Nat
  q : Nat
  m : Nat
  ta : Tok
  tv : Tok
  ts : Tok
def rnPs (c : RnS) : List (Str × Value) := [(Str.ofString "at", .int c.i c.ta), (Str.ofString "value", .int c.v c.tv), (Str.ofString "shift", .int c.q c.ts)]
def rnP (ks rest : List Int) (n e : Nat) (c : RnS) : Prop := ks.drop c.i = vint c.m ++ rest ∧ c.v + c.m * 2 ^ c.q = n ∧ c.v < 2 ^ c.q ∧ (c.q = 0 ∨ 0 < c.m) ∧ c.i + (vint c.m).length = e
def rnMu (c : RnS) : Nat := c.m
theorem rn_facts {ks rest : List Int} {i v q m n e : Nat} (h1 : ks.drop i = vint m ++ rest) (h2 : v + m * 2 ^ q = n) (h3 : v < 2 ^ q) (h4 : q = 0 ∨ 0 < m) (h5 : i + (vint m).length = e) (hn : n < 2 ^ 60) :
    (i : Int) < ks.length ∧ (q : Int) ≤ 60 ∧
    ((ks.getD (i : Int).toNat 0 < 128 ∧ 0 ≤ ks.getD (i : Int).toNat 0 ∧ (¬ ks.getD (i : Int).toNat 0 = 0 ∨ ¬ (q : Int) > 0) ∧ Builtin.bitOr (v : Int) (Builtin.bitAnd (ks.getD (i : Int).toNat 0) 127 * 2 ^ (q : Int).toNat) = n ∧ (i : Int) + 1 = e) ∨
     (128 ≤ ks.getD (i : Int).toNat 0 ∧ ks.getD (i : Int).toNat 0 ≤ 255 ∧ (q : Int) + 7 ≤ 63 ∧ ks.drop (i + 1) = vint (m / 128) ++ rest ∧ m / 128 < m ∧ 0 < m / 128 ∧ (v + m % 128 * 2 ^ q) + m / 128 * 2 ^ (q + 7) = n ∧ v + m % 128 * 2 ^ q < 2 ^ (q + 7) ∧ Builtin.bitOr (v : Int) (Builtin.bitAnd (ks.getD (i : Int).toNat 0) 127 * 2 ^ (q : Int).toNat) = ((v + m % 128 * 2 ^ q : Nat) : Int) ∧ i + 1 + (vint (m / 128)).length = e)) := by
  have e0 : (i : Int).toNat = i := by omega
  have eq : (q : Int).toNat = q := by omega
  rw [e0, eq]
  have hlt : i < ks.length := by
    rcases Nat.lt_or_ge i ks.length with h | h
    · exact h
    · rw [List.drop_eq_nil_of_le h] at h1
      have h6 := congrArg List.length h1
      have := vint_len m
      rw [List.length_append, List.length_nil] at h6
      omega
  have hd : ks.drop i = ks[i] :: ks.drop (i + 1) := List.drop_eq_getElem_cons hlt
  have hg : ks.getD i 0 = ks[i] := by simp [List.getD, List.getElem?_eq_getElem hlt]
  rw [hg]
  have hq60 : q ≤ 60 := by
    rcases Nat.lt_or_ge 60 q with h | h
    · rcases h4 with h4 | h4
      · omega
      · have h7 : 2 ^ 60 ≤ 2 ^ q := Nat.pow_le_pow_right (by decide) (by omega)
        have h8 : 1 * 2 ^ q ≤ m * 2 ^ q := Nat.mul_le_mul_right _ h4
        omega
    · exact h
  have orE : ∀ y : Nat, y < 128 → ∀ b : Int, b % 128 = y → Builtin.bitOr (v : Int) (Builtin.bitAnd b 127 * 2 ^ q) = ((v + y * 2 ^ q : Nat) : Int) := by
    intro y hy b hb
    rw [bitAnd_m7, hb, or_apart (by omega) (by rw [show ((2 : Int) ^ q) = ((2 ^ q : Nat) : Int) by simp]; omega) (by omega)]
    simp
  refine ⟨by omega, by omega, ?_⟩
  by_cases hm : m < 128
  · left
    rw [vint_small hm, hd] at h1
    injection h1 with a1 a2
    rw [vint_small hm] at h5
    simp only [List.length_singleton] at h5
    refine ⟨by omega, by omega, by omega, ?_, by omega⟩
    rw [orE m hm ks[i] (by omega), h2]
  · right
    rw [vint_big hm, hd] at h1
    injection h1 with a1 a2
    rw [vint_big hm] at h5
    simp only [List.length_cons] at h5
    have e7 : 2 ^ (q + 7) = 128 * 2 ^ q := by rw [Nat.pow_add]; omega
    have hdm : 128 * (m / 128) + m % 128 = m := Nat.div_add_mod m 128
    have h2' : (v + m % 128 * 2 ^ q) + m / 128 * 2 ^ (q + 7) = n := by
      rw [← h2, e7]
      have : m * 2 ^ q = (128 * (m / 128) + m % 128) * 2 ^ q := by rw [hdm]
      rw [this, Nat.add_mul, Nat.mul_comm 128 (m / 128), Nat.mul_assoc]
      omega
    have hpos : 0 < m / 128 := by omega
    have hq7 : q + 7 ≤ 60 := by
      rcases Nat.lt_or_ge 60 (q + 7) with h | h
      · have h7 : 2 ^ 60 ≤ 2 ^ (q + 7) := Nat.pow_le_pow_right (by decide) (by omega)
        have h8 : 1 * 2 ^ (q + 7) ≤ m / 128 * 2 ^ (q + 7) := Nat.mul_le_mul_right _ hpos
        omega
      · exact h
    refine ⟨by omega, by omega, by omega, a2, by omega, hpos, h2', ?_, ?_, by omega⟩
    · rw [e7]
      have : m % 128 * 2 ^ q ≤ 127 * 2 ^ q := Nat.mul_le_mul_right _ (by omega)
      omega
    · exact orE (m % 128) (by omega) ks[i] (by omega)
section
variable {prog : Program} {w : World} {A : Around} {E : Value → Shared → Prop} {Q : Flow → Shared → Prop} {s : Shared} {env : Env} {h₀ : Heap} {L : Addr}
theorem rn_while {test : Expr} {body : List Stmt} {pos : Pos} {m₀ : Str → Option Value} {ks rest : List Int} {a n : Nat} {news : List (Addr × Obj)} {ta tv ts tb : Tok} {b : Array UInt8} {x : Int}
    (F : Fr h₀ L s.heap m₀) (N : News h₀ L s.heap news) (hi : m₀ (Str.ofString "at") = some (.int x ta)) (hv : m₀ (Str.ofString "value") = some (.int 0 tv)) (hs : m₀ (Str.ofString "shift") = some (.int 0 ts)) (_hd : m₀ (Str.ofString "data") = some (.bytes b tb)) (_hb : KBw.bInts b = ks)
    (hx : x = (a : Int)) (hk : ks.drop a = vint n ++ rest) (hn : n < 2 ^ 60)
    (turn : ∀ (i v q m : Nat) (ta tv ts : Tok) (u : Str → Option Value) h tk,
      (i : Int) < ks.length → (q : Int) ≤ 60 →
      ((ks.getD (i : Int).toNat 0 < 128 ∧ 0 ≤ ks.getD (i : Int).toNat 0 ∧ (¬ ks.getD (i : Int).toNat 0 = 0 ∨ ¬ (q : Int) > 0) ∧ Builtin.bitOr (v : Int) (Builtin.bitAnd (ks.getD (i : Int).toNat 0) 127 * 2 ^ (q : Int).toNat) = n ∧ (i : Int) + 1 = (a + (vint n).length : Nat)) ∨
       (128 ≤ ks.getD (i : Int).toNat 0 ∧ ks.getD (i : Int).toNat 0 ≤ 255 ∧ (q : Int) + 7 ≤ 63 ∧ ks.drop (i + 1) = vint (m / 128) ++ rest ∧ m / 128 < m ∧ 0 < m / 128 ∧ (v + m % 128 * 2 ^ q) + m / 128 * 2 ^ (q + 7) = n ∧ v + m % 128 * 2 ^ q < 2 ^ (q + 7) ∧ Builtin.bitOr (v : Int) (Builtin.bitAnd (ks.getD (i : Int).toNat 0) 127 * 2 ^ (q : Int).toNat) = ((v + m % 128 * 2 ^ q : Nat) : Int) ∧ i + 1 + (vint (m / 128)).length = a + (vint n).length)) →
      Fr h₀ L h (fun y => if y = Str.ofString "at" then some (.int i ta) else if y = Str.ofString "value" then some (.int v tv) else if y = Str.ofString "shift" then some (.int q ts) else if ([Str.ofString "byte"] : List Str).contains y then u y else m₀ y) → News h₀ L h news →
      wpAny (model prog w) A (isTrue test env (eval test env)) (fun b s₂ =>
        if b = true then wpAny (model prog w) A (execs body env) (KswPost h₀ L s (fun _ => news) rnPs (fun _ => True) [Str.ofString "byte"] m₀ (rnP ks rest n (a + (vint n).length)) rnMu Q ⟨i, v, q, m, ta, tv, ts⟩) E s₂ else Q .next s₂) E { s with heap := h, toks := tk })
    (hE : PassesOwn (model prog w) A env E := by passes_own) :
    wpAny (model prog w) A (exec (.While test body [] pos) env) Q E s := by
  refine ksw_while (fun _ => news) rnPs (fun _ => True) [Str.ofString "byte"] (rnP ks rest n (a + (vint n).length)) rnMu ⟨a, 0, 0, n, ta, tv, ts⟩ F N trivial ?_ ⟨hk, by simp, by simp, .inl rfl, rfl⟩ ?_ hE
  · intro p hp
    rcases List.mem_cons.mp hp with rfl | hp
    · rw [hx] at hi; exact hi
    · rcases List.mem_cons.mp hp with rfl | hp
      · exact hv
      · rw [List.mem_singleton.mp hp]
        exact hs
  · rintro ⟨i, v, q, m, ta, tv, ts⟩ u h tk _ ⟨p1, p2, p3, p4, p5⟩ F₁ N₁
    have hf := rn_facts p1 p2 p3 p4 p5 hn
    exact turn i v q m ta tv ts u h tk hf.1 hf.2.1 hf.2.2 F₁ N₁
theorem rn_end {m₀ m' : Str → Option Value} {news : List (Addr × Obj)} {ks rest : List Int} {i v q m n e : Nat} {y : Int} {ta tv ts ta' tv' ts' : Tok} {h' : Heap} {tk : Nat}
    (F : Fr h₀ L h' m') (N : News h₀ L h' news)
    (hm1 : m' (Str.ofString "at") = some (.int ((i : Int) + 1) ta')) (hm2 : m' (Str.ofString "value") = some (.int (Builtin.bitOr (v : Int) (Builtin.bitAnd y 127 * 2 ^ (q : Int).toNat)) tv')) (hm3 : m' (Str.ofString "shift") = some (.int ((q : Int) + 7) ts'))
    (hr : ∀ z, (∀ p ∈ [(Str.ofString "at", Value.int ((i : Int) + 1) ta'), (Str.ofString "value", Value.int (Builtin.bitOr (v : Int) (Builtin.bitAnd y 127 * 2 ^ (q : Int).toNat)) tv'), (Str.ofString "shift", Value.int ((q : Int) + 7) ts')], z ≠ p.1) → ([Str.ofString "byte"] : List Str).contains z = false → m' z = m₀ z)
    (k1 : ks.drop (i + 1) = vint (m / 128) ++ rest) (k2 : m / 128 < m) (k3 : 0 < m / 128) (k4 : (v + m % 128 * 2 ^ q) + m / 128 * 2 ^ (q + 7) = n) (k5 : v + m % 128 * 2 ^ q < 2 ^ (q + 7)) (k6 : Builtin.bitOr (v : Int) (Builtin.bitAnd y 127 * 2 ^ (q : Int).toNat) = ((v + m % 128 * 2 ^ q : Nat) : Int)) (k7 : i + 1 + (vint (m / 128)).length = e) :
    KswEnd h₀ L s (fun _ => news) rnPs (fun _ => True) [Str.ofString "byte"] m₀ (rnP ks rest n e) rnMu ⟨i, v, q, m, ta, tv, ts⟩ { s with heap := h', toks := tk } := by
  rw [k6] at hm2 hr
  refine ksw_end (c' := ⟨i + 1, v + m % 128 * 2 ^ q, q + 7, m / 128, ta', tv', ts'⟩) F N (fun _ h => h) trivial ?_ hr ⟨k1, k4, k5, .inr k3, k7⟩ k2
  intro p hp
  rcases List.mem_cons.mp hp with rfl | hp
  · exact hm1
  · rcases List.mem_cons.mp hp with rfl | hp
    · exact hm2
    · rw [List.mem_singleton.mp hp]
      exact hm3
end
def RnOut (n e : Int) (news : List (Addr × Obj)) (r : Value) (news' : List (Addr × Obj)) : Prop := ∃ T x y t1 t2, r = .ref T ∧ news' = (T, { cls := .type "tuple", data := .seq #[.int x t1, .int y t2] }) :: news ∧ (∀ q ∈ news, q.1 < T) ∧ x = n ∧ y = e
def RnC (f : Addr) (prog : Program) (w : World) (K : Frag) (p : Program) (loose : List Str) (mean : ExcName → Option Value) (mg mb : Str → Option Value) : Prop :=
  ∀ (b : Array UInt8) (ks rest : List Int) (n a : Nat) (x : Int) (tb t : Tok) (news : List (Addr × Obj)), KBw.bInts b = ks → x = (a : Int) → ks.drop a = vint n ++ rest → n < 2 ^ 60 → ks.length ≤ 1000000 → Fun prog w K p loose mean mg mb 20 f [.bytes b tb, .int x t] news (RnOut n (a + (vint n).length : Nat) news)
theorem rn_ret {h₀ h : Heap} {L T : Addr} {m : Str → Option Value} {s : Shared} {Q : Value → Shared → Prop} {n e x y : Int} {t1 t2 : Tok} {news : List (Addr × Obj)} {tk : Nat}
    (hret : ∀ r news' h' tk', RnOut n e news r news' → Fr h₀ L h' m → News h₀ L h' news' → Q r { s with heap := h', toks := tk' })
    (N : News h₀ L h ((T, { cls := .type "tuple", data := .seq #[.int x t1, .int y t2] }) :: news)) (F : Fr h₀ L h m) (l1 : ∀ q ∈ news, q.1 < T) (hx : x = n) (hy : y = e) : Q (.ref T) { s with heap := h, toks := tk } :=
  hret _ _ _ _ ⟨_, _, _, _, _, rfl, rfl, l1, hx, hy⟩ F N
/-- a sort's tree: every question is of two places, every end is well -/
def KasAll {α : Type} (N : Nat) (P : α → Prop) : KasT α → Prop
  | .ret a => P a
  | .ask i j k => i < N ∧ j < N ∧ i ≠ j ∧ ∀ b, KasAll N P (k b)
theorem KasAll.bind {α β : Type} {N : Nat} {P : α → Prop} {R : β → Prop} {f : α → KasT β} (g : ∀ a, P a → KasAll N R (f a)) : ∀ (t : KasT α), KasAll N P t → KasAll N R (t.bind f)
  | .ret a, h => g a h
  | .ask _ _ k, h => ⟨h.1, h.2.1, h.2.2.1, fun b => KasAll.bind g (k b) (h.2.2.2 b)⟩
theorem KasAll.mono {α : Type} {N : Nat} {P P' : α → Prop} (g : ∀ a, P a → P' a) : ∀ (t : KasT α), KasAll N P t → KasAll N P' t
  | .ret a, h => g a h
  | .ask _ _ k, h => ⟨h.1, h.2.1, h.2.2.1, fun b => KasAll.mono g (k b) (h.2.2.2 b)⟩
theorem KasAll.wp {α : Type} {N : Nat} {P : α → Prop} {cmp : Nat → Nat → (Bool → Shared → Prop) → Shared → Prop} {I : Shared → Prop} (hc : ∀ i j C s, i < N → j < N → i ≠ j → I s → (∀ b s', I s' → C b s') → cmp i j C s)
    {Q : α → Shared → Prop} (hq : ∀ a s, P a → I s → Q a s) : ∀ (t : KasT α) (s : Shared), KasAll N P t → I s → t.kasWp cmp Q s
  | .ret a, s, h, hi => hq a s h hi
  | .ask i j k, s, h, hi => hc i j _ s h.1 h.2.1 h.2.2.1 hi fun b s' hi' => KasAll.wp hc hq (k b) s' (h.2.2.2 b) hi'
def PermN (N : Nat) (p : Array Nat) : Prop := p.toList.Perm (List.range N)
theorem PermN.size {N : Nat} {p : Array Nat} (h : PermN N p) : p.size = N := by have := h.length_eq; simpa using this
theorem PermN.get {N : Nat} {p : Array Nat} (h : PermN N p) {i : Nat} (hi : i < N) : p.getD i 0 < N := by
  have hz := h.size
  have e : p.getD i 0 = p[i]'(by omega) := by simp [Array.getD, show i < p.size by omega]
  have : p[i]'(by omega) ∈ p.toList := Array.mem_toList_iff.mpr (Array.getElem_mem _)
  rw [e]
  exact List.mem_range.mp (h.mem_iff.mp this)
theorem PermN.ne {N : Nat} {p : Array Nat} (h : PermN N p) {i j : Nat} (hi : i < N) (hj : j < N) (hij : i ≠ j) : p.getD i 0 ≠ p.getD j 0 := by
  have hz := h.size
  have hn : p.toList.Nodup := h.nodup_iff.mpr List.nodup_range
  have e : ∀ k, k < N → p.getD k 0 = p.toList.getD k 0 := by
    intro k hk
    simp [Array.getD, List.getD, show k < p.size by omega]
  rw [e i hi, e j hj]
  intro q
  have h1 : i < p.toList.length := by simpa using (show i < p.size by omega)
  have h2 : j < p.toList.length := by simpa using (show j < p.size by omega)
  simp only [List.getD, List.getElem?_eq_getElem h1, List.getElem?_eq_getElem h2, Option.getD_some] at q
  exact hij ((List.getElem_inj hn).mp q)
theorem PermN.rev {N : Nat} {p : Array Nat} (h : PermN N p) (i j : Nat) : PermN N (kas_rev p i j) := (Array.perm_iff_toList_perm.mp (mirror_perm p i j _)).trans h
theorem PermN.bub {N : Nat} {p : Array Nat} (h : PermN N p) (i j : Nat) : PermN N (bubble p i j) := (Array.perm_iff_toList_perm.mp (bubble_perm p i j)).trans h
theorem kasAll_asc {N : Nat} {p : Array Nat} (hp : PermN N p) : ∀ (f n : Nat), 1 ≤ n → n + f ≤ N → KasAll N (fun m => n ≤ m ∧ m ≤ n + f) (kas_asc p f n)
  | 0, n, _, _ => ⟨Nat.le_refl _, Nat.le_refl _⟩
  | f + 1, n, h1, h2 => by
    refine ⟨hp.get (by omega), hp.get (by omega), hp.ne (by omega) (by omega) (by omega), fun b => ?_⟩
    cases b with
    | true => exact ⟨Nat.le_refl _, by omega⟩
    | false => exact (kasAll_asc hp f (n + 1) (by omega) (by omega)).mono (fun m hm => ⟨by omega, by omega⟩) _
theorem kasAll_desc {N : Nat} : ∀ (f : Nat) (p : Array Nat) (n q : Nat), PermN N p → 1 ≤ n → n + f ≤ N → KasAll N (fun r => PermN N r.1 ∧ n ≤ r.2.1 ∧ r.2.1 ≤ n + f) (kas_desc f p n q)
  | 0, p, n, q, hp, _, _ => ⟨hp, Nat.le_refl _, Nat.le_refl _⟩
  | f + 1, p, n, q, hp, h1, h2 => by
    have go : ∀ p' q', PermN N p' → KasAll N (fun r => PermN N r.1 ∧ n ≤ r.2.1 ∧ r.2.1 ≤ n + (f + 1)) (kas_desc f p' (n + 1) q') := fun p' q' hp' =>
      (kasAll_desc f p' (n + 1) q' hp' (by omega) (by omega)).mono (fun r hr => ⟨hr.1, by omega, by omega⟩) _
    refine ⟨hp.get (by omega), hp.get (by omega), hp.ne (by omega) (by omega) (by omega), fun b => ?_⟩
    cases b with
    | true =>
      show KasAll N _ (if q > 0 then kas_desc f (kas_rev p (n - (q + 1)) n) (n + 1) 0 else kas_desc f p (n + 1) 0)
      split
      · exact go _ _ (hp.rev _ _)
      · exact go _ _ hp
    | false =>
      refine ⟨hp.get (by omega), hp.get (by omega), hp.ne (by omega) (by omega) (by omega), fun d => ?_⟩
      cases d with
      | true => exact ⟨hp, Nat.le_refl _, by show n ≤ n + (f + 1); omega⟩
      | false => exact go _ _ hp
def KasR (N nrem : Nat) (r : Nat × Array Nat) : Prop := PermN N r.2 ∧ 1 ≤ r.1 ∧ r.1 ≤ nrem
theorem kasAll_tail3 {N n nrem : Nat} {p : Array Nat} (hp : PermN N p) (h1 : 1 ≤ n) (h2 : n ≤ nrem) (h3 : nrem ≤ N) : KasAll N (KasR N nrem) (kas_tail3 n nrem p) := by
  unfold kas_tail3
  refine KasAll.bind (P := fun m => n ≤ m ∧ m ≤ n + (nrem - n)) (fun m hm => ?_) _ (kasAll_asc (hp.rev 0 n) (nrem - n) n h1 (by omega))
  exact ⟨hp.rev 0 n, by show 1 ≤ m; omega, by show m ≤ nrem; omega⟩
theorem kasAll_descPart {N n nrem : Nat} {p : Array Nat} (hp : PermN N p) (h1 : 1 ≤ n) (h2 : n + 1 ≤ nrem) (h3 : nrem ≤ N) : KasAll N (KasR N nrem) (kas_descPart n nrem p) := by
  refine (kasAll_desc (nrem - (n + 1)) p (n + 1) 0 hp (by omega) (by omega)).bind (fun r hr => ?_) _
  split
  · exact kasAll_tail3 (hr.1.rev _ _) (by omega) (by omega) h3
  · exact kasAll_tail3 hr.1 (by omega) (by omega) h3
theorem kasAll_count {N nrem : Nat} {p : Array Nat} (hp : PermN N p) (h1 : 1 ≤ nrem) (h3 : nrem ≤ N) : KasAll N (KasR N nrem) (kas_count nrem p) := by
  refine (kasAll_asc hp (nrem - 1) 1 (Nat.le_refl _) (by omega)).bind (fun n hn => ?_) _
  split
  · exact ⟨hp, hn.1, by show n ≤ nrem; omega⟩
  · rename_i hne
    have hne' : n ≠ nrem := fun e => hne (by simp [e])
    split
    · refine ⟨hp.get (by omega), hp.get (by omega), hp.ne (by omega) (by omega) (by omega), fun b => ?_⟩
      cases b with
      | true => exact ⟨hp, hn.1, by show n ≤ nrem; omega⟩
      | false => exact kasAll_descPart (hp.rev _ _) hn.1 (by omega) h3
    · exact kasAll_descPart hp hn.1 (by omega) h3
theorem kasAll_place {N k : Nat} {p : Array Nat} (hp : PermN N p) (hk : k < N) : ∀ (f l r : Nat), r ≤ k → KasAll N (fun _ => True) (kas_place p k f l r)
  | 0, _, _, _ => trivial
  | f + 1, l, r, hr => by
    show KasAll N _ (if l ≥ r then .ret l else .ask (p.getD k 0) (p.getD ((l + r) / 2) 0) fun c => if c = true then kas_place p k f l ((l + r) / 2) else kas_place p k f ((l + r) / 2 + 1) r)
    split
    · exact trivial
    · refine ⟨hp.get hk, hp.get (by omega), hp.ne hk (by omega) (by omega), fun b => ?_⟩
      cases b with
      | true => exact kasAll_place hp hk f l _ (by omega)
      | false => exact kasAll_place hp hk f _ r hr
theorem kasAll_bin {N : Nat} : ∀ (f : Nat) (p : Array Nat) (k : Nat), PermN N p → k + f ≤ N → KasAll N (PermN N) (kas_bin f p k)
  | 0, _, _, hp, _ => hp
  | f + 1, p, k, hp, h => (kasAll_place hp (by omega) k 0 k (Nat.le_refl _)).bind (fun l _ => kasAll_bin f _ (k + 1) (hp.bub _ _) (by omega)) _
/-- a sort ends with the places in some order, whatever is answered -/
theorem kasAll_sort {n : Nat} (h : 1 ≤ n) : KasAll n (PermN n) (kas_sort n) := by
  have h0 : PermN n (List.toArray (List.range n)) := List.Perm.refl _
  refine (kasAll_count h0 h (Nat.le_refl _)).bind (fun r hr => ?_) _
  obtain ⟨hr1, hr2, hr3⟩ := hr
  split
  · exact kasAll_bin _ _ _ hr1 (by omega)
  · exact hr1
/-- a tuple that begins with two ints, in the ledger -/
def TupI (news : List (Addr × Obj)) (v : Value) (k : Int × Int) : Prop :=
  ∃ a o its n t u r, v = .ref a ∧ (a, o) ∈ news ∧ o.cls = .type "tuple" ∧ o.data = .seq its n ∧ its.toList = .int k.1 t :: .int k.2 u :: r
section
variable {prog : Program} {w : World} {A : Around} {E : Value → Shared → Prop} {s : Shared} {h₀ : Heap} {L : Addr} {m : Str → Option Value} {news : List (Addr × Obj)}
theorem ask_tup {vs : List Value} {ks : List (Int × Int)} {i j : Nat} {C : Bool → Shared → Prop} (hl : vs.length = ks.length) (hk : ks.Nodup) (ht : ∀ (i : Nat) (v : Value) (k : Int × Int), vs[i]? = some v → ks[i]? = some k → TupI news v k) (N : News h₀ L s.heap news)
    (hi : i < vs.length) (hj : j < vs.length) (hij : i ≠ j) (h : ∀ b, C b s) : kas_ask prog w A (tuples' true) vs i j C s := by
  have hi' : i < ks.length := by omega
  have hj' : j < ks.length := by omega
  obtain ⟨a, o, its, n, t, u, r, e, hm, hc, hd, hits⟩ := ht i vs[i] ks[i] (List.getElem?_eq_getElem hi) (List.getElem?_eq_getElem hi')
  obtain ⟨a', o', its', n', t', u', r', e', hm', hc', hd', hits'⟩ := ht j vs[j] ks[j] (List.getElem?_eq_getElem hj) (List.getElem?_eq_getElem hj')
  have hne : ks[i] ≠ ks[j] := fun q => hij ((List.getElem_inj hk).mp q)
  unfold kas_ask
  have g1 : vs.getD i Value.none = .ref a := by rw [← e]; simp [List.getD, List.getElem?_eq_getElem hi]
  have g2 : vs.getD j Value.none = .ref a' := by rw [← e']; simp [List.getD, List.getElem?_eq_getElem hj]
  rw [g1, g2]
  generalize ks[i] = p at *
  generalize ks[j] = q at *
  obtain ⟨x, y⟩ := p
  obtain ⟨x', y'⟩ := q
  refine kat_lt (N.get hm) hd (N.get hm') hd' ?_
  rw [hits, hits', List.zip_cons_cons, List.zip_cons_cons]
  refine kat_cons (wpAny_eqBool_int ?_)
  by_cases hx : x = x'
  · rw [show (x == x') = true by simpa using hx]
    refine kat_yes (kat_cons (wpAny_eqBool_int ?_))
    by_cases hy : y = y'
    · exact absurd (by rw [hx, hy]) hne
    · rw [show (y == y') = false by simpa using hy]
      refine kat_no ?_
      exact kat_one _ _ (lt_int (h _))
  · rw [show (x == x') = false by simpa using hx]
    refine kat_no ?_
    exact oneLt_int (h _)
theorem tups_kind {vs : List Value} {ks : List (Int × Int)} {Q : SortKind → Shared → Prop} (h2 : 2 ≤ vs.length) (hl : vs.length = ks.length) (ht : ∀ (i : Nat) (v : Value) (k : Int × Int), vs[i]? = some v → ks[i]? = some k → TupI news v k) (N : News h₀ L s.heap news) (h : Q (tuples' true) s) :
    wpAny (model prog w) A (keyKind' vs.toArray) Q E s := by
  have key : ∀ (vs : List Value) (ks : List (Int × Int)), vs.length = ks.length → (∀ (i : Nat) (v : Value) (k : Int × Int), vs[i]? = some v → ks[i]? = some k → TupI news v k) → ∃ fs : List Value, KatTups s.heap vs fs ∧ fs.length = vs.length ∧ ∀ f ∈ fs, ∃ (x : Int) (t : Tok), f = .int x t := by
    intro vs
    induction vs with
    | nil => intro ks _ _; exact ⟨[], KatTups.nil, rfl, fun _ h => (nomatch h)⟩
    | cons v vs ih =>
      intro ks hl ht
      cases ks with
      | nil => simp at hl
      | cons k ks =>
        obtain ⟨fs, f1, f2, f3⟩ := ih ks (by simpa using hl) fun i v' k' e1 e2 => ht (i + 1) v' k' (by simpa using e1) (by simpa using e2)
        obtain ⟨a, o, its, n, t, u, r, e, hm, hc, hd, hits⟩ := ht 0 v k rfl rfl
        subst e
        refine ⟨.int k.1 t :: fs, KatTups.cons (N.get hm) hc hd (by rw [← Array.getElem?_toList, hits]; rfl) f1, by simp [f2], fun f hf => ?_⟩
        rcases List.mem_cons.mp hf with rfl | hf
        · exact ⟨_, _, rfl⟩
        · exact f3 f hf
  obtain ⟨fs, f1, f2, f3⟩ := key vs ks hl ht
  refine kat_kind (T := .type "int") f1 (by omega) (fun v hv => ?_) rfl h
  obtain ⟨x, t, rfl⟩ := f3 v hv
  exact Looks.now
theorem sort_small {a : Addr} {vs : List Value} {n : Nat} {P : PySem.Fin → Shared → Prop} (F : Fr h₀ L s.heap m) (N : News h₀ L s.heap news) (ho : s.heap.get? a = some (seqObj "list" vs.toArray n)) (haL : a ≠ L) (ha0 : h₀.get? a = none) (hna : ∀ p ∈ news, p.1 ≠ a)
    (h2 : vs.length < 2) (h : ∀ c h', Fr h₀ L h' m → News h₀ L h' ((a, listOf vs.toArray c) :: news) → P (.done (.ret .none)) { s with heap := h' }) :
    wpAny (model prog w) A (Builtin.«list.sort» ⟨[.ref a], []⟩) P E s := by
  have ha : a < s.heap.objs.size := Heap.lt_size ho
  have s1 := Heap.SameBut.update s.heap a (Obj.mapSeq fun _ => (#[] : Array Value))
  obtain ⟨e1, ho1⟩ : ∃ e1, (s.heap.update a (Obj.mapSeq fun _ => (#[] : Array Value))).get? a = some (seqObj "list" #[] e1) := ⟨_, get?_update_seq ho fun _ => #[]⟩
  have F3 : Fr h₀ L (((s.heap.update a (Obj.mapSeq fun _ => (#[] : Array Value))).push (seqObj "tuple" vs.toArray 0)).push (seqObj "list" #[] 0)) m := ((kas_fr F s1 haL ha0).push _).push _
  have N2 : News h₀ L (((s.heap.update a (Obj.mapSeq fun _ => (#[] : Array Value))).push (seqObj "tuple" vs.toArray 0)).push (seqObj "list" #[] 0)) news :=
    (kas_news N s1 hna).grown fun b x e => Heap.get?_push_of_some _ (Heap.get?_push_of_some _ e)
  have ho3 : (((s.heap.update a (Obj.mapSeq fun _ => (#[] : Array Value))).push (seqObj "tuple" vs.toArray 0)).push (seqObj "list" #[] 0)).get? a = some (seqObj "list" #[] e1) := Heap.get?_push_of_some _ (Heap.get?_push_of_some _ ho1)
  rw [list_sort_plain]
  refine wpAny_bind (listItems_at ho rfl ?_)
  refine wpAny_bind (listUpdate_at ho rfl ?_ (by rw [List.size_toArray, sizeLine_eq]; omega) (Nat.zero_le _))
  refine wpAny_bind (seqEpoch_at ho1 rfl ?_)
  refine wpAny_bind (wpAny_newTuple ?_ (by show vs.length ≤ _; rw [sizeLine_eq]; omega))
  refine wpAny_bind (wpAny_newList ?_ (Nat.zero_le _))
  refine wpAny_holding ?_
  show wpAny (model prog w) A _ P E { s with heap := ((s.heap.update a (Obj.mapSeq fun _ => (#[] : Array Value))).push (seqObj "tuple" vs.toArray 0)).push (seqObj "list" #[] 0) }
  dsimp only
  have hn2 : vs.toArray.size < 2 := by rw [List.size_toArray]; omega
  rw [if_pos hn2, if_pos hn2]
  refine wpAny_bind (wpAny_pure ?_)
  rw [StateT.run_pure]
  refine wpAny_bind (wpAny_pure ?_)
  dsimp only
  have hout : (arrOf (SortSt.mk' general' (vs.toArray.zip vs.toArray) #[] 7 none)).map (·.2) = vs.toArray := by
    show (vs.toArray.zip vs.toArray).map (·.2) = _
    rcases vs with _ | ⟨v, _ | ⟨v', r⟩⟩
    · simp
    · simp
    · exact absurd h2 (by simp only [List.length_cons]; omega)
  rw [hout]
  have s2 := Heap.SameBut.update (((s.heap.update a (Obj.mapSeq fun _ => (#[] : Array Value))).push (seqObj "tuple" vs.toArray 0)).push (seqObj "list" #[] 0)) a (Obj.mapSeq fun _ => vs.toArray)
  obtain ⟨c2, hc2⟩ : ∃ c2, ((((s.heap.update a (Obj.mapSeq fun _ => (#[] : Array Value))).push (seqObj "tuple" vs.toArray 0)).push (seqObj "list" #[] 0)).update a (Obj.mapSeq fun _ => vs.toArray)).get? a = some (seqObj "list" vs.toArray c2) := ⟨_, get?_update_seq ho3 fun _ => vs.toArray⟩
  refine wpAny_bind (seqEpoch_at ho3 rfl ?_)
  refine wpAny_bind (listUpdate_at ho3 rfl ?_ (Nat.zero_le _) (by rw [List.size_toArray, sizeLine_eq]; omega))
  simp only [bne_self_eq_false, Bool.false_eq_true, if_false]
  refine wpAny_pure (h c2 _ (kas_fr F3 s2 haL ha0) fun p hp => ?_)
  rcases List.mem_cons.mp hp with rfl | hp
  · exact ⟨hc2, haL, ha0⟩
  · exact kas_news N2 s2 hna p hp
/-- list.sort of tuples that begin with two ints, no two alike: some order of the same -/
theorem lsort_tups {D : Addr} {its : Array Value} {n : Nat} {vs : List Value} {ks : List (Int × Int)} {Q : Value → Shared → Prop} (F : Fr h₀ L s.heap m) (N : News h₀ L s.heap ((D, listOf its n) :: news)) (hoff : ∀ p ∈ news, p.1 ≠ D) (he : its.toList = vs) (h64 : vs.length < 64)
    (hl : vs.length = ks.length) (hk : ks.Nodup) (ht : ∀ (i : Nat) (v : Value) (k : Int × Int), vs[i]? = some v → ks[i]? = some k → TupI news v k)
    (h : ∀ (p : List Nat) c h' tk, p.Perm (List.range vs.length) → Fr h₀ L h' m → News h₀ L h' ((D, listOf (p.map fun i => vs.getD i Value.none).toArray c) :: news) → Q .none { s with heap := h', toks := tk }) :
    wpAny (model prog w) A (call (.builtin "list.sort") [.ref D]) Q E s := by
  rcases Nat.lt_or_ge vs.length 2 with h2 | h2
  · subst he
    have nz := N (D, listOf its n) (.head _)
    have ho : s.heap.get? D = some (seqObj "list" its.toList.toArray n) := by rw [Array.toArray_toList]; exact nz.1
    have N₀ : News h₀ L s.heap news := fun p hp => N p (.tail _ hp)
    refine wpAny_call_entry slot_list_sort ⟨_, nz.1, rfl⟩ entry_list_sort (sort_small F N₀ ho nz.2.1 nz.2.2 hoff h2 fun c h' F' N' => ?_) (args_list_sort _)
    refine ⟨_, rfl, ?_⟩
    have e : ((List.range its.toList.length).map fun i => its.toList.getD i Value.none) = its.toList := by
      rcases hv : its.toList with _ | ⟨v, _ | ⟨v', r⟩⟩
      · rfl
      · rfl
      · rw [hv] at h2; exact absurd h2 (by simp only [List.length_cons]; omega)
    have key := h (List.range its.toList.length) c h' s.toks (List.Perm.refl _) F'
    rw [e] at key
    exact key N'
  · refine kat_lsort F N (UpdF.head hoff) he h2 h64 fun e1 h' F' N' => ?_
    have N₀ : News h₀ L h' news := fun p hp => N' p (.tail _ hp)
    refine tups_kind (s := { s with heap := h' }) h2 hl ht N₀ ?_
    refine KasAll.wp (N := vs.length) (I := fun s' => ∃ tk, s' = { s with heap := h', toks := tk }) ?_ ?_ _ _ (kasAll_sort (by omega)) ⟨_, rfl⟩
    · rintro i j C s' hi hj hij ⟨tk, rfl⟩ hC
      exact ask_tup (s := { s with heap := h', toks := tk }) hl hk ht N₀ hi hj hij fun b => hC b _ ⟨tk, rfl⟩
    · rintro p s' hp ⟨tk, rfl⟩
      exact KasFin.intro (s := { s with heap := h', toks := tk }) F' N' (UpdF.head hoff) fun h'' c F'' N'' => h p.toList c h'' tk hp F'' N''
end
/-- a dict whose entries are es, whatever its keys are -/
def DictRaw (h : Heap) (a : Addr) (es : Array DictEntry) (ep : Nat) : Prop := ∃ o, h.get? a = some o ∧ o.ExactDict ∧ o.data = .dict es ep
theorem DictRaw.typeIs {s : Shared} {a : Addr} {es : Array DictEntry} {ep : Nat} (x : DictRaw s.heap a es ep) : s.TypeIs (.ref a) "dict" := let ⟨o, ho, hc, _⟩ := x; ⟨o, ho, hc.1⟩
theorem DictRaw.lt {h : Heap} {a : Addr} {es : Array DictEntry} {ep : Nat} (x : DictRaw h a es ep) : a < h.objs.size := let ⟨_, ho, _⟩ := x; Heap.lt_size ho
theorem DictRaw.at {h h' : Heap} {a : Addr} {es : Array DictEntry} {ep : Nat} (x : DictRaw h a es ep) (e : ∀ o, h.get? a = some o → h'.get? a = some o) : DictRaw h' a es ep := let ⟨o, ho, r⟩ := x; ⟨o, e _ ho, r⟩
section
variable {prog : Program} {w : World} {A : Around} {E : Value → Shared → Prop} {s : Shared} {d it : Addr} {es : Array DictEntry} {ep i : Nat}
theorem raw_iter {Q : Value → Shared → Prop} (lo : (d == sysModules) = false) (hm : DictRaw s.heap d es ep)
    (hQ : Q (.ref s.heap.objs.size) { s with heap := s.heap.push { cls := .type "dict_keyiterator", data := .fields #[.ref d, .int 0 0, .int es.size 0, .int ep 0] } }) : wpAny (model prog w) A (pyIter (.ref d)) Q E s := by
  obtain ⟨o, ho, hc, hdat⟩ := id hm
  have hT := hm.typeIs
  refine wpAny_pyIter_slot hT F.slot_dict_iter (wpAny_call_entry F.slot_dict_iter hT F.entry_dict_iter ?_ (F.args_dict_iter_1 _))
  unfold Builtin.«dict.__iter__»
  refine wpAny_bind ?_
  unfold Builtin.Dict.dictSlotNone
  refine wpAny_bind (wpAny_notOrdered_dict hT ?_)
  show wpAny _ _ (pure (Value.ref d)) _ _ s
  refine wpAny_pure ?_
  show wpAny _ _ (Builtin.Dict.showsAll d >>= _) _ _ s
  unfold Builtin.Dict.showsAll
  rw [if_neg (by rw [lo]; exact Bool.false_ne_true)]
  refine wpAny_bind (wpAny_pure (wpAny_bind (wpAny_dictEntries ho hdat (wpAny_bind (wpAny_dictEpoch ho hdat ?_)))))
  refine wpAny_bind (wpAny_newObj_type (wpAny_pure ⟨_, rfl, "dict_keyiterator", _, ⟨_, Heap.get?_push_size _ rfl, rfl⟩, F.slot_dict_keyiterator_next.lookup, ?_⟩))
  simpa [rawInt] using hQ
theorem raw_item {Q : Option Value → Shared → Prop} (hit : s.heap.IsKeyIter it d i es.size ep) (hm : DictRaw s.heap d es ep) (hlt : i < es.size)
    (hQ : ∀ h', h'.IsKeyIter it d (i + 1) es.size ep → Heap.SameBut it s.heap h' → Q (some es[i].key) { s with heap := h' }) : wpAny (model prog w) A (pyNext (.ref it)) Q E s := by
  obtain ⟨o, ho, hc, hd⟩ := id hit
  obtain ⟨od, hod, hcd, hdd⟩ := id hm
  have hown : Builtin.Dict_items.ownsTuple "dict_keyiterator" = false := by decide
  unfold pyNext
  refine wpAny_bind (wpAny_attempt (wpAny_callSpecial?_slot (name := Str.ofString "__next__") hit.typeIs F.slot_dict_keyiterator_next
    (wpAny_call_entry F.slot_dict_keyiterator_next hit.typeIs F.entry_dict_keyiterator_next ?_ (F.args_dict_keyiterator_next_1 _))))
  refine wpAny_bind (wpAny_pure (wpAny_bind (wpAny_bind ?_)))
  first | refine wpAny_bind (wpAny_typeNameOfWhole_keyiter hit.typeIs (wpAny_pure ?_)) | refine wpAny_bind (wpAny_typeNameOf_keyiter hit.typeIs (wpAny_pure ?_))
  refine wpAny_bind (wpAny_fieldsOf ho hd ?_)
  simp only [hown, Bool.false_eq_true, if_false]
  show wpAny _ _ (if (Value.ref d == Value.none) = true then _ else _) _ _ s
  rw [if_neg (show ¬ ((Value.ref d == Value.none) = true) from Bool.false_ne_true)]
  refine wpAny_bind (wpAny_pure (wpAny_bind (wpAny_dictEntries hod hdd ?_)))
  rw [if_neg (by simp)]
  refine wpAny_bind (wpAny_pure (wpAny_bind (wpAny_dictEpoch hod hdd ?_)))
  rw [if_neg (by simp)]
  refine wpAny_pure ?_
  simp only [show ¬ ((i : Int) < 0) from by omega, if_false, Int.toNat_natCast, Array.getElem?_eq_getElem hlt]
  refine wpAny_bind ?_
  first | refine wpAny_bind (wpAny_typeNameOfWhole_keyiter hit.typeIs (wpAny_pure ?_)) | refine wpAny_bind (wpAny_typeNameOf_keyiter hit.typeIs (wpAny_pure ?_))
  refine wpAny_bind (wpAny_isOneOf_keyiter hit.typeIs ?_)
  show wpAny _ _ (setField (.ref it) 1 (rawInt ((i : Int) + 1)) >>= _) _ _ s
  refine wpAny_bind (wpAny_setField ho hd (by simp) ?_)
  have hit' : (s.heap.update it (Obj.mapFields (·.setIfInBounds 1 (rawInt ((i : Int) + 1))))).IsKeyIter it d (i + 1) es.size ep :=
    ⟨_, Heap.get?_update_self _ ho (Obj.isFreed_of_fields (Obj.data_mapFields hd _)), (Obj.cls_mapFields ..).trans hc, by rw [Obj.data_mapFields hd]; simp [rawInt]⟩
  refine wpAny_bind (wpAny_holding (wpAny_bind (wpAny_isOneOf_keyiter (s := { s with heap := s.heap.update it (Obj.mapFields (·.setIfInBounds 1 (rawInt ((i : Int) + 1)))) }) hit'.typeIs ?_)))
  show wpAny _ _ (pure es[i].key) _ _ _
  exact wpAny_pure (wpAny_pure ⟨_, rfl, wpAny_pure (hQ _ hit' (Heap.SameBut.update ..))⟩)
theorem raw_stop {Q : Option Value → Shared → Prop} (hh : A.handled = none) (hit : s.heap.IsKeyIter it d i es.size ep) (hm : DictRaw s.heap d es ep) (hge : es.size ≤ i)
    (hQ : ∀ h', Heap.ExtBut it s.heap h' → Q none { s with heap := h' }) : wpAny (model prog w) A (pyNext (.ref it)) Q E s := by
  obtain ⟨o, ho, hc, hd⟩ := id hit
  obtain ⟨od, hod, hcd, hdd⟩ := id hm
  have hown : Builtin.Dict_items.ownsTuple "dict_keyiterator" = false := by decide
  unfold pyNext
  refine wpAny_bind (wpAny_attempt (wpAny_callSpecial?_slot (name := Str.ofString "__next__") hit.typeIs F.slot_dict_keyiterator_next
    (wpAny_call_entry F.slot_dict_keyiterator_next hit.typeIs F.entry_dict_keyiterator_next ?_ (F.args_dict_keyiterator_next_1 _))))
  refine wpAny_bind (wpAny_pure (wpAny_bind (wpAny_bind ?_)))
  first | refine wpAny_bind (wpAny_typeNameOfWhole_keyiter hit.typeIs (wpAny_pure ?_)) | refine wpAny_bind (wpAny_typeNameOf_keyiter hit.typeIs (wpAny_pure ?_))
  refine wpAny_bind (wpAny_fieldsOf ho hd ?_)
  simp only [hown, Bool.false_eq_true, if_false]
  show wpAny _ _ (if (Value.ref d == Value.none) = true then _ else _) _ _ s
  rw [if_neg (show ¬ ((Value.ref d == Value.none) = true) from Bool.false_ne_true)]
  refine wpAny_bind (wpAny_pure (wpAny_bind (wpAny_dictEntries hod hdd ?_)))
  rw [if_neg (by simp)]
  refine wpAny_bind (wpAny_pure (wpAny_bind (wpAny_dictEpoch hod hdd ?_)))
  rw [if_neg (by simp)]
  refine wpAny_pure ?_
  simp only [show ¬ ((i : Int) < 0) from by omega, if_false, Int.toNat_natCast, Array.getElem?_eq_none hge]
  refine wpAny_bind ?_
  first | refine wpAny_bind (wpAny_typeNameOfWhole_keyiter hit.typeIs (wpAny_pure ?_)) | refine wpAny_bind (wpAny_typeNameOf_keyiter hit.typeIs (wpAny_pure ?_))
  show wpAny _ _ (setField (.ref it) 0 .none >>= _) _ _ s
  refine wpAny_bind (wpAny_setField ho hd (by simp) ?_)
  show wpAny _ _ (newExc (.type "StopIteration") [] >>= _) _ _ _
  refine wpAny_bind ?_
  simp only [newExc, newTuple]
  refine wpAny_bind (wpAny_newObj_type ?_ (by size_fits))
  refine wpAny_bind (m := firstArgMember _ _) (wpAny_of_eq (a := Value.none) (by first | rfl | (simp only [firstArgMember]; rfl)) ?_)
  refine wpAny_newObj_type ?_ (by size_fits)
  simp only [raiseNew]
  refine wpAny_bind (wpAny_handled ?_)
  rw [show A.in1.handled = none from hh]
  refine wpAny_bind (wpAny_pure (wpAny_throw ?_))
  refine wpAny_bind (wpAny_isInstance (T := "StopIteration") (b := true) ⟨_, Heap.get?_push_size _ rfl, rfl⟩ isSubtype_stop ?_)
  exact wpAny_pure (hQ _ (((Heap.SameBut.update ..).extBut.push _).push _))
end
theorem raw_walks {prog : Program} {w : World} {A : Around} (hh : A.handled = none) (I d : Addr) (hne : d ≠ I) (es : Array DictEntry) (ep : Nat) :
    Walks prog w A I [I, d] [I] es.size (fun i v => ∃ e, es[i]? = some e ∧ v = e.key) (fun i h => h.IsKeyIter I d i es.size ep ∧ DictRaw h d es ep) where
  sub := fun b hb => by simp at hb; simp [hb]
  frame := fun _ _ _ st hk => ⟨st.1.at fun o e => hk I (by simp) o e, st.2.at fun o e => hk d (by simp) o e⟩
  item := fun i s Q E hi st hQ => by
    refine raw_item st.1 st.2 hi fun h' hit' hs' => ?_
    exact hQ _ h' s.toks ⟨_, Array.getElem?_eq_getElem hi, rfl⟩ ⟨hit', st.2.at fun o e => (hs'.2 d hne).trans e⟩ fun b o hb e => hs'.extBut b o (fun h => hb (by simp [h])) e
  done := fun s Q E st hQ => raw_stop hh st.1 st.2 (Nat.le_refl _) fun h' he' => hQ h' s.toks fun b o hb e => he' b o (fun h => hb (by simp [h])) e
  self := fun _ _ _ _ st hQ => wpAny_pyIter_keyiter st.1 hQ
section
open Builtin
theorem take_eq {b : Array UInt8} {t : Tok} {id : String} : Bytes.takeBuffer? id (.bytes b t) 0 = pure (some (b, none)) := by
  have e0 : ((0 : Int) == Bytes.fullReadOnly) = false := by decide
  unfold Bytes.takeBuffer?
  rw [KBy.special_eq KBy.look_buffer, KBy.own_buffer, e0, KBy.buffer_eq]
  kernel_rfl
theorem takeQ_eq {b : Array UInt8} {t : Tok} {id : String} : Bytes.takeBufferQuiet? id (.bytes b t) 0 = pure (some (b, none)) := by
  unfold Bytes.takeBufferQuiet?
  rw [take_eq]
  rfl
theorem joined_snoc (bs : List (Array UInt8)) (b : Array UInt8) : Bytes.joined #[] (bs ++ [b]) = Bytes.joined #[] bs ++ b := by
  unfold Bytes.joined
  rw [List.zipIdx_append, List.foldl_append]
  simp
theorem joined_len : ∀ (bs : List (Array UInt8)), (Bytes.joined #[] bs).size = (bs.map Array.size).sum := by
  intro bs
  have key : ∀ n, n ≤ bs.length → (Bytes.joined #[] (bs.take n)).size = ((bs.take n).map Array.size).sum := by
    intro n
    induction n with
    | zero => intro _; rfl
    | succ n ih =>
      intro hn
      have e : bs.take (n + 1) = bs.take n ++ [bs[n]] := by rw [List.take_add_one]; simp [List.getElem?_eq_getElem (show n < bs.length by omega)]
      rw [e, joined_snoc, Array.size_append, ih (by omega), List.map_append, List.sum_append]
      simp
  simpa using key bs.length (Nat.le_refl _)
theorem fold_size : ∀ (bs : List (Array UInt8)) (n : Nat), (bs.foldl (fun a b => a + b.size) n) = n + (bs.map Array.size).sum
  | [], n => by simp
  | b :: bs, n => by rw [List.foldl_cons, fold_size bs, List.map_cons, List.sum_cons]; omega
section
variable {prog : Program} {w : World} {A : Around} {E : Value → Shared → Prop} {s : Shared}
theorem jlg : ∀ (taken : List (Value × Option Value)) (keep : List Value) {Q : Unit → Shared → Prop}, (∀ p ∈ taken, p.2 = none) → Q () s → wpAny (model prog w) A (Bytes.joinLetGo taken keep) Q E s
  | [], _, Q, _, h => wpAny_pure h
  | (x, u) :: r, keep, Q, hn, h => by
    have hu : u = none := hn _ (.head _)
    subst hu
    unfold Bytes.joinLetGo
    exact wpAny_bind (wpAny_letGo (jlg r keep (fun p hp => hn p (.tail _ hp)) h))
/-- what the loop of a join has taken -/
def JoinI (vs : List Value) (bs : List (Array UInt8)) (s₀ : Shared) (l : List Nat) (b : Array (Array UInt8) × List (Value × Option Value)) (s' : Shared) : Prop :=
  s' = s₀ ∧ ∃ i, l = List.range' i (vs.length - i) ∧ i ≤ vs.length ∧ b.1.toList = bs.take i ∧ (∀ p ∈ b.2, p.2 = none ∧ p.1.onHeap = false)
theorem bjoin_wp {l : Addr} {its : Array Value} {t0 : Tok} {vs : List Value} {bs : List (Array UInt8)} {R : Value → Shared → Prop} (hi : s.heap.IsList l its) (hv : its.toList = vs)
    (hb : ∀ (i : Nat) (v : Value), vs[i]? = some v → ∃ t : Tok, v = Value.bytes (bs.getD i #[]) t) (hl : bs.length = vs.length) (hz : (bs.map Array.size).sum ≤ sizeLine)
    (h : ∀ t k, R (.bytes (Bytes.joined #[] bs) t) { s with toks := k }) :
    wpAny (model prog w) A (Builtin.«bytes.join» ⟨[.bytes #[] t0, .ref l], []⟩) (fun fin s' => ∃ v, fin = .done (.ret v) ∧ R v s') E s := by
  obtain ⟨o, ho, hc, n, hd⟩ := id hi
  have hT : s.TypeIs (.ref l) "list" := ⟨o, ho, hc⟩
  have hsz : its.size = vs.length := by rw [← hv]; simp
  show wpAny _ _ (Bytes.joinM .bytes _) _ _ _
  unfold Bytes.joinM
  dsimp only
  refine wpAny_bind (m := selfAndOne _ _) (wpAny_pure ?_)
  dsimp only
  rw [if_pos (by rfl)]
  refine wpAny_bind ?_
  unfold Bytes.joinItems
  refine wpAny_bind (wpAny_typeOf hT ?_)
  rw [if_pos (by rfl)]
  refine wpAny_pure ?_
  refine wpAny_bind (wpAny_seqItems ho hd ?_)
  dsimp only
  rw [if_pos (by rfl)]
  obtain ⟨xs⟩ := its
  obtain rfl : xs = vs := hv
  rcases xs with _ | ⟨x, _ | ⟨y, r⟩⟩
  rotate_left
  · obtain ⟨t, hx⟩ := hb 0 x rfl
    obtain ⟨b, hbs⟩ : ∃ b, bs = [b] := List.length_eq_one_iff.mp hl
    subst hx
    show wpAny (model prog w) A (typeOf (Value.bytes (bs.getD 0 #[]) t) >>= fun r => if (r == Value.type "bytes") = true then (rule "bytes.join.one-item" >>= fun _ => ret (Value.bytes (bs.getD 0 #[]) t)) else _) _ _ _
    refine wpAny_bind (wpAny_typeOf (T := "bytes") (s := s) rfl ?_)
    rw [if_pos (by rfl)]
    refine wpAny_bind (wpAny_rule (wpAny_pure ⟨_, rfl, ?_⟩))
    have := h t s.toks
    rw [hbs] at this ⊢
    simpa [Bytes.joined] using this
  all_goals
    show wpAny (model prog w) A (forIn [:_] (#[], []) _ >>= _) _ _ _
    generalize hits : (⟨_⟩ : Array Value) = its at *
    have hv := congrArg Array.toList hits
    dsimp only at hv
    rw [hv] at hb hl hsz
    obtain ⟨vs, hvs⟩ : ∃ vs, vs = its.toList := ⟨_, rfl⟩
    rw [← hvs] at hb hl hsz
    replace hv := hvs.symm
    refine wpAny_bind ?_
    rw [Std.Legacy.Range.forIn_eq_forIn_range']
    refine wpAny_forIn_list _ (JoinI vs bs s) _ ?turn ?fin _ _ ⟨rfl, 0, ?_, Nat.zero_le _, by simp, fun _ h => (nomatch h)⟩
    case turn =>
      rintro i rest ⟨ps, tk⟩ s' ⟨rfl, j, hlj, hj, hp, ht⟩
      have hlt : j < vs.length := by
        rcases Nat.lt_or_ge j vs.length with q | q
        · exact q
        · rw [Nat.sub_eq_zero_of_le q] at hlj; cases hlj
      obtain ⟨r, hr⟩ : ∃ r, vs.length - j = r + 1 := ⟨vs.length - j - 1, by omega⟩
      rw [hr, List.range'_succ] at hlj
      injection hlj with hij hrest
      subst hij
      obtain ⟨t, hx⟩ := hb i vs[i] (List.getElem?_eq_getElem hlt)
      have hget : its.getD i Value.none = Value.bytes (bs.getD i #[]) t := by
        rw [← hx]
        have hlt' : i < its.size := by omega
        simp only [Array.getD, hlt', dif_pos]
        show its[i] = _
        simp [← hv]
      refine wpAny_bind (wpAny_seqItems ho hd ?_)
      dsimp only at hp ht ⊢
      have hany : (Bytes.Kind.bytes == Bytes.Kind.bytearray || tk.any fun x => x.fst.onHeap) = false := by
        have : (tk.any fun x => x.fst.onHeap) = false := by
          rw [List.any_eq_false]
          intro p hp'
          rw [(ht p hp').2]
          exact Bool.false_ne_true
        rw [this]; rfl
      rw [if_neg (by rw [hany]; exact Bool.false_ne_true), hget]
      refine wpAny_bind (wpAny_holding (wpAny_of_eq takeQ_eq ?_))
      dsimp only
      refine wpAny_bind (wpAny_seqItems ho hd ?_)
      dsimp only
      rw [if_neg (by simp)]
      refine wpAny_pure ⟨rfl, i + 1, ?_, hlt, ?_, ?_⟩
      · show rest = _
        rw [hrest]; congr 1; omega
      · have hb' : i < bs.length := by omega
        show (ps.push _).toList = _
        rw [Array.toList_push, hp, List.take_add_one]
        simp [List.getD, List.getElem?_eq_getElem hb']
      · intro p hp'
        rcases List.mem_append.mp hp' with q | q
        · exact ht p q
        · rw [List.mem_singleton.mp q]; exact ⟨rfl, rfl⟩
    case fin =>
      rintro ⟨ps, tk⟩ s' ⟨rfl, j, hlj, hj, hp, ht⟩
      have hjn : j = vs.length := by
        rcases Nat.lt_or_ge j vs.length with q | q
        · obtain ⟨r, hr⟩ : ∃ r, vs.length - j = r + 1 := ⟨vs.length - j - 1, by omega⟩
          rw [hr, List.range'_succ] at hlj; cases hlj
        · omega
      have hps : ps.toList = bs := by show ps.toList = bs; rw [show ps.toList = bs.take j from hp, hjn, ← hl, List.take_length]
      refine wpAny_bind (wpAny_of_eq (a := #[]) rfl ?_)
      dsimp only
      have hfold : ps.foldl (fun a b => a + b.size) ((#[] : Array UInt8).size * (ps.size - 1)) = (bs.map Array.size).sum := by
        rw [← Array.foldl_toList, hps, fold_size]
        simp
      have hlong : Bytes.tooLong (ps.foldl (fun a b => a + b.size) ((#[] : Array UInt8).size * (ps.size - 1))) = false := by
        rw [hfold]
        unfold Bytes.tooLong
        exact decide_eq_false (by omega)
      rw [if_neg (by rw [hlong]; exact Bool.false_ne_true), hps]
      refine wpAny_bind (m := mkBytes _) (wpAny_mkBytes ?_ (by rw [joined_len]; exact hz))
      refine wpAny_bind (wpAny_holding (wpAny_point ?_))
      refine wpAny_bind (jlg _ _ (fun p hp' => (ht p hp').1) ?_)
      exact wpAny_pure ⟨_, rfl, h _ _⟩
    · rw [hsz]; simp [Std.Legacy.Range.size]
end
end
section
set_option maxRecDepth 100000
theorem slot_bjoin : Slot "bytes" "join" "bytes.join" :=
  .of (owner := "bytes") (n := "join") (by rw [typeLookup_type, builtinLookup_eq_fast]; kernel_rfl) (by decide +kernel) (by decide +kernel) (by decide +kernel)
    (by first | exact .inl (by decide +kernel) | exact .inr (by decide +kernel)) (by rw [isSubtype_type]; kernel_rfl)
theorem type_bjoin : typeOf (.builtin "bytes.join") = pure (.type "method_descriptor") := by show builtinType _ = _; rw [builtinType_eq_fast]; kernel_rfl
theorem entry_bjoin : entryFor table "bytes.join" = some Builtin.«bytes.join» := entryFor_of_tree (by kernel_rfl)
theorem args_bjoin (a b : Value) : argsOk "bytes.join" ⟨[a, b], []⟩ := by
  unfold argsOk; rw [signature?_of (id := "bytes.join") (n := ['n', 'i', 'o', 'j']) (o := ['s', 'e', 't', 'y', 'b']) (by kernel_rfl) FB.owner_bytes]; kernel_rfl
end
/-- the bytes of a list of bytes -/
def BsAre (vs : List Value) (ks : List (List Int)) : Prop := vs.length = ks.length ∧ ∀ (i : Nat) (v : Value), vs[i]? = some v → ∃ b t, v = Value.bytes b t ∧ KBw.bInts b = ks.getD i []
theorem BsAre.nil : BsAre [] [] := ⟨rfl, fun i v h => by simp at h⟩
theorem BsAre.snoc {vs : List Value} {ks : List (List Int)} {b : Array UInt8} {t : Tok} {k : List Int} (h : BsAre vs ks) (hb : KBw.bInts b = k) : BsAre (vs ++ [.bytes b t]) (ks ++ [k]) := by
  refine ⟨by rw [List.length_append, List.length_append, h.1]; rfl, fun i v e => ?_⟩
  rcases Nat.lt_or_ge i vs.length with q | q
  · rw [List.getElem?_append_left q] at e
    obtain ⟨c, u, e1, e2⟩ := h.2 i v e
    have q' : i < ks.length := by rw [← h.1]; exact q
    exact ⟨c, u, e1, by rw [e2]; simp [List.getD, List.getElem?_append_left q']⟩
  · rw [List.getElem?_append_right q] at e
    have hi : i = vs.length := by
      rcases Nat.lt_or_ge (i - vs.length) 1 with w | w
      · omega
      · rw [List.getElem?_eq_none (by simpa using w)] at e; cases e
    subst hi
    simp only [Nat.sub_self, List.getElem?_cons_zero, Option.some.injEq] at e
    exact ⟨b, t, e.symm, by rw [hb]; simp [List.getD, h.1]⟩
theorem bInts_app (a b : Array UInt8) : KBw.bInts (a ++ b) = KBw.bInts a ++ KBw.bInts b := by simp [KBw.bInts]
theorem bInts_size (a : Array UInt8) : a.size = (KBw.bInts a).length := by simp [KBw.bInts]
theorem BsAre.bs {vs : List Value} {ks : List (List Int)} (h : BsAre vs ks) : ∃ bs : List (Array UInt8), bs.map KBw.bInts = ks ∧ ∀ (i : Nat) (v : Value), vs[i]? = some v → ∃ t : Tok, v = Value.bytes (bs.getD i #[]) t := by
  induction vs generalizing ks with
  | nil => exact ⟨[], by rw [List.length_eq_zero_iff.mp h.1.symm]; rfl, fun i v e => by simp at e⟩
  | cons v vs ih =>
    obtain ⟨k, ks, rfl⟩ : ∃ k r, ks = k :: r := by
      cases ks with
      | nil => exact absurd h.1 (by simp)
      | cons k r => exact ⟨k, r, rfl⟩
    obtain ⟨b, t, e1, e2⟩ := h.2 0 v rfl
    obtain ⟨bs, f1, f2⟩ := ih (ks := ks) ⟨by simpa using h.1, fun i u e => by simpa using h.2 (i + 1) u (by simpa using e)⟩
    refine ⟨b :: bs, by rw [List.map_cons, f1, e2]; rfl, fun i u e => ?_⟩
    cases i with
    | zero =>
      simp only [List.getElem?_cons_zero, Option.some.injEq] at e
      exact ⟨t, by rw [← e, e1]; rfl⟩
    | succ i => simpa using f2 i u (by simpa using e)
theorem joined_ints : ∀ (bs : List (Array UInt8)), KBw.bInts (Builtin.Bytes.joined #[] bs) = (bs.map KBw.bInts).flatten := by
  intro bs
  have key : ∀ n, n ≤ bs.length → KBw.bInts (Builtin.Bytes.joined #[] (bs.take n)) = ((bs.take n).map KBw.bInts).flatten := by
    intro n
    induction n with
    | zero => intro _; rfl
    | succ n ih =>
      intro hn
      have e : bs.take (n + 1) = bs.take n ++ [bs[n]] := by rw [List.take_add_one]; simp [List.getElem?_eq_getElem (show n < bs.length by omega)]
      rw [e, joined_snoc, bInts_app, ih (by omega), List.map_append, List.flatten_append]
      simp
  simpa using key bs.length (Nat.le_refl _)
section
variable {prog : Program} {w : World} {A : Around} {E : Value → Shared → Prop} {s : Shared}
/-- b''.join of a list of bytes -/
theorem bjoin_any {l : Addr} {its : Array Value} {t0 : Tok} {vs : List Value} {ks : List (List Int)} {Q : Value → Shared → Prop} (hi : s.heap.IsList l its) (hv : its.toList = vs) (hb : BsAre vs ks) (hz : ks.flatten.length ≤ 16777216)
    (h : ∀ b t k, KBw.bInts b = ks.flatten → Q (.bytes b t) { s with toks := k }) : wpAny (model prog w) A (call (.builtin "bytes.join") [.bytes #[] t0, .ref l]) Q E s := by
  obtain ⟨bs, e1, e2⟩ := hb.bs
  have hl : bs.length = vs.length := by rw [hb.1, ← e1, List.length_map]
  have hs : (bs.map Array.size).sum = ks.flatten.length := by
    rw [← e1, List.length_flatten, List.map_map]
    congr 1
    exact List.map_congr_left fun b _ => bInts_size b
  refine call_meets (S := fun _ R s' => s' = s ∧ ∀ b t k, KBw.bInts b = ks.flatten → R (.ok (.ret (.bytes b t))) { s with toks := k }) slot_bjoin (typeIs_bytes _ _ _) entry_bjoin (args_bjoin _ _) ?_ ⟨rfl, h⟩
  refine .of_wp fun prog w A R s' hS => ?_
  obtain ⟨rfl, h⟩ := hS
  refine bjoin_wp hi hv e2 hl (by rw [hs, sizeLine_eq]; exact hz) fun t k => ?_
  exact h _ t k (by rw [joined_ints, e1])
theorem bjoin_method {M : Model} {b : Array UInt8} {t : Tok} {pl : Sem Bool} {Q : Value × List Value → Shared → Prop} (h : Q (.builtin "bytes.join", [.bytes b t]) s) : wpAny M A (getMethod (.bytes b t) "join" pl) Q E s := by
  with_reducible exact KBd.method_of (.bytes b t) (typeIs_bytes _ _ _) slot_bjoin type_bjoin KBd.noRef h
end
section
variable {prog : Program} {w : World} {A : Around} {E : Value → Shared → Prop} {s : Shared} {R : Result → Shared → Prop} {b : Array UInt8} {t : Tok} {acc : Array Value}
/-- the loop of list.extend over the ints of bytes -/
theorem ext_loop {S I : Addr} (hh : A.handled = none) (hne : S ≠ I) (hn : acc.size + b.size ≤ sizeLine) (res : Value) {h₁ : Heap}
    (hR : ∀ h' tk c vs, (∀ x o, x ≠ S → x ≠ I → h₁.get? x = some o → h'.get? x = some o) → h'.get? S = some { cls := .type "list", dict := none, data := .seq (acc ++ vs.toArray) c, slots := #[] } → IntsAre vs (KBw.bInts b) → R (.ok (.ret res)) { s with heap := h', toks := tk }) :
    ∀ (k i : Nat) (h : Heap) (tk c : Nat) (vs : List Value), b.size - i = k → i ≤ b.size → KBw.IsBytesIter h I b t i → (∀ x o, x ≠ S → x ≠ I → h₁.get? x = some o → h.get? x = some o) →
      h.get? S = some { cls := .type "list", dict := none, data := .seq (acc ++ vs.toArray) c, slots := #[] } → IntsAre vs ((KBw.bInts b).take i) →
      codeAny (model prog w) A (.builtin "list.extend.loop" ⟨[.ref S, .ref I, res], []⟩) R { s with heap := h, toks := tk } := by
  intro k
  induction k with
  | zero =>
    intro i h tk c vs hk hi hit hkeep hS hI
    have hin : i = b.size := by omega
    subst hin
    refine codeAny_builtin PySem.F.entry_extend_loop ?_
    rw [Around.under_plainId PySem.F.plain_extend_loop _]
    show wpAny _ A.in1 (pyNext (.ref I) >>= _) _ _ _
    refine wpAny_bind (KBw.next_end (s := { s with heap := h, toks := tk }) (A := A.in1) hh hit (by simp) fun h' he => ?_)
    rw [← KBw.ints_length b, List.take_length] at hI
    exact wpAny_pure (hR h' tk c vs (fun x o h1 h2 e => he x o h2 (hkeep x o h1 h2 e)) (he S _ hne hS) hI)
  | succ k ih =>
    intro i h tk c vs hk hi hit hkeep hS hI
    have hlt : i < b.size := by omega
    have hb : b[i]? = some b[i] := by simp [hlt]
    have hlen : vs.length = i := by
      rw [hI.length, List.length_take, KBw.ints_length]; omega
    refine codeAny_builtin PySem.F.entry_extend_loop ?_
    rw [Around.under_plainId PySem.F.plain_extend_loop _]
    show wpAny _ A.in1 (pyNext (.ref I) >>= _) _ _ _
    refine wpAny_bind (KBw.next_item (s := { s with heap := h, toks := tk }) (A := A.in1) hit hb fun h' hit' hs' => ?_)
    have hS' : h'.get? S = _ := hs'.extBut S _ hne hS
    have up : ∀ x o, x ≠ S → h'.get? x = some o → (h'.update S (Obj.mapSeq (·.push (Value.int (b[i].toNat : Int) tk)))).get? x = some o := fun x o hx e => (Heap.get?_update_other _ _ (Ne.symm hx)).trans e
    show wpAny _ A.in1 (updateSeq S (·.push (Value.int (b[i].toNat : Int) tk)) >>= _) _ _ _
    refine wpAny_bind ?_
    have hz : (acc ++ vs.toArray).size ≤ sizeLine := by simp only [Array.size_append, List.size_toArray, hlen]; omega
    have hI' : IntsAre (vs ++ [Value.int (b[i].toNat : Int) tk]) ((KBw.bInts b).take (i + 1)) := by
      have e : (KBw.bInts b).take (i + 1) = (KBw.bInts b).take i ++ [(b[i].toNat : Int)] := by
        rw [List.take_add_one, KBw.ints_get hb]; rfl
      rw [e]
      exact hI.append (.cons _ _ .nil)
    have hS₂ := Heap.get?_update_self (Obj.mapSeq (·.push (Value.int (b[i].toNat : Int) tk))) hS' rfl
    have e : acc ++ (vs ++ [Value.int (b[i].toNat : Int) tk]).toArray = (acc ++ vs.toArray).push (Value.int (b[i].toNat : Int) tk) := by simp [Array.append_push]
    have hS₃ : (h'.update S (Obj.mapSeq (·.push (Value.int (b[i].toNat : Int) tk)))).get? S = some { cls := .type "list", dict := none, data := .seq (acc ++ (vs ++ [Value.int (b[i].toNat : Int) tk]).toArray) (if ((acc ++ vs.toArray).push (Value.int (b[i].toNat : Int) tk)).size == (acc ++ vs.toArray).size then c else c + 1), slots := #[] } := by
      rw [e]; exact hS₂
    refine wpAny_updateSeq hS' rfl (wpAny_pure ⟨plainId_quiet PySem.F.plain_extend_loop _, ih (i + 1) _ (tk + 1) _ (vs ++ [Value.int (b[i].toNat : Int) tk]) (by omega) hlt ?_ (fun x o h1 h2 e => up x o h1 (hs'.extBut x o h2 (hkeep x o h1 h2 e))) hS₃ hI'⟩) hz (by show ((acc ++ vs.toArray).push (Value.int (b[i].toNat : Int) tk)).size ≤ sizeLine + 1; rw [Array.size_push]; omega)
    obtain ⟨o, ho, r⟩ := hit'
    exact ⟨o, up I o (Ne.symm hne) ho, r⟩
theorem bytes_lenAt : typeLookup (.type "bytes") "__len__" = pure (some (.builtin "bytes.__len__")) := by rw [typeLookup_type, builtinLookup_eq_fast]; kernel_rfl
set_option maxRecDepth 100000 in
theorem ext_with (hh : A.handled = none) (S : Addr) (res : Value) (c₀ : Nat) (hS : s.heap.get? S = some { cls := .type "list", data := .seq acc c₀ }) (hn : acc.size + b.size ≤ sizeLine)
    (hR : ∀ h' tk c vs, (∀ x o, x ≠ S → s.heap.get? x = some o → h'.get? x = some o) → h'.get? S = some { cls := .type "list", dict := none, data := .seq (acc ++ vs.toArray) c, slots := #[] } → IntsAre vs (KBw.bInts b) → R (.ok (.ret res)) { s with heap := h', toks := tk }) :
    wpAny (model prog w) A.in1 (Builtin.List.listExtendWith (.ref S) (.bytes b t) res)
      (fun fin s' => match fin with | .done f => R (.ok f) s' | .again c' => c'.quiet = true ∧ codeAny (model prog w) A c' R s') (fun e s' => R (.error e) s') s := by
  have hSI : S ≠ s.heap.objs.size := Nat.ne_of_lt (Heap.lt_size hS)
  unfold Builtin.List.listExtendWith
  refine wpAny_bind (wpAny_typeOf (T := "bytes") (v := .bytes b t) (PySem.W.typeIs_bytes s b t) ?_)
  have h1 : Builtin.List.listSameRef (.ref S) (.bytes b t) = false := rfl
  have h2 : (Value.type "bytes" == Value.type "list") = false := by decide
  have h3 : (Value.type "bytes" == Value.type "tuple") = false := by decide
  simp only [h1, h2, h3, Bool.or_false, Bool.false_eq_true, if_false]
  refine wpAny_bind (KBw.pyIter_bytes ?_)
  refine wpAny_bind (wpAny_holding ?_)
  unfold Builtin.List.listLengthHint
  refine wpAny_bind (wpAny_specialOf (T := "bytes") (v := .bytes b t) (PySem.W.typeIs_bytes _ b t) bytes_lenAt ?_)
  generalize hid : ("bytes.__len__" : String) = id0
  wp_delta
  rw [show splitId id0 = some ("bytes", "__len__") from by subst hid; decide +kernel]
  subst hid
  refine wpAny_bind (wpAny_isInstance (T := "bytes") (b := true) (PySem.W.typeIs_bytes _ b t) (by rw [isSubtype_type]; kernel_rfl) ?_)
  refine wpAny_ite_split (fun hab => absurd hab (by decide)) (fun _ => ?_)
  refine wpAny_ite_split (fun _ => ?_) (fun hab => absurd (by decide +kernel) hab)
  refine wpAny_bind (wpAny_typeOf (PySem.W.typeIs_bytes _ b t) ?_)
  refine wpAny_pure ?_
  rw [if_neg (by decide)]
  refine wpAny_pure ⟨plainId_quiet PySem.F.plain_extend_loop _, ext_loop (acc := acc) (b := b) (t := t) hh hSI hn res (h₁ := s.heap) (fun h' tk c vs hk hS' hI => hR h' tk c vs (fun x o hx e => hk x o hx (Nat.ne_of_lt (Heap.lt_size e)) e) hS' hI) b.size 0 _ _ c₀ [] rfl (Nat.zero_le _) ⟨_, Heap.get?_push_size _ rfl, rfl, rfl⟩ (fun x o _ _ e => Heap.get?_push_of_some _ e) ?_ .nil⟩
  have e : acc ++ ([] : List Value).toArray = acc := by simp
  rw [e]
  exact Heap.get?_push_of_some _ hS
end
section
variable {prog : Program} {w : World} {A : Around} {E : Value → Shared → Prop} {s : Shared} {h₀ : Heap} {L D : Addr} {m : Str → Option Value} {news : List (Addr × Obj)} {its : Array Value} {n : Nat} {b : Array UInt8} {t : Tok}
end
section
variable {prog : Program} {w : World} {A : Around} {E : Value → Shared → Prop} {s : Shared} {b : Array UInt8} {t : Tok}
theorem listB_init {R : Result → Shared → Prop} (hh : A.handled = none) (S : Addr) (hS : s.heap.get? S = some { cls := .type "list", data := .seq #[] }) (hn : b.size ≤ sizeLine)
    (hR : ∀ h' tk c vs, (∀ x o, x ≠ S → s.heap.get? x = some o → h'.get? x = some o) → h'.get? S = some { cls := .type "list", dict := none, data := .seq (List.toArray vs) c, slots := #[] } → IntsAre vs (KBw.bInts b) → R (.ok (.ret .none)) { s with heap := h', toks := tk }) :
    wpAny (model prog w) A.in1 (Builtin.«list.__init__» ⟨[.ref S, .bytes b t], []⟩)
      (fun fin s' => match fin with | .done f => R (.ok f) s' | .again c' => c'.quiet = true ∧ codeAny (model prog w) A c' R s') (fun e s' => R (.error e) s') s := by
  show wpAny _ _ (do let old ← Builtin.List.listItems (.ref S); Builtin.List.listUpdate (.ref S) (fun _ => #[]); letGo old.toList.reverse; Builtin.List.listExtendWith (.ref S) (.bytes b t) .none) _ _ s
  refine wpAny_bind ?_
  unfold Builtin.List.listItems
  refine wpAny_bind (wpAny_seqItems hS rfl (wpAny_pure ?_))
  show wpAny _ _ (updateSeq S (fun _ => #[]) >>= fun _ => letGo (#[] : Array Value).toList.reverse >>= fun _ => Builtin.List.listExtendWith (.ref S) (.bytes b t) .none) _ _ s
  refine wpAny_bind (wpAny_updateSeq hS rfl ?_)
  have hS₂ := Heap.get?_update_self (Obj.mapSeq (fun _ => (#[] : Array Value))) hS rfl
  have oth : ∀ x o, x ≠ S → s.heap.get? x = some o → (s.heap.update S (Obj.mapSeq (fun _ => (#[] : Array Value)))).get? x = some o :=
    fun x o hx e => (Heap.get?_update_other _ _ (Ne.symm hx)).trans e
  refine wpAny_bind (wpAny_letGo ?_)
  refine ext_with (acc := #[]) hh S .none _ hS₂ (by simpa using hn) fun h' tk c vs hk hS' hI => ?_
  refine hR h' tk c vs (fun x o hx e => hk x o hx (oth x o hx e)) ?_ hI
  have e : (#[] : Array Value) ++ vs.toArray = vs.toArray := by simp
  rw [e] at hS'
  exact hS'
/-- list of bytes -/
theorem list_B {h₀ : Heap} {L : Addr} {m : Str → Option Value} {news : List (Addr × Obj)} {ls : List Int} {Q : Value → Shared → Prop} (hh : A.handled = none) (F : Fr h₀ L s.heap m) (N : News h₀ L s.heap news) (hb : KBw.bInts b = ls) (hz : ls.length ≤ 1000000)
    (h : ∀ D c h' tk vs, Fr h₀ L h' m → News h₀ L h' ((D, listOf (List.toArray vs) c) :: news) → (∀ q ∈ news, q.1 < D) → IntsAre vs ls → Q (.ref D) { s with heap := h', toks := tk }) : wpAny (model prog w) A (call (.type "list") [.bytes b t]) Q E s := by
  subst hb
  rw [KBw.ints_length] at hz
  refine callType_codes (Q₁ := fun obj s₁ => obj = .ref s.heap.objs.size ∧ s₁ = { s with heap := s.heap.push { cls := .type "list", data := .seq #[] } }) PySem.F.called_list (PySem.F.typeCall_list_1 _) PySem.F.entry_list_init
    (code_list_new _ ⟨rfl, rfl⟩) fun obj s₁ h₁ => ?_
  obtain ⟨rfl, rfl⟩ := h₁
  have hS : (s.heap.push { cls := .type "list", data := .seq #[] }).get? s.heap.objs.size = some { cls := .type "list", data := .seq #[] } := Heap.get?_push_size _ rfl
  refine ⟨⟨_, hS, rfl⟩, PySem.F.args_list_init_2 _ _, listB_init (A := A.in1) hh _ hS (by rw [sizeLine_eq]; omega) fun h' tk c vs hk hS' hI => ?_⟩
  have keep : ∀ x o, s.heap.get? x = some o → h'.get? x = some o := fun x o e => hk x o (Nat.ne_of_lt (Heap.lt_size e)) (Heap.get?_push_of_some _ e)
  exact ⟨rfl, h _ c h' tk vs (F.keeps keep) (news_pushed F N keep hS' rfl) (fun q hq => Heap.lt_size (N q hq).1) hI⟩
end
open PyProof.V
/-- a table keyed by pairs of ints -/
def encP (p : Int × Int) : PyData := encTuple PyData.int [p.1, p.2]
theorem encP_eq (p q : Int × Int) : same (encP p) (encP q) = decide (p = q) := by
  unfold encP
  rw [(keyEnc_tuple keyEnc_int).eq]
  obtain ⟨a, b⟩ := p
  obtain ⟨c, d⟩ := q
  simp
theorem encP_sep (a : PyData) (n k : Int × Int) (h : same a (encP n) = true) (hne : k ≠ n) : same a (encP k) = false :=
  (keyEnc_tuple keyEnc_int).sep a _ _ h fun e => hne (by obtain ⟨x, y⟩ := n; obtain ⟨u, v⟩ := k; simpa using e)
theorem keyEncP : KeyEnc encP := ⟨encP_eq, encP_sep⟩
/-- the table tells how often each pair was counted -/
def TalP (D : List (PyData × PyData)) (done : List (Int × Int)) : Prop := (∃ ps : List (Int × Int), D.map (·.1) = ps.map encP ∧ ps.Nodup ∧ ∀ p, p ∈ ps ↔ p ∈ done) ∧ ∀ p, (Spec.lookup (encP p) D).getD (.int 0) = .int (done.count p : Nat)
theorem lookup_keys {D : List (PyData × PyData)} : ∀ {ps : List (Int × Int)}, D.map (·.1) = ps.map encP → ∀ p, (Spec.lookup (encP p) D).isSome = decide (p ∈ ps) := by
  induction D with
  | nil => intro ps h p; cases ps with | nil => rfl | cons _ _ => simp at h
  | cons q D ih =>
    intro ps h p
    cases ps with
    | nil => simp at h
    | cons r ps =>
      obtain ⟨a, b⟩ := q
      simp only [List.map_cons, List.cons.injEq] at h
      rw [Spec.lookup, h.1, encP_eq]
      by_cases e : r = p
      · subst e; simp
      · rw [if_neg (by simpa using e), ih h.2]
        have e' : ¬ p = r := fun q => e q.symm
        simp [e']
theorem tal_nil : TalP [] [] := ⟨⟨[], rfl, List.nodup_nil, fun _ => Iff.rfl⟩, fun _ => rfl⟩
theorem tal_put {D : List (PyData × PyData)} {done : List (Int × Int)} (h : TalP D done) (p : Int × Int) : TalP (putD (encP p) (.int ((done.count p : Nat) + 1)) D) (done ++ [p]) := by
  obtain ⟨⟨ps, h1, h2, h3⟩, h4⟩ := h
  refine ⟨?_, fun q => ?_⟩
  · have hs := lookup_keys h1 p
    by_cases hp : p ∈ ps
    · refine ⟨ps, ?_, h2, fun q => ?_⟩
      · rw [putD_present (by rw [hs]; simpa using hp), List.map_map, ← h1]
        refine List.map_congr_left fun x _ => ?_
        show ((if same x.1 (encP p) = true then (x.1, PyData.int ((done.count p : Nat) + 1)) else x) : PyData × PyData).1 = x.1
        split <;> rfl
      · rw [List.mem_append, List.mem_singleton, h3 q]
        exact ⟨.inl, fun h => h.elim id fun e => by rw [e]; exact (h3 p).mp hp⟩
    · refine ⟨ps ++ [p], ?_, ?_, fun q => ?_⟩
      · rw [putD_absent (by
          cases hl : Spec.lookup (encP p) D with
          | none => rfl
          | some x => rw [hl] at hs; simp [hp] at hs), List.map_append, List.map_append, h1]
        rfl
      · rw [List.nodup_append]
        exact ⟨h2, by simp, fun a ha b hb => by rw [List.mem_singleton.mp hb]; exact fun e => hp (e ▸ ha)⟩
      · rw [List.mem_append, List.mem_append, List.mem_singleton, h3 q]
  · rw [lookup_putK keyEncP, List.count_append]
    by_cases e : q = p
    · subst e; simp
    · rw [if_neg e, h4 q]
      have : List.count q [p] = 0 := by rw [List.count_eq_zero]; simpa using e
      rw [this]; rfl
section
variable {prog : Program} {w : World} {h₀ h : Heap} {L d a : Addr} {m : Str → Option Value} {news : List (Addr × Obj)} {D : List (PyData × PyData)} {o : Obj}
/-- an object that is a pair of ints -/
def PairO (x y : Int) (o : Obj) : Prop := o.cls = .type "tuple" ∧ ∃ t u n, o.data = .seq #[.int x t, .int y u] n
theorem PairO.made (x y : Int) (t u : Tok) : PairO x y { cls := .type "tuple", data := .seq #[.int x t, .int y u] } := ⟨rfl, t, u, _, rfl⟩
theorem PairO.key {x y : Int} (h : PairO x y o) : TupKeyObj (intKind prog w) [x, y] o := by
  obtain ⟨hc, t, u, n, hd⟩ := h
  exact ⟨hc, _, n, hd, .cons (intKind_is _ _ _ _) (.cons (intKind_is _ _ _ _) .nil)⟩
end
/-- a table whose keys are pairs of the ledger's led -/
def PTab (prog : Program) (w : World) (led : List (Addr × Obj)) (o : Obj) (D : List (PyData × PyData)) : Prop :=
  ∃ es ep xs, o.ExactDict ∧ o.data = .dict es ep ∧ es.toList = xs.map (entryOfKey (tupleKind (intKind prog w))) ∧ (xs.map (·.1)).Nodup ∧ (∀ x ∈ xs, ∃ a b ok, x.1 = [a, b] ∧ (x.2.1, ok) ∈ led ∧ PairO a b ok) ∧ FlatPairs (encTuple PyData.int) (kvsOf xs) D
section
variable {prog : Program} {w : World} {A : Around} {E : Value → Shared → Prop} {s : Shared} {h₀ : Heap} {L d a : Addr} {m : Str → Option Value} {led news : List (Addr × Obj)} {D : List (PyData × PyData)} {o ok : Obj}
theorem PTab.mono {led' : List (Addr × Obj)} (h : PTab prog w led o D) (hs : ∀ p ∈ led, p ∈ led') : PTab prog w led' o D :=
  let ⟨es, ep, xs, h1, h2, h3, h4, h5, h6⟩ := h; ⟨es, ep, xs, h1, h2, h3, h4, fun x hx => let ⟨a, b, ok, e, hm, hp⟩ := h5 x hx; ⟨a, b, ok, e, hs _ hm, hp⟩, h6⟩
theorem PTab.ofEmpty {K' : Type} [DecidableEq K'] {knd' : KeyKind prog w K'} (hd : o.IsDictOf knd' []) : PTab prog w led o [] := by
  obtain ⟨es, ep, hc, hdat, _, hp, _⟩ := hd
  have he : es.toList = [] := List.length_eq_zero_iff.mp hp.length
  exact ⟨es, ep, [], hc, hdat, he, List.nodup_nil, fun _ hx => by simp at hx, .nil⟩
theorem PTab.tab (h : PTab prog w led o D) (lo : (d == sysModules) = false) (hm : (d, o) ∈ news) (hs : ∀ p ∈ led, p ∈ news) : TupTab (intKind prog w) PyData.int news d D := by
  obtain ⟨es, ep, xs, h1, h2, h3, h4, h5, h6⟩ := h
  refine ⟨lo, o, es, ep, xs, hm, h1, h2, h3, h4, fun x hx => ?_, h6⟩
  obtain ⟨a, b, ok, e, hm', hp⟩ := h5 x hx
  exact ⟨ok, hs _ hm', e ▸ hp.key⟩
theorem ptab_get {x y c : Int} {tc : Tok} {Q : Value → Shared → Prop} (hu : A.units + 1 < cLine) (N : News h₀ L s.heap news) (T : PTab prog w led o D) (lo : (d == sysModules) = false) (hm : (d, o) ∈ news) (hs : ∀ p ∈ led, p ∈ news) (hka : (a, ok) ∈ news) (hp : PairO x y ok)
    (hg : (Spec.lookup (encP (x, y)) D).getD (.int c) = .int n) (h : ∀ t k, Q (.int n t) { s with toks := k }) : wpAny (model prog w) A (call (.builtin "dict.get") [.ref d, .ref a, .int c tc]) Q E s := by
  refine call_get2_tupTab_eq (dd := .int c) same_int hu N (T.tab lo hm hs) hka hp.key (Flat.int _ _) hg fun v hv => ?_
  obtain ⟨t, rfl⟩ := PyProof.V.Flat.int_inv hv
  exact h _ _
theorem ptab_item {x y c : Int} {value slice : Expr} {Q : Value → Shared → Prop} (hu : A.units + 1 < cLine) (N : News h₀ L s.heap news) (T : PTab prog w led o D) (lo : (d == sysModules) = false) (hm : (d, o) ∈ news) (hs : ∀ p ∈ led, p ∈ news) (hka : (a, ok) ∈ news) (hp : PairO x y ok)
    (hg : Spec.lookup (encP (x, y)) D = some (.int c)) (h : ∀ t k, Q (.int c t) { s with toks := k })
    (hs1 : subscripted slice false (.ref d) (.ref a) = operate [.ref d, .ref a] (getItem (.ref d) (.ref a)) := by with_unfolding_all rfl) (hs2 : ∀ r, letTemporaryGo value (.ref d) r = pure () := by intro _; with_unfolding_all rfl) :
    wpAny (model prog w) A (subscriptTail value slice (.ref d) (.ref a)) Q E s := by
  refine item_tupTab same_int hu N (T.tab lo hm hs) hka hp.key hg (fun v hv => ?_) hs1 hs2
  obtain ⟨t, rfl⟩ := PyProof.V.Flat.int_inv hv
  exact h _ _
theorem ptab_method {pl : Sem Bool} {Q : Value × List Value → Shared → Prop} (N : News h₀ L s.heap news) (T : PTab prog w led o D) (lo : (d == sysModules) = false) (hm : (d, o) ∈ news) (hs : ∀ p ∈ led, p ∈ news) (h : Q (.builtin "dict.get", [.ref d]) s) :
    wpAny (model prog w) A (getMethod (.ref d) "get" pl) Q E s := getMethod_tupTab_get N (T.tab lo hm hs) h
theorem ptab_set {x y c : Int} {tc : Tok} {Q : Unit → Shared → Prop} (hu : A.units + 1 < cLine) (F : Fr h₀ L s.heap m) (N : News h₀ L s.heap ((d, o) :: news)) (hoff : ∀ p ∈ news, p.1 ≠ d) (T : PTab prog w led o D) (hs : ∀ p ∈ led, p ∈ news) (hka : (a, ok) ∈ led) (hp : PairO x y ok) (hz : D.length ≤ 100000)
    (h : ∀ h' o' k, Fr h₀ L h' m → News h₀ L h' ((d, o') :: news) → PTab prog w led o' (putD (encP (x, y)) (.int c) D) → Q () { s with heap := h', toks := k }) :
    wpAny (model prog w) A (setItem (.ref d) (.ref a) (.int c tc)) Q E s := by
  obtain ⟨es, ep, xs, h1, h2, h3, h4, h5, h6⟩ := T
  have N₀ : News h₀ L s.heap news := fun p hp => N p (.tail _ hp)
  have hD : s.heap.DictOfH (tupleKind (intKind prog w)) d xs := ⟨o, es, ep, (N _ (.head _)).1, h1, h2, h3, fun x hx => by
    obtain ⟨a, b, ok, e, hm, hp⟩ := h5 x hx
    rw [e]
    exact hp.key.key (N₀.get (hs _ hm)), h4⟩
  have hxs : xs.length ≤ sizeLine := by have e := h6.length; simp only [kvsOf, List.length_map] at e; rw [sizeLine_eq]; omega
  refine wpAny_setItem_heap (hsz := hxs) (knd := tupleKind (intKind prog w)) (k := [x, y]) (tupleKind_room_in1 hu) (hp.key.key (N₀.get (hs _ hka))) hD fun h' hm' hsb => ?_
  obtain ⟨o', es', ep', ho', hc', hd', he', _, hn'⟩ := hm'
  have nz := N (d, o) (.head _)
  refine h h' o' _ (kas_fr F hsb nz.2.1 nz.2.2) (fun p hp => ?_) ⟨es', ep', storedH xs [x, y] a (.int c tc), hc', hd', he', hn', fun z hz => ?_, by rw [kvsOf_storedH]; exact h6.stored (same_encTuple same_int) [x, y] (Flat.int _ _)⟩
  · rcases List.mem_cons.mp hp with rfl | hp
    · exact ⟨ho', nz.2⟩
    · exact kas_news N₀ hsb hoff p hp
  · rcases mem_storedH hz with ⟨y', hy, e1, e2⟩ | ⟨e1, e2⟩
    · obtain ⟨a, b, ok, e, hm, hp⟩ := h5 y' hy
      exact ⟨a, b, ok, by rw [e1]; exact e, by rw [e2]; exact hm, hp⟩
    · exact ⟨x, y, ok, e1, by rw [e2]; exact hka, hp⟩
/-- its keys, one by one -/
theorem PTab.keys (T : PTab prog w led o D) : ∃ es ep, ∃ qs : List (Addr × (Int × Int)), o.ExactDict ∧ o.data = .dict es ep ∧ es.toList.map (·.key) = qs.map (fun q => Value.ref q.1) ∧ (∀ q ∈ qs, ∃ ok, (q.1, ok) ∈ led ∧ PairO q.2.1 q.2.2 ok) ∧ D.map (·.1) = qs.map (fun q => encP q.2) ∧ (qs.map (·.2)).Nodup := by
  obtain ⟨es, ep, xs, h1, h2, h3, h4, h5, h6⟩ := T
  refine ⟨es, ep, xs.map fun x => (x.2.1, (x.1.getD 0 0, x.1.getD 1 0)), h1, h2, ?_, ?_, ?_, ?_⟩
  · rw [h3, List.map_map, List.map_map]
    exact List.map_congr_left fun x _ => rfl
  · intro q hq
    obtain ⟨x, hx, rfl⟩ := List.mem_map.mp hq
    obtain ⟨a, b, ok, e, hm, hp⟩ := h5 x hx
    exact ⟨ok, hm, by rw [e]; exact hp⟩
  · rw [List.map_map]
    have : D.map (·.1) = (kvsOf xs).map fun kv => encTuple PyData.int kv.1 := by
      clear h3 h4 h5
      generalize kvsOf xs = kvs at h6
      induction h6 with
      | nil => rfl
      | cons _ _ ih => simp [ih]
    rw [this, kvsOf, List.map_map]
    refine List.map_congr_left fun x hx => ?_
    obtain ⟨a, b, ok, e, hm, hp⟩ := h5 x hx
    show encTuple PyData.int x.1 = encP (x.1.getD 0 0, x.1.getD 1 0)
    rw [e]; rfl
  · rw [List.map_map]
    have e : xs.map (·.1) = (xs.map ((·.2) ∘ fun x : List Int × Addr × Value => (x.2.1, (x.1.getD 0 0, x.1.getD 1 0)))).map fun p : Int × Int => [p.1, p.2] := by
      rw [List.map_map]
      refine List.map_congr_left fun x hx => ?_
      obtain ⟨a, b, ok, e, hm, hp⟩ := h5 x hx
      show x.1 = [x.1.getD 0 0, x.1.getD 1 0]
      rw [e]; rfl
    rw [e] at h4
    exact List.Pairwise.of_map _ (fun a b h e => h (by rw [e])) h4
end
theorem kdl_raw {prog : Program} {w : World} {d : Addr} {es : Array DictEntry} {ep : Nat} (lo : (d == sysModules) = false) : KdlSrc prog w "dict" d d es.size (fun i v => ∃ e, es[i]? = some e ∧ v = e.key) (fun h => DictRaw h d es ep) where
  type := fun _ hm => hm.typeIs
  there := fun _ hm => ⟨hm.lt, hm.lt⟩
  keep := fun _ _ hm hk => hm.at fun o e => hk d (.inl rfl) o e
  notList := by decide
  notTuple := by decide
  hint := fun _ _ _ _ hm hq => kdl_hint_dict hm.typeIs hq
  iter := fun _ _ hh hm => ⟨_, _, (fun _ _ hq => raw_iter lo hm hq), raw_walks hh _ d (Nat.ne_of_lt hm.lt) es ep, ⟨⟨_, Heap.get?_push_size _ rfl, rfl, rfl⟩, hm.at fun o e => Heap.get?_push_of_some _ e⟩⟩
theorem pick_perm {α : Type} {p : List Nat} {l : List α} (z : α) (h : p.Perm (List.range l.length)) : (p.map fun i => l.getD i z).Perm l := by
  have e : ((List.range l.length).map fun i => l.getD i z) = l := by
    apply List.ext_getElem
    · simp
    · intro i h1 h2
      simp [List.getD, List.getElem?_eq_getElem h2]
  have := h.map fun i => l.getD i z
  rw [e] at this
  exact this
theorem PairO.tupI {news : List (Addr × Obj)} {a : Addr} {o : Obj} {x y : Int} (h : PairO x y o) (hm : (a, o) ∈ news) : TupI news (.ref a) (x, y) := by
  obtain ⟨hc, t, u, n, hd⟩ := h
  exact ⟨a, o, _, n, t, u, [], rfl, hm, hc, hd, rfl⟩
section
variable {prog : Program} {w : World} {A : Around} {E : Value → Shared → Prop} {s : Shared} {h₀ : Heap} {L d : Addr} {m : Str → Option Value} {led news : List (Addr × Obj)} {D : List (PyData × PyData)} {o : Obj}
/-- sorted of a table keyed by pairs: its keys in some order -/
theorem sorted_pairs {Q : Value → Shared → Prop} (hh : A.handled = none) (F : Fr h₀ L s.heap m) (N : News h₀ L s.heap news) (lo : (d == sysModules) = false) (hm : (d, o) ∈ news) (T : PTab prog w led o D) (hs : ∀ p ∈ led, p ∈ news) (h64 : D.length < 64)
    (h : ∀ S (qs : List (Addr × (Int × Int))) c h' tk, Fr h₀ L h' m → News h₀ L h' ((S, listOf (qs.map fun q => Value.ref q.1).toArray c) :: news) → (∀ q ∈ news, q.1 < S) → (∀ q ∈ qs, ∃ ok, (q.1, ok) ∈ led ∧ PairO q.2.1 q.2.2 ok) → (D.map (·.1)).Perm (qs.map fun q => encP q.2) → Q (.ref S) { s with heap := h', toks := tk }) :
    wpAny (model prog w) A (call (.builtin "sorted") [.ref d]) Q E s := by
  obtain ⟨es, ep, qs, h1, h2, h3, h4, h5, h6⟩ := T.keys
  have hlen : es.size = qs.length := by have := congrArg List.length h3; simpa using this
  have hql : qs.length < 64 := by have := congrArg List.length h5; simp only [List.length_map] at this; omega
  refine kdu_sorted (kdl_raw lo) hh F N ⟨o, (N _ hm).1, h1, h2⟩ (by rw [sizeLine_eq]; omega) fun S h' tk vs F' N' l1 hvl hv => ?_
  have hvs : vs = qs.map fun q => Value.ref q.1 := by
    rw [← h3]
    apply List.ext_getElem?
    intro j
    rcases Nat.lt_or_ge j vs.length with q | q
    · obtain ⟨e, he, hve⟩ := hv j vs[j] (List.getElem?_eq_getElem q)
      rw [List.getElem?_eq_getElem q, List.getElem?_map, Array.getElem?_toList, he, hve]; rfl
    · rw [List.getElem?_eq_none q, List.getElem?_eq_none (by simp; omega)]
  refine lsort_tups (vs := vs) (ks := qs.map (·.2)) F' N' (off_lt l1) rfl (by rw [hvl, hlen]; exact hql) (by rw [hvs]; simp) h6 (fun i v k e1 e2 => ?_) fun p c h'' tk' hp F'' N'' => ?_
  · rw [hvs, List.getElem?_map] at e1
    rw [List.getElem?_map] at e2
    cases hq : qs[i]? with
    | none => rw [hq] at e1; cases e1
    | some q =>
      rw [hq] at e1 e2
      obtain rfl := Option.some.inj e1
      obtain rfl := Option.some.inj e2
      obtain ⟨ok, hk1, hk2⟩ := h4 q (List.mem_of_getElem? hq)
      exact hk2.tupI (hs _ hk1)
  · have hp' : p.Perm (List.range qs.length) := by rw [← hlen, ← hvl]; exact hp
    have hpk := pick_perm (0, (0, 0)) hp'
    have e : (p.map fun i => vs.getD i Value.none) = (p.map fun i => qs.getD i (0, (0, 0))).map fun q => Value.ref q.1 := by
      rw [List.map_map]
      refine List.map_congr_left fun i hi => ?_
      have hi' : i < qs.length := List.mem_range.mp (hp'.mem_iff.mp hi)
      show vs.getD i Value.none = Value.ref (qs.getD i (0, (0, 0))).1
      rw [hvs]
      simp [List.getD, List.getElem?_eq_getElem hi']
    rw [e] at N''
    exact h S _ c h'' tk' F'' N'' l1 (fun q hq => h4 q (hpk.mem_iff.mp hq)) (by rw [h5]; exact (hpk.map _).symm)
end
theorem tal_len {D : List (PyData × PyData)} {done : List (Int × Int)} (h : TalP D done) : D.length ≤ done.length := by
  obtain ⟨⟨ps, h1, h2, h3⟩, _⟩ := h
  have e := congrArg List.length h1
  simp only [List.length_map] at e
  rw [e]
  exact nodup_sub_len h2 fun p hp => (h3 p).mp hp
theorem tal_small {D : List (PyData × PyData)} {done r : List (Int × Int)} {ns : List Int} (h : TalP D done) (e : done ++ r = cntL ns) (hl : ns.length ≤ 1000) : D.length ≤ 100000 := by
  have h1 := tal_len h
  have h2 := cntL_len ns
  have h3 := congrArg List.length e
  rw [List.length_append] at h3
  omega
theorem cnt_turn {ns : List Int} {i : Nat} (h : i + 1 < ns.length) : cntL (ns.drop i) = (ns.getD i 0, ns.getD (i + 1) 0) :: (if i + 2 < ns.length ∧ ns.getD i 0 = ns.getD (i + 1) 0 ∧ ns.getD (i + 1) 0 = ns.getD (i + 2) 0 then cntL (ns.drop (i + 2)) else cntL (ns.drop (i + 1))) := by
  have g : ∀ k, (hk : k < ns.length) → ns.drop k = ns.getD k 0 :: ns.drop (k + 1) := fun k hk => by
    rw [List.drop_eq_getElem_cons hk]; simp [List.getD, List.getElem?_eq_getElem hk]
  rw [g i (by omega), g (i + 1) h]
  by_cases h2 : i + 2 < ns.length
  · rw [g (i + 2) h2]
    by_cases hc : ns.getD i 0 = ns.getD (i + 1) 0 ∧ ns.getD (i + 1) 0 = ns.getD (i + 2) 0
    · rw [if_pos ⟨h2, hc⟩]
      show (_, _) :: (if _ then _ else _) = _
      rw [if_pos hc]
    · rw [if_neg fun q => hc q.2]
      show (_, _) :: (if _ then _ else _) = _
      rw [if_neg hc]
  · rw [if_neg fun q => h2 q.1, List.drop_eq_nil_of_le (show ns.length ≤ i + 1 + 1 by omega)]
    rfl
theorem cnt_done {ns : List Int} {i : Nat} (h : ¬ (i : Int) + 1 < ns.length) : cntL (ns.drop i) = [] := by
  have hl : (ns.drop i).length ≤ 1 := by rw [List.length_drop]; omega
  rcases hd : ns.drop i with _ | ⟨a, _ | ⟨b, r⟩⟩
  · rfl
  · rfl
  · rw [hd] at hl; simp at hl
/-- what count_pairs hands back: a table of the pairs counted -/
def CpOut (prog : Program) (w : World) (ns : List Int) (news : List (Addr × Obj)) (r : Value) (news' : List (Addr × Obj)) : Prop :=
  ∃ dd o tl D, r = .ref dd ∧ news' = (dd, o) :: (tl ++ news) ∧ (∀ q ∈ news, q.1 < dd) ∧ (∀ q ∈ news, ∀ p ∈ tl, q.1 < p.1) ∧ (∀ p ∈ tl, dd < p.1) ∧ (dd == sysModules) = false ∧ PTab prog w tl o D ∧ TalP D (cntL ns)
def CpC (f : Addr) (prog : Program) (w : World) (K : Frag) (p : Program) (loose : List Str) (mean : ExcName → Option Value) (mg mb : Str → Option Value) : Prop :=
  ∀ (R : Addr) (vs : List Value) (nR : Nat) (ns : List Int) (news : List (Addr × Obj)), (R, listOf vs.toArray nR) ∈ news → IntsAre vs ns → ns.length ≤ 1000 → Fun prog w K p loose mean mg mb 20 f [.ref R] news (CpOut prog w ns news)
structure CpS where
  i : Nat
  t : Tok
  o : Obj
  tl : List (Addr × Obj)
  D : List (PyData × PyData)
  done : List (Int × Int)
def cpLed (dd : Addr) (news : List (Addr × Obj)) (c : CpS) : List (Addr × Obj) := (dd, c.o) :: (c.tl ++ news)
def cpPs (c : CpS) : List (Str × Value) := [(Str.ofString "i", .int c.i c.t)]
def cpFacts (prog : Program) (w : World) (dd : Addr) (news : List (Addr × Obj)) (c : CpS) : Prop := PTab prog w c.tl c.o c.D ∧ (∀ q ∈ news, ∀ p ∈ c.tl, q.1 < p.1) ∧ (∀ p ∈ c.tl, dd < p.1)
def cpP (ns : List Int) (c : CpS) : Prop := TalP c.D c.done ∧ c.done ++ cntL (ns.drop c.i) = cntL ns
section
variable {prog : Program} {w : World} {A : Around} {E : Value → Shared → Prop} {Q : Flow → Shared → Prop} {s : Shared} {env : Env} {h₀ : Heap} {L : Addr}
theorem cp_while {test : Expr} {body : List Stmt} {pos : Pos} {m₀ : Str → Option Value} {ns : List Int} {vs : List Value} {news : List (Addr × Obj)} {dd R : Addr} {o₀ : Obj} {nR : Nat} {t : Tok}
    (F : Fr h₀ L s.heap m₀) (N : News h₀ L s.heap ((dd, o₀) :: news)) (hi : m₀ (Str.ofString "i") = some (.int 0 t)) (_hr : m₀ (Str.ofString "row") = some (.ref R)) (_hm : (R, listOf vs.toArray nR) ∈ news) (_hv : IntsAre vs ns) (hd : o₀.IsDictOf (intKind prog w) [])
    (turn : ∀ (i : Nat) (t : Tok) (o : Obj) (tl : List (Addr × Obj)) (D : List (PyData × PyData)) (done : List (Int × Int)) (u : Str → Option Value) h tk,
      PTab prog w tl o D → (∀ q ∈ news, ∀ p ∈ tl, q.1 < p.1) → (∀ p ∈ tl, dd < p.1) → TalP D done → done ++ cntL (ns.drop i) = cntL ns →
      Fr h₀ L h (fun y => if y = Str.ofString "i" then some (.int i t) else if ([Str.ofString "pair"] : List Str).contains y then u y else m₀ y) → News h₀ L h ((dd, o) :: (tl ++ news)) →
      wpAny (model prog w) A (isTrue test env (eval test env)) (fun b s₂ =>
        if b = true then wpAny (model prog w) A (execs body env) (KswPost h₀ L s (cpLed dd news) cpPs (cpFacts prog w dd news) [Str.ofString "pair"] m₀ (cpP ns) (fun c => ns.length - c.i) Q ⟨i, t, o, tl, D, done⟩) E s₂ else Q .next s₂) E { s with heap := h, toks := tk })
    (hE : PassesOwn (model prog w) A env E := by passes_own) :
    wpAny (model prog w) A (exec (.While test body [] pos) env) Q E s := by
  refine ksw_while (cpLed dd news) cpPs (cpFacts prog w dd news) [Str.ofString "pair"] (cpP ns) (fun c => ns.length - c.i) ⟨0, t, o₀, [], [], []⟩ F N ⟨PTab.ofEmpty hd, fun _ _ _ h => (nomatch h), fun _ h => (nomatch h)⟩ ?_ ⟨tal_nil, rfl⟩ ?_ hE
  · intro p hp
    rw [List.mem_singleton.mp hp]
    exact hi
  · rintro ⟨i, t, o, tl, D, done⟩ u h tk ⟨f1, f2, f3⟩ ⟨p1, p2⟩ F₁ N₁
    exact turn i t o tl D done u h tk f1 f2 f3 p1 p2 F₁ N₁
theorem allLt_mem {d : Addr} : ∀ {l : List (Addr × Obj)}, AllLt d l → ∀ p ∈ l, p.1 < d
  | [], _, _, hp => (nomatch hp)
  | q :: r, h, p, hp => by
    rcases List.mem_cons.mp hp with rfl | hp
    · exact h.1
    · exact allLt_mem h.2 p hp
theorem ptab_setT {d a T : Addr} {o oT ok : Obj} {tl news : List (Addr × Obj)} {m : Str → Option Value} {D : List (PyData × PyData)} {x y c : Int} {tc : Tok} {Q : Unit → Shared → Prop} (hu : A.units + 1 < cLine) (F : Fr h₀ L s.heap m) (N : News h₀ L s.heap ((T, oT) :: (d, o) :: (tl ++ news))) (l1 : d < T ∧ AllLt T (tl ++ news)) (kM : ∀ p ∈ tl, d < p.1) (kN : ∀ q ∈ news, q.1 < d)
    (hT : PTab prog w tl o D) (hka : (a, ok) ∈ (T, oT) :: tl) (hp : PairO x y ok) (hz : D.length ≤ 100000)
    (h : ∀ h' o' k, Fr h₀ L h' m → News h₀ L h' ((d, o') :: (T, oT) :: (tl ++ news)) → PTab prog w ((T, oT) :: tl) o' (putD (encP (x, y)) (.int c) D) → Q () { s with heap := h', toks := k }) :
    wpAny (model prog w) A (setItem (.ref d) (.ref a) (.int c tc)) Q E s := by
  refine ptab_set (led := (T, oT) :: tl) hu F (fun p hp => ?_) (fun p hp => ?_) (hT.mono fun p hp => .tail _ hp) (fun p hp => ?_) hka hp hz h
  · rcases List.mem_cons.mp hp with rfl | hp
    · exact N _ (.tail _ (.head _))
    · rcases List.mem_cons.mp hp with rfl | hp
      · exact N _ (.head _)
      · exact N _ (.tail _ (.tail _ hp))
  · rcases List.mem_cons.mp hp with rfl | hp
    · exact Nat.ne_of_gt l1.1
    · exact (List.mem_append.mp hp).elim (fun h => Nat.ne_of_gt (kM p h)) fun h => Nat.ne_of_lt (kN p h)
  · rcases List.mem_cons.mp hp with rfl | hp
    · exact .head _
    · exact .tail _ (List.mem_append.mpr (.inl hp))
/-- a turn's end: j is the next place -/
theorem cp_end {m₀ m' : Str → Option Value} {news tl : List (Addr × Obj)} {dd T : Addr} {ns : List Int} {o o' oT : Obj} {D : List (PyData × PyData)} {done : List (Int × Int)} {i : Nat} {z x y : Int} {t tj : Tok} {h' : Heap} {tk : Nat}
    (F : Fr h₀ L h' m') (N : News h₀ L h' ((dd, o') :: (T, oT) :: (tl ++ news))) (l1 : dd < T ∧ AllLt T (tl ++ news))
    (hm : m' (Str.ofString "i") = some (.int z tj)) (hr : ∀ q, (∀ p ∈ [(Str.ofString "i", Value.int z tj)], q ≠ p.1) → ([Str.ofString "pair"] : List Str).contains q = false → m' q = m₀ q)
    (kT : PTab prog w ((T, oT) :: tl) o' (putD (encP (x, y)) (.int ((done.count (x, y) : Nat) + 1)) D)) (kL : ∀ q ∈ news, ∀ p ∈ tl, q.1 < p.1) (kM : ∀ p ∈ tl, dd < p.1) (kC : TalP D done) (kR : done ++ cntL (ns.drop i) = cntL ns)
    (hx : x = ns.getD (i : Int).toNat 0) (hy : y = ns.getD ((i : Int) + 1).toNat 0) (h1 : (i : Int) + 1 < ns.length)
    (hz : (z = (i : Int) + 2 ∧ (i : Int) + 2 < ns.length ∧ ns.getD (i : Int).toNat 0 = ns.getD ((i : Int) + 1).toNat 0 ∧ ns.getD ((i : Int) + 1).toNat 0 = ns.getD ((i : Int) + 2).toNat 0) ∨ (z = (i : Int) + 1 ∧ (¬ (i : Int) + 2 < ns.length ∨ ns.getD (i : Int).toNat 0 ≠ ns.getD ((i : Int) + 1).toNat 0 ∨ ns.getD ((i : Int) + 1).toNat 0 ≠ ns.getD ((i : Int) + 2).toNat 0))) :
    KswEnd h₀ L s (cpLed dd news) cpPs (cpFacts prog w dd news) [Str.ofString "pair"] m₀ (cpP ns) (fun c => ns.length - c.i) ⟨i, t, o, tl, D, done⟩ { s with heap := h', toks := tk } := by
  have e0 : (i : Int).toNat = i := by omega
  have e1 : ((i : Int) + 1).toNat = i + 1 := by omega
  have e2 : ((i : Int) + 2).toNat = i + 2 := by omega
  rw [e0, e1, e2] at hz
  rw [e0] at hx
  rw [e1] at hy
  subst hx
  subst hy
  have hj : ((z.toNat : Nat) : Int) = z := by omega
  have kR' : (done ++ [(ns.getD i 0, ns.getD (i + 1) 0)]) ++ cntL (ns.drop z.toNat) = cntL ns := by
    rw [← kR, cnt_turn (show i + 1 < ns.length by omega), List.append_assoc, List.singleton_append]
    rcases hz with ⟨e, h2, hc⟩ | ⟨e, hc⟩
    · rw [if_pos ⟨by omega, hc⟩, show z.toNat = i + 2 by omega]
    · rw [if_neg (fun q => by rcases hc with hc | hc | hc; exact hc (by omega); exact hc q.2.1; exact hc q.2.2), show z.toNat = i + 1 by omega]
  refine ksw_end (c' := ⟨z.toNat, tj, o', (T, oT) :: tl, _, done ++ [(ns.getD i 0, ns.getD (i + 1) 0)]⟩) F N ?_ ⟨kT, ?_, ?_⟩ ?_ ?_ ⟨tal_put kC _, kR'⟩ ?_
  · exact fun q hq => hq
  · intro q hq p hp
    rcases List.mem_cons.mp hp with rfl | hp
    · exact allLt_mem l1.2 q (List.mem_append.mpr (.inr hq))
    · exact kL q hq p hp
  · intro p hp
    rcases List.mem_cons.mp hp with rfl | hp
    · exact l1.1
    · exact kM p hp
  · intro q hq
    rw [List.mem_singleton.mp hq]
    show m' _ = some (.int ((z.toNat : Nat) : Int) tj)
    rw [hj]
    exact hm
  · intro q hq
    refine hr q fun p hp => ?_
    rw [List.mem_singleton.mp hp]
    exact hq (Str.ofString "i", .int (z.toNat : Nat) tj) (.head _)
  · show ns.length - z.toNat < ns.length - i
    omega
theorem cp_ret {prog : Program} {w : World} {m : Str → Option Value} {ns : List Int} {news tl : List (Addr × Obj)} {dd : Addr} {o : Obj} {D : List (PyData × PyData)} {done : List (Int × Int)} {i : Nat} {Q : Value → Shared → Prop} {h : Heap} {tk : Nat}
    (hret : ∀ r news' h' tk', CpOut prog w ns news r news' → Fr h₀ L h' m → News h₀ L h' news' → Q r { s with heap := h', toks := tk' }) (F : Fr h₀ L h m) (N : News h₀ L h ((dd, o) :: (tl ++ news))) (l1 : ∀ q ∈ news, q.1 < dd) (lo : (dd == sysModules) = false)
    (kT : PTab prog w tl o D) (kL : ∀ q ∈ news, ∀ p ∈ tl, q.1 < p.1) (kM : ∀ p ∈ tl, dd < p.1) (kC : TalP D done) (kR : done ++ cntL (ns.drop i) = cntL ns) (hi : ¬ (i : Int) + 1 < ns.length) : Q (.ref dd) { s with heap := h, toks := tk } := by
  rw [cnt_done hi, List.append_nil] at kR
  exact hret _ _ _ _ ⟨dd, o, tl, D, rfl, rfl, l1, kL, kM, lo, kT, kR ▸ kC⟩ F N
end
theorem PairO.reads {h : Heap} {a : Addr} {o : Obj} {x y : Int} (hp : PairO x y o) (hg : h.get? a = some o) : Reads h (.ref a) (.tuple [.int x, .int y]) [] := by
  obtain ⟨hc, t, u, n, hd⟩ := hp
  exact .tuple hg hc hd (.cons (as := []) (.int _ _) (.cons (as := []) (.int _ _) .nil))
theorem eqv_pair (x y x' y' : Int) : PyData.eqv (.tuple [.int x, .int y]) (.tuple [.int x', .int y']) = decide (x = x' ∧ y = y') := by
  by_cases h1 : x = x' <;> by_cases h2 : y = y' <;> simp [PyData.eqv, PyData.eqvAll, h1, h2]
theorem shaped_pair (x y : Int) : SeqAt.shaped (.tuple [.int x, .int y]) = true := by
  unfold SeqAt.shaped
  simp [PyData.canLay0, PyData.canLayAll0, PyData.depth, PyData.depthAll]
section
variable {prog : Program} {w : World} {A : Around} {E : Value → Shared → Prop} {s : Shared} {h₀ : Heap} {L a b : Addr} {m : Str → Option Value} {news : List (Addr × Obj)} {oa ob : Obj} {x y x' y' : Int}
theorem eq_pairs {Q : Value → Shared → Prop} (N : News h₀ L s.heap news) (ha : (a, oa) ∈ news) (hpa : PairO x y oa) (hb : (b, ob) ∈ news) (hpb : PairO x' y' ob) (hu : A.units + 64 < cLine) (h : Q (.bool (decide (x = x' ∧ y = y'))) s) :
    wpAny (model prog w) A (compareOp .Eq (.ref a) (.ref b)) Q E s := by
  refine eq_dataH (hpa.reads (N.get ha)) (hpb.reads (N.get hb)) (shaped_pair _ _) (shaped_pair _ _) hu ?_
  rw [eqv_pair]
  exact h
end
theorem rpl_hit {x y b : Int} {ns : List Int} {i : Nat} (h : i + 1 < ns.length) (hx : ns.getD i 0 = x) (hy : ns.getD (i + 1) 0 = y) : rpl x y b (ns.drop i) = b :: rpl x y b (ns.drop (i + 2)) := by
  have g : ∀ k, (hk : k < ns.length) → ns.drop k = ns.getD k 0 :: ns.drop (k + 1) := fun k hk => by
    rw [List.drop_eq_getElem_cons hk]; simp [List.getD, List.getElem?_eq_getElem hk]
  rw [g i (by omega), g (i + 1) h, hx, hy]
  show (if _ then _ else _) = _
  rw [if_pos ⟨rfl, rfl⟩]
theorem rpl_miss {x y b : Int} {ns : List Int} {i : Nat} (h : i < ns.length) (hx : ¬ (i + 1 < ns.length ∧ ns.getD i 0 = x ∧ ns.getD (i + 1) 0 = y)) : rpl x y b (ns.drop i) = ns.getD i 0 :: rpl x y b (ns.drop (i + 1)) := by
  have g : ∀ k, (hk : k < ns.length) → ns.drop k = ns.getD k 0 :: ns.drop (k + 1) := fun k hk => by
    rw [List.drop_eq_getElem_cons hk]; simp [List.getD, List.getElem?_eq_getElem hk]
  rw [g i h]
  by_cases h1 : i + 1 < ns.length
  · rw [g (i + 1) h1]
    show (if _ then _ else _) = _
    rw [if_neg fun q => hx ⟨h1, q⟩]
  · rw [List.drop_eq_nil_of_le (show ns.length ≤ i + 1 by omega)]; rfl
/-- what replace_pair hands back -/
def RpOut (os : List Int) (news : List (Addr × Obj)) (r : Value) (news' : List (Addr × Obj)) : Prop := ∃ O vs c, r = .ref O ∧ news' = (O, listOf vs.toArray c) :: news ∧ (∀ q ∈ news, q.1 < O) ∧ IntsAre vs os
def RpC (f : Addr) (prog : Program) (w : World) (K : Frag) (p : Program) (loose : List Str) (mean : ExcName → Option Value) (mg mb : Str → Option Value) : Prop :=
  ∀ (R PA : Addr) (vs : List Value) (nR : Nat) (ns : List Int) (oP : Obj) (x y b : Int) (tb : Tok) (news : List (Addr × Obj)), (R, listOf vs.toArray nR) ∈ news → IntsAre vs ns → ns.length ≤ 1000 → (PA, oP) ∈ news → PairO x y oP →
    Fun prog w K p loose mean mg mb 20 f [.ref R, .ref PA, .int b tb] news (RpOut (rpl x y b ns) news)
structure RpS where
  i : Nat
  t : Tok
  vs : List Value
  cn : Nat
  os : List Int
def rpLed (O : Addr) (news : List (Addr × Obj)) (c : RpS) : List (Addr × Obj) := (O, listOf c.vs.toArray c.cn) :: news
def rpPs (c : RpS) : List (Str × Value) := [(Str.ofString "i", .int c.i c.t)]
def rpP (x y b : Int) (ns : List Int) (c : RpS) : Prop := IntsAre c.vs c.os ∧ c.os ++ rpl x y b (ns.drop c.i) = rpl x y b ns ∧ c.vs.length ≤ c.i
section
variable {prog : Program} {w : World} {A : Around} {E : Value → Shared → Prop} {Q : Flow → Shared → Prop} {s : Shared} {env : Env} {h₀ : Heap} {L : Addr}
theorem rp_while {test : Expr} {body : List Stmt} {pos : Pos} {m₀ : Str → Option Value} {ns : List Int} {vs : List Value} {news : List (Addr × Obj)} {O R PA : Addr} {nR : Nat} {t tb : Tok} {x y b : Int} {oP : Obj}
    (F : Fr h₀ L s.heap m₀) (N : News h₀ L s.heap ((O, listOf #[] 0) :: news)) (hi : m₀ (Str.ofString "i") = some (.int 0 t)) (_hr : m₀ (Str.ofString "row") = some (.ref R)) (_hp : m₀ (Str.ofString "pair") = some (.ref PA)) (_hb : m₀ (Str.ofString "byte") = some (.int b tb))
    (_hm : (R, listOf vs.toArray nR) ∈ news) (_hv : IntsAre vs ns) (_hP : PairO x y oP)
    (turn : ∀ (i : Nat) (t : Tok) (us : List Value) (cn : Nat) (os : List Int) h tk, IntsAre us os → os ++ rpl x y b (ns.drop i) = rpl x y b ns → us.length ≤ i →
      Fr h₀ L h (fun z => if z = Str.ofString "i" then some (.int i t) else m₀ z) → News h₀ L h ((O, listOf us.toArray cn) :: news) →
      wpAny (model prog w) A (isTrue test env (eval test env)) (fun b' s₂ =>
        if b' = true then wpAny (model prog w) A (execs body env) (KswPost h₀ L s (rpLed O news) rpPs (fun _ => True) [] m₀ (rpP x y b ns) (fun c => ns.length - c.i) Q ⟨i, t, us, cn, os⟩) E s₂ else Q .next s₂) E { s with heap := h, toks := tk })
    (hE : PassesOwn (model prog w) A env E := by passes_own) :
    wpAny (model prog w) A (exec (.While test body [] pos) env) Q E s := by
  refine ksw_while (rpLed O news) rpPs (fun _ => True) [] (rpP x y b ns) (fun c => ns.length - c.i) ⟨0, t, [], 0, []⟩ F N trivial ?_ ⟨.nil, rfl, Nat.le_refl _⟩ ?_ hE
  · intro p hp
    rw [List.mem_singleton.mp hp]
    exact hi
  · rintro ⟨i, t, us, cn, os⟩ u h tk _ ⟨p1, p2, p3⟩ F₁ N₁
    exact turn i t us cn os h tk p1 p2 p3 F₁ N₁
theorem rp_end {m₀ m' : Str → Option Value} {news news' : List (Addr × Obj)} {O : Addr} {ns os : List Int} {us : List Value} {i cn c' : Nat} {x y b v z : Int} {t tj tv : Tok} {h' : Heap} {tk : Nat}
    (F : Fr h₀ L h' m') (N : News h₀ L h' news') (hn : ∀ p ∈ (O, listOf (us.toArray.push (.int v tv)) c') :: news, p ∈ news')
    (hm : m' (Str.ofString "i") = some (.int z tj)) (hr : ∀ q, (∀ p ∈ [(Str.ofString "i", Value.int z tj)], q ≠ p.1) → ([] : List Str).contains q = false → m' q = m₀ q)
    (kI : IntsAre us os) (kR : os ++ rpl x y b (ns.drop i) = rpl x y b ns) (kV : us.length ≤ i) (h0 : (i : Int) < ns.length)
    (hz : (z = (i : Int) + 2 ∧ v = b ∧ (i : Int) + 1 < ns.length ∧ (ns.getD (i : Int).toNat 0 = x ∧ ns.getD ((i : Int) + 1).toNat 0 = y)) ∨ (z = (i : Int) + 1 ∧ v = ns.getD (i : Int).toNat 0 ∧ (¬ (i : Int) + 1 < ns.length ∨ ¬ (ns.getD (i : Int).toNat 0 = x ∧ ns.getD ((i : Int) + 1).toNat 0 = y)))) :
    KswEnd h₀ L s (rpLed O news) rpPs (fun _ => True) [] m₀ (rpP x y b ns) (fun c => ns.length - c.i) ⟨i, t, us, cn, os⟩ { s with heap := h', toks := tk } := by
  have e0 : (i : Int).toNat = i := by omega
  have e1 : ((i : Int) + 1).toNat = i + 1 := by omega
  rw [e0, e1] at hz
  have hj : ((z.toNat : Nat) : Int) = z := by omega
  have kR' : (os ++ [v]) ++ rpl x y b (ns.drop z.toNat) = rpl x y b ns := by
    rw [← kR, List.append_assoc, List.singleton_append]
    rcases hz with ⟨e, ev, h1, hx, hy⟩ | ⟨e, ev, hc⟩
    · rw [rpl_hit (i := i) (by omega) hx hy, ev, show z.toNat = i + 2 by omega]
    · rw [rpl_miss (i := i) (by omega) (fun q => by rcases hc with hc | hc; exact hc (by omega); exact hc q.2), ev, show z.toNat = i + 1 by omega]
  refine ksw_end (c' := ⟨z.toNat, tj, us ++ [.int v tv], c', os ++ [v]⟩) F N ?_ trivial ?_ ?_ ⟨kI.append (.cons _ _ .nil), kR', ?_⟩ ?_
  · intro p hp
    refine hn p ?_
    show p ∈ (O, listOf (us.toArray.push (.int v tv)) c') :: news
    have e : us.toArray.push (.int v tv) = (us ++ [Value.int v tv]).toArray := by simp
    rw [e]
    exact hp
  · intro q hq
    rw [List.mem_singleton.mp hq]
    show m' _ = some (.int ((z.toNat : Nat) : Int) tj)
    rw [hj]
    exact hm
  · intro q hq
    refine hr q fun p hp => ?_
    rw [List.mem_singleton.mp hp]
    exact hq (Str.ofString "i", .int (z.toNat : Nat) tj) (.head _)
  · show (us ++ [Value.int v tv]).length ≤ z.toNat
    rw [List.length_append, List.length_singleton]
    omega
  · show ns.length - z.toNat < ns.length - i
    omega
theorem rp_done {x y b : Int} {ns os : List Int} {i : Nat} (h : os ++ rpl x y b (ns.drop i) = rpl x y b ns) (hi : ¬ (i : Int) < ns.length) : os = rpl x y b ns := by
  rw [← h, List.drop_eq_nil_of_le (by omega)]
  simp [rpl]
theorem rp_ret {m : Str → Option Value} {ns os : List Int} {news : List (Addr × Obj)} {O : Addr} {us : List Value} {cn i : Nat} {x y b : Int} {Q : Value → Shared → Prop} {h : Heap} {tk : Nat}
    (hret : ∀ r news' h' tk', RpOut (rpl x y b ns) news r news' → Fr h₀ L h' m → News h₀ L h' news' → Q r { s with heap := h', toks := tk' }) (F : Fr h₀ L h m) (N : News h₀ L h ((O, listOf us.toArray cn) :: news)) (l1 : ∀ q ∈ news, q.1 < O)
    (kI : IntsAre us os) (kR : os ++ rpl x y b (ns.drop i) = rpl x y b ns) (hi : ¬ (i : Int) < ns.length) : Q (.ref O) { s with heap := h, toks := tk } :=
  hret _ _ _ _ ⟨O, us, cn, rfl, rfl, l1, rp_done kR hi ▸ kI⟩ F N
end
theorem intsAre_at : ∀ {vs : List Value} {ns : List Int} {i : Nat} {v : Value}, IntsAre vs ns → vs[i]? = some v → ∃ (n : Int) (t : Tok), v = .int n t ∧ ns[i]? = some n
  | [], _, _, _, _, e => by simp at e
  | u :: vs, ns, i, v, h, e => by
    cases h with
    | cons n t h =>
      cases i with
      | zero =>
        simp only [List.getElem?_cons_zero, Option.some.injEq] at e
        exact ⟨n, t, e.symm, rfl⟩
      | succ i => simpa using intsAre_at h (by simpa using e)
/-- every byte so far is marked -/
def SeenP (ns : List Int) (bs : List Bool) (i : Nat) : Prop := bs.length = 256 ∧ ∀ v ∈ ns.take i, bs.getD v.toNat false = true
theorem seen_start (ns : List Int) : SeenP ns (List.replicate 256 false) 0 := ⟨List.length_replicate .., fun v hv => by simp at hv⟩
theorem seen_next {ns : List Int} {bs : List Bool} {i : Nat} {n : Int} (h : SeenP ns bs i) (hi : ns[i]? = some n) (hn : 0 ≤ n) (hn2 : n < 256) : SeenP ns (bs.set n.toNat true) (i + 1) := by
  refine ⟨by rw [List.length_set]; exact h.1, fun v hv => ?_⟩
  have ht : ns.take (i + 1) = ns.take i ++ [n] := by rw [List.take_add_one, hi]; rfl
  have hl : n.toNat < bs.length := by rw [h.1]; omega
  rw [ht] at hv
  rcases List.mem_append.mp hv with hv | hv
  · have h2 := h.2 v hv
    simp only [List.getD, List.getElem?_set] at h2 ⊢
    by_cases e : n.toNat = v.toNat
    · have hl' : v.toNat < bs.length := e ▸ hl
      simp [e, hl']
    · simp [e]; simpa [List.getD] using h2
  · rw [List.mem_singleton.mp hv]
    simp [List.getD, List.getElem?_set, hl]
theorem seen_not {ns : List Int} {bs : List Bool} {b : Int} (h : SeenP ns bs ns.length) (hb : bs.getD b.toNat false = false) : b ∉ ns := fun q => by
  have := h.2 b (by rw [List.take_length]; exact q)
  rw [this] at hb
  cases hb
/-- what unused hands back -/
def UnOut (ns : List Int) (news : List (Addr × Obj)) (r : Value) (news' : List (Addr × Obj)) : Prop := news' = news ∧ (r = .none ∨ ∃ b t, r = .int b t ∧ 0 ≤ b ∧ b < 256 ∧ b ∉ ns)
def UnC (f : Addr) (prog : Program) (w : World) (K : Frag) (p : Program) (loose : List Str) (mean : ExcName → Option Value) (mg mb : Str → Option Value) : Prop :=
  ∀ (R : Addr) (vs : List Value) (nR : Nat) (ns : List Int) (news : List (Addr × Obj)), (R, listOf vs.toArray nR) ∈ news → IntsAre vs ns → ns.length ≤ 2000 → (∀ n ∈ ns, 0 ≤ n ∧ n < 256) → Fun prog w K p loose mean mg mb 20 f [.ref R] news (UnOut ns news)
structure UnS where
  vs : List Value
  bs : List Bool
def unLed (S : Addr) (nS : Nat) (news : List (Addr × Obj)) (c : UnS) : List (Addr × Obj) := (S, listOf c.vs.toArray nS) :: news
open LSm in
def unP (ns : List Int) (i : Nat) (c : UnS) : Prop := BoolsAre c.vs c.bs ∧ SeenP ns c.bs i
section
open LSm
variable {prog : Program} {w : World} {A : Around} {E : Value → Shared → Prop} {s : Shared} {env : Env} {h₀ : Heap} {L : Addr} {body : List Stmt} {Q : Flow → Shared → Prop}
theorem un_for {S R : Addr} {us vs : List Value} {ns : List Int} {nS nR : Nat} {m₀ : Str → Option Value} {news : List (Addr × Obj)}
    (hh : A.handled = none) (F : Fr h₀ env.locals s.heap m₀) (N : News h₀ env.locals s.heap ((S, listOf us.toArray nS) :: news)) (hb : BoolsAre us (List.replicate 256 false)) (hR : (R, listOf vs.toArray nR) ∈ news) (hv : IntsAre vs ns) (hn : ∀ n ∈ ns, 0 ≤ n ∧ n < 256)
    (turn : ∀ (us' : List Value) (bs : List Bool) (i : Nat) (n : Int) (t : Tok) h tk own, BoolsAre us' bs → SeenP ns bs i → ns[i]? = some n → 0 ≤ n → n < 256 → n < (bs.length : Int) → (∀ p ∈ own, p.1 ≠ S) → (∀ p ∈ own, ∀ r ∈ news, p.1 ≠ r.1) →
      Fr h₀ env.locals h (fun y => if y = Str.ofString "byte" then some (.int n t) else m₀ y) → News h₀ env.locals h ((S, listOf us'.toArray nS) :: (news ++ own)) →
      wpAny (model prog w) A (execs body env) (InvPostG h₀ env.locals (fun m' nx => (R, listOf vs.toArray nR) ∈ nx ∧ RgJ (unLed S nS news) (fun _ => []) (Str.ofString "byte") [] m₀ (unP ns) (i + 1) m' nx) own { s with heap := h, toks := tk } Q) E { s with heap := h, toks := tk })
    (fin : ∀ (us' : List Value) (bs : List Bool) (u : Str → Option Value) h tk, BoolsAre us' bs → SeenP ns bs ns.length → bs.length = 256 → Fr h₀ env.locals h (fun y => if y = Str.ofString "byte" then u y else m₀ y) → News h₀ env.locals h ((S, listOf us'.toArray nS) :: news) → Q .next { s with heap := h, toks := tk }) :
    wpAny (model prog w) A (pyIter (.ref R)) (fun it s₂ => LoopAtV prog w A h₀ env (Str.ofString "byte") body Q E it s₂) E s := by
  refine ls_for (unLed S nS news) (fun _ => []) [] (unP ns) ⟨us, List.replicate 256 false⟩ hh (.tail _ hR) (fun _ => .tail _ hR) F N (fun _ h => h) (fun _ h => nomatch h) ⟨hb, seen_start ns⟩ ?_ ?_
  · rintro ⟨us', bs⟩ i v u h tk own hvi ⟨p1, p2⟩ hoff F₁ N₁
    obtain ⟨n, t, rfl, hni⟩ := intsAre_at hv hvi
    have hn' := hn n (List.mem_of_getElem? hni)
    exact turn us' bs i n t h tk own p1 p2 hni hn'.1 hn'.2 (by rw [p2.1]; omega) (fun p hp => hoff p hp _ (.head _)) (fun p hp r hr => hoff p hp r (.tail _ hr)) F₁ N₁
  · rintro ⟨us', bs⟩ u h tk ⟨p1, p2⟩ F₁ N₁
    rw [hv.length] at p2
    exact fin us' bs u h tk p1 p2 p2.1 F₁ N₁
theorem un_end {S R : Addr} {vs us' : List Value} {ns : List Int} {bs : List Bool} {nS nR i : Nat} {m₀ m' : Str → Option Value} {news own news' : List (Addr × Obj)} {n : Int} {s₁ : Shared} {h' : Heap} {tk : Nat}
    (F : Fr h₀ L h' m') (N : News h₀ L h' news') (hn : ∀ p ∈ (S, listOf us'.toArray nS) :: news, p ∈ news') (ho : ∀ p ∈ own, p ∈ news') (o1 : ∀ p ∈ own, p.1 ≠ S) (o2 : ∀ p ∈ own, ∀ r ∈ news, p.1 ≠ r.1) (hR : (R, listOf vs.toArray nR) ∈ news)
    (hr : ∀ z, z ≠ Str.ofString "byte" → m' z = m₀ z) (hb : BoolsAre us' (bs.set n.toNat true)) (hs : SeenP ns bs i) (hi : ns[i]? = some n) (h0 : 0 ≤ n) (h1 : n < 256) :
    InvEndG h₀ L (fun m' nx => (R, listOf vs.toArray nR) ∈ nx ∧ RgJ (unLed S nS news) (fun _ => []) (Str.ofString "byte") [] m₀ (unP ns) (i + 1) m' nx) own s₁ { s₁ with heap := h', toks := tk } := by
  refine ls_end (c' := (⟨us', bs.set n.toNat true⟩ : UnS)) F N hn ho (.tail _ hR) ?_ (fun _ h => nomatch h) (fun z hz _ _ => hr z hz) ⟨hb, seen_next hs hi h0 h1⟩
  intro p hp q hq
  rcases List.mem_cons.mp hq with rfl | hq
  · exact o1 p hp
  · exact o2 p hp q hq
end
section
open LSm
variable {prog : Program} {w : World} {A : Around} {E : Value → Shared → Prop} {s : Shared} {h₀ : Heap} {L a : Addr} {m : Str → Option Value} {news : List (Addr × Obj)} {n1 : Nat}
theorem mul_false {u : Tok} {c : Bool} {Q : Value → Shared → Prop} (F : Fr h₀ L s.heap m) (N : News h₀ L s.heap news) (hl : (a, listOf [Value.bool c].toArray n1) ∈ news)
    (h : ∀ D h' ws, Fr h₀ L h' m → News h₀ L h' ((D, listOf ws.toArray 0) :: news) → (∀ p ∈ news, p.1 < D) → BoolsAre ws (List.replicate 256 c) → Q (.ref D) { s with heap := h' }) :
    wpAny (model prog w) A (binaryOp .Mult (.ref a) (.int 256 u)) Q E s := by
  refine kbo_mul (bs := [c]) F N (PySem.IsL.isList (n := n1) (N _ hl).1) (.cons _ .nil) (by omega) (by omega) (by simp) fun D h' F' N' l1 i1 _ _ _ _ _ _ => ?_
  have e : (List.replicate (256 : Int).toNat [c]).flatten = List.replicate 256 c := by
    have key : ∀ k : Nat, (List.replicate k [c]).flatten = List.replicate k c := by
      intro k
      induction k with
      | zero => rfl
      | succ k ih => rw [List.replicate_succ, List.flatten_cons, ih, List.replicate_succ]; rfl
    exact key 256
  exact h D h' _ F' N' l1 (e ▸ i1)
end
theorem un_ret {h₀ h : Heap} {L : Addr} {m : Str → Option Value} {s : Shared} {ns : List Int} {news led : List (Addr × Obj)} {bs : List Bool} {b : Int} {t : Tok} {Q : Value → Shared → Prop} {tk : Nat}
    (hret : ∀ r news' h' tk', UnOut ns news r news' → Fr h₀ L h' m → News h₀ L h' news' → Q r { s with heap := h', toks := tk' }) (F : Fr h₀ L h m) (N : News h₀ L h led) (hs : ∀ p ∈ news, p ∈ led) (kS : SeenP ns bs ns.length) (h0 : 0 ≤ b) (h1 : b < 0 + (((256 + 0 - Nat.succ 0) / 1 + 1 : Nat) : Int)) (hb : bs.getD b.toNat false = false) : Q (.int b t) { s with heap := h, toks := tk } := by
  have e : ((256 + 0 - Nat.succ 0) / 1 + 1 : Nat) = 256 := by decide
  rw [e] at h1
  exact hret _ _ _ _ ⟨rfl, .inr ⟨b, t, rfl, h0, by omega, seen_not kS hb⟩⟩ F fun p hp => N p (hs p hp)
theorem un_none {h₀ h : Heap} {L : Addr} {m : Str → Option Value} {s : Shared} {ns : List Int} {news led : List (Addr × Obj)} {Q : Value → Shared → Prop} {tk : Nat}
    (hret : ∀ r news' h' tk', UnOut ns news r news' → Fr h₀ L h' m → News h₀ L h' news' → Q r { s with heap := h', toks := tk' }) (F : Fr h₀ L h m) (N : News h₀ L h led) (hs : ∀ p ∈ news, p ∈ led) : Q .none { s with heap := h, toks := tk } :=
  hret _ _ _ _ ⟨rfl, .inl rfl⟩ F fun p hp => N p (hs p hp)
section
variable {prog : Program} {w : World} {A : Around} {E : Value → Shared → Prop} {s : Shared} {h₀ : Heap} {L R : Addr} {m : Str → Option Value} {news : List (Addr × Obj)} {vs : List Value} {ns : List Int} {n : Nat}
/-- len, an item of a list of ints whose ledger is not written out -/
theorem len_at {Q : Value → Shared → Prop} (N : News h₀ L s.heap news) (hm : (R, listOf vs.toArray n) ∈ news) (hv : IntsAre vs ns) (hz : ns.length ≤ 1000000) (h : ∀ t k, Q (.int (ns.length : Nat) t) { s with toks := k }) : wpAny (model prog w) A (call (.builtin "len") [.ref R]) Q E s := by
  have hl : s.heap.IsList R vs.toArray := PySem.IsL.isList (n := n) (N _ hm).1
  have e : vs.toArray.size = ns.length := by rw [List.size_toArray, hv.length]
  refine len_list hl (by rw [e]; omega) ?_
  rw [e]
  exact h _ _
theorem len_any {Q : Value → Shared → Prop} (N : News h₀ L s.heap news) (hm : (R, listOf vs.toArray n) ∈ news) {k : Nat} (hk : vs.length = k) (hz : k ≤ 1000000) (h : ∀ t k', Q (.int (k : Nat) t) { s with toks := k' }) : wpAny (model prog w) A (call (.builtin "len") [.ref R]) Q E s := by
  have hl : s.heap.IsList R vs.toArray := PySem.IsL.isList (n := n) (N _ hm).1
  have e : vs.toArray.size = k := by rw [List.size_toArray, hk]
  refine len_list hl (by rw [e]; omega) ?_
  rw [e]
  exact h _ _
theorem item_at {value slice : Expr} {k : Int} {u : Tok} {Q : Value → Shared → Prop} (N : News h₀ L s.heap news) (hm : (R, listOf vs.toArray n) ∈ news) (hv : IntsAre vs ns) (h0 : 0 ≤ k) (h1 : k < ns.length) (h2 : ns.length ≤ 1000000) (h : ∀ t, Q (.int (ns.getD k.toNat 0) t) s)
    (hs : subscripted slice false (.ref R) (.int k u) = operate [.ref R, .int k u] (getItem (.ref R) (.int k u)) := by with_unfolding_all rfl) (hg : ∀ r, letTemporaryGo value (.ref R) r = pure () := by intro _; with_unfolding_all rfl) :
    wpAny (model prog w) A (subscriptTail value slice (.ref R) (.int k u)) Q E s := by
  have hl : s.heap.IsList R vs.toArray := PySem.IsL.isList (n := n) (N _ hm).1
  have hlt : k.toNat < vs.length := by rw [hv.length]; omega
  obtain ⟨x, t, e, hx⟩ := intsAre_at hv (List.getElem?_eq_getElem hlt)
  refine item_list hl h0 (by omega) (x := vs[k.toNat]) (by simp [hlt]) ?_ hs hg
  rw [e]
  have ex : ns.getD k.toNat 0 = x := by rw [List.getD, hx]; rfl
  rw [← ex]
  exact h t
theorem tup_item0 {value slice : Expr} {a : Addr} {o : Obj} {x y : Int} {u : Tok} {Q : Value → Shared → Prop} (N : News h₀ L s.heap news) (hm : (a, o) ∈ news) (hp : PairO x y o) (h : ∀ t, Q (.int x t) s)
    (hs : subscripted slice false (.ref a) (.int 0 u) = operate [.ref a, .int 0 u] (getItem (.ref a) (.int 0 u)) := by with_unfolding_all rfl) (hg : ∀ r, letTemporaryGo value (.ref a) r = pure () := by intro _; with_unfolding_all rfl) :
    wpAny (model prog w) A (subscriptTail value slice (.ref a) (.int 0 u)) Q E s := by
  obtain ⟨hc, t, t', c, hd⟩ := hp
  exact item_tuple (j := 0) (x := .int x t) ⟨o, N.get hm, hc, c, hd⟩ (by decide) (by decide) rfl rfl (h t) hs hg
theorem tup_item1 {value slice : Expr} {a : Addr} {o : Obj} {x y : Int} {u : Tok} {Q : Value → Shared → Prop} (N : News h₀ L s.heap news) (hm : (a, o) ∈ news) (hp : PairO x y o) (h : ∀ t, Q (.int y t) s)
    (hs : subscripted slice false (.ref a) (.int 1 u) = operate [.ref a, .int 1 u] (getItem (.ref a) (.int 1 u)) := by with_unfolding_all rfl) (hg : ∀ r, letTemporaryGo value (.ref a) r = pure () := by intro _; with_unfolding_all rfl) :
    wpAny (model prog w) A (subscriptTail value slice (.ref a) (.int 1 u)) Q E s := by
  obtain ⟨hc, t', t, c, hd⟩ := hp
  exact item_tuple (j := 1) (x := .int y t) ⟨o, N.get hm, hc, c, hd⟩ (by decide) (by decide) rfl rfl (h t) hs hg
end
theorem upd_app {D : Addr} {o o' : Obj} {l l' : List (Addr × Obj)} : ∀ {tl : List (Addr × Obj)}, (∀ p ∈ tl, p.1 ≠ D) → Upd D o o' l l' → Upd D o o' (tl ++ l) (tl ++ l')
  | [], _, u => u
  | p :: tl, h, u => .tail (h p (.head _)) (upd_app (fun q hq => h q (.tail _ hq)) u)
theorem off_kL {D : Addr} {o : Obj} {r tl : List (Addr × Obj)} (h : ∀ q ∈ (D, o) :: r, ∀ p ∈ tl, q.1 < p.1) : ∀ p ∈ tl, p.1 ≠ D := fun p hp => Nat.ne_of_gt (h _ (.head _) p hp)
theorem ltNat {a b : Nat} (h : a < b) : @LT.lt Nat instLTNat a b := h
theorem off_allLt {D : Nat} : ∀ {l : List (Addr × Obj)}, AllLt D l → ∀ p ∈ l, p.1 ≠ D
  | [], _, _, hp => (nomatch hp)
  | q :: r, h, p, hp => by
    rcases List.mem_cons.mp hp with rfl | hp
    · exact Nat.ne_of_lt h.1
    · exact off_allLt h.2 p hp
theorem tal_at {D : List (PyData × PyData)} {done : List (Int × Int)} (h : TalP D done) {p : Int × Int} (hp : p ∈ done) : Spec.lookup (encP p) D = some (.int (done.count p : Nat)) := by
  obtain ⟨⟨ps, h1, h2, h3⟩, h4⟩ := h
  have hs := lookup_keys h1 p
  rw [decide_eq_true ((h3 p).mpr hp)] at hs
  have hg := h4 p
  cases hl : Spec.lookup (encP p) D with
  | none => rw [hl] at hs; cases hs
  | some v => rw [hl] at hg; exact congrArg some hg
/-- its keys in some order are the pairs counted -/
theorem tal_keys {D : List (PyData × PyData)} {done : List (Int × Int)} {qs : List (Addr × (Int × Int))} (h : TalP D done) (hq : (D.map (·.1)).Perm (qs.map fun q => encP q.2)) : ∀ p, p ∈ qs.map (·.2) ↔ p ∈ done := by
  obtain ⟨⟨ps, h1, h2, h3⟩, h4⟩ := h
  have inj : ∀ p q : Int × Int, encP p = encP q → p = q := fun p q e => by
    have := encP_eq p q
    rw [e, encP_eq] at this
    simpa using this
  intro p
  rw [← h3 p]
  rw [h1] at hq
  constructor
  · intro hp
    obtain ⟨q, hq1, rfl⟩ := List.mem_map.mp hp
    obtain ⟨r, hr, e⟩ := List.mem_map.mp (hq.mem_iff.mpr (List.mem_map.mpr ⟨q, hq1, rfl⟩))
    exact inj _ _ e ▸ hr
  · intro hp
    obtain ⟨q, hq1, e⟩ := List.mem_map.mp (hq.mem_iff.mp (List.mem_map.mpr ⟨p, hp, rfl⟩))
    exact List.mem_map.mpr ⟨q, hq1, inj _ _ e⟩
/-- what is the best so far, and how often it stands -/
def BestP (done : List (Int × Int)) (qs : List (Addr × (Int × Int))) (best : Value) (c : Int) (i : Nat) : Prop :=
  ((best = .none ∧ c = 0) ∨ ∃ q ∈ qs, best = .ref q.1 ∧ c = (done.count q.2 : Nat)) ∧ ∀ q ∈ qs.take i, ((done.count q.2 : Nat) : Int) ≤ c
/-- what best_pair hands back -/
def BpOut (ns : List Int) (news : List (Addr × Obj)) (r : Value) (news' : List (Addr × Obj)) : Prop :=
  ∃ T tl best c t, r = .ref T ∧ news' = (T, { cls := .type "tuple", data := .seq #[best, .int c t] }) :: (tl ++ news) ∧ (∀ q ∈ news, q.1 < T) ∧ (∀ q ∈ news, ∀ p ∈ tl, q.1 < p.1) ∧
    ((best = .none ∧ c = 0) ∨ ∃ a oP x y, best = .ref a ∧ (a, oP) ∈ tl ∧ PairO x y oP ∧ c = (rcn x y ns : Nat) ∧ x ∈ ns ∧ y ∈ ns) ∧ ∀ x y, ((rcn x y ns : Nat) : Int) ≤ c
def BpC (f : Addr) (prog : Program) (w : World) (K : Frag) (p : Program) (loose : List Str) (mean : ExcName → Option Value) (mg mb : Str → Option Value) : Prop :=
  ∀ (R : Addr) (vs : List Value) (nR : Nat) (ns : List Int) (news : List (Addr × Obj)), (R, listOf vs.toArray nR) ∈ news → IntsAre vs ns → ns.length ≤ 1000 → (∀ ps : List (Int × Int), ps.Nodup → (∀ p ∈ ps, p ∈ cntL ns) → ps.length < 64) →
    Fun prog w K p loose mean mg mb 30 f [.ref R] news (BpOut ns news)
theorem tal_few {D : List (PyData × PyData)} {ns : List Int} (h : TalP D (cntL ns)) (hk : ∀ ps : List (Int × Int), ps.Nodup → (∀ p ∈ ps, p ∈ cntL ns) → ps.length < 64) : D.length < 64 := by
  obtain ⟨⟨ps, h1, h2, h3⟩, _⟩ := h
  have e := congrArg List.length h1
  simp only [List.length_map] at e
  rw [e]
  exact hk ps h2 fun p hp => (h3 p).mp hp
structure BpS where
  best : Value
  c : Int
  t : Tok
def bpPs (c : BpS) : List (Str × Value) := [(Str.ofString "best", c.best), (Str.ofString "most", .int c.c c.t)]
section
variable {prog : Program} {w : World} {A : Around} {E : Value → Shared → Prop} {s : Shared} {env : Env} {h₀ : Heap} {L : Addr} {body : List Stmt} {Q : Flow → Shared → Prop}
theorem bp_for {S dd : Addr} {qs : List (Addr × (Int × Int))} {nn : Nat} {m₀ : Str → Option Value} {led tl : List (Addr × Obj)} {D : List (PyData × PyData)} {done : List (Int × Int)} {o : Obj} {t : Tok}
    (hh : A.handled = none) (F : Fr h₀ env.locals s.heap m₀) (N : News h₀ env.locals s.heap ((S, listOf (qs.map fun q => Value.ref q.1).toArray nn) :: led)) (hb : m₀ (Str.ofString "best") = some .none) (hm : m₀ (Str.ofString "most") = some (.int 0 t)) (_hc : m₀ (Str.ofString "counts") = some (.ref dd)) (_hd : (dd, o) ∈ led)
    (hC : TalP D done) (hq : ∀ p, p ∈ qs.map (·.2) ↔ p ∈ done) (hQ : ∀ q ∈ qs, ∃ ok, (q.1, ok) ∈ tl ∧ PairO q.2.1 q.2.2 ok)
    (turn : ∀ (best : Value) (c : Int) (tc : Tok) (i : Nat) (a : Addr) (x y : Int) (ok : Obj) h tk own, (a, ok) ∈ tl → PairO x y ok → BestP done qs best c i → Spec.lookup (encP (x, y)) D = some (.int (done.count (x, y) : Nat)) → (∀ p ∈ own, ∀ r ∈ (S, listOf (qs.map fun q => Value.ref q.1).toArray nn) :: led, p.1 ≠ r.1) → qs[i]? = some (a, (x, y)) →
      Fr h₀ env.locals h (fun z => if z = Str.ofString "pair" then some (.ref a) else if z = Str.ofString "best" then some best else if z = Str.ofString "most" then some (.int c tc) else m₀ z) → News h₀ env.locals h (((S, listOf (qs.map fun q => Value.ref q.1).toArray nn) :: led) ++ own) →
      wpAny (model prog w) A (execs body env) (InvPostG h₀ env.locals (fun m' nx => (S, listOf (qs.map fun q => Value.ref q.1).toArray nn) ∈ nx ∧ RgJ (fun _ : BpS => (S, listOf (qs.map fun q => Value.ref q.1).toArray nn) :: led) bpPs (Str.ofString "pair") [] m₀ (fun i c => BestP done qs c.best c.c i) (i + 1) m' nx) own { s with heap := h, toks := tk } Q) E { s with heap := h, toks := tk })
    (fin : ∀ (best : Value) (c : Int) (tc : Tok) (u : Str → Option Value) h tk, BestP done qs best c qs.length → Fr h₀ env.locals h (fun y => if y = Str.ofString "pair" then u y else if y = Str.ofString "best" then some best else if y = Str.ofString "most" then some (.int c tc) else m₀ y) → News h₀ env.locals h ((S, listOf (qs.map fun q => Value.ref q.1).toArray nn) :: led) → Q .next { s with heap := h, toks := tk }) :
    wpAny (model prog w) A (pyIter (.ref S)) (fun it s₂ => LoopAtV prog w A h₀ env (Str.ofString "pair") body Q E it s₂) E s := by
  refine ls_for (fun _ : BpS => (S, listOf (qs.map fun q => Value.ref q.1).toArray nn) :: led) bpPs [] (fun i c => BestP done qs c.best c.c i) ⟨.none, 0, t⟩ hh (.head _) (fun _ => .head _) F N (fun _ h => h) ?_ ⟨.inl ⟨rfl, rfl⟩, fun q hq => by simp at hq⟩ ?_ ?_
  · intro p hp
    rcases List.mem_cons.mp hp with rfl | hp
    · exact hb
    · rw [List.mem_singleton.mp hp]; exact hm
  · rintro ⟨best, c, tc⟩ i v u h tk own hv hp hoff F₁ N₁
    rw [List.getElem?_map] at hv
    cases hqi : qs[i]? with
    | none => rw [hqi] at hv; cases hv
    | some q =>
      rw [hqi] at hv
      obtain rfl := Option.some.inj hv
      have hmem := List.mem_of_getElem? hqi
      obtain ⟨a, x, y⟩ := q
      obtain ⟨ok, k1, k2⟩ := hQ _ hmem
      exact turn best c tc i a x y ok h tk own k1 k2 hp (tal_at hC ((hq _).mp (List.mem_map.mpr ⟨_, hmem, rfl⟩))) hoff hqi F₁ N₁
  · rintro ⟨best, c, tc⟩ u h tk hp F₁ N₁
    rw [List.length_map] at hp
    exact fin best c tc u h tk hp F₁ N₁
theorem best_next {done : List (Int × Int)} {qs : List (Addr × (Int × Int))} {best : Value} {c : Int} {i : Nat} {a : Addr} {x y : Int} (h : BestP done qs best c i) (hi : qs[i]? = some (a, (x, y))) :
    (¬ ((done.count (x, y) : Nat) : Int) > c → BestP done qs best c (i + 1)) ∧ (((done.count (x, y) : Nat) : Int) > c → BestP done qs (.ref a) (done.count (x, y) : Nat) (i + 1)) := by
  generalize hq : (a, (x, y)) = q at hi
  have ha : a = q.1 := by rw [← hq]
  have hx : (x, y) = q.2 := by rw [← hq]
  rw [ha, hx]
  have ht : qs.take (i + 1) = qs.take i ++ [q] := by rw [List.take_add_one, hi]; rfl
  refine ⟨fun hc => ⟨h.1, fun r hr => ?_⟩, fun hc => ⟨.inr ⟨q, List.mem_of_getElem? hi, rfl, rfl⟩, fun r hr => ?_⟩⟩
  · rw [ht] at hr
    rcases List.mem_append.mp hr with hr | hr
    · exact h.2 r hr
    · rw [List.mem_singleton.mp hr]; omega
  · rw [ht] at hr
    rcases List.mem_append.mp hr with hr | hr
    · have := h.2 r hr; omega
    · rw [List.mem_singleton.mp hr]; omega
theorem bp_end {S : Addr} {oS : Obj} {qs : List (Addr × (Int × Int))} {m₀ m' : Str → Option Value} {led own news' : List (Addr × Obj)} {done : List (Int × Int)} {best : Value} {c : Int} {tc : Tok} {i : Nat} {s₁ : Shared} {h' : Heap} {tk : Nat}
    (F : Fr h₀ L h' m') (N : News h₀ L h' news') (hn : ∀ p ∈ (S, oS) :: led, p ∈ news') (ho : ∀ p ∈ own, p ∈ news') (ha : ∀ p ∈ own, ∀ r ∈ (S, oS) :: led, p.1 ≠ r.1)
    (hb : m' (Str.ofString "best") = some best) (hm : m' (Str.ofString "most") = some (.int c tc)) (hr : ∀ z, z ≠ Str.ofString "pair" → z ≠ Str.ofString "best" → z ≠ Str.ofString "most" → m' z = m₀ z) (hp : BestP done qs best c (i + 1)) :
    InvEndG h₀ L (fun m' nx => (S, oS) ∈ nx ∧ RgJ (fun _ : BpS => (S, oS) :: led) bpPs (Str.ofString "pair") [] m₀ (fun i c => BestP done qs c.best c.c i) (i + 1) m' nx) own s₁ { s₁ with heap := h', toks := tk } := by
  refine ls_end (c' := (⟨best, c, tc⟩ : BpS)) F N hn ho (.head _) ha ?_ ?_ hp
  · intro p hp
    rcases List.mem_cons.mp hp with rfl | hp
    · exact hb
    · rw [List.mem_singleton.mp hp]; exact hm
  · intro z h1 h2 _
    exact hr z h1 (h2 _ (.head _)) (h2 _ (.tail _ (.head _)))
theorem best_out {ns : List Int} {qs : List (Addr × (Int × Int))} {led : List (Addr × Obj)} {best : Value} {c : Int} (h : BestP (cntL ns) qs best c qs.length) (hq : ∀ p, p ∈ qs.map (·.2) ↔ p ∈ cntL ns) (hl : ∀ q ∈ qs, ∃ ok, (q.1, ok) ∈ led ∧ PairO q.2.1 q.2.2 ok) :
    ((best = .none ∧ c = 0) ∨ ∃ a oP x y, best = .ref a ∧ (a, oP) ∈ led ∧ PairO x y oP ∧ c = (rcn x y ns : Nat) ∧ x ∈ ns ∧ y ∈ ns) ∧ ∀ x y, ((rcn x y ns : Nat) : Int) ≤ c := by
  refine ⟨?_, fun x y => ?_⟩
  · rcases h.1 with h1 | ⟨q, hq1, e1, e2⟩
    · exact .inl h1
    · obtain ⟨ok, k1, k2⟩ := hl q hq1
      have hm := cntL_mem ns q.2 ((hq _).mp (List.mem_map.mpr ⟨q, hq1, rfl⟩))
      exact .inr ⟨q.1, ok, q.2.1, q.2.2, e1, k1, k2, by rw [e2, ← cnt_rcn], hm.1, hm.2⟩
  · rw [← cnt_rcn]
    by_cases hp : (x, y) ∈ cntL ns
    · obtain ⟨q, hq1, e⟩ := List.mem_map.mp ((hq _).mpr hp)
      have := h.2 q (by rw [List.take_length]; exact hq1)
      rw [e] at this
      exact this
    · rw [List.count_eq_zero_of_not_mem hp]
      rcases h.1 with h1 | ⟨q, _, _, e2⟩
      · rw [h1.2]; exact Int.le_refl _
      · rw [e2]; omega
theorem bp_ret {m : Str → Option Value} {ns : List Int} {news tl : List (Addr × Obj)} {dd S T : Addr} {o oS : Obj} {D : List (PyData × PyData)} {qs : List (Addr × (Int × Int))} {best : Value} {c : Int} {tc : Tok} {Q : Value → Shared → Prop} {h : Heap} {tk : Nat}
    (hret : ∀ r news' h' tk', BpOut ns news r news' → Fr h₀ L h' m → News h₀ L h' news' → Q r { s with heap := h', toks := tk' }) (F : Fr h₀ L h m) (N : News h₀ L h ((T, { cls := .type "tuple", data := .seq #[best, .int c tc] }) :: (S, oS) :: (dd, o) :: (tl ++ news)))
    (l1 : S < T ∧ dd < T ∧ AllLt T (tl ++ news)) (l2 : ∀ q ∈ (dd, o) :: (tl ++ news), q.1 < S) (l3 : ∀ q ∈ news, q.1 < dd) (kL : ∀ q ∈ news, ∀ p ∈ tl, q.1 < p.1) (kC : TalP D (cntL ns)) (hP : (D.map (·.1)).Perm (qs.map fun q => encP q.2)) (hQ : ∀ q ∈ qs, ∃ ok, (q.1, ok) ∈ tl ∧ PairO q.2.1 q.2.2 ok) (kB : BestP (cntL ns) qs best c qs.length) :
    Q (.ref T) { s with heap := h, toks := tk } := by
  obtain ⟨b1, b2⟩ := best_out kB (tal_keys kC hP) hQ
  refine hret _ _ _ _ ⟨T, (S, oS) :: (dd, o) :: tl, best, c, tc, rfl, rfl, fun q hq => allLt_mem l1.2.2 q (List.mem_append.mpr (.inr hq)), fun q hq p hp => ?_, ?_, b2⟩ F N
  · rcases List.mem_cons.mp hp with rfl | hp
    · exact l2 q (.tail _ (List.mem_append.mpr (.inr hq)))
    · rcases List.mem_cons.mp hp with rfl | hp
      · exact l3 q hq
      · exact kL q hq p hp
  · rcases b1 with b1 | ⟨a, oP, x, y, e1, e2, e3⟩
    · exact .inl b1
    · exact .inr ⟨a, oP, x, y, e1, .tail _ (.tail _ e2), e3⟩
end
def ruleD (r : PRule) : Dat := .tuple [.int r.1, .int r.2.1, .int r.2.2]
theorem pinv_few {data : List Int} {k : Nat} {rules : List PRule} {row : List Int} (h : PInv data k rules row) (hd : data.length ≤ 72 + k) : ∀ ps : List (Int × Int), ps.Nodup → (∀ p ∈ ps, p ∈ cntL row) → ps.length < 64 := fun _ h1 h2 => pinv_kinds h hd h1 h2
/-- the bytes of the rules, one by one -/
def ruleBs (rules : List PRule) : List Int := rules.flatMap fun r => [r.1, r.2.1, r.2.2]
theorem ruleBs_snoc (rules : List PRule) (r : PRule) : ruleBs (rules ++ [r]) = ruleBs rules ++ [r.1, r.2.1, r.2.2] := by simp [ruleBs]
theorem ruleBs_len : ∀ rules : List PRule, (ruleBs rules).length = 3 * rules.length
  | [] => rfl
  | r :: rs => by
    have := ruleBs_len rs
    simp only [ruleBs, List.flatMap_cons, List.length_append, List.length_cons, List.length_nil] at this ⊢
    omega
theorem ruleBs_in {data row : List Int} {k : Nat} {rules : List PRule} (h : PInv data k rules row) : ∀ v ∈ ruleBs rules, 0 ≤ v ∧ v < 256 := by
  intro v hv
  obtain ⟨r, hr, hv⟩ := List.mem_flatMap.mp hv
  have := h.rbytes r hr
  rcases List.mem_cons.mp hv with rfl | hv
  · exact this.1
  · rcases List.mem_cons.mp hv with rfl | hv
    · exact this.2.1
    · rw [List.mem_singleton.mp hv]; exact this.2.2
theorem pinv_in {data row : List Int} {k : Nat} {rules : List PRule} (h : PInv data k rules row) : ∀ v ∈ row ++ ruleBs rules, 0 ≤ v ∧ v < 256 := fun v hv => (List.mem_append.mp hv).elim (h.bytes v) (ruleBs_in h v)
/-- what shorten hands back -/
def ShOut (data : List Int) (k : Nat) (news : List (Addr × Obj)) (r : Value) (news' : List (Addr × Obj)) : Prop :=
  ∃ T Rl RA tl vr cr vs nR rules row, r = .ref T ∧ news' = (T, { cls := .type "tuple", data := .seq #[.ref Rl, .ref RA] }) :: (Rl, listOf vr.toArray cr) :: (tl ++ news) ∧ (∀ q ∈ news, q.1 < T) ∧ (∀ q ∈ news, q.1 < Rl) ∧ (∀ q ∈ news, ∀ p ∈ tl, q.1 < p.1) ∧
    (RA, listOf vs.toArray nR) ∈ tl ∧ IntsAre vs row ∧ DatAll tl vr (rules.map ruleD) ∧ PInv data k rules row ∧ rules.length ≤ 64
def ShC (f : Addr) (prog : Program) (w : World) (K : Frag) (p : Program) (loose : List Str) (mean : ExcName → Option Value) (mg mb : Str → Option Value) : Prop :=
  ∀ (b : Array UInt8) (ks : List Int) (tb : Tok) (k : Nat) (news : List (Addr × Obj)), KBw.bInts b = ks → ks.length ≤ 72 + k → ks.length ≤ 200 → (k = 0 ∨ ∃ x y, k ≤ rcn x y ks) → (∃ al : List Int, al.length ≤ 5 ∧ ∀ v ∈ ks, v ∈ al) →
    Fun prog w K p loose mean mg mb 40 f [.bytes b tb] news (ShOut ks k news)
structure ShS where
  RA : Addr
  UA : Addr
  tl : List (Addr × Obj)
  vr : List Value
  cr : Nat
  vs : List Value
  nR : Nat
  us : List Value
  nU : Nat
  rules : List PRule
  row : List Int
def shLed (Rl : Addr) (news : List (Addr × Obj)) (c : ShS) : List (Addr × Obj) := (Rl, listOf c.vr.toArray c.cr) :: (c.tl ++ news)
def shPs (c : ShS) : List (Str × Value) := [(Str.ofString "row", .ref c.RA), (Str.ofString "used", .ref c.UA)]
def shFacts (Rl : Addr) (news : List (Addr × Obj)) (c : ShS) : Prop :=
  (c.RA, listOf c.vs.toArray c.nR) ∈ c.tl ∧ (c.UA, listOf c.us.toArray c.nU) ∈ c.tl ∧ DatAll c.tl c.vr (c.rules.map ruleD) ∧ (∀ p ∈ c.tl, p.1 ≠ Rl) ∧ (∀ q ∈ news, ∀ p ∈ c.tl, q.1 < p.1)
def shP (data : List Int) (k : Nat) (c : ShS) : Prop := IntsAre c.vs c.row ∧ IntsAre c.us (ruleBs c.rules) ∧ PInv data k c.rules c.row ∧ c.vr.length = c.rules.length ∧ c.rules.length ≤ 64
section
variable {prog : Program} {w : World} {A : Around} {E : Value → Shared → Prop} {Q : Flow → Shared → Prop} {s : Shared} {env : Env} {h₀ : Heap} {L : Addr}
theorem sh_while {test : Expr} {body : List Stmt} {pos : Pos} {m₀ : Str → Option Value} {data : List Int} {k : Nat} {vs : List Value} {news : List (Addr × Obj)} {Rl RA UA : Addr} {nR : Nat}
    (F : Fr h₀ L s.heap m₀) (N : News h₀ L s.heap ((UA, listOf #[] 0) :: (Rl, listOf #[] 0) :: (RA, listOf vs.toArray nR) :: news)) (hr : m₀ (Str.ofString "row") = some (.ref RA)) (hu : m₀ (Str.ofString "used") = some (.ref UA)) (_hl : m₀ (Str.ofString "rules") = some (.ref Rl))
    (hv : IntsAre vs data) (hp : PInv data k [] data) (hd : data.length ≤ 72 + k) (l1 : ∀ q ∈ news, q.1 < RA) (l2 : RA < Rl) (l3 : Rl < UA)
    (turn : ∀ (RA UA : Addr) (tl : List (Addr × Obj)) (vr : List Value) (cr : Nat) (vs : List Value) (nR : Nat) (us : List Value) (nU : Nat) (rules : List PRule) (row : List Int) (u : Str → Option Value) h tk,
      (RA, listOf vs.toArray nR) ∈ tl → (UA, listOf us.toArray nU) ∈ tl → DatAll tl vr (rules.map ruleD) → (∀ p ∈ tl, p.1 ≠ Rl) → (∀ q ∈ news, ∀ p ∈ tl, q.1 < p.1) → IntsAre vs row → IntsAre us (ruleBs rules) → PInv data k rules row → vr.length = rules.length → rules.length ≤ 64 →
      row.length ≤ data.length → (∀ ps : List (Int × Int), ps.Nodup → (∀ p ∈ ps, p ∈ cntL row) → ps.length < 64) → (row ++ ruleBs rules).length = row.length + 3 * rules.length → (∀ q ∈ news, q.1 < Rl) → (∀ v ∈ row ++ ruleBs rules, 0 ≤ v ∧ v < 256) →
      Fr h₀ L h (fun y => if y = Str.ofString "row" then some (.ref RA) else if y = Str.ofString "used" then some (.ref UA) else if ([Str.ofString "pair", Str.ofString "count", Str.ofString "byte"] : List Str).contains y then u y else m₀ y) → News h₀ L h ((Rl, listOf vr.toArray cr) :: (tl ++ news)) →
      wpAny (model prog w) A (isTrue test env (eval test env)) (fun b s₂ =>
        if b = true then wpAny (model prog w) A (execs body env) (KswPost h₀ L s (shLed Rl news) shPs (shFacts Rl news) [Str.ofString "pair", Str.ofString "count", Str.ofString "byte"] m₀ (shP data k) (fun c => 64 - c.rules.length) Q ⟨RA, UA, tl, vr, cr, vs, nR, us, nU, rules, row⟩) E s₂ else Q .next s₂) E { s with heap := h, toks := tk })
    (hE : PassesOwn (model prog w) A env E := by passes_own) :
    wpAny (model prog w) A (exec (.While test body [] pos) env) Q E s := by
  refine ksw_while (shLed Rl news) shPs (shFacts Rl news) [Str.ofString "pair", Str.ofString "count", Str.ofString "byte"] (shP data k) (fun c => 64 - c.rules.length) ⟨RA, UA, [(UA, listOf #[] 0), (RA, listOf vs.toArray nR)], [], 0, vs, nR, [], 0, [], data⟩ F ?_ ?_ ?_ ⟨hv, .nil, hp, rfl, by simp⟩ ?_ hE
  · intro p hp
    rcases List.mem_cons.mp hp with rfl | hp
    · exact N _ (.tail _ (.head _))
    · rcases List.mem_cons.mp hp with rfl | hp
      · exact N _ (.head _)
      · rcases List.mem_cons.mp hp with rfl | hp
        · exact N _ (.tail _ (.tail _ (.head _)))
        · exact N _ (.tail _ (.tail _ (.tail _ hp)))
  · refine ⟨.tail _ (.head _), .head _, .nil, fun p hp => ?_, fun q hq p hp => ?_⟩
    · rcases List.mem_cons.mp hp with rfl | hp
      · exact Nat.ne_of_gt l3
      · rw [List.mem_singleton.mp hp]; exact Nat.ne_of_lt l2
    · have := l1 q hq
      rcases List.mem_cons.mp hp with rfl | hp
      · exact Nat.lt_trans this (Nat.lt_trans l2 l3)
      · rw [List.mem_singleton.mp hp]; exact this
  · intro p hp
    rcases List.mem_cons.mp hp with rfl | hp
    · exact hr
    · rw [List.mem_singleton.mp hp]; exact hu
  · rintro ⟨RA, UA, tl, vr, cr, vs, nR, us, nU, rules, row⟩ u h tk ⟨f1, f2, f3, f4, f5⟩ ⟨p1, p2, p3, p4, p5⟩ F₁ N₁
    exact turn RA UA tl vr cr vs nR us nU rules row u h tk f1 f2 f3 f4 f5 p1 p2 p3 p4 p5 p3.len (pinv_few p3 hd) (by rw [List.length_append, ruleBs_len]) (fun q hq => Nat.lt_trans (l1 q hq) l2) (pinv_in p3) F₁ N₁
theorem sh_end {m₀ m' : Str → Option Value} {data row : List Int} {k : Nat} {rules : List PRule} {news tl news' : List (Addr × Obj)} {Rl RA UA RA' UA' T : Addr} {vr vs vs' us us' : List Value} {cr nR nR' nU nU' cr' : Nat} {x y b : Int} {t1 t2 t3 : Tok} {h' : Heap} {tk : Nat}
    (F : Fr h₀ L h' m') (N : News h₀ L h' news') (hm1 : m' (Str.ofString "row") = some (.ref RA')) (hm2 : m' (Str.ofString "used") = some (.ref UA'))
    (hr : ∀ z, (∀ p ∈ [(Str.ofString "row", Value.ref RA'), (Str.ofString "used", Value.ref UA')], z ≠ p.1) → ([Str.ofString "pair", Str.ofString "count", Str.ofString "byte"] : List Str).contains z = false → m' z = m₀ z)
    (n1 : (Rl, listOf (vr.toArray.push (.ref T)) cr') ∈ news') (n2 : ∀ p ∈ tl ++ news, p ∈ news') (n3 : (T, ({ cls := .type "tuple", data := .seq #[.int b t1, .int x t2, .int y t3] } : Obj)) ∈ news') (n4 : (RA', listOf vs'.toArray nR') ∈ news') (n5 : (UA', listOf us'.toArray nU') ∈ news')
    (g0 : ∀ q ∈ news, q.1 < Rl) (g3 : Rl < T) (g4 : Rl < RA') (g5 : Rl < UA')
    (hD : DatAll tl vr (rules.map ruleD)) (hl : vr.length = rules.length) (f4 : ∀ p ∈ tl, p.1 ≠ Rl) (f5 : ∀ q ∈ news, ∀ p ∈ tl, q.1 < p.1) (hP : PInv data k rules row)
    (hb : b ∉ row ++ ruleBs rules) (hb0 : 0 ≤ b) (hb1 : b < 256) (hx : x ∈ row) (hy : y ∈ row) (h4 : ((rcn x y row : Nat) : Int) ≥ 4) (hmax : ∀ u v, ((rcn u v row : Nat) : Int) ≤ (rcn x y row : Nat)) (hk : k = 0 ∨ ∃ u v, k ≤ rcn u v data)
    (hv' : IntsAre vs' (rpl x y b row)) (hu' : IntsAre us' (ruleBs rules ++ [b, x, y])) (h64 : (rules.length : Int) < 64) :
    KswEnd h₀ L s (shLed Rl news) shPs (shFacts Rl news) [Str.ofString "pair", Str.ofString "count", Str.ofString "byte"] m₀ (shP data k) (fun c => 64 - c.rules.length) ⟨RA, UA, tl, vr, cr, vs, nR, us, nU, rules, row⟩ { s with heap := h', toks := tk } := by
  have hP' := pinv_step hP (fun q => hb (List.mem_append.mpr (.inl q))) hb0 hb1 hx hy (by omega) (fun e => by
    rcases hk with hk | ⟨u, v, hk⟩
    · omega
    · have := hmax u v
      rw [hP.first e] at this ⊢
      omega)
  have e : vr.toArray.push (.ref T) = (vr ++ [Value.ref T]).toArray := by simp
  rw [e] at n1
  refine ksw_end (c' := ⟨RA', UA', (T, { cls := .type "tuple", data := .seq #[.int b t1, .int x t2, .int y t3] }) :: (RA', listOf vs'.toArray nR') :: (UA', listOf us'.toArray nU') :: tl, vr ++ [.ref T], cr', vs', nR', us', nU', rules ++ [(b, x, y)], rpl x y b row⟩) F N ?_ ⟨.tail _ (.head _), .tail _ (.tail _ (.head _)), ?_, ?_, ?_⟩ ?_ hr ⟨hv', by rw [ruleBs_snoc]; exact hu', hP', by simp [hl], by simp; omega⟩ ?_
  · intro p hp
    rcases List.mem_cons.mp hp with rfl | hp
    · exact n1
    · rcases List.mem_cons.mp hp with rfl | hp
      · exact n3
      · rcases List.mem_cons.mp hp with rfl | hp
        · exact n4
        · rcases List.mem_cons.mp hp with rfl | hp
          · exact n5
          · exact n2 p hp
  · show DatAll _ (vr ++ [Value.ref T]) ((rules ++ [(b, x, y)]).map ruleD)
    rw [List.map_append]
    exact (hD.mono fun q hq => .tail _ (.tail _ (.tail _ hq))).append (.one (.tuple (vs := [.int b t1, .int x t2, .int y t3]) (.head _) (.cons (.int _ _) (.cons (.int _ _) (.cons (.int _ _) .nil)))))
  · intro p hp
    rcases List.mem_cons.mp hp with rfl | hp
    · exact Nat.ne_of_gt g3
    · rcases List.mem_cons.mp hp with rfl | hp
      · exact Nat.ne_of_gt g4
      · rcases List.mem_cons.mp hp with rfl | hp
        · exact Nat.ne_of_gt g5
        · exact f4 p hp
  · intro q hq p hp
    have hq' := g0 q hq
    rcases List.mem_cons.mp hp with rfl | hp
    · exact Nat.lt_trans hq' g3
    · rcases List.mem_cons.mp hp with rfl | hp
      · exact Nat.lt_trans hq' g4
      · rcases List.mem_cons.mp hp with rfl | hp
        · exact Nat.lt_trans hq' g5
        · exact f5 q hq p hp
  · intro p hp
    rcases List.mem_cons.mp hp with rfl | hp
    · exact hm1
    · rw [List.mem_singleton.mp hp]; exact hm2
  · show 64 - (rules ++ [(b, x, y)]).length < 64 - rules.length
    rw [List.length_append, List.length_singleton]
    omega
theorem sh_ret {m : Str → Option Value} {data row : List Int} {k : Nat} {rules : List PRule} {news tl led : List (Addr × Obj)} {T Rl RA : Addr} {vr vs : List Value} {cr nR : Nat} {Q : Value → Shared → Prop} {h : Heap} {tk : Nat}
    (hret : ∀ r news' h' tk', ShOut data k news r news' → Fr h₀ L h' m → News h₀ L h' news' → Q r { s with heap := h', toks := tk' }) (F : Fr h₀ L h m) (N : News h₀ L h ((T, { cls := .type "tuple", data := .seq #[.ref Rl, .ref RA] }) :: led)) (hs : ∀ p ∈ (Rl, listOf vr.toArray cr) :: (tl ++ news), p ∈ led) (l1 : AllLt T led) (g0 : ∀ q ∈ news, q.1 < Rl)
    (kG : ∀ q ∈ news, ∀ p ∈ tl, q.1 < p.1) (kA : (RA, listOf vs.toArray nR) ∈ tl) (kI : IntsAre vs row) (kD : DatAll tl vr (rules.map ruleD)) (kP : PInv data k rules row) (k64 : rules.length ≤ 64) : Q (.ref T) { s with heap := h, toks := tk } := by
  have lt : ∀ q ∈ (Rl, listOf vr.toArray cr) :: (tl ++ news), q.1 < T := fun q hq => allLt_mem l1 q (hs q hq)
  refine hret _ _ _ _ ⟨T, Rl, RA, tl, vr, cr, vs, nR, rules, row, rfl, rfl, fun q hq => lt q (.tail _ (List.mem_append.mpr (.inr hq))), g0, kG, kA, kI, kD, kP, k64⟩ F fun p hp => ?_
  rcases List.mem_cons.mp hp with rfl | hp
  · exact N _ (.head _)
  · exact N p (.tail _ (hs p hp))
end
section
variable {prog : Program} {w : World} {A : Around} {E : Value → Shared → Prop} {s : Shared} {env : Env} {h₀ : Heap} {target : Expr} {body : List Stmt} {Q : Flow → Shared → Prop}
theorem letGo_rev {I t : Addr} {i : Int} {v : Value} {Q' : Unit → Shared → Prop} {s' : Shared} (hit : s'.heap.IsRevIter I t i) (h : Q' () s') : wpAny (model prog w) A (letOwnedTupleGo target (.ref I) v) Q' E s' := by
  obtain ⟨o, ho, hc, hd⟩ := hit
  unfold letOwnedTupleGo
  cases target <;> first
    | exact wpAny_pure h
    | (cases v <;> first
        | exact wpAny_pure h
        | (refine wpAny_bind (wpAny_load ho ?_)
           rw [hc, hd]
           exact wpAny_pure h))
/-- a for over what reversed made of a list of the ledger's -/
theorem turns_rev {I l : Addr} {vs : List Value} {nn : Nat} {m₀ : Str → Option Value} {news : List (Addr × Obj)} (J : Nat → (Str → Option Value) → List (Addr × Obj) → Prop)
    (hh : A.handled = none) (F : Fr h₀ env.locals s.heap m₀) (N : News h₀ env.locals s.heap ((I, revObj l ((vs.length : Int) - 1)) :: news)) (hl : (l, listOf vs.toArray nn) ∈ news) (hoff : ∀ p ∈ news, p.1 ≠ I) (hj : J 0 m₀ news) (hJl : ∀ i m nx, J i m nx → (l, listOf vs.toArray nn) ∈ nx)
    (turn : ∀ i v m₁ news₁ h tk own, vs.reverse[i]? = some v → OwnOff own (news₁.map (·.1)) → J i m₁ news₁ → Fr h₀ env.locals h m₁ → News h₀ env.locals h (news₁ ++ own) →
      wpAny (model prog w) A (assign target env v) (fun _ s₃ => wpAny (model prog w) A (execs body env) (InvPostG h₀ env.locals (J (i + 1)) own { s with heap := h, toks := tk } Q) E s₃) E { s with heap := h, toks := tk })
    (done : ∀ m₁ news₁ h tk, J vs.length m₁ news₁ → Fr h₀ env.locals h m₁ → News h₀ env.locals h news₁ → Q .next { s with heap := h, toks := tk }) :
    wpAny (model prog w) A (pyIter (.ref I)) (fun it s₂ => TurnsAt prog w A h₀ env target body Q E it s₂) E s := by
  have hIx := N _ (List.mem_cons_self ..)
  have hax := N _ (List.mem_cons_of_mem _ hl)
  have hls : s.heap.IsList l vs.toArray := ⟨_, hax.1, rfl, nn, rfl⟩
  have hne : l ≠ I := hoff _ hl
  have hit : s.heap.IsRevIter I l ((vs.length : Int) - 1) := ⟨_, hIx.1, rfl, rfl⟩
  refine wpAny_pyIter_revIter hit ?_
  have W := Walks.listRev (prog := prog) (w := w) hh I l hne vs.toArray
  have hlen : vs.toArray.size = vs.length := by simp
  rw [hlen] at W
  refine ⟨I, _, _, vs.length, _, _, _, m₀, news, J, rfl, KTurns.ofWalks W fun i v s Q E st q => letGo_rev st.2.1 q, ?_, ?_, ?_, ⟨Nat.zero_le _, ?_, hls⟩, F, (fun p hp => N p (List.mem_cons_of_mem _ hp)), hj, ?_, ?_⟩
  · intro hm
    rcases List.mem_cons.mp hm with e | hm
    · exact hIx.2.1 e.symm
    · exact hax.2.1 (List.mem_singleton.mp hm).symm
  · intro b hb
    rw [List.mem_singleton.mp hb]
    exact hIx.2.2
  · intro p hp hI
    exact hoff p hp (List.mem_singleton.mp hI)
  · have e : (vs.length : Int) - 1 - ((0 : Nat) : Int) = (vs.length : Int) - 1 := by omega
    rw [e]
    exact hit
  · intro i v m₁ news₁ hh' tk' own hin hP hJ hoff₁ hown hget hfp hst F₁ N₁
    have hl₁ := hJl _ _ _ hJ
    have hP' : vs.reverse[i]? = some v := by
      rw [List.getElem?_reverse hin]
      simpa using hP
    obtain ⟨oI, hoI, _⟩ := id hst.2.1
    have hIown : (I, oI) ∈ own.filter fun p => decide (p.1 = I) := List.mem_filter.mpr ⟨hfp _ (List.mem_cons.mpr (.inl rfl)) hIx.2.2 _ hoI, by simp⟩
    have hsep : OwnOff (own.filter fun p => decide (p.1 = I)) (news₁.map (·.1)) := by
      intro p hp b hb e
      obtain ⟨q, hq, rfl⟩ := List.mem_map.mp hb
      have h1 : p.1 = I := by simpa using (List.mem_filter.mp hp).2
      exact hoff₁ q hq (List.mem_singleton.mpr (e ▸ h1))
    have N₂ : News h₀ env.locals hh' (news₁ ++ own.filter fun p => decide (p.1 = I)) := fun p hp => N₁ p ((List.mem_append.mp hp).elim (fun h => List.mem_append.mpr (.inr h)) fun h => List.mem_append.mpr (.inl ((List.mem_filter.mp h).1)))
    have hlo : hh'.get? l = some (listOf vs.toArray nn) := (N₁ _ (List.mem_append.mpr (.inr hl₁))).1
    refine wpAny_mono (turn i v m₁ news₁ hh' tk' _ hP' hsep hJ F₁ N₂) (fun _ s₃ p3 => wpAny_mono p3 (fun f s₂ p => ?_) fun _ _ e => e) fun _ _ e => e
    have fin : InvEndG h₀ env.locals (J (i + 1)) (own.filter fun p => decide (p.1 = I)) { s with heap := hh', toks := tk' } s₂ →
        LoopStepU h₀ env.locals [I] own (J (i + 1)) { s with heap := hh', toks := tk' } .next s₂ := by
      rintro ⟨h', tk, m', news', nx, e, F', N', hn, ho, ha, hm⟩
      refine ⟨rfl, h', tk, m', nx, e, F', fun p hp => ?_, fun p hp hq => ?_, hm⟩
      · rcases List.mem_append.mp hp with h | h
        · by_cases hI : p.1 = I
          · exact N' p (ho p (List.mem_filter.mpr ⟨h, by simpa using hI⟩))
          · have h1 : p.1 = l := by
              rcases List.mem_cons.mp (hown p h) with h2 | h2
              · exact absurd h2 hI
              · exact List.mem_singleton.mp h2
            have h2 : hh'.get? p.1 = some p.2 := hget p h
            rw [h1, hlo] at h2
            have h3 : p = (l, listOf vs.toArray nn) := Prod.ext h1 (Option.some.inj h2).symm
            rw [h3]
            exact N' _ (hn _ (hJl _ _ _ hm))
        · exact N' p (hn p h)
      · exact ha _ hIown p.1 (List.mem_map.mpr ⟨p, hp, rfl⟩) (List.mem_singleton.mp hq).symm
    cases f with
    | ret v => exact p
    | brk => exact p
    | next => exact fin p
    | cont => exact fin p
  · rintro h' tk m' news' F' N' _ hJ
    exact done m' news' h' tk hJ F' N'
end
/-- what holds ahead of turn i of a for whose target is a tuple -/
def RtJ {σ : Type} (Led : σ → List (Addr × Obj)) (ps : σ → List (Str × Value)) (stored : List Str) (m₀ : Str → Option Value) (P : Nat → σ → Prop) (i : Nat) (m : Str → Option Value) (nx : List (Addr × Obj)) : Prop :=
  ∃ c, nx = Led c ∧ P i c ∧ (∀ p ∈ ps c, m p.1 = some p.2) ∧ (∀ z, (∀ p ∈ ps c, z ≠ p.1) → stored.contains z = false → m z = m₀ z)
theorem rt_end {σ : Type} {Led : σ → List (Addr × Obj)} {ps : σ → List (Str × Value)} {stored : List Str} {m₀ m' : Str → Option Value} {P : Nat → σ → Prop} {i : Nat} {h₀ h' : Heap} {L : Addr} {own news' : List (Addr × Obj)} {s₁ : Shared} {tk : Nat} (c' : σ)
    (F : Fr h₀ L h' m') (N : News h₀ L h' news') (hn : ∀ p ∈ Led c', p ∈ news') (ho : ∀ p ∈ own, p ∈ news') (ha : ∀ p ∈ own, ∀ q ∈ Led c', p.1 ≠ q.1) (hk : ∀ p ∈ ps c', m' p.1 = some p.2) (hr : ∀ z, (∀ p ∈ ps c', z ≠ p.1) → stored.contains z = false → m' z = m₀ z) (hp : P i c') :
    InvEndG h₀ L (RtJ Led ps stored m₀ P i) own s₁ { s₁ with heap := h', toks := tk } :=
  InvEndG.intro F N ⟨c', rfl, hp, hk, hr⟩ (fun p hp b hb => by obtain ⟨q, hq, rfl⟩ := List.mem_map.mp hb; exact ha p hp q hq) hn ho
theorem datIn_int {led : List (Addr × Obj)} {v : Value} {b : Int} (h : DatIn led v (.int b)) : ∃ t, v = .int b t := by
  cases h with
  | int _ t => exact ⟨t, rfl⟩
theorem datIn_tup {led : List (Addr × Obj)} {v : Value} {ds : List Dat} (h : DatIn led v (.tuple ds)) : ∃ a vs n, v = .ref a ∧ (a, ({ cls := .type "tuple", data := .seq vs.toArray n } : Obj)) ∈ led ∧ DatAll led vs ds := by
  cases h with
  | tuple hm ha => exact ⟨_, _, _, rfl, hm, ha⟩
theorem datAll_cons {led : List (Addr × Obj)} {vs : List Value} {d : Dat} {ds : List Dat} (h : DatAll led vs (d :: ds)) : ∃ v r, vs = v :: r ∧ DatIn led v d ∧ DatAll led r ds := by
  cases h with
  | cons a b => exact ⟨_, _, rfl, a, b⟩
theorem rule_at {led : List (Addr × Obj)} {vr : List Value} {rules : List PRule} (hD : DatAll led vr (rules.map ruleD)) {i : Nat} {v : Value} (hv : vr[i]? = some v) : ∃ r T t1 t2 t3 n, rules[i]? = some r ∧ v = .ref T ∧ (T, ({ cls := .type "tuple", data := .seq #[.int r.1 t1, .int r.2.1 t2, .int r.2.2 t3] n } : Obj)) ∈ led := by
  have hlen : vr.length = rules.length := by rw [hD.length, List.length_map]
  have hi : i < rules.length := by rw [← hlen]; exact (List.getElem?_eq_some_iff.mp hv).1
  obtain ⟨v', hv', hd⟩ := hD.get (k := i) (by rw [List.length_map]; exact hi)
  have ev : v' = v := by rw [hv] at hv'; exact (Option.some.inj hv').symm
  rw [ev, List.getElem_map] at hd
  refine ⟨rules[i], ?_⟩
  rw [List.getElem?_eq_getElem hi]
  unfold ruleD at hd
  obtain ⟨a, vs, n, e, hm, ha⟩ := datIn_tup hd
  obtain ⟨v1, r1, e1, h1, k1⟩ := datAll_cons ha
  obtain ⟨v2, r2, e2, h2, k2⟩ := datAll_cons k1
  obtain ⟨v3, r3, e3, h3, k3⟩ := datAll_cons k2
  obtain ⟨t1, f1⟩ := datIn_int h1
  obtain ⟨t2, f2⟩ := datIn_int h2
  obtain ⟨t3, f3⟩ := datIn_int h3
  have k4 : r3 = [] := List.length_eq_zero_iff.mp k3.length
  rw [e1, e2, e3, f1, f2, f3, k4] at hm
  exact ⟨_, _, _, _, _, rfl, e, hm⟩
section
variable {prog : Program} {w : World} {A : Around} {E : Value → Shared → Prop} {s : Shared} {env : Env} {h₀ : Heap} {target : Expr} {body : List Stmt} {Q : Flow → Shared → Prop}
/-- a for over the rules -/
theorem ru_for {σ : Type} {RL : Addr} {vr : List Value} {nn : Nat} {rules : List PRule} {m₀ : Str → Option Value} {led news : List (Addr × Obj)} (Led : σ → List (Addr × Obj)) (ps : σ → List (Str × Value)) (stored : List Str) (P : Nat → σ → Prop) (c₀ : σ)
    (hh : A.handled = none) (F : Fr h₀ env.locals s.heap m₀) (N : News h₀ env.locals s.heap news) (hD : DatAll led vr (rules.map ruleD)) (hm : ∀ c, (RL, listOf vr.toArray nn) ∈ Led c) (hs : ∀ c, ∀ p ∈ led, p ∈ Led c) (hn : ∀ p ∈ Led c₀, p ∈ news) (hk : ∀ p ∈ ps c₀, m₀ p.1 = some p.2) (hp : P 0 c₀)
    (turn : ∀ (c : σ) (i : Nat) (r : PRule) (T : Addr) (t1 t2 t3 : Tok) (u : Str → Option Value) h tk own, rules[i]? = some r → P i c → IsTup h T #[.int r.1 t1, .int r.2.1 t2, .int r.2.2 t3] → (∀ p ∈ own, ∀ q ∈ Led c, p.1 ≠ q.1) →
      Fr h₀ env.locals h (kstB (fun z => if stored.contains z then u z else m₀ z) (ps c)) → News h₀ env.locals h (Led c ++ own) →
      wpAny (model prog w) A (assign target env (.ref T)) (fun _ s₃ => wpAny (model prog w) A (execs body env) (InvPostG h₀ env.locals (RtJ Led ps stored m₀ P (i + 1)) own { s with heap := h, toks := tk } Q) E s₃) E { s with heap := h, toks := tk })
    (done : ∀ (c : σ) (u : Str → Option Value) h tk, P rules.length c → Fr h₀ env.locals h (kstB (fun z => if stored.contains z then u z else m₀ z) (ps c)) → News h₀ env.locals h (Led c) → Q .next { s with heap := h, toks := tk }) :
    wpAny (model prog w) A (pyIter (.ref RL)) (fun it s₂ => TurnsAt prog w A h₀ env target body Q E it s₂) E s := by
  have hlen : vr.length = rules.length := by rw [hD.length, List.length_map]
  refine turns_list (vs := vr) (nn := nn) (news := Led c₀) (RtJ Led ps stored m₀ P) hh (hm c₀) F (fun p hp => N p (hn p hp)) ⟨c₀, rfl, hp, hk, fun _ _ _ => rfl⟩ ?_ ?_ ?_
  · rintro i m nx ⟨c, rfl, _⟩
    exact hm c
  · rintro i v m₁ nx h tk own hv hoff ⟨c, rfl, p1, p2, p3⟩ F₁ N₁
    obtain ⟨r, T, t1, t2, t3, n, hr, rfl, hT⟩ := rule_at hD hv
    exact turn c i r T t1 t2 t3 m₁ h tk own hr p1 (N₁.isTup (List.mem_append.mpr (.inl (hs c _ hT)))) (fun p hp q hq => hoff p hp q.1 (List.mem_map_of_mem hq)) (ksw_fr p2 p3 F₁) N₁
  · rintro m₁ nx h tk ⟨c, rfl, p1, p2, p3⟩ F₁ N₁
    rw [hlen] at p1
    exact done c m₁ h tk p1 (ksw_fr p2 p3 F₁) N₁
/-- a for over the rules, the last first -/
theorem ru_rev {σ : Type} {I RL : Addr} {vr : List Value} {nn : Nat} {rules : List PRule} {m₀ : Str → Option Value} {led news : List (Addr × Obj)} (Led : σ → List (Addr × Obj)) (ps : σ → List (Str × Value)) (stored : List Str) (P : Nat → σ → Prop) (c₀ : σ)
    (hh : A.handled = none) (F : Fr h₀ env.locals s.heap m₀) (N : News h₀ env.locals s.heap ((I, revObj RL ((vr.length : Int) - 1)) :: news)) (hoff : ∀ p ∈ news, p.1 < I) (hD : DatAll led vr (rules.map ruleD)) (hm : ∀ c, (RL, listOf vr.toArray nn) ∈ Led c) (hs : ∀ c, ∀ p ∈ led, p ∈ Led c) (hn : ∀ p ∈ Led c₀, p ∈ news) (hk : ∀ p ∈ ps c₀, m₀ p.1 = some p.2) (hp : P 0 c₀)
    (turn : ∀ (c : σ) (i : Nat) (r : PRule) (T : Addr) (t1 t2 t3 : Tok) (u : Str → Option Value) h tk own, rules.reverse[i]? = some r → P i c → IsTup h T #[.int r.1 t1, .int r.2.1 t2, .int r.2.2 t3] → (∀ p ∈ own, ∀ q ∈ Led c, p.1 ≠ q.1) →
      Fr h₀ env.locals h (kstB (fun z => if stored.contains z then u z else m₀ z) (ps c)) → News h₀ env.locals h (Led c ++ own) →
      wpAny (model prog w) A (assign target env (.ref T)) (fun _ s₃ => wpAny (model prog w) A (execs body env) (InvPostG h₀ env.locals (RtJ Led ps stored m₀ P (i + 1)) own { s with heap := h, toks := tk } Q) E s₃) E { s with heap := h, toks := tk })
    (done : ∀ (c : σ) (u : Str → Option Value) h tk, P rules.length c → Fr h₀ env.locals h (kstB (fun z => if stored.contains z then u z else m₀ z) (ps c)) → News h₀ env.locals h (Led c) → Q .next { s with heap := h, toks := tk }) :
    wpAny (model prog w) A (pyIter (.ref I)) (fun it s₂ => TurnsAt prog w A h₀ env target body Q E it s₂) E s := by
  have hlen : vr.length = rules.length := by rw [hD.length, List.length_map]
  refine turns_rev (vs := vr) (nn := nn) (news := Led c₀) (RtJ Led ps stored m₀ P) hh F (fun p hp => ?_) (hm c₀) (fun p hp => Nat.ne_of_lt (hoff p (hn p hp))) ⟨c₀, rfl, hp, hk, fun _ _ _ => rfl⟩ ?_ ?_ ?_
  · rcases List.mem_cons.mp hp with rfl | hp
    · exact N _ (.head _)
    · exact N p (.tail _ (hn p hp))
  · rintro i m nx ⟨c, rfl, _⟩
    exact hm c
  · rintro i v m₁ nx h tk own hv hoff₁ ⟨c, rfl, p1, p2, p3⟩ F₁ N₁
    have hi : i < vr.length := by have := (List.getElem?_eq_some_iff.mp hv).1; simpa using this
    rw [List.getElem?_reverse hi] at hv
    obtain ⟨r, T, t1, t2, t3, n, hr, rfl, hT⟩ := rule_at hD hv
    have hr' : rules.reverse[i]? = some r := by rw [List.getElem?_reverse (by omega), ← hlen]; exact hr
    exact turn c i r T t1 t2 t3 m₁ h tk own hr' p1 (N₁.isTup (List.mem_append.mpr (.inl (hs c _ hT)))) (fun p hp q hq => hoff₁ p hp q.1 (List.mem_map_of_mem hq)) (ksw_fr p2 p3 F₁) N₁
  · rintro m₁ nx h tk ⟨c, rfl, p1, p2, p3⟩ F₁ N₁
    rw [hlen] at p1
    exact done c m₁ h tk p1 (ksw_fr p2 p3 F₁) N₁
end
theorem lenOne_cons (b x y v : Int) (row : List Int) : lenOne b x y (v :: row) = (if v = b then [x, y] else [v]) ++ lenOne b x y row := by simp [lenOne]
theorem lenOne_app (b x y : Int) (p q : List Int) : lenOne b x y (p ++ q) = lenOne b x y p ++ lenOne b x y q := by simp [lenOne]
theorem lenOne_len (b x y : Int) : ∀ row : List Int, row.length ≤ (lenOne b x y row).length ∧ (lenOne b x y row).length ≤ 2 * row.length
  | [] => by simp [lenOne]
  | v :: row => by
    have := lenOne_len b x y row
    rw [lenOne_cons]
    split <;> simp <;> omega
def lenStep (row : List Int) (r : PRule) : List Int := lenOne r.1 r.2.1 r.2.2 row
theorem lenAll_eq (rules : List PRule) (row : List Int) : lenAll rules row = rules.reverse.foldl lenStep row := rfl
theorem lenFold_len : ∀ (rs : List PRule) (row : List Int), row.length ≤ (rs.foldl lenStep row).length
  | [], _ => Nat.le_refl _
  | r :: rs, row => Nat.le_trans (lenOne_len _ _ _ _).1 (lenFold_len rs _)
theorem lenFold_take (rs : List PRule) (row : List Int) (i : Nat) : ((rs.take i).foldl lenStep row).length ≤ (rs.foldl lenStep row).length := by
  conv => rhs; rw [← List.take_append_drop i rs, List.foldl_append]
  exact lenFold_len _ _
/-- what lengthen hands back -/
def LeOut (os : List Int) (news : List (Addr × Obj)) (r : Value) (news' : List (Addr × Obj)) : Prop := ∃ O vs n, r = .ref O ∧ news' = (O, listOf vs.toArray n) :: news ∧ IntsAre vs os
def LeC (f : Addr) (prog : Program) (w : World) (K : Frag) (p : Program) (loose : List Str) (mean : ExcName → Option Value) (mg mb : Str → Option Value) : Prop :=
  ∀ (RL RA : Addr) (vr : List Value) (nn : Nat) (vs : List Value) (nR : Nat) (rules : List PRule) (row : List Int) (news : List (Addr × Obj)), (RL, listOf vr.toArray nn) ∈ news → DatAll news vr (rules.map ruleD) → (RA, listOf vs.toArray nR) ∈ news → IntsAre vs row → (lenAll rules row).length ≤ 1000 →
    Fun prog w K p loose mean mg mb 20 f [.ref RL, .ref RA] news (LeOut (lenAll rules row) news)
structure LeS where
  RA : Addr
  vs : List Value
  n : Nat
  row : List Int
def leLed (news : List (Addr × Obj)) (c : LeS) : List (Addr × Obj) := (c.RA, listOf c.vs.toArray c.n) :: news
def lePs (c : LeS) : List (Str × Value) := [(Str.ofString "row", .ref c.RA)]
def leNames : List Str := [Str.ofString "byte", Str.ofString "one", Str.ofString "two", Str.ofString "out", Str.ofString "value"]
def leP (rules : List PRule) (row : List Int) (i : Nat) (c : LeS) : Prop := IntsAre c.vs c.row ∧ c.row = (rules.reverse.take i).foldl lenStep row
structure LoS where
  vs : List Value
  n : Nat
  os : List Int
def loLed (O : Addr) (led : List (Addr × Obj)) (c : LoS) : List (Addr × Obj) := (O, listOf c.vs.toArray c.n) :: led
def loP (b x y : Int) (row : List Int) (i : Nat) (c : LoS) : Prop := IntsAre c.vs c.os ∧ c.os = lenOne b x y (row.take i)
section
variable {prog : Program} {w : World} {A : Around} {E : Value → Shared → Prop} {s : Shared} {env : Env} {h₀ : Heap} {L : Addr} {target : Expr} {body : List Stmt} {Q : Flow → Shared → Prop}
theorem le_for {I RL RA : Addr} {vr vs : List Value} {nn nR : Nat} {rules : List PRule} {row : List Int} {m₀ : Str → Option Value} {news : List (Addr × Obj)}
    (hh : A.handled = none) (F : Fr h₀ env.locals s.heap m₀) (N : News h₀ env.locals s.heap ((I, revObj RL ((vr.length : Int) - 1)) :: news)) (hoff : ∀ p ∈ news, p.1 < I) (hD : DatAll news vr (rules.map ruleD)) (hm : (RL, listOf vr.toArray nn) ∈ news) (hR : (RA, listOf vs.toArray nR) ∈ news) (hv : IntsAre vs row)
    (hrow : m₀ (Str.ofString "row") = some (.ref RA)) (hlen : (lenAll rules row).length ≤ 1000)
    (turn : ∀ (RA : Addr) (vs : List Value) (n : Nat) (cur : List Int) (i : Nat) (b x y : Int) (T : Addr) (t1 t2 t3 : Tok) (u : Str → Option Value) h tk own, IntsAre vs cur → cur = (rules.reverse.take i).foldl lenStep row → cur.length ≤ 1000 → rules.reverse[i]? = some (b, x, y) → IsTup h T #[.int b t1, .int x t2, .int y t3] → (∀ p ∈ own, p.1 ≠ RA) → (∀ p ∈ own, ∀ q ∈ news, p.1 ≠ q.1) →
      Fr h₀ env.locals h (fun z => if z = Str.ofString "row" then some (.ref RA) else if leNames.contains z then u z else m₀ z) → News h₀ env.locals h ((RA, listOf vs.toArray n) :: (news ++ own)) →
      wpAny (model prog w) A (assign target env (.ref T)) (fun _ s₃ => wpAny (model prog w) A (execs body env) (InvPostG h₀ env.locals (RtJ (leLed news) lePs leNames m₀ (leP rules row) (i + 1)) own { s with heap := h, toks := tk } Q) E s₃) E { s with heap := h, toks := tk })
    (done : ∀ (RA : Addr) (vs : List Value) (n : Nat) (u : Str → Option Value) h tk, IntsAre vs (lenAll rules row) → Fr h₀ env.locals h (fun z => if z = Str.ofString "row" then some (.ref RA) else if leNames.contains z then u z else m₀ z) → News h₀ env.locals h ((RA, listOf vs.toArray n) :: news) → Q .next { s with heap := h, toks := tk }) :
    wpAny (model prog w) A (pyIter (.ref I)) (fun it s₂ => TurnsAt prog w A h₀ env target body Q E it s₂) E s := by
  refine ru_rev (led := news) (leLed news) lePs leNames (leP rules row) ⟨RA, vs, nR, row⟩ hh F N hoff hD (fun c => .tail _ hm) (fun c p hp => .tail _ hp) ?_ ?_ ⟨hv, rfl⟩ ?_ ?_
  · intro p hp
    rcases List.mem_cons.mp hp with rfl | hp
    · exact hR
    · exact hp
  · intro p hp
    rw [List.mem_singleton.mp hp]; exact hrow
  · rintro ⟨RA, vs, n, cur⟩ i ⟨b, x, y⟩ T t1 t2 t3 u h tk own hr ⟨p1, p2⟩ hT hoff F₁ N₁
    refine turn RA vs n cur i b x y T t1 t2 t3 u h tk own p1 p2 ?_ hr hT (fun p hp => hoff p hp _ (.head _)) (fun p hp q hq => hoff p hp q (.tail _ hq)) F₁ N₁
    have p2' : cur = _ := p2
    rw [p2']
    exact Nat.le_trans (lenFold_take _ _ _) (by rw [lenAll_eq] at hlen; exact hlen)
  · rintro ⟨RA, vs, n, cur⟩ u h tk ⟨p1, p2⟩ F₁ N₁
    have p2' : cur = _ := p2
    have p1' : IntsAre vs cur := p1
    rw [p2', ← List.length_reverse, List.take_length] at p1'
    exact done RA vs n u h tk p1' F₁ N₁
theorem le_end {m₀ m' : Str → Option Value} {news own news' : List (Addr × Obj)} {rules : List PRule} {row cur : List Int} {b x y : Int} {i : Nat} {O RA : Addr} {vo : List Value} {co : Nat} {s₁ : Shared} {h' : Heap} {tk : Nat}
    (F : Fr h₀ L h' m') (N : News h₀ L h' news') (hm : m' (Str.ofString "row") = some (.ref O)) (hr : ∀ z, (∀ p ∈ [(Str.ofString "row", Value.ref O)], z ≠ p.1) → leNames.contains z = false → m' z = m₀ z)
    (n1 : (O, listOf vo.toArray co) ∈ news') (n2 : ∀ p ∈ news, p ∈ news') (ho : ∀ p ∈ own, p ∈ news') (l1 : RA < O ∧ AllLt O (news ++ own)) (o2 : ∀ p ∈ own, ∀ q ∈ news, p.1 ≠ q.1)
    (hc : cur = (rules.reverse.take i).foldl lenStep row) (hi : rules.reverse[i]? = some (b, x, y)) (hv : IntsAre vo (lenOne b x y cur)) :
    InvEndG h₀ L (RtJ (leLed news) lePs leNames m₀ (leP rules row) (i + 1)) own s₁ { s₁ with heap := h', toks := tk } := by
  refine rt_end (c' := (⟨O, vo, co, lenOne b x y cur⟩ : LeS)) F N ?_ ho ?_ ?_ hr ⟨hv, ?_⟩
  · intro p hp
    rcases List.mem_cons.mp hp with rfl | hp
    · exact n1
    · exact n2 p hp
  · intro p hp q hq
    rcases List.mem_cons.mp hq with rfl | hq
    · exact Nat.ne_of_lt (allLt_mem l1.2 p (List.mem_append.mpr (.inr hp)))
    · exact o2 p hp q hq
  · intro p hp
    rw [List.mem_singleton.mp hp]; exact hm
  · show lenOne b x y cur = _
    rw [List.take_add_one, hi, List.foldl_append, ← hc]; rfl
theorem lo_for {RA O : Addr} {vs : List Value} {nR : Nat} {cur : List Int} {b x y : Int} {m₀ : Str → Option Value} {led : List (Addr × Obj)} {tb tx ty : Tok}
    (hh : A.handled = none) (F : Fr h₀ env.locals s.heap m₀) (N : News h₀ env.locals s.heap ((O, listOf #[] 0) :: led)) (hR : (RA, listOf vs.toArray nR) ∈ led) (hv : IntsAre vs cur) (_h1 : m₀ (Str.ofString "byte") = some (.int b tb)) (_h2 : m₀ (Str.ofString "one") = some (.int x tx)) (_h3 : m₀ (Str.ofString "two") = some (.int y ty)) (hl : cur.length ≤ 1000)
    (turn : ∀ (vo : List Value) (co : Nat) (os : List Int) (i : Nat) (n : Int) (t : Tok) h tk own, IntsAre vo os → os = lenOne b x y (cur.take i) → vo.length ≤ 2000 → cur[i]? = some n → (∀ p ∈ own, p.1 ≠ O) → (∀ p ∈ own, ∀ r ∈ led, p.1 ≠ r.1) →
      Fr h₀ env.locals h (fun z => if z = Str.ofString "value" then some (.int n t) else m₀ z) → News h₀ env.locals h ((O, listOf vo.toArray co) :: (led ++ own)) →
      wpAny (model prog w) A (execs body env) (InvPostG h₀ env.locals (fun m' nx => (RA, listOf vs.toArray nR) ∈ nx ∧ RgJ (loLed O led) (fun _ => []) (Str.ofString "value") [] m₀ (loP b x y cur) (i + 1) m' nx) own { s with heap := h, toks := tk } Q) E { s with heap := h, toks := tk })
    (fin : ∀ (vo : List Value) (co : Nat) (u : Str → Option Value) h tk, IntsAre vo (lenOne b x y cur) → Fr h₀ env.locals h (fun z => if z = Str.ofString "value" then u z else m₀ z) → News h₀ env.locals h ((O, listOf vo.toArray co) :: led) → Q .next { s with heap := h, toks := tk }) :
    wpAny (model prog w) A (pyIter (.ref RA)) (fun it s₂ => LoopAtV prog w A h₀ env (Str.ofString "value") body Q E it s₂) E s := by
  refine ls_for (loLed O led) (fun _ => []) [] (loP b x y cur) ⟨[], 0, []⟩ hh (.tail _ hR) (fun _ => .tail _ hR) F N (fun _ h => h) (fun _ h => nomatch h) ⟨.nil, by simp [lenOne]⟩ ?_ ?_
  · rintro ⟨vo, co, os⟩ i v u h tk own hvi ⟨p1, p2⟩ hoff F₁ N₁
    obtain ⟨n, t, rfl, hni⟩ := intsAre_at hv hvi
    refine turn vo co os i n t h tk own p1 p2 ?_ hni (fun p hp => hoff p hp _ (.head _)) (fun p hp r hr => hoff p hp r (.tail _ hr)) F₁ N₁
    have h1 : vo.length = os.length := p1.length
    have p2' : os = _ := p2
    have h2 := (lenOne_len b x y (cur.take i)).2
    rw [h1, p2']
    rw [List.length_take] at h2
    omega
  · rintro ⟨vo, co, os⟩ u h tk ⟨p1, p2⟩ F₁ N₁
    have p2' : os = _ := p2
    have p1' : IntsAre vo os := p1
    rw [p2', hv.length, List.take_length] at p1'
    exact fin vo co u h tk p1' F₁ N₁
theorem lo_end {RA O : Addr} {vs : List Value} {its : Array Value} {nR co' i : Nat} {cur os ws : List Int} {b x y n : Int} {m₀ m' : Str → Option Value} {led own news' : List (Addr × Obj)} {s₁ : Shared} {h' : Heap} {tk : Nat}
    (F : Fr h₀ L h' m') (N : News h₀ L h' news') (hn : ∀ p ∈ (O, listOf its co') :: led, p ∈ news') (ho : ∀ p ∈ own, p ∈ news') (o1 : ∀ p ∈ own, p.1 ≠ O) (o2 : ∀ p ∈ own, ∀ r ∈ led, p.1 ≠ r.1) (hR : (RA, listOf vs.toArray nR) ∈ led)
    (hr : ∀ z, z ≠ Str.ofString "value" → m' z = m₀ z) (hv : IntsAre its.toList (os ++ ws)) (hs : os = lenOne b x y (cur.take i)) (hi : cur[i]? = some n) (hw : ws = if n = b then [x, y] else [n]) :
    InvEndG h₀ L (fun m' nx => (RA, listOf vs.toArray nR) ∈ nx ∧ RgJ (loLed O led) (fun _ => []) (Str.ofString "value") [] m₀ (loP b x y cur) (i + 1) m' nx) own s₁ { s₁ with heap := h', toks := tk } := by
  refine ls_end (c' := (⟨its.toList, co', os ++ ws⟩ : LoS)) F N (fun p hp => hn p ?_) ho (.tail _ hR) ?_ (fun _ h => nomatch h) (fun z hz _ _ => hr z hz) ⟨hv, ?_⟩
  · have e : its.toList.toArray = its := Array.toArray_toList
    have hp' : p ∈ (O, listOf its.toList.toArray co') :: led := hp
    rw [e] at hp'
    exact hp'
  · intro p hp q hq
    rcases List.mem_cons.mp hq with rfl | hq
    · exact o1 p hp
    · exact o2 p hp q hq
  · show os ++ ws = _
    rw [List.take_add_one, hi, lenOne_app, ← hs, hw]
    congr 1
    show _ = lenOne b x y [n]
    rw [lenOne_cons]; simp [lenOne]
theorem push_one {vo : List Value} {os : List Int} {n : Int} {t : Tok} (h : IntsAre vo os) : IntsAre (vo.toArray.push (.int n t)).toList (os ++ [n]) := by
  rw [Array.toList_push]; exact h.append (.cons _ _ .nil)
theorem push_two {vo : List Value} {os : List Int} {n k : Int} {t u : Tok} (h : IntsAre vo os) : IntsAre ((vo.toArray.push (.int n t)).push (.int k u)).toList (os ++ [n, k]) := by
  rw [Array.toList_push, Array.toList_push, List.append_assoc]; exact h.append (.cons _ _ (.cons _ _ .nil))
end
theorem le_ret {h₀ h : Heap} {L : Addr} {m : Str → Option Value} {s : Shared} {os : List Int} {news led : List (Addr × Obj)} {O : Addr} {vs : List Value} {n : Nat} {Q : Value → Shared → Prop} {tk : Nat}
    (hret : ∀ r news' h' tk', LeOut os news r news' → Fr h₀ L h' m → News h₀ L h' news' → Q r { s with heap := h', toks := tk' }) (F : Fr h₀ L h m) (N : News h₀ L h led) (hs : ∀ p ∈ (O, listOf vs.toArray n) :: news, p ∈ led) (hI : IntsAre vs os) : Q (.ref O) { s with heap := h, toks := tk } :=
  hret _ _ _ _ ⟨O, vs, n, rfl, rfl, hI⟩ F fun p hp => N p (hs p hp)
/-- the sizes' list tells the sizes -/
def SzP (rules : List PRule) (zs : List Int) (i : Nat) : Prop := zs.length = 256 ∧ ∀ v : Int, 0 ≤ v → v < 256 → zs.getD v.toNat 0 = ((rules.take i).foldl szUp fun _ => 1) v
theorem sz_start (rules : List PRule) : SzP rules (List.replicate 256 1) 0 := by
  refine ⟨List.length_replicate .., fun v h0 h1 => ?_⟩
  have : v.toNat < 256 := by omega
  rw [List.getD, List.getElem?_replicate_of_lt this]
  rfl
theorem sz_next {rules : List PRule} {zs : List Int} {i : Nat} {b x y : Int} (h : SzP rules zs i) (hi : rules[i]? = some (b, x, y)) (hb0 : 0 ≤ b) (hb1 : b < 256) (hx0 : 0 ≤ x) (hx1 : x < 256) (hy0 : 0 ≤ y) (hy1 : y < 256) : SzP rules (zs.set b.toNat (zs.getD x.toNat 0 + zs.getD y.toNat 0)) (i + 1) := by
  refine ⟨by rw [List.length_set]; exact h.1, fun v h0 h1 => ?_⟩
  have ht : rules.take (i + 1) = rules.take i ++ [(b, x, y)] := by rw [List.take_add_one, hi]; rfl
  have hl : b.toNat < zs.length := by rw [h.1]; omega
  rw [ht, List.foldl_append, List.foldl_cons, List.foldl_nil, h.2 x hx0 hx1, h.2 y hy0 hy1]
  show _ = if v = b then _ else _
  by_cases e : v = b
  · subst e
    rw [if_pos rfl]
    simp [List.getD, List.getElem?_set, hl]
  · rw [if_neg e, ← h.2 v h0 h1]
    have : ¬ b.toNat = v.toNat := by omega
    simp [List.getD, List.getElem?_set, this]
def GrOut (z : Int) (news : List (Addr × Obj)) (r : Value) (news' : List (Addr × Obj)) : Prop := ∃ t, r = .int z t ∧ news' = news
def GrC (f : Addr) (prog : Program) (w : World) (K : Frag) (p : Program) (loose : List Str) (mean : ExcName → Option Value) (mg mb : Str → Option Value) : Prop :=
  ∀ (RL RA : Addr) (vr : List Value) (nn : Nat) (vs : List Value) (nR : Nat) (rules : List PRule) (row : List Int) (news : List (Addr × Obj)), (RL, listOf vr.toArray nn) ∈ news → DatAll news vr (rules.map ruleD) → (RA, listOf vs.toArray nR) ∈ news → IntsAre vs row → row.length ≤ 1000 →
    (∀ r ∈ rules, (0 ≤ r.1 ∧ r.1 < 256) ∧ (0 ≤ r.2.1 ∧ r.2.1 < 256) ∧ (0 ≤ r.2.2 ∧ r.2.2 < 256)) → (∀ v ∈ row, 0 ≤ v ∧ v < 256) → Fun prog w K p loose mean mg mb 30 f [.ref RL, .ref RA] news (GrOut (row.map (szAll rules)).sum news)
structure GrS where
  vs : List Value
  n : Nat
  zs : List Int
def grLed (S : Addr) (news : List (Addr × Obj)) (c : GrS) : List (Addr × Obj) := (S, listOf c.vs.toArray c.n) :: news
def grNames : List Str := [Str.ofString "byte", Str.ofString "one", Str.ofString "two"]
def grP (rules : List PRule) (i : Nat) (c : GrS) : Prop := IntsAre c.vs c.zs ∧ SzP rules c.zs i
section
variable {prog : Program} {w : World} {A : Around} {E : Value → Shared → Prop} {s : Shared} {env : Env} {h₀ : Heap} {L : Addr} {target : Expr} {body : List Stmt} {Q : Flow → Shared → Prop}
theorem gr_for {S RL : Addr} {vr us : List Value} {nn nS : Nat} {rules : List PRule} {m₀ : Str → Option Value} {news : List (Addr × Obj)}
    (hh : A.handled = none) (F : Fr h₀ env.locals s.heap m₀) (N : News h₀ env.locals s.heap ((S, listOf us.toArray nS) :: news)) (hu : IntsAre us (List.replicate 256 1)) (hD : DatAll news vr (rules.map ruleD)) (hm : (RL, listOf vr.toArray nn) ∈ news) (hoff : ∀ q ∈ news, q.1 < S)
    (hb : ∀ r ∈ rules, (0 ≤ r.1 ∧ r.1 < 256) ∧ (0 ≤ r.2.1 ∧ r.2.1 < 256) ∧ (0 ≤ r.2.2 ∧ r.2.2 < 256))
    (turn : ∀ (vs : List Value) (n : Nat) (zs : List Int) (i : Nat) (b x y : Int) (T : Addr) (t1 t2 t3 : Tok) (u : Str → Option Value) h tk own, IntsAre vs zs → SzP rules zs i → zs.length = 256 → rules[i]? = some (b, x, y) → 0 ≤ b → b < 256 → 0 ≤ x → x < 256 → 0 ≤ y → y < 256 → IsTup h T #[.int b t1, .int x t2, .int y t3] → (∀ p ∈ news ++ own, p.1 ≠ S) → (∀ p ∈ own, ∀ q ∈ news, p.1 ≠ q.1) →
      Fr h₀ env.locals h (fun z => if grNames.contains z then u z else m₀ z) → News h₀ env.locals h ((S, listOf vs.toArray n) :: (news ++ own)) →
      wpAny (model prog w) A (assign target env (.ref T)) (fun _ s₃ => wpAny (model prog w) A (execs body env) (InvPostG h₀ env.locals (RtJ (grLed S news) (fun _ => []) grNames m₀ (grP rules) (i + 1)) own { s with heap := h, toks := tk } Q) E s₃) E { s with heap := h, toks := tk })
    (done : ∀ (vs : List Value) (n : Nat) (zs : List Int) (u : Str → Option Value) h tk, IntsAre vs zs → zs.length = 256 → (∀ v : Int, 0 ≤ v → v < 256 → zs.getD v.toNat 0 = szAll rules v) → Fr h₀ env.locals h (fun z => if grNames.contains z then u z else m₀ z) → News h₀ env.locals h ((S, listOf vs.toArray n) :: news) → Q .next { s with heap := h, toks := tk }) :
    wpAny (model prog w) A (pyIter (.ref RL)) (fun it s₂ => TurnsAt prog w A h₀ env target body Q E it s₂) E s := by
  refine ru_for (led := news) (grLed S news) (fun _ => []) grNames (grP rules) ⟨us, nS, List.replicate 256 1⟩ hh F N hD (fun c => .tail _ hm) (fun c p hp => .tail _ hp) (fun _ h => h) (fun _ h => nomatch h) ⟨hu, sz_start rules⟩ ?_ ?_
  · rintro ⟨vs, n, zs⟩ i ⟨b, x, y⟩ T t1 t2 t3 u h tk own hr ⟨p1, p2⟩ hT hof F₁ N₁
    have hr' := hb _ (List.mem_of_getElem? hr)
    refine turn vs n zs i b x y T t1 t2 t3 u h tk own p1 p2 p2.1 hr hr'.1.1 hr'.1.2 hr'.2.1.1 hr'.2.1.2 hr'.2.2.1 hr'.2.2.2 hT (fun p hp => ?_) (fun p hp q hq => hof p hp q (.tail _ hq)) F₁ N₁
    rcases List.mem_append.mp hp with hp | hp
    · exact Nat.ne_of_lt (hoff p hp)
    · exact hof p hp _ (.head _)
  · rintro ⟨vs, n, zs⟩ u h tk ⟨p1, p2⟩ F₁ N₁
    refine done vs n zs u h tk p1 p2.1 (fun v h0 h1 => ?_) F₁ N₁
    have := p2.2 v h0 h1
    rw [List.take_length] at this
    exact this
theorem gr_end {m₀ m' : Str → Option Value} {news own news' : List (Addr × Obj)} {rules : List PRule} {S : Addr} {vs' : List Value} {n' i : Nat} {zs zs' : List Int} {b x y : Int} {s₁ : Shared} {h' : Heap} {tk : Nat}
    (F : Fr h₀ L h' m') (N : News h₀ L h' news') (hr : ∀ z, (∀ p ∈ ([] : List (Str × Value)), z ≠ p.1) → grNames.contains z = false → m' z = m₀ z) (n1 : ∀ p ∈ (S, listOf vs'.toArray n') :: news, p ∈ news') (ho : ∀ p ∈ own, p ∈ news') (o1 : ∀ p ∈ news ++ own, p.1 ≠ S) (o2 : ∀ p ∈ own, ∀ q ∈ news, p.1 ≠ q.1)
    (hv : IntsAre vs' zs') (hz : zs' = zs.set b.toNat (zs.getD x.toNat 0 + zs.getD y.toNat 0)) (hs : SzP rules zs i) (hi : rules[i]? = some (b, x, y)) (hb0 : 0 ≤ b) (hb1 : b < 256) (hx0 : 0 ≤ x) (hx1 : x < 256) (hy0 : 0 ≤ y) (hy1 : y < 256) :
    InvEndG h₀ L (RtJ (grLed S news) (fun _ => []) grNames m₀ (grP rules) (i + 1)) own s₁ { s₁ with heap := h', toks := tk } := by
  subst hz
  refine rt_end (c' := (⟨vs', n', _⟩ : GrS)) F N n1 ho ?_ (fun _ h => nomatch h) hr ⟨hv, sz_next hs hi hb0 hb1 hx0 hx1 hy0 hy1⟩
  intro p hp q hq
  rcases List.mem_cons.mp hq with rfl | hq
  · exact o1 p (List.mem_append.mpr (.inr hp))
  · exact o2 p hp q hq
end
theorem lt_all3 {D l l2 : Nat} {o o2 : Obj} {news : List (Addr × Obj)} (h : l < D ∧ l2 < D ∧ AllLt D news) : ∀ q ∈ ((l, o) :: (l2, o2) :: news : List (Addr × Obj)), q.1 < (D : Addr) := by
  intro q hq
  rcases List.mem_cons.mp hq with rfl | hq
  · exact h.1
  rcases List.mem_cons.mp hq with rfl | hq
  · exact h.2.1
  have : ∀ {l : List (Addr × Obj)}, AllLt D l → ∀ p ∈ l, p.1 < (D : Addr) := by
    intro l
    induction l with
    | nil => intro _ p hp; cases hp
    | cons a r ih =>
      intro h p hp
      rcases List.mem_cons.mp hp with rfl | hp
      · exact h.1
      · exact ih h.2 p hp
  exact this h.2.2 q hq
theorem dat_len {led : List (Addr × Obj)} {vr : List Value} {rules : List PRule} (h : DatAll led vr (rules.map ruleD)) : vr.length = rules.length := by rw [h.length, List.length_map]
def ruleB (r : PRule) : List Int := [r.1, r.2.1, r.2.2]
theorem ruleB_flat (rules : List PRule) : (rules.map ruleB).flatten = ruleBs rules := by
  unfold ruleBs
  rw [List.flatMap_def]
  rfl
def PkOut (data : List Int) (k : Nat) (news : List (Addr × Obj)) (r : Value) (news' : List (Addr × Obj)) : Prop := ∃ b t rules row, r = .bytes b t ∧ news' = news ∧ KBw.bInts b = vint rules.length ++ (ruleBs rules ++ row) ∧ PInv data k rules row ∧ rules.length ≤ 64
def PkC (f : Addr) (prog : Program) (w : World) (K : Frag) (p : Program) (loose : List Str) (mean : ExcName → Option Value) (mg mb : Str → Option Value) : Prop :=
  ∀ (b : Array UInt8) (ks : List Int) (tb : Tok) (k : Nat) (news : List (Addr × Obj)), KBw.bInts b = ks → ks.length ≤ 72 + k → ks.length ≤ 200 → (k = 0 ∨ ∃ x y, k ≤ rcn x y ks) → (∃ al : List Int, al.length ≤ 5 ∧ ∀ v ∈ ks, v ∈ al) →
    Fun prog w K p loose mean mg mb 60 f [.bytes b tb] news (PkOut ks k news)
structure PkS where
  vs : List Value
  n : Nat
def pkLed (P : Addr) (news : List (Addr × Obj)) (c : PkS) : List (Addr × Obj) := (P, listOf c.vs.toArray c.n) :: news
def pkNames : List Str := [Str.ofString "byte", Str.ofString "one", Str.ofString "two"]
def pkP (hd : List Int) (rules : List PRule) (i : Nat) (c : PkS) : Prop := BsAre c.vs (hd :: (rules.take i).map ruleB) ∧ c.vs.length = i + 1
section
variable {prog : Program} {w : World} {A : Around} {E : Value → Shared → Prop} {s : Shared} {env : Env} {h₀ : Heap} {L : Addr} {target : Expr} {body : List Stmt}
theorem bytes_at {Q : Value → Shared → Prop} {m : Str → Option Value} {news : List (Addr × Obj)} {D : Addr} {vs : List Value} {ns : List Int} {n : Nat} (hh : A.handled = none) (F : Fr h₀ L s.heap m) (N : News h₀ L s.heap news) (hm : (D, listOf vs.toArray n) ∈ news) (hi : IntsAre vs ns) (hr : ∀ v ∈ ns, 0 ≤ v ∧ v < 256) (hn : ns.length ≤ 16777216)
    (h : ∀ b t' h' k, Fr h₀ L h' m → News h₀ L h' news → KBw.bInts b = ns → Q (.bytes b t') { s with heap := h', toks := k }) : wpAny (model prog w) A (call (.type "bytes") [.ref D]) Q E s :=
  KBa.make_K F N hh (PySem.IsL.isList (n := n) (N _ hm).1) hi hr hn fun h' t' k F' N' hr' => h _ t' h' k F' N' (KBa.ints_make hr')
theorem bytes_3 {Q : Value → Shared → Prop} {m : Str → Option Value} {news : List (Addr × Obj)} {D : Addr} {b x y : Int} {t1 t2 t3 : Tok} {n : Nat} (hh : A.handled = none) (F : Fr h₀ L s.heap m) (N : News h₀ L s.heap news) (hm : (D, listOf #[.int b t1, .int x t2, .int y t3] n) ∈ news) (b0 : 0 ≤ b) (b1 : b < 256) (x0 : 0 ≤ x) (x1 : x < 256) (y0 : 0 ≤ y) (y1 : y < 256)
    (h : ∀ bb t' h' k, Fr h₀ L h' m → News h₀ L h' news → KBw.bInts bb = [b, x, y] → Q (.bytes bb t') { s with heap := h', toks := k }) : wpAny (model prog w) A (call (.type "bytes") [.ref D]) Q E s := by
  refine bytes_at (ns := [b, x, y]) hh F N hm (.cons _ _ (.cons _ _ (.cons _ _ .nil))) (fun v hv => ?_) (by decide : (3 : Nat) ≤ 16777216) h
  rcases List.mem_cons.mp hv with rfl | hv
  · exact ⟨b0, b1⟩
  rcases List.mem_cons.mp hv with rfl | hv
  · exact ⟨x0, x1⟩
  · rw [List.mem_singleton.mp hv]; exact ⟨y0, y1⟩
theorem pk_join {P : Addr} {news : List (Addr × Obj)} {vs : List Value} {ks : List (List Int)} {row : List Int} {b : Array UInt8} {t t0 : Tok} {n : Nat} {Q : Value → Shared → Prop} (N : News h₀ L s.heap news) (hm : (P, listOf (vs.toArray.push (.bytes b t)) n) ∈ news) (hv : BsAre vs ks) (hB : KBw.bInts b = row) (hz : (ks.flatten ++ row).length ≤ 16777216)
    (h : ∀ b t k, KBw.bInts b = ks.flatten ++ row → Q (.bytes b t) { s with toks := k }) : wpAny (model prog w) A (call (.builtin "bytes.join") [.bytes #[] t0, .ref P]) Q E s := by
  have e : (ks ++ [row]).flatten = ks.flatten ++ row := by simp
  refine bjoin_any (vs := vs ++ [.bytes b t]) (PySem.IsL.isList (n := n) (N _ hm).1) (by simp) (hv.snoc hB) (by rw [e]; exact hz) ?_
  rw [e]
  exact h
theorem pk_for {P RL : Addr} {vr us : List Value} {nn nS : Nat} {rules : List PRule} {hd : List Int} {m₀ : Str → Option Value} {news : List (Addr × Obj)} {Q : Flow → Shared → Prop}
    (hh : A.handled = none) (F : Fr h₀ env.locals s.heap m₀) (N : News h₀ env.locals s.heap ((P, listOf us.toArray nS) :: news)) (hu : BsAre us [hd]) (hD : DatAll news vr (rules.map ruleD)) (hm : (RL, listOf vr.toArray nn) ∈ news) (hoff : ∀ q ∈ news, q.1 < P)
    (hb : ∀ r ∈ rules, (0 ≤ r.1 ∧ r.1 < 256) ∧ (0 ≤ r.2.1 ∧ r.2.1 < 256) ∧ (0 ≤ r.2.2 ∧ r.2.2 < 256))
    (turn : ∀ (vs : List Value) (n : Nat) (i : Nat) (b x y : Int) (T : Addr) (t1 t2 t3 : Tok) (u : Str → Option Value) h tk own, BsAre vs (hd :: (rules.take i).map ruleB) → vs.length = i + 1 → i < rules.length → rules[i]? = some (b, x, y) → 0 ≤ b → b < 256 → 0 ≤ x → x < 256 → 0 ≤ y → y < 256 → IsTup h T #[.int b t1, .int x t2, .int y t3] → (∀ p ∈ news ++ own, p.1 ≠ P) → (∀ p ∈ own, ∀ q ∈ news, p.1 ≠ q.1) →
      Fr h₀ env.locals h (fun z => if pkNames.contains z then u z else m₀ z) → News h₀ env.locals h ((P, listOf vs.toArray n) :: (news ++ own)) →
      wpAny (model prog w) A (assign target env (.ref T)) (fun _ s₃ => wpAny (model prog w) A (execs body env) (InvPostG h₀ env.locals (RtJ (pkLed P news) (fun _ => []) pkNames m₀ (pkP hd rules) (i + 1)) own { s with heap := h, toks := tk } Q) E s₃) E { s with heap := h, toks := tk })
    (done : ∀ (vs : List Value) (n : Nat) (u : Str → Option Value) h tk, BsAre vs (hd :: rules.map ruleB) → vs.length = rules.length + 1 → Fr h₀ env.locals h (fun z => if pkNames.contains z then u z else m₀ z) → News h₀ env.locals h ((P, listOf vs.toArray n) :: news) → Q .next { s with heap := h, toks := tk }) :
    wpAny (model prog w) A (pyIter (.ref RL)) (fun it s₂ => TurnsAt prog w A h₀ env target body Q E it s₂) E s := by
  refine ru_for (led := news) (pkLed P news) (fun _ => []) pkNames (pkP hd rules) ⟨us, nS⟩ hh F N hD (fun c => .tail _ hm) (fun c p hp => .tail _ hp) (fun _ h => h) (fun _ h => nomatch h) ⟨hu, hu.1⟩ ?_ ?_
  · rintro ⟨vs, n⟩ i ⟨b, x, y⟩ T t1 t2 t3 u h tk own hr ⟨p1, p2⟩ hT hof F₁ N₁
    have hr' := hb _ (List.mem_of_getElem? hr)
    refine turn vs n i b x y T t1 t2 t3 u h tk own p1 p2 (List.getElem?_eq_some_iff.mp hr).1 hr hr'.1.1 hr'.1.2 hr'.2.1.1 hr'.2.1.2 hr'.2.2.1 hr'.2.2.2 hT (fun p hp => ?_) (fun p hp q hq => hof p hp q (.tail _ hq)) F₁ N₁
    rcases List.mem_append.mp hp with hp | hp
    · exact Nat.ne_of_lt (hoff p hp)
    · exact hof p hp _ (.head _)
  · rintro ⟨vs, n⟩ u h tk ⟨p1, p2⟩ F₁ N₁
    have p1' : BsAre vs (hd :: (rules.take rules.length).map ruleB) := p1
    rw [List.take_length] at p1'
    exact done vs n u h tk p1' p2 F₁ N₁
theorem pk_end {m₀ m' : Str → Option Value} {news own news' : List (Addr × Obj)} {rules : List PRule} {P : Addr} {vs : List Value} {n' i : Nat} {hd : List Int} {bb : Array UInt8} {t : Tok} {b x y : Int} {s₁ : Shared} {h' : Heap} {tk : Nat}
    (F : Fr h₀ L h' m') (N : News h₀ L h' news') (hr : ∀ z, (∀ p ∈ ([] : List (Str × Value)), z ≠ p.1) → pkNames.contains z = false → m' z = m₀ z) (n1 : ∀ p ∈ (P, listOf (vs.toArray.push (.bytes bb t)) n') :: news, p ∈ news') (ho : ∀ p ∈ own, p ∈ news') (o1 : ∀ p ∈ news ++ own, p.1 ≠ P) (o2 : ∀ p ∈ own, ∀ q ∈ news, p.1 ≠ q.1)
    (hv : BsAre vs (hd :: (rules.take i).map ruleB)) (hl : vs.length = i + 1) (hi : rules[i]? = some (b, x, y)) (hB : KBw.bInts bb = [b, x, y]) :
    InvEndG h₀ L (RtJ (pkLed P news) (fun _ => []) pkNames m₀ (pkP hd rules) (i + 1)) own s₁ { s₁ with heap := h', toks := tk } := by
  have ep : vs.toArray.push (Value.bytes bb t) = (vs ++ [Value.bytes bb t]).toArray := by simp
  rw [ep] at n1
  refine rt_end (c' := (⟨vs ++ [Value.bytes bb t], n'⟩ : PkS)) F N n1 ho ?_ (fun _ h => nomatch h) hr ⟨?_, ?_⟩
  · intro p hp q hq
    rcases List.mem_cons.mp hq with rfl | hq
    · exact o1 p (List.mem_append.mpr (.inr hp))
    · exact o2 p hp q hq
  · have ht : rules.take (i + 1) = rules.take i ++ [(b, x, y)] := by rw [List.take_add_one, hi]; rfl
    rw [ht, List.map_append, List.map_singleton, ← List.cons_append]
    exact hv.snoc hB
  · show (vs ++ [Value.bytes bb t]).length = i + 1 + 1
    rw [List.length_append, hl]; rfl
theorem pk_size {data row : List Int} {k : Nat} {rules : List PRule} (h : PInv data k rules row) (hr : rules.length ≤ 64) (hl : data.length ≤ 200) : ((vint rules.length :: rules.map ruleB).flatten ++ row).length ≤ 16777216 := by
  have h1 := h.len
  rw [List.flatten_cons, ruleB_flat, List.length_append, List.length_append, ruleBs_len, vint_small (by omega)]
  simp only [List.length_singleton]
  omega
theorem pk_ret {Q : Value → Shared → Prop} {m : Str → Option Value} {data row : List Int} {k : Nat} {rules : List PRule} {news news' : List (Addr × Obj)} {b : Array UInt8} {t : Tok} {h : Heap} {tk : Nat}
    (hret : ∀ r news' h' tk', PkOut data k news r news' → Fr h₀ L h' m → News h₀ L h' news' → Q r { s with heap := h', toks := tk' }) (F : Fr h₀ L h m) (N : News h₀ L h news') (hs : ∀ p ∈ news, p ∈ news')
    (hB : KBw.bInts b = (vint rules.length :: rules.map ruleB).flatten ++ row) (hP : PInv data k rules row) (hr : rules.length ≤ 64) : Q (.bytes b t) { s with heap := h, toks := tk } := by
  refine hret _ _ _ _ ⟨b, t, rules, row, rfl, rfl, ?_, hP, hr⟩ F fun p hp => N p (hs p hp)
  rw [hB, List.flatten_cons, ruleB_flat, List.append_assoc]
end
theorem lt_all2 {D l : Nat} {o : Obj} {news : List (Addr × Obj)} (h : l < D ∧ AllLt D news) : ∀ q ∈ ((l, o) :: news : List (Addr × Obj)), q.1 < (D : Addr) := by
  intro q hq
  rcases List.mem_cons.mp hq with rfl | hq
  · exact h.1
  · exact allLt_mem h.2 q hq
theorem drop0 {ks l : List Int} (h : ks = l) : ks.drop 0 = l := h
theorem ruleBs_at {rules : List PRule} : ∀ {i : Nat} {b x y : Int} (rest : List Int), rules[i]? = some (b, x, y) → (ruleBs rules ++ rest).getD (3 * i) 0 = b ∧ (ruleBs rules ++ rest).getD (3 * i + 1) 0 = x ∧ (ruleBs rules ++ rest).getD (3 * i + 2) 0 = y := by
  induction rules with
  | nil => intro i b x y rest h; simp at h
  | cons r rs ih =>
    intro i b x y rest h
    have e : ruleBs (r :: rs) ++ rest = r.1 :: r.2.1 :: r.2.2 :: (ruleBs rs ++ rest) := rfl
    rw [e]
    cases i with
    | zero =>
      have : r = (b, x, y) := by simpa using h
      subst this
      exact ⟨rfl, rfl, rfl⟩
    | succ i =>
      have h' : rs[i]? = some (b, x, y) := by simpa using h
      have := ih rest h'
      have e3 : 3 * (i + 1) = 3 * i + 1 + 1 + 1 := by omega
      rw [e3]
      simpa using this
theorem rr_at {ks row : List Int} {rules : List PRule} {i : Nat} {a : Int} (hk : ks = vint rules.length ++ (ruleBs rules ++ row)) (h1 : (vint rules.length).length = 1) (hi : i < rules.length) (ha : a = 1 + 3 * (i : Int)) :
    ruleD (ks.getD a.toNat 0, ks.getD (a + 1).toNat 0, ks.getD (a + 2).toNat 0) = ruleD (rules[i]'hi) := by
  have hr : rules[i]? = some ((rules[i]'hi).1, (rules[i]'hi).2.1, (rules[i]'hi).2.2) := List.getElem?_eq_getElem hi
  have := ruleBs_at row hr
  obtain ⟨v, hv⟩ : ∃ v, vint rules.length = [v] := List.length_eq_one_iff.mp h1
  have key : ∀ j : Nat, ks.getD (1 + j) 0 = (ruleBs rules ++ row).getD j 0 := by
    intro j
    rw [hk, hv, Nat.add_comm]
    rfl
  have e0 : a.toNat = 1 + 3 * i := by omega
  have e1 : (a + 1).toNat = 1 + (3 * i + 1) := by omega
  have e2 : (a + 2).toNat = 1 + (3 * i + 2) := by omega
  rw [e0, e1, e2, key, key, key, this.1, this.2.1, this.2.2]
theorem rr_rest {ks row : List Int} {rules : List PRule} {a : Int} (hk : ks = vint rules.length ++ (ruleBs rules ++ row)) (h1 : (vint rules.length).length = 1) (ha : a = 1 + 3 * (rules.length : Int)) : ks.drop a.toNat = row := by
  have e : a.toNat = (vint rules.length).length + (ruleBs rules).length := by rw [h1, ruleBs_len]; omega
  rw [e, hk, ← List.append_assoc, ← List.length_append, List.drop_left]
def RrOut (rules : List PRule) (row : List Int) (news : List (Addr × Obj)) (r : Value) (news' : List (Addr × Obj)) : Prop :=
  ∃ T Rl RA tl vr cr vs nR, r = .ref T ∧ news' = (T, { cls := .type "tuple", data := .seq #[.ref Rl, .ref RA] }) :: (tl ++ news) ∧ (∀ q ∈ news, q.1 < T) ∧ (Rl, listOf vr.toArray cr) ∈ tl ∧ (RA, listOf vs.toArray nR) ∈ tl ∧ IntsAre vs row ∧ DatAll tl vr (rules.map ruleD)
def RrC (f : Addr) (prog : Program) (w : World) (K : Frag) (p : Program) (loose : List Str) (mean : ExcName → Option Value) (mg mb : Str → Option Value) : Prop :=
  ∀ (b : Array UInt8) (ks : List Int) (rules : List PRule) (row : List Int) (tb : Tok) (news : List (Addr × Obj)), KBw.bInts b = ks → ks = vint rules.length ++ (ruleBs rules ++ row) → ks.length = 1 + 3 * rules.length + row.length → (vint rules.length).length = 1 → rules.length ≤ 64 → row.length ≤ 200 →
    Fun prog w K p loose mean mg mb 40 f [.bytes b tb] news (RrOut rules row news)
structure RrS where
  tl : List (Addr × Obj)
  vr : List Value
  cr : Nat
  a : Int
  ta : Tok
def rrLed (Rl : Addr) (news : List (Addr × Obj)) (c : RrS) : List (Addr × Obj) := (Rl, listOf c.vr.toArray c.cr) :: (c.tl ++ news)
def rrPs (c : RrS) : List (Str × Value) := [(Str.ofString "at", .int c.a c.ta)]
def rrP (Rl : Addr) (rules : List PRule) (i : Nat) (c : RrS) : Prop := DatAll c.tl c.vr ((rules.take i).map ruleD) ∧ c.a = 1 + 3 * (i : Int) ∧ (∀ p ∈ c.tl, p.1 ≠ Rl)
section
variable {prog : Program} {w : World} {A : Around} {E : Value → Shared → Prop} {s : Shared} {env : Env} {h₀ : Heap} {L : Addr} {body : List Stmt}
theorem rr_for {Rl r : Addr} {rules : List PRule} {ks row : List Int} {m₀ : Str → Option Value} {news : List (Addr × Obj)} {cr : Nat} {e a₀ : Int} {t₀ u₀ v₀ ta : Tok} {Q : Flow → Shared → Prop}
    (hh : A.handled = none) (hr : IsRange s.heap r 0 e 1 t₀ u₀ v₀) (he : e = (rules.length : Int)) (F : Fr h₀ env.locals s.heap m₀) (N : News h₀ env.locals s.heap ((Rl, listOf #[] cr) :: news)) (hat : m₀ (Str.ofString "at") = some (.int a₀ ta)) (ha : a₀ = 1) (hoff : ∀ q ∈ news, q.1 < Rl) (h64 : rules.length ≤ 64) (hlen : ks.length = 1 + 3 * rules.length + row.length)
    (turn : ∀ (tl : List (Addr × Obj)) (vr : List Value) (cr : Nat) (a : Int) (ta : Tok) (i : Nat) t (u : Str → Option Value) h tk own, DatAll tl vr ((rules.take i).map ruleD) → vr.length = i → i < rules.length → a = 1 + 3 * (i : Int) → 0 ≤ a → a + 2 < (ks.length : Int) → (∀ p ∈ (tl ++ news) ++ own, p.1 ≠ Rl) → (∀ p ∈ own, ∀ q ∈ tl ++ news, p.1 ≠ q.1) →
      Fr h₀ env.locals h (fun y => if y = Str.ofString "k" then some (.int (0 + i) t) else if y = Str.ofString "at" then some (.int a ta) else m₀ y) → News h₀ env.locals h ((Rl, listOf vr.toArray cr) :: ((tl ++ news) ++ own)) →
      wpAny (model prog w) A (execs body env) (InvPostG h₀ env.locals (RgJ (rrLed Rl news) rrPs (Str.ofString "k") [] m₀ (rrP Rl rules) (i + 1)) own { s with heap := h, toks := tk } Q) E { s with heap := h, toks := tk })
    (done : ∀ (tl : List (Addr × Obj)) (vr : List Value) (cr : Nat) (a : Int) (ta : Tok) (u : Str → Option Value) h tk, DatAll tl vr (rules.map ruleD) → a = 1 + 3 * (rules.length : Int) →
      Fr h₀ env.locals h (fun y => if y = Str.ofString "k" then u y else if y = Str.ofString "at" then some (.int a ta) else m₀ y) → News h₀ env.locals h ((Rl, listOf vr.toArray cr) :: (tl ++ news)) → Q .next { s with heap := h, toks := tk }) :
    wpAny (model prog w) A (pyIter (.ref r)) (fun it s₂ => LoopAtV prog w A h₀ env (Str.ofString "k") body Q E it s₂) E s := by
  subst he
  have hsz : Builtin.Range.rangeSize 0 (rules.length : Int) 1 = (rules.length : Int) := rangeSize_nat _ _
  have hsm : Builtin.Range.small 0 (rules.length : Int) 1 = true := small_one (by omega) (by omega) (by omega) (by omega)
  refine rg_for (rrLed Rl news) rrPs [] (rrP Rl rules) ⟨[], [], cr, a₀, ta⟩ hh hr hsm hsz F N (fun _ h => h) ?_ ⟨.nil, (by show a₀ = 1 + 3 * ((0 : Nat) : Int); omega), fun _ h => nomatch h⟩ ?_ ?_
  · intro p hp
    rw [List.mem_singleton.mp hp]
    exact hat
  · rintro ⟨tl, vr, cr, a, ta⟩ i t u h tk own hi ⟨p1, p2, p3⟩ hof F₁ N₁
    have p1' : DatAll tl vr ((rules.take i).map ruleD) := p1
    have p2' : a = 1 + 3 * (i : Int) := p2
    refine turn tl vr cr a ta i t u h tk own p1' (by rw [p1'.length, List.length_map, List.length_take]; omega) hi p2' (by omega) (by omega) (fun p hp => ?_) (fun p hp q hq => hof p hp q (.tail _ hq)) F₁ N₁
    rcases List.mem_append.mp hp with hp | hp
    · rcases List.mem_append.mp hp with hp | hp
      · exact p3 p hp
      · exact Nat.ne_of_lt (hoff p hp)
    · exact hof p hp _ (.head _)
  · rintro ⟨tl, vr, cr, a, ta⟩ u h tk ⟨p1, p2, p3⟩ F₁ N₁
    have p1' : DatAll tl vr ((rules.take rules.length).map ruleD) := p1
    rw [List.take_length] at p1'
    exact done tl vr cr a ta u h tk p1' p2 F₁ N₁
theorem rr_end {m₀ m' : Str → Option Value} {news own tl news' : List (Addr × Obj)} {rules : List PRule} {ks row : List Int} {Rl T : Addr} {vr : List Value} {cr' i : Nat} {a : Int} {ta t1 t2 t3 : Tok} {s₁ : Shared} {h' : Heap} {tk : Nat}
    (F : Fr h₀ L h' m') (N : News h₀ L h' news') (hm : m' (Str.ofString "at") = some (.int (a + 3) ta)) (hr : ∀ z, z ≠ Str.ofString "k" → (∀ p ∈ [(Str.ofString "at", Value.int (a + 3) ta)], z ≠ p.1) → ([] : List Str).contains z = false → m' z = m₀ z)
    (n1 : (Rl, listOf (vr.toArray.push (.ref T)) cr') ∈ news') (n2 : (T, ({ cls := .type "tuple", data := .seq #[.int (ks.getD a.toNat 0) t1, .int (ks.getD (a + 1).toNat 0) t2, .int (ks.getD (a + 2).toNat 0) t3] } : Obj)) ∈ news') (n3 : ∀ p ∈ tl ++ news, p ∈ news') (ho : ∀ p ∈ own, p ∈ news')
    (l1 : Rl < T ∧ AllLt T ((tl ++ news) ++ own)) (o1 : ∀ p ∈ (tl ++ news) ++ own, p.1 ≠ Rl) (o2 : ∀ p ∈ own, ∀ q ∈ tl ++ news, p.1 ≠ q.1)
    (hD : DatAll tl vr ((rules.take i).map ruleD)) (hi : i < rules.length) (ha : a = 1 + 3 * (i : Int)) (hk : ks = vint rules.length ++ (ruleBs rules ++ row)) (h1 : (vint rules.length).length = 1) :
    InvEndG h₀ L (RgJ (rrLed Rl news) rrPs (Str.ofString "k") [] m₀ (rrP Rl rules) (i + 1)) own s₁ { s₁ with heap := h', toks := tk } := by
  have ep : vr.toArray.push (Value.ref T) = (vr ++ [Value.ref T]).toArray := by simp
  rw [ep] at n1
  refine rg_end (c' := (⟨(T, { cls := .type "tuple", data := .seq #[.int (ks.getD a.toNat 0) t1, .int (ks.getD (a + 1).toNat 0) t2, .int (ks.getD (a + 2).toNat 0) t3] }) :: tl, vr ++ [Value.ref T], cr', a + 3, ta⟩ : RrS)) F N ?_ ho ?_ ?_ hr ⟨?_, ?_, ?_⟩
  · intro p hp
    rcases List.mem_cons.mp hp with rfl | hp
    · exact n1
    · rcases List.mem_cons.mp hp with rfl | hp
      · exact n2
      · exact n3 p hp
  · intro p hp q hq
    rcases List.mem_cons.mp hq with rfl | hq
    · exact o1 p (List.mem_append.mpr (.inr hp))
    · rcases List.mem_cons.mp hq with rfl | hq
      · exact off_allLt l1.2 p (List.mem_append.mpr (.inr hp))
      · exact o2 p hp q hq
  · intro p hp
    rw [List.mem_singleton.mp hp]
    exact hm
  · show DatAll _ (vr ++ [Value.ref T]) ((rules.take (i + 1)).map ruleD)
    have ht : rules.take (i + 1) = rules.take i ++ [rules[i]'hi] := by rw [List.take_add_one, List.getElem?_eq_getElem hi]; rfl
    rw [ht, List.map_append, List.map_singleton, ← rr_at hk h1 hi ha]
    exact (hD.mono fun q hq => .tail _ hq).append (.one (.tuple (vs := [.int _ t1, .int _ t2, .int _ t3]) (.head _) (.cons (.int _ _) (.cons (.int _ _) (.cons (.int _ _) .nil)))))
  · show a + 3 = 1 + 3 * ((i + 1 : Nat) : Int)
    omega
  · intro p hp
    rcases List.mem_cons.mp hp with rfl | hp
    · exact Nat.ne_of_gt l1.1
    · exact o1 p (List.mem_append.mpr (.inl (List.mem_append.mpr (.inl hp))))
theorem rr_cut {ks row : List Int} {rules : List PRule} {a : Int} {b' : Array UInt8} (hb : KBw.bInts b' = (ks.drop ((some a).elim 0 (clipAt ks.length))).take ((none : Option Int).elim ks.length (clipAt ks.length) - (some a).elim 0 (clipAt ks.length))) (hk : ks = vint rules.length ++ (ruleBs rules ++ row)) (h1 : (vint rules.length).length = 1) (ha : a = 1 + 3 * (rules.length : Int)) (hl : ks.length = 1 + 3 * rules.length + row.length) : KBw.bInts b' = row := by
  have hr := rr_rest hk h1 ha
  rw [hb]
  simp only [Option.elim]
  rw [clipAt_in (by omega) (by omega), hr, List.take_of_length_le (by omega)]
theorem rr_ret {Q : Value → Shared → Prop} {m : Str → Option Value} {rules : List PRule} {row : List Int} {news led : List (Addr × Obj)} {T Rl RA : Addr} {tl : List (Addr × Obj)} {vr vs : List Value} {cr nR : Nat} {h : Heap} {tk : Nat}
    (hret : ∀ r news' h' tk', RrOut rules row news r news' → Fr h₀ L h' m → News h₀ L h' news' → Q r { s with heap := h', toks := tk' }) (F : Fr h₀ L h m) (N : News h₀ L h ((T, { cls := .type "tuple", data := .seq #[.ref Rl, .ref RA] }) :: led)) (l1 : AllLt T led)
    (hI : IntsAre vs row) (hD : DatAll tl vr (rules.map ruleD)) (n1 : (Rl, listOf vr.toArray cr) ∈ led) (n2 : (RA, listOf vs.toArray nR) ∈ led) (n3 : ∀ p ∈ tl, p ∈ led) (n4 : ∀ p ∈ news, p ∈ led) : Q (.ref T) { s with heap := h, toks := tk } := by
  refine hret _ _ _ _ ⟨T, Rl, RA, (Rl, listOf vr.toArray cr) :: (RA, listOf vs.toArray nR) :: tl, vr, cr, vs, nR, rfl, rfl, fun q hq => allLt_mem l1 q (n4 q hq), .head _, .tail _ (.head _), hI, hD.mono fun q hq => .tail _ (.tail _ hq)⟩ F fun p hp => ?_
  rcases List.mem_cons.mp hp with rfl | hp
  · exact N _ (.head _)
  · refine N p (.tail _ ?_)
    rcases List.mem_append.mp hp with hp | hp
    · rcases List.mem_cons.mp hp with rfl | hp
      · exact n1
      · rcases List.mem_cons.mp hp with rfl | hp
        · exact n2
        · exact n3 p hp
    · exact n4 p hp
end
def UpOut (data : List Int) (news : List (Addr × Obj)) (r : Value) (news' : List (Addr × Obj)) : Prop := ∃ b t, r = .bytes b t ∧ news' = news ∧ KBw.bInts b = data
def UpC (f : Addr) (prog : Program) (w : World) (K : Frag) (p : Program) (loose : List Str) (mean : ExcName → Option Value) (mg mb : Str → Option Value) : Prop :=
  ∀ (b : Array UInt8) (ks : List Int) (data : List Int) (k : Nat) (rules : List PRule) (row : List Int) (tb : Tok) (news : List (Addr × Obj)), KBw.bInts b = ks → ks = vint rules.length ++ (ruleBs rules ++ row) → ks.length = 1 + 3 * rules.length + row.length → (vint rules.length).length = 1 → rules.length ≤ 64 → row.length ≤ 200 → PInv data k rules row → data.length ≤ 200 → (∀ v ∈ data, 0 ≤ v ∧ v < 256) →
    Fun prog w K p loose mean mg mb 60 f [.bytes b tb] news (UpOut data news)
theorem up_len {data row : List Int} {k : Nat} {rules : List PRule} (h : PInv data k rules row) (hl : data.length ≤ 200) : (lenAll rules row).length ≤ 1000 := by rw [h.back]; omega
section
variable {h₀ : Heap} {L : Addr} {s : Shared}
theorem up_ret {Q : Value → Shared → Prop} {m : Str → Option Value} {data : List Int} {news news' : List (Addr × Obj)} {b : Array UInt8} {t : Tok} {h : Heap} {tk : Nat}
    (hret : ∀ r news' h' tk', UpOut data news r news' → Fr h₀ L h' m → News h₀ L h' news' → Q r { s with heap := h', toks := tk' }) (F : Fr h₀ L h m) (N : News h₀ L h news') (hs : ∀ p ∈ news, p ∈ news') (hB : KBw.bInts b = data) : Q (.bytes b t) { s with heap := h, toks := tk } :=
  hret _ _ _ _ ⟨b, t, rfl, rfl, hB⟩ F fun p hp => N p (hs p hp)
end
theorem fmod_r (a n : Int) (hn : 0 < n) : 0 ≤ a.fmod n ∧ a.fmod n < n := ⟨Int.fmod_nonneg_of_pos a hn, Int.fmod_lt_of_pos a hn⟩
theorem rep_len (n : Nat) (u : List Int) : (List.replicate n u).flatten.length = n * u.length := by
  induction n with
  | zero => simp
  | succ k ih => rw [List.replicate_succ, List.flatten_cons, List.length_append, ih, Nat.succ_mul]; omega
theorem rep_mem {n : Nat} {u : List Int} {v : Int} (h : v ∈ (List.replicate n u).flatten) : v ∈ u := by
  obtain ⟨l, hl, hv⟩ := List.mem_flatten.mp h
  exact (List.mem_replicate.mp hl).2 ▸ hv
def D16 (ds : List Int) (k : Nat) : Prop := ds.length ≤ 72 + k ∧ ds.length ≤ 200 ∧ (k = 0 ∨ ∃ x y, k ≤ rcn x y ds) ∧ (∃ al : List Int, al.length ≤ 5 ∧ ∀ v ∈ ds, v ∈ al) ∧ (∀ v ∈ ds, 0 ≤ v ∧ v < 256)
theorem d16_ok {a b c d : Int} {n j m : Nat} (hn : n ≤ 20) (hm : m ≤ 9) (ha : 0 ≤ a ∧ a < 256) (hb : 0 ≤ b ∧ b < 256) (hc : 0 ≤ c ∧ c < 256) (hd : 0 ≤ d ∧ d < 256) :
    ∃ k, D16 ((List.replicate n (List.take j [a, b, c, d])).flatten ++ (List.replicate m [9]).flatten) k := by
  have hl : ((List.replicate n (List.take j [a, b, c, d])).flatten ++ (List.replicate m [9]).flatten).length = n * min j 4 + m := by
    rw [List.length_append, rep_len, rep_len, List.length_take]
    simp
  have hin : ∀ v ∈ (List.replicate n (List.take j [a, b, c, d])).flatten ++ (List.replicate m [9]).flatten, v ∈ [a, b, c, d, 9] := by
    intro v hv
    rcases List.mem_append.mp hv with hv | hv
    · have := List.mem_of_mem_take (rep_mem hv)
      simp only [List.mem_cons, List.not_mem_nil, or_false] at this ⊢
      rcases this with h | h | h | h <;> simp [h]
    · have := rep_mem hv
      rw [List.mem_singleton.mp this]
      simp
  have hb' : ∀ v ∈ (List.replicate n (List.take j [a, b, c, d])).flatten ++ (List.replicate m [9]).flatten, 0 ≤ v ∧ v < 256 := by
    intro v hv
    have := hin v hv
    simp only [List.mem_cons, List.not_mem_nil, or_false] at this
    rcases this with rfl | rfl | rfl | rfl | rfl
    · exact ha
    · exact hb
    · exact hc
    · exact hd
    · decide
  by_cases hj : j ≤ 3
  · refine ⟨0, ?_, ?_, .inl rfl, ⟨[a, b, c, d, 9], by simp, hin⟩, hb'⟩
    · rw [hl]
      have : n * min j 4 ≤ 20 * 3 := Nat.mul_le_mul hn (by omega)
      omega
    · rw [hl]
      have : n * min j 4 ≤ 20 * 3 := Nat.mul_le_mul hn (by omega)
      omega
  · have e4 : min j 4 = 4 := by omega
    have et : List.take j [a, b, c, d] = [a, b, c, d] := List.take_of_length_le (by simp; omega)
    refine ⟨n, ?_, ?_, .inr ⟨a, b, ?_⟩, ⟨[a, b, c, d, 9], by simp, hin⟩, hb'⟩
    · rw [hl, e4]; omega
    · rw [hl, e4]; omega
    · rw [et]
      refine rcn_pow a b [a, b, c, d] _ ?_ n
      show 1 ≤ if a = a ∧ b = b then rcn a b [c, d] + 1 else rcn a b [b, c, d]
      rw [if_pos ⟨rfl, rfl⟩]
      omega
theorem d16_at {us : List Value} {c0 c1 c6 a b c d : Int} (h : IntsAre us ((List.replicate (1 + c1.fmod 20).toNat (List.take (1 + c0.fmod 4).toNat [a.fmod 256, b.fmod 256, c.fmod 256, d.fmod 256])).flatten ++ (List.replicate (c6.fmod 10).toNat [9]).flatten)) :
    ∃ ds k, IntsAre us ds ∧ D16 ds k := by
  have h1 := fmod_r c1 20 (by decide)
  have h2 := fmod_r c6 10 (by decide)
  obtain ⟨k, hk⟩ := d16_ok (j := (1 + c0.fmod 4).toNat) (n := (1 + c1.fmod 20).toNat) (m := (c6.fmod 10).toNat) (by omega) (by omega) (fmod_r a 256 (by decide)) (fmod_r b 256 (by decide)) (fmod_r c 256 (by decide)) (fmod_r d 256 (by decide))
  exact ⟨_, k, h, hk⟩
theorem d16_sz {c1 c6 : Int} {j : Nat} {a b c d : Int} : (List.replicate (1 + c1.fmod 20).toNat (List.take j [a, b, c, d])).flatten.length + (List.replicate (c6.fmod 10).toNat [(9 : Int)]).flatten.length ≤ sizeLine := by
  have h1 := fmod_r c1 20 (by decide)
  have h2 := fmod_r c6 10 (by decide)
  rw [rep_len, rep_len, List.length_take, sizeLine_eq]
  have : (1 + c1.fmod 20).toNat * min j [a, b, c, d].length ≤ 20 * 4 := Nat.mul_le_mul (by omega) (by simp only [List.length_cons, List.length_nil]; omega)
  simp only [List.length_singleton]
  omega
theorem pk_len {rules : List PRule} {row data : List Int} {k : Nat} (h64 : rules.length ≤ 64) (_h : PInv data k rules row) : (vint rules.length ++ (ruleBs rules ++ row)).length = 1 + 3 * rules.length + row.length ∧ (vint rules.length).length = 1 := by
  rw [vint_small (by omega), List.length_append, List.length_append, ruleBs_len, List.length_singleton]
  exact ⟨by omega, rfl⟩
theorem bytes_eq {b c : Array UInt8} (h : KBw.bInts b = KBw.bInts c) : b = c := by
  have key : ∀ l1 l2 : List UInt8, l1.map (fun c => (c.toNat : Int)) = l2.map (fun c => (c.toNat : Int)) → l1 = l2 := by
    intro l1
    induction l1 with
    | nil => intro l2 h; cases l2 with
      | nil => rfl
      | cons _ _ => simp at h
    | cons x xs ih =>
      intro l2 h
      cases l2 with
      | nil => simp at h
      | cons y ys =>
        simp only [List.map_cons, List.cons.injEq] at h
        have hx : x = y := by
          apply UInt8.toNat_inj.mp
          omega
        rw [hx, ih ys h.2]
  unfold KBw.bInts at h
  exact Array.toList_inj.mp (key _ _ h)
def SrcB (b : Array UInt8) (ds : List Int) : Prop := KBw.bInts b = ds
theorem srcB {b : Array UInt8} {ds : List Int} (h : KBw.bInts b = ds) : SrcB b ds := h
theorem src_eq {b c : Array UInt8} {ds : List Int} (h : SrcB b ds) (g : KBw.bInts c = ds) : c = b := bytes_eq (g.trans (Eq.symm h))
set_option maxRecDepth 100000 in
set_option maxHeartbeats 0 in
open_top hd for PySem.Challenge.rw_ui0507_16
end Mine
local macro_rules | `(tactic| k_mem) => `(tactic| kcf_m)
local macro_rules | `(tactic| walk_at "mine ne") => `(tactic| ((try dsimp only); first | assumption | k_ne | (refine Ne.symm ?_; assumption)))
local macro_rules | `(tactic| walk_at "mine off") => `(tactic| first | exact List.forall_mem_nil _ | assumption | exact Mine.off_lt (by assumption) | exact Mine.off_gt (by assumption) | (refine' List.forall_mem_cons.mpr ⟨?a, ?b⟩; (case a => walk_at "mine ne"); (case b => walk_at "mine off")) | (refine' List.forall_mem_append.mpr ⟨?a, ?b⟩; (case a | b => walk_at "mine off")))
local macro_rules | `(tactic| walk_at "mine upd") => `(tactic| first | (refine' Upd.head ?a; (case a => walk_at "mine off")) | (refine' Upd.tail ?a ?b; (case a => walk_at "mine ne"); (case b => walk_at "mine upd")))
local macro_rules | `(tactic| walk_at "mine size") => `(tactic| ((try law_lens); (simp only [List.size_toArray, Array.size_push, Array.size_append, List.length_append, List.length_cons, List.length_nil, List.length_take, List.length_drop, List.length_replicate, sizeLine_eq]); omega))
local macro_rules | `(tactic| walk_at "call builtin:list.append") => `(tactic| (k_dflt (refine' append_K (by k_asm) (by k_asm) (by walk_at "mine upd") ?_ (by walk_at "mine size"); k_whole); intros; (try k_sweep)))
local macro_rules | `(tactic| walk_at "mine updF") => `(tactic| first | (refine' UpdF.head ?a; (case a => walk_at "mine off")) | (refine' UpdF.tail ?a ?b; (case a => walk_at "mine ne"); (case b => walk_at "mine updF")))
section
local macro_rules | `(tactic| walk_at "binaryOp LShift int int") => `(tactic| ((with_reducible refine lshift_int_small ?kb1 ?kb2 ?kb3 ?_); (case kb1 | kb2 => omega); (case kb3 => (rw [bitAnd_m7]; omega))))
local macro_rules | `(tactic| walk_at "exec While Compare cons nil") => `(tactic| ((rename Fr _ _ _ _ => lF'); (rename News _ _ _ _ => lN'); (with_unfolding_all refine' Mine.nb_while lF' lN' (by exact rfl) (by exact rfl) (by assumption) ?_; k_whole); (clear lF' lN'); intros; (try k_fold)))
local macro_rules | `(tactic| walk_at "exec While Constant cons nil") => `(tactic| ((rename Fr _ _ _ _ => lF'); (rename News _ _ _ _ => lN'); (with_unfolding_all refine' Mine.rn_while lF' lN' (by exact rfl) (by exact rfl) (by exact rfl) (by exact rfl) (by assumption) (by assumption) (by assumption) (by assumption) ?_; k_whole); (clear lF' lN'); intros; (try k_fold)))
local macro_rules | `(tactic| walk_at "KswEnd") => `(tactic| ((rename Fr _ _ _ _ => lF'); (rename News _ _ _ _ => lN'); with_unfolding_all (first
  | (refine' Mine.nb_end lF' lN' ?k1 ?k2 ?k3 ?k4 ?k5; (case k1 => exact rfl); (case k2 => ksw_same); (case k3 | k4 => assumption); (case k5 => omega))
  | ((rename (_ ∨ _) => kH'); (rcases kH' with kH' | kH'; · (exfalso; omega)); (obtain ⟨kh1, kh2, kh3, kh4, kh5, kh6, kh7, kh8, kh9, kha⟩ := kH'); (refine' Mine.rn_end lF' lN' ?k1 ?k2 ?k3 ?k4 ?k5 ?k6 ?k7 ?k8 ?k9 ?ka ?kb; (case k1 | k2 | k3 => exact rfl); (case k4 => ksw_same); (case k5 | k6 | k7 | k8 | k9 | ka | kb => assumption))))))
local macro_rules | `(tactic| walk_at "call type:bytes") => `(tactic| ((rename News _ _ _ _ => lN'); (try simp only [List.push_toArray] at lN'); k_dflt (refine' KBa.make_K (by k_asm) (by k_asm) (by rfl) (by exact News.isList (by k_asm) (by k_mem)) (by exact Mine.nb_ints (by assumption) (by assumption) (by assumption)) (by exact Mine.vint_in _) (by (refine Nat.le_trans (Mine.vint_len _).2 ?_; omega)) ?_; k_whole); intros))
set_option maxRecDepth 100000 in
set_option maxHeartbeats 8000000 in
theorem Mine.nb_ctr {w : World} {p : Program} {loose : List Str} {mean : ExcName → Option Value} {mg mb : Str → Option Value} : Mine.NbC 58 PySem.Challenge.rw_ui0507_16.row.prog w (Mine.hd.heap_39 w.params) p loose mean mg mb := by
  k_fill
  w_top off
  unfold Mine.NbC
  intro x t news hx0 hx1
  unfold Mine.Fun
  intro dp un gd cn cs a ccd cl outer A₀ base h₀ L m s Q E B F X N T hk hd hu hret
  refine wpAny_call ?_
  k_dflt cell_enter
  k_steps
  exact hret _ _ _ _ ⟨_, _, rfl, rfl, KBa.ints_make (Mine.vint_in _)⟩ (by assumption) (Mine.num_done (by assumption))
set_option maxRecDepth 100000 in
set_option maxHeartbeats 8000000 in
theorem Mine.rn_ctr {w : World} {p : Program} {loose : List Str} {mean : ExcName → Option Value} {mg mb : Str → Option Value} : Mine.RnC 65 PySem.Challenge.rw_ui0507_16.row.prog w (Mine.hd.heap_39 w.params) p loose mean mg mb := by
  k_fill
  w_top off
  unfold Mine.RnC
  intro b ks rest n a0 x tb t news hb hx hk0 hn hl
  unfold Mine.Fun
  intro dp un gd cn cs a ccd cl outer A₀ base h₀ L m s Q E B F X N T hk hd hu hret
  refine wpAny_call ?_
  k_dflt cell_enter
  k_steps
  all_goals exact Mine.rn_ret hret (by assumption) (by assumption) (by assumption) (by omega) (by omega)
end
local macro_rules | `(tactic| walk_at "mine upd") => `(tactic| first | (refine' Upd.head ?a; (case a => walk_at "mine off")) | (refine' Upd.tail ?a ?b; (case a => walk_at "mine ne"); (case b => walk_at "mine upd")) | (refine' Mine.upd_app ?a ?b; (case a => first | k_asm | exact Mine.off_kL (by k_asm)); (case b => walk_at "mine upd")))
local macro_rules | `(tactic| walk_at "mine off") => `(tactic| first | exact List.forall_mem_nil _ | assumption | exact Mine.off_lt (by assumption) | exact Mine.off_gt (by assumption) | exact Mine.off_allLt (And.right (by assumption)) | (refine' List.forall_mem_cons.mpr ⟨?a, ?b⟩; (case a => walk_at "mine ne"); (case b => walk_at "mine off")) | (refine' List.forall_mem_append.mpr ⟨?a, ?b⟩; (case a | b => walk_at "mine off")))
local macro_rules | `(tactic| walk_at "mine bnd") => `(tactic| first | k_asm | omega)
local macro_rules | `(tactic| walk_at "call builtin:len") => `(tactic| (k_dflt (refine' Mine.len_at (by k_asm) (by kcf_m) (by k_asm) (by omega) ?_; k_whole); intros))
local macro_rules | `(tactic| walk_at "subscriptTail") => `(tactic| (k_dflt (refine' Mine.item_at (by k_asm) (by kcf_m) (by k_asm) (by omega) (by omega) (by omega) ?_; k_whole); intro _))
local macro_rules | `(tactic| walk_at "mine room") => `(tactic| first | ktr_room | ktr_units | ((simp only [units_in1, units_deeper, Around.mark_units, units_caller]); first | decide | omega))
local macro_rules | `(tactic| walk_at "newTuple") => `(tactic| (k_dflt (refine' kup_newTuple (by k_asm) (by k_asm) ?_ (by kmk_size)); intro _ _ _ _ l1; (try k_lt l1); (try k_sweep)))
local macro_rules | `(tactic| walk_at "exec For Name Call cons nil") => `(tactic| ((rename Fr _ _ _ _ => lF'); (with_unfolding_all refine' For_invVF lF' (by exact rfl) (by exact rfl) ?_; k_whole)))
local macro_rules | `(tactic| walk_at "exec For Name Name cons nil") => `(tactic| ((rename Fr _ _ _ _ => lF'); (with_unfolding_all refine' For_invVF lF' (by exact rfl) (by exact rfl) ?_; k_whole)))
local macro_rules | `(tactic| walk_at "call builtin:len") => `(tactic| (k_dflt (refine' Mine.len_any (by k_asm) (by kcf_m) (by k_asm) (by omega) ?_; k_whole); intros))
local macro_rules | `(tactic| walk_at "exec For Tuple Name cons nil") => `(tactic| ((rename Fr _ _ _ _ => lF'); (with_unfolding_all refine' For_turns lF' ?_; k_whole)))
local macro_rules | `(tactic| walk_at "call builtin:len") => `(tactic| (k_dflt (refine' KBw.len_K (by k_asm) (by omega) ?_; k_whole)))
local macro_rules | `(tactic| walk_at "call type:list") => `(tactic| (k_dflt (refine' Mine.list_B (by exact rfl) (by k_asm) (by k_asm) (by k_asm) (by omega) ?_; k_whole); intro _ _ _ _ _ _ _ l1 _; (try k_lt l1)))
section
local macro_rules | `(tactic| walk_at "exec While Compare cons nil") => `(tactic| ((rename Fr _ _ _ _ => lF'); (rename News _ _ _ _ => lN'); (with_unfolding_all refine' Mine.cp_while lF' lN' (by exact rfl) (by exact rfl) (by assumption) (by assumption) (by assumption) ?_; k_whole); (clear lF' lN'); intros; (try k_fold)))
local macro_rules | `(tactic| walk_at "getMethod ref") => `(tactic| (k_dflt (refine' Mine.ptab_method (by k_asm) (by k_asm) (by k_asm) (by kcf_m) (by kcf_all) ?_; k_whole)))
local macro_rules | `(tactic| walk_at "call builtin:dict.get") => `(tactic| (k_dflt (refine' Mine.ptab_get ?hu (by k_asm) (by k_asm) (by k_asm) (by kcf_m) (by kcf_all) (by kcf_m) (by exact Mine.PairO.made _ _ _ _) (by exact And.right (by k_asm : Mine.TalP _ _) _) ?_; (case hu => walk_at "mine room"); k_whole); intros))
local macro_rules | `(tactic| walk_at "setItem ref ref") => `(tactic| (k_dflt (refine' Mine.ptab_setT ?hu (by k_asm) (by k_asm) (by k_asm) (by k_asm) (by k_asm) (by k_asm) (by kcf_m) (by exact Mine.PairO.made _ _ _ _) (by exact Mine.tal_small (by k_asm) (by k_asm) (by k_asm)) ?_; (case hu => walk_at "mine room"); k_whole); intros))
local macro_rules | `(tactic| walk_at "KswEnd") => `(tactic| (with_unfolding_all (refine' Mine.cp_end (by k_asm) (by k_asm) (by k_asm) (by exact rfl) (by ksw_same) (by k_asm) (by k_asm) (by k_asm) (by k_asm) (by k_asm) (by exact rfl) (by exact rfl) (by k_asm) (by first | exact Or.inl ⟨rfl, by assumption, by assumption, by assumption⟩ | exact Or.inr ⟨rfl, Or.inl (by assumption)⟩ | exact Or.inr ⟨rfl, Or.inr (Or.inl (by assumption))⟩ | exact Or.inr ⟨rfl, Or.inr (Or.inr (by assumption))⟩))))
set_option maxRecDepth 100000 in
set_option maxHeartbeats 8000000 in
theorem Mine.cp_ctr {w : World} {p : Program} {loose : List Str} {mean : ExcName → Option Value} {mg mb : Str → Option Value} : Mine.CpC 72 PySem.Challenge.rw_ui0507_16.row.prog w (Mine.hd.heap_39 w.params) p loose mean mg mb := by
  k_fill
  w_top off
  unfold Mine.CpC
  intro R vs nR ns news hR hv hl
  unfold Mine.Fun
  intro dp un gd cn cs a ccd cl outer A₀ base h₀ L m s Q E B F X N T hk hd hu hret
  refine wpAny_call ?_
  k_dflt (refine' code_def ?k1 ?k2 ?k3 ?k4 ?k5 (by exact rfl) (by exact rfl) (by first | assumption | exact rfl) ?k6 ?k7 ?k8 ?k9 ?kB ?_ ?c2 ?c3 ?c4 ?c5; (case k1 | k2 | k3 | k4 | k5 => k_asm); (case k6 | k7 => k_is); (case k8 => ktr_room); (case k9 => first | exact BindsTo.of_eq rfl | exact binds_K (by k_in) rfl (by k_is) rfl rfl rfl); (case c5 => decide); (case kB => exact locs rfl); (case c2 | c3 | c4 => exact rfl); k_whole; intro _ _ _ _ _ _ B' _ _; (try dsimp only); (try k_lift B'); (try k_fold))
  k_steps
  all_goals exact Mine.cp_ret hret (by assumption) (by assumption) (by assumption) (by assumption) (by assumption) (by assumption) (by assumption) (by assumption) (by assumption) (by assumption)
end
section
local macro_rules | `(tactic| walk_at "call ref") => `(tactic| (k_dflt (rename Mine.CpC _ _ _ _ _ _ _ _ _ => cCP; refine' Mine.Fun.go (by k_asm) (by k_asm) (cCP _ _ _ _ _ (by kcf_m) (by k_asm) (by k_asm)) ?_; k_whole); (intro _ _ _ _ kR _ _); (unfold Mine.CpOut at kR); (obtain ⟨_, _, _, _, e1, e2, _, _, _, _, _, _⟩ := kR); (subst e1); (subst e2)))
local macro_rules | `(tactic| walk_at "call builtin:sorted") => `(tactic| (k_dflt (refine' Mine.sorted_pairs (by exact rfl) (by k_asm) (by k_asm) (by k_asm) (by kcf_m) (by k_asm) (by kcf_all) (by exact Mine.tal_few (by k_asm) (by k_asm)) ?_; k_whole); intros))
local macro_rules | `(tactic| walk_at "pyIter ref") => `(tactic| ((with_reducible show wpAny _ _ (pyIter (Value.ref _)) (fun it s₂ => LoopAtV _ _ _ _ _ _ _ _ _ it s₂) _ _); ((rename Fr _ _ _ _ => lF'); (rename News _ _ _ _ => lN'); (with_unfolding_all refine' Mine.bp_for (by exact rfl) lF' lN' (by exact rfl) (by exact rfl) (by exact rfl) (by kcf_m) (by k_asm) (by exact Mine.tal_keys (by k_asm) (by k_asm)) (by k_asm) ?tn ?dn); (all_goals (try clear lF' lN')); (case' tn => (intros; (try k_fold))); (case' dn => (intros; (try k_unfold); (try dsimp only))))))
local macro_rules | `(tactic| walk_at "subscriptTail Name Name ref ref") => `(tactic| (k_dflt (refine' Mine.ptab_item ?hu (by k_asm) (by k_asm) (by k_asm) (by kcf_m) (by kcf_all) (by kcf_m) (by k_asm) (by k_asm) ?_; (case hu => walk_at "mine room"); k_whole); intros))
local macro_rules | `(tactic| walk_at "InvEndG") => `(tactic| (with_unfolding_all (refine' Mine.bp_end (by k_asm) (by k_asm) (by kcf_all) (by kcf_all) (by k_asm) (by exact rfl) (by exact rfl) (by (intro _ h1 h2 h3; simp only [h1, h2, h3, if_false])) (by first | exact And.right (Mine.best_next (by k_asm) (by k_asm)) (by assumption) | exact And.left (Mine.best_next (by k_asm) (by k_asm)) (by assumption)))))
local macro_rules | `(tactic| walk_at "mine pad") => `(tactic| skip)
set_option maxRecDepth 100000 in
set_option maxHeartbeats 8000000 in
theorem Mine.bp_ctr {w : World} {p : Program} {loose : List Str} {mean : ExcName → Option Value} {mg mb : Str → Option Value} (cCP : Mine.CpC 72 PySem.Challenge.rw_ui0507_16.row.prog w (Mine.hd.heap_39 w.params) p loose mean mg mb) : Mine.BpC 79 PySem.Challenge.rw_ui0507_16.row.prog w (Mine.hd.heap_39 w.params) p loose mean mg mb := by
  k_fill
  w_top off
  unfold Mine.BpC
  intro R vs nR ns news hR hv hl hk64
  unfold Mine.Fun
  intro dp un gd cn cs a ccd cl outer A₀ base h₀ L m s Q E B F X N T hk hd hu hret
  refine wpAny_call ?_
  k_dflt (refine' code_def ?k1 ?k2 ?k3 ?k4 ?k5 (by exact rfl) (by exact rfl) (by first | assumption | exact rfl) ?k6 ?k7 ?k8 ?k9 ?kB ?_ ?c2 ?c3 ?c4 ?c5; (case k1 | k2 | k3 | k4 | k5 => k_asm); (case k6 | k7 => k_is); (case k8 => ktr_room); (case k9 => first | exact BindsTo.of_eq rfl | exact binds_K (by k_in) rfl (by k_is) rfl rfl rfl); (case c5 => decide); (case kB => exact locs rfl); (case c2 | c3 | c4 => exact rfl); k_whole; intro _ _ _ _ _ _ B' _ _; (try dsimp only); (try k_lift B'); (try k_fold))
  k_steps
  all_goals exact Mine.bp_ret hret (by assumption) (by assumption) (by assumption) (by assumption) (by assumption) (by assumption) (by assumption) (by assumption) (by assumption) (by assumption)
end
section
local macro_rules | `(tactic| walk_at "exec While Compare cons nil") => `(tactic| ((rename Fr _ _ _ _ => lF'); (rename News _ _ _ _ => lN'); (with_unfolding_all refine' Mine.rp_while lF' lN' (by exact rfl) (by exact rfl) (by exact rfl) (by exact rfl) (by assumption) (by assumption) (by assumption) ?_; k_whole); (clear lF' lN'); intros; (try k_fold)))
local macro_rules | `(tactic| walk_at "compareOp Eq ref ref") => `(tactic| ((k_dflt (refine' Mine.eq_pairs (by k_asm) (by kcf_m) (by exact Mine.PairO.made _ _ _ _) (by kcf_m) (by k_asm) (by walk_at "mine room") ?_; k_whole))))
local macro_rules | `(tactic| walk_at "KswEnd") => `(tactic| (with_unfolding_all (refine' Mine.rp_end (by k_asm) (by k_asm) (by kcf_all) (by exact rfl) (by ksw_same) (by k_asm) (by k_asm) (by k_asm) (by k_asm) (by first | exact Or.inl ⟨rfl, rfl, by assumption, by assumption⟩ | exact Or.inr ⟨rfl, rfl, Or.inl (by assumption)⟩ | exact Or.inr ⟨rfl, rfl, Or.inr (by assumption)⟩))))
set_option maxRecDepth 100000 in
set_option maxHeartbeats 8000000 in
theorem Mine.rp_ctr {w : World} {p : Program} {loose : List Str} {mean : ExcName → Option Value} {mg mb : Str → Option Value} : Mine.RpC 86 PySem.Challenge.rw_ui0507_16.row.prog w (Mine.hd.heap_39 w.params) p loose mean mg mb := by
  k_fill
  w_top off
  unfold Mine.RpC
  intro R PA vs nR ns oP x y b tb news hR hv hl hPA hPO
  unfold Mine.Fun
  intro dp un gd cn cs a ccd cl outer A₀ base h₀ L m s Q E B F X N T hk hd hu hret
  refine wpAny_call ?_
  k_dflt (refine' code_def ?k1 ?k2 ?k3 ?k4 ?k5 (by exact rfl) (by exact rfl) (by first | assumption | exact rfl) ?k6 ?k7 ?k8 ?k9 ?kB ?_ ?c2 ?c3 ?c4 ?c5; (case k1 | k2 | k3 | k4 | k5 => k_asm); (case k6 | k7 => k_is); (case k8 => ktr_room); (case k9 => first | exact BindsTo.of_eq rfl | exact binds_K (by k_in) rfl (by k_is) rfl rfl rfl); (case c5 => decide); (case kB => exact locs rfl); (case c2 | c3 | c4 => exact rfl); k_whole; intro _ _ _ _ _ _ B' _ _; (try dsimp only); (try k_lift B'); (try k_fold))
  k_steps
  all_goals exact Mine.rp_ret hret (by assumption) (by assumption) (by assumption) (by assumption) (by assumption) (by assumption)
end
section
local macro_rules | `(tactic| walk_at "binaryOp Mult ref int") => `(tactic| (k_dflt (refine' Mine.mul_false (by k_asm) (by k_asm) (by kcf_m) ?_; k_whole); (intros)))
local macro_rules | `(tactic| walk_at "pyIter ref") => `(tactic| ((with_reducible show wpAny _ _ (pyIter (Value.ref _)) (fun it s₂ => LoopAtV _ _ _ _ _ _ _ _ _ it s₂) _ _); ((rename Fr _ _ _ _ => lF'); (rename News _ _ _ _ => lN'); (with_unfolding_all refine' Mine.un_for (by exact rfl) lF' lN' (by k_asm) (by kcf_m) (by k_asm) (by k_asm) ?tn ?dn); (all_goals (try clear lF' lN')); (case' tn => (intros; (try k_fold))); (case' dn => (intros; (try k_unfold); (try dsimp only))))))
local macro_rules | `(tactic| walk_at "setItem ref int") => `(tactic| (k_dflt (refine' PySem.W.kbo_set (by k_asm) (by k_asm) (by first | k_upd | walk_at "mine upd") (by k_asm) (by kbo_idx) (by kbo_idx) (by kbo_idx) ?_; k_whole); intros; (try k_sweep)))
local macro_rules | `(tactic| walk_at "InvEndG") => `(tactic| (with_unfolding_all (refine' Mine.un_end (by k_asm) (by k_asm) ?n1 ?n2 ?n3 ?n4 ?n5 ?k1 (by k_asm) ?k3 ?k4 ?k5 ?k6; (case n1 | n2 => kcf_all); (case n3 | n4 => k_asm); (case n5 => kcf_m); (case k1 => (intro _ h1; simp only [h1, if_false])); (case k3 | k4 | k5 | k6 => k_asm))))
set_option maxRecDepth 100000 in
set_option maxHeartbeats 8000000 in
theorem Mine.un_ctr {w : World} {p : Program} {loose : List Str} {mean : ExcName → Option Value} {mg mb : Str → Option Value} : Mine.UnC 93 PySem.Challenge.rw_ui0507_16.row.prog w (Mine.hd.heap_39 w.params) p loose mean mg mb := by
  k_fill
  w_top off
  unfold Mine.UnC
  intro R vs nR ns news hR hv hl hn
  unfold Mine.Fun
  intro dp un gd cn cs a ccd cl outer A₀ base h₀ L m s Q E B F X N T hk hd hu hret
  refine wpAny_call ?_
  k_dflt (refine' code_def ?k1 ?k2 ?k3 ?k4 ?k5 (by exact rfl) (by exact rfl) (by first | assumption | exact rfl) ?k6 ?k7 ?k8 ?k9 ?kB ?_ ?c2 ?c3 ?c4 ?c5; (case k1 | k2 | k3 | k4 | k5 => k_asm); (case k6 | k7 => k_is); (case k8 => ktr_room); (case k9 => first | exact BindsTo.of_eq rfl | exact binds_K (by k_in) rfl (by k_is) rfl rfl rfl); (case c5 => decide); (case kB => exact locs rfl); (case c2 | c3 | c4 => exact rfl); k_whole; intro _ _ _ _ _ _ B' _ _; (try dsimp only); (try k_lift B'); (try k_fold))
  k_steps
  all_goals first
    | exact Mine.un_ret hret (by assumption) (by assumption) (by kcf_all) (by assumption) (by assumption) (by assumption) (by assumption)
    | exact Mine.un_none hret (by assumption) (by assumption) (by kcf_all)
end
section
local macro_rules | `(tactic| walk_at "exec While Compare cons nil") => `(tactic| ((rename Fr _ _ _ _ => lF'); (rename News _ _ _ _ => lN'); (with_unfolding_all refine' Mine.sh_while lF' lN' (by exact rfl) (by exact rfl) (by exact rfl) (by k_asm) (by k_asm) (by k_asm) (by k_asm) (by (first | assumption | exact And.left (by assumption) | omega)) (by (first | assumption | exact And.left (by assumption) | omega)) ?_; k_whole); (clear lF' lN'); intros; (try k_fold)))
local macro_rules | `(tactic| walk_at "call ref") => `(tactic| (k_dflt (rename Mine.BpC _ _ _ _ _ _ _ _ _ => cBP; refine' Mine.Fun.go (by k_asm) (by k_asm) (cBP _ _ _ _ _ (by kcf_m) (by k_asm) (by (first | assumption | exact And.left (by assumption) | omega)) (by k_asm)) ?_; k_whole); (intro _ _ _ _ kR _ _); (unfold Mine.BpOut at kR); (obtain ⟨_, _, _, _, _, e1, e2, l1, _, kBest, _⟩ := kR); (subst e1); (subst e2); (have l2 := Mine.ltNat (l1 _ (.head _))); (dsimp only at l2); (rcases kBest with ⟨e3, e4⟩ | ⟨a9, oP9, x9, y9, e3, kPm, kPO, e4, kx9, ky9⟩); (all_goals (subst e3; subst e4))))
local macro_rules | `(tactic| walk_at "call ref") => `(tactic| (k_dflt (rename Mine.UnC _ _ _ _ _ _ _ _ _ => cUN; refine' Mine.Fun.go (by k_asm) (by k_asm) (cUN _ _ _ _ _ (by kcf_m) (by k_asm) (by (first | assumption | exact And.left (by assumption) | omega)) (by k_asm)) ?_; k_whole); (intro _ _ _ _ kR _ _); (unfold Mine.UnOut at kR); (obtain ⟨e1, kR⟩ := kR); (subst e1); (rcases kR with e2 | ⟨b9, t9, e2, kb0, kb1, kbn⟩); (all_goals subst e2)))
local macro_rules | `(tactic| walk_at "call ref") => `(tactic| (k_dflt (rename Mine.RpC _ _ _ _ _ _ _ _ _ => cRP; refine' Mine.Fun.go (by k_asm) (by k_asm) (cRP _ _ _ _ _ _ _ _ _ _ _ (by kcf_m) (by k_asm) (by (first | assumption | exact And.left (by assumption) | omega)) (by kcf_m) (by k_asm)) ?_; k_whole); (intro _ _ _ _ kR _ _); (unfold Mine.RpOut at kR); (obtain ⟨_, _, _, e1, e2, l1, _⟩ := kR); (subst e1); (subst e2); (try k_lt l1)))
local macro_rules | `(tactic| walk_at "subscriptTail Name Constant ref int") => `(tactic| (first | ((with_reducible show wpAny _ _ (subscriptTail _ _ (Value.ref _) (Value.int 0 _)) _ _ _); k_dflt (refine' Mine.tup_item0 ?N ?m ?p ?_; (case N => k_asm); (case m => kcf_m); (case p => k_asm); k_whole)) | ((with_reducible show wpAny _ _ (subscriptTail _ _ (Value.ref _) (Value.int 1 _)) _ _ _); k_dflt (refine' Mine.tup_item1 ?N ?m ?p ?_; (case N => k_asm); (case m => kcf_m); (case p => k_asm); k_whole)); intro _))
local macro_rules | `(tactic| walk_at "mine lt") => `(tactic| first | k_asm | (refine PySem.W.ltN ?_; omega))
local macro_rules | `(tactic| walk_at "KswEnd") => `(tactic| (with_unfolding_all (refine' Mine.sh_end (by k_asm) (by k_asm) (by exact rfl) (by exact rfl) (by ksw_same) ?n1 ?n2 ?n3 ?n4 ?n5 ?g0 ?g3 ?g4 ?g5 (by k_asm) (by k_asm) ?j3 ?j4 ?j5 (by k_asm) ?j7 ?j8 ?j9 ?ja ?jb ?jc ?jd ?je ?jf ?jg; (case n1 => kcf_m); (case n2 => kcf_all); (case n3 | n4 | n5 => kcf_m); (case g0 => k_asm); (case g3 | g4 | g5 => walk_at "mine lt"); (case j3 | j4 | j5 | j7 | j8 | j9 | ja => k_asm); (case jb => omega); (case jc | jd | je | jf => k_asm); (case jg => omega))))
set_option maxRecDepth 100000 in
set_option maxHeartbeats 8000000 in
theorem Mine.sh_ctr {w : World} {p : Program} {loose : List Str} {mean : ExcName → Option Value} {mg mb : Str → Option Value} (cBP : Mine.BpC 79 PySem.Challenge.rw_ui0507_16.row.prog w (Mine.hd.heap_39 w.params) p loose mean mg mb) (cUN : Mine.UnC 93 PySem.Challenge.rw_ui0507_16.row.prog w (Mine.hd.heap_39 w.params) p loose mean mg mb) (cRP : Mine.RpC 86 PySem.Challenge.rw_ui0507_16.row.prog w (Mine.hd.heap_39 w.params) p loose mean mg mb) : Mine.ShC 101 PySem.Challenge.rw_ui0507_16.row.prog w (Mine.hd.heap_39 w.params) p loose mean mg mb := by
  k_fill
  w_top off
  unfold Mine.ShC
  intro b ks tb kk news hb hlk hl hkk hal
  unfold Mine.Fun
  intro dp un gd cn cs a ccd cl outer A₀ base h₀ L m s Q E B F X N T hk hd hu hret
  (have hP0 : Mine.PInv ks kk [] ks := Mine.pinv_start (fun v hv => KBw.ints_in (b := b) (hb ▸ hv)) hal)
  refine wpAny_call ?_
  k_dflt (refine' code_def ?k1 ?k2 ?k3 ?k4 ?k5 (by exact rfl) (by exact rfl) (by first | assumption | exact rfl) ?k6 ?k7 ?k8 ?k9 ?kB ?_ ?c2 ?c3 ?c4 ?c5; (case k1 | k2 | k3 | k4 | k5 => k_asm); (case k6 | k7 => k_is); (case k8 => ktr_room); (case k9 => first | exact BindsTo.of_eq rfl | exact binds_K (by k_in) rfl (by k_is) rfl rfl rfl); (case c5 => decide); (case kB => exact locs rfl); (case c2 | c3 | c4 => exact rfl); k_whole; intro _ _ _ _ _ _ B' _ _; (try dsimp only); (try k_lift B'); (try k_fold))
  k_steps
  all_goals exact Mine.sh_ret hret (by assumption) (by assumption) (by kcf_all) (by assumption) (by assumption) (by assumption) (by assumption) (by assumption) (by assumption) (by assumption) (by assumption)
end
section
local macro_rules | `(tactic| walk_at "exec For Tuple Call cons nil") => `(tactic| ((rename Fr _ _ _ _ => lF'); (with_unfolding_all refine' For_turns lF' ?_; k_whole)))
local macro_rules | `(tactic| walk_at "call type:reversed") => `(tactic| (k_dflt (refine' krv_reversed (by k_asm) (by k_asm) (by exact PySem.IsL.isList (News.get (by k_asm) (by kcf_m))) ?_); intros))
local macro_rules | `(tactic| walk_at "pyIter ref") => `(tactic| ((with_reducible show wpAny _ _ (pyIter (Value.ref _)) (fun it s₂ => TurnsAt _ _ _ _ _ _ _ _ _ it s₂) _ _); ((rename Fr _ _ _ _ => lF'); (rename News _ _ _ _ => lN'); (with_unfolding_all refine' Mine.le_for (by exact rfl) lF' lN' (by k_asm) (by k_asm) (by k_asm) (by k_asm) (by k_asm) (by exact rfl) (by k_asm) ?tn ?dn); (all_goals (try clear lF' lN')); (case' tn => (intros; (try k_fold))); (case' dn => (intros; (try k_unfold); (try dsimp only))))))
local macro_rules | `(tactic| walk_at "pyIter ref") => `(tactic| ((with_reducible show wpAny _ _ (pyIter (Value.ref _)) (fun it s₂ => LoopAtV _ _ _ _ _ _ _ _ _ it s₂) _ _); ((rename Fr _ _ _ _ => lF'); (rename News _ _ _ _ => lN'); (with_unfolding_all refine' Mine.lo_for (by exact rfl) lF' lN' (by kcf_m) (by k_asm) (by exact rfl) (by exact rfl) (by exact rfl) (by k_asm) ?tm ?dm); (all_goals (try clear lF' lN')); (case' tm => (intros; (try k_fold))); (case' dm => (intros; (try k_unfold); (try dsimp only))))))
local macro_rules | `(tactic| walk_at "mine sub") => `(tactic| first | kcf_all | (intros; kcf_m))
local macro_rules | `(tactic| walk_at "InvEndG") => `(tactic| (with_unfolding_all refine' Mine.le_end (by k_asm) (by k_asm) (by with_unfolding_all exact rfl) (by (unfold Mine.leNames; with_unfolding_all ksw_same)) ?n1 ?n2 ?n3 ?l1 ?o2 (by k_asm) (by k_asm) (by k_asm); (case n1 => kcf_m); (case n2 | n3 => kcf_all); (case l1 | o2 => k_asm)))
local macro_rules | `(tactic| walk_at "InvEndG") => `(tactic| (with_unfolding_all refine' Mine.lo_end (by k_asm) (by k_asm) (by kcf_all) (by kcf_all) ?o1 ?o2 ?R ?k1 ?j1 (by k_asm) (by k_asm) ?j4; (case o1 | o2 => k_asm); (case R => kcf_m); (case k1 => with_unfolding_all (intro _ h1; first | (simp only [h1, if_false]; done) | (simp [h1]; done) | exact if_neg h1)); (case j1 => with_unfolding_all first | exact Mine.push_one (by k_asm) | exact Mine.push_two (by k_asm)); (case j4 => with_unfolding_all first | exact (if_neg (by assumption)).symm | exact (if_pos (by assumption)).symm)))
local macro_rules | `(tactic| walk_at "mine pad") => `(tactic| skip)
set_option maxRecDepth 100000 in
set_option maxHeartbeats 8000000 in
theorem Mine.le_ctr {w : World} {p : Program} {loose : List Str} {mean : ExcName → Option Value} {mg mb : Str → Option Value} : Mine.LeC 108 PySem.Challenge.rw_ui0507_16.row.prog w (Mine.hd.heap_39 w.params) p loose mean mg mb := by
  k_fill
  w_top off
  unfold Mine.LeC
  intro RL RA vr nn vs nR rules row news hRL hD hRA hv hl
  unfold Mine.Fun
  intro dp un gd cn cs a ccd cl outer A₀ base h₀ L m s Q E B F X N T hk hd hu hret
  refine wpAny_call ?_
  k_dflt (refine' code_def ?k1 ?k2 ?k3 ?k4 ?k5 (by exact rfl) (by exact rfl) (by first | assumption | exact rfl) ?k6 ?k7 ?k8 ?k9 ?kB ?_ ?c2 ?c3 ?c4 ?c5; (case k1 | k2 | k3 | k4 | k5 => k_asm); (case k6 | k7 => k_is); (case k8 => ktr_room); (case k9 => first | exact BindsTo.of_eq rfl | exact binds_K (by k_in) rfl (by k_is) rfl rfl rfl); (case c5 => decide); (case kB => exact locs rfl); (case c2 | c3 | c4 => exact rfl); k_whole; intro _ _ _ _ _ _ B' _ _; (try dsimp only); (try k_lift B'); (try k_fold))
  k_steps
  all_goals exact Mine.le_ret hret (by assumption) (by assumption) (by kcf_all) (by assumption)
end
section
theorem Mine.gr_sub {prog : Program} {w : World} {A : Around} {E : Value → Shared → Prop} {s : Shared} {h₀ : Heap} {L D : Addr} {news : List (Addr × Obj)} {vs : List Value} {zs row : List Int} {rules : List Mine.PRule} {n : Nat} {k : Int} {u : Tok} {value slice : PySem.Expr} {Q : Value → Shared → Prop}
    (N : News h₀ L s.heap news) (hm : (D, listOf vs.toArray n) ∈ news) (hi : IntsAre vs zs) (hl : zs.length = 256) (hz : ∀ v : Int, 0 ≤ v → v < 256 → zs.getD v.toNat 0 = Mine.szAll rules v) (hb : ∀ v ∈ row, 0 ≤ v ∧ v < 256) (hk : k ∈ row) (h : ∀ t, Q (.int (Mine.szAll rules k) t) s)
    (hs : subscripted slice false (.ref D) (.int k u) = operate [.ref D, .int k u] (getItem (.ref D) (.int k u)) := by with_unfolding_all rfl) :
    wpAny (model prog w) A (subscriptTail value slice (.ref D) (.int k u)) Q E s := by
  have h2 := hb k hk
  refine ksa_sub N hm hi h2.1 (by omega) (by omega) (fun t => ?_) hs
  rw [hz k h2.1 h2.2]
  exact h t
theorem Mine.gr_ret {row : List Int} {rules : List Mine.PRule} {s : Shared} {h₀ : Heap} {L : Addr} {m : Str → Option Value} {news news' : List (Addr × Obj)} {Q : Value → Shared → Prop} {h : Heap} {tk : Nat} {t : Tok}
    (hret : ∀ r news' h' tk', Mine.GrOut (row.map (Mine.szAll rules)).sum news r news' → Fr h₀ L h' m → News h₀ L h' news' → Q r { s with heap := h', toks := tk' }) (F : Fr h₀ L h m) (N : News h₀ L h news') (hs : ∀ p ∈ news, p ∈ news') : Q (.int (row.map fun a => Mine.szAll rules a).sum t) { s with heap := h, toks := tk } :=
  hret _ _ _ _ ⟨t, rfl, rfl⟩ F fun p hp => N p (hs p hp)
theorem Mine.off_lt1 {l : List (Addr × Obj)} {D : Nat} (h : ∀ p ∈ l, p.1 < D) : ∀ p ∈ l, p.1 ≠ (D + 1 : Nat) := fun p hp => Nat.ne_of_lt (Nat.lt_succ_of_lt (h p hp))
theorem Mine.rep_fill {us : List Value} (h : IntsAre us (List.replicate (Int.toNat 256) [(1 : Int)]).flatten) : IntsAre us (List.replicate 256 1) := by
  have e : (List.replicate (Int.toNat 256) [(1 : Int)]).flatten = List.replicate 256 1 := by decide +kernel
  rw [e] at h; exact h
local macro_rules | `(tactic| walk_at "mine off") => `(tactic| exact Mine.off_lt1 (by assumption))
local macro_rules | `(tactic| walk_at "storeName") => `(tactic| (k_dflt (refine' storeX_C ?F ?N ?c ?U ?d ?_ (by rfl) (by rfl); (case F | N => k_asm); (case c => rfl); (case U => walk_at "mine updF"); (case d => k_asm); k_whole; intro _ _ _ N' _; (try dsimp only at N'); (try k_sweep))))
local macro_rules | `(tactic| walk_at "pyIter ref") => `(tactic| ((with_reducible show wpAny _ _ (pyIter (Value.ref _)) (fun it s₂ => TurnsAt _ _ _ _ _ _ _ _ _ it s₂) _ _); ((rename Fr _ _ _ _ => lF'); (rename News _ _ _ _ => lN'); (with_unfolding_all refine' Mine.gr_for (by exact rfl) lF' lN' (by exact Mine.rep_fill (by k_asm)) (by (refine DatAll.mono ?_ (by k_asm); kcf_all)) (by kcf_m) (by exact Mine.lt_all3 (by assumption)) (by k_asm) ?tn ?dn); (all_goals (try clear lF' lN')); (case' tn => (intros; (try k_fold))); (case' dn => (intros; (try k_unfold); (try dsimp only))))))
local macro_rules | `(tactic| walk_at "subscriptTail") => `(tactic| (k_dflt (refine' Mine.gr_sub (by k_asm) ?k2 (by k_asm) ?k4 ?k5 ?k6 ?k8 ?_ ?k7; (case k2 => kcf_m); (case k4 | k5 | k6 | k8 => k_asm); (case k7 => with_unfolding_all rfl); k_whole); intro _))
local macro_rules | `(tactic| walk_at "setItem ref int") => `(tactic| (k_dflt (refine' ksa_set (by k_asm) (by k_asm) (by walk_at "mine upd") (by k_asm) (by ksa_idx) (by ksa_idx) (by ksa_idx) ?_; k_whole); intros; (try k_sweep)))
local macro_rules | `(tactic| walk_at "InvEndG") => `(tactic| (with_unfolding_all refine' Mine.gr_end (by k_asm) (by k_asm) ?k1 ?n1 ?n2 ?o1 ?o2 ?j1 ?j2 (by k_asm) (by k_asm) ?b0 ?b1 ?b2 ?b3 ?b4 ?b5; (case j1 => k_asm); (case j2 => exact rfl); (case n1 | n2 => kcf_all); (case o1 | o2 => k_asm); (case k1 => (unfold Mine.grNames; with_unfolding_all ksw_same)); (all_goals k_asm)))
set_option maxRecDepth 100000 in
set_option maxHeartbeats 8000000 in
theorem Mine.gr_ctr {w : World} {p : Program} {loose : List Str} {mean : ExcName → Option Value} {mg mb : Str → Option Value} : Mine.GrC 113 PySem.Challenge.rw_ui0507_16.row.prog w (Mine.hd.heap_39 w.params) p loose mean mg mb := by
  k_fill
  w_top off
  unfold Mine.GrC
  intro RL RA vr nn vs nR rules row news hRL hD hRA hv hl hrb hvb
  unfold Mine.Fun
  intro dp un gd cn cs a ccd cl outer A₀ base h₀ L m s Q E B F X N T hk hd hu hret
  refine wpAny_call ?_
  k_dflt (refine' code_defC ?k1 ?k2 ?k3 ?k4 ?k5 (by exact rfl) (by exact rfl) (by first | assumption | exact rfl) ?k6 ?k7 ?k8 ?k9 ?kB ?kD ?_ ?c2 ?c3 ?c4; (case k1 | k2 | k3 | k4 | k5 => k_asm); (case k6 | k7 => k_is); (case k8 => ktr_room); (case k9 => first | exact BindsTo.of_eq rfl | exact binds_K (by k_in) rfl (by k_is) rfl rfl rfl); (case kB => exact rfl); (case kD => decide +kernel); (case c2 | c3 | c4 => exact rfl); k_whole; intro _ _ _ _ _ _ _ N' Y' B' _ _ l1; (try k_lt l1); k_cells Y'; (try simp only [List.cons_append, List.nil_append] at N'); (try dsimp only); (try k_lift B'); (try k_fold))
  k_steps; all_goals first | exact Mine.gr_ret hret (by with_reducible assumption) (by with_reducible assumption) (by kcf_all)
end
section
local macro_rules | `(tactic| walk_at "call ref") => `(tactic| (k_dflt (rename Mine.ShC _ _ _ _ _ _ _ _ _ => cSH; refine' Mine.Fun.go (by k_asm) (by k_asm) (cSH _ _ _ _ _ (by k_asm) (by k_asm) (by k_asm) (by k_asm) (by k_asm)) ?_; k_whole); (intro _ _ _ _ kR _ _); (unfold Mine.ShOut at kR); (obtain ⟨_, _, _, _, _, _, _, _, _, _, e1, e2, _, _, _, _, _, kD, _, _⟩ := kR); (subst e1); (subst e2); (have kvl := Mine.dat_len kD)))
local macro_rules | `(tactic| walk_at "call ref") => `(tactic| (k_dflt (rename Mine.NbC _ _ _ _ _ _ _ _ _ => cL; refine' Mine.Fun.go (by k_asm) (by k_asm) (cL _ _ _ (by exact Int.natCast_nonneg _) (by omega)) ?_; k_whole); (intro _ _ _ _ kR _ _); (unfold Mine.NbOut at kR); (obtain ⟨_, _, e1, e2, kB9⟩ := kR); (subst e1); (subst e2); (rw [Int.toNat_natCast] at kB9)))
local macro_rules | `(tactic| walk_at "pyIter ref") => `(tactic| ((with_reducible show wpAny _ _ (pyIter (Value.ref _)) (fun it s₂ => TurnsAt _ _ _ _ _ _ _ _ _ it s₂) _ _); ((rename Fr _ _ _ _ => lF'); (rename News _ _ _ _ => lN'); (with_unfolding_all refine' Mine.pk_for (by exact rfl) lF' lN' (by exact Mine.BsAre.snoc Mine.BsAre.nil (by k_asm)) (by (refine DatAll.mono ?_ (by k_asm); kcf_all)) (by kcf_m) (by exact Mine.lt_all3 (by assumption)) (by exact Mine.PInv.rbytes (by k_asm)) ?tn ?dn); (all_goals (try clear lF' lN')); (case' tn => (intros; (try k_fold))); (case' dn => (intros; (try k_unfold); (try dsimp only))))))
local macro_rules | `(tactic| walk_at "call type:bytes") => `(tactic| (k_dflt (refine' Mine.bytes_3 (by exact rfl) (by k_asm) (by k_asm) (by kcf_m) (by k_asm) (by k_asm) (by k_asm) (by k_asm) (by k_asm) (by k_asm) ?_; k_whole); intros))
local macro_rules | `(tactic| walk_at "call type:bytes") => `(tactic| (k_dflt (refine' Mine.bytes_at (by exact rfl) (by k_asm) (by k_asm) (by with_reducible first | assumption | kcf_m) (by k_asm) (by exact Mine.PInv.bytes (by k_asm)) (by (have := Mine.PInv.len (by k_asm); omega)) ?_; k_whole); intros))
local macro_rules | `(tactic| walk_at "InvEndG") => `(tactic| (with_unfolding_all refine' Mine.pk_end (by k_asm) (by k_asm) ?k1 ?n1 ?n2 ?o1 ?o2 (by k_asm) (by k_asm) (by k_asm) (by k_asm); (case n1 | n2 => kcf_all); (case o1 | o2 => k_asm); (case k1 => (unfold Mine.pkNames; with_unfolding_all ksw_same))))
local macro_rules | `(tactic| walk_at "call builtin:bytes.join") => `(tactic| (k_dflt (refine' Mine.pk_join (by k_asm) (by kcf_m) (by k_asm) (by k_asm) (by exact Mine.pk_size (by k_asm) (by k_asm) (by k_asm)) ?_; k_whole); intros))
local macro_rules | `(tactic| walk_at "getMethod") => `(tactic| (k_dflt (refine' Mine.bjoin_method ?_; k_whole)))
set_option maxRecDepth 100000 in
set_option maxHeartbeats 8000000 in
theorem Mine.pk_ctr {w : World} {p : Program} {loose : List Str} {mean : ExcName → Option Value} {mg mb : Str → Option Value} (cSH : Mine.ShC 101 PySem.Challenge.rw_ui0507_16.row.prog w (Mine.hd.heap_39 w.params) p loose mean mg mb) (cNB : Mine.NbC 58 PySem.Challenge.rw_ui0507_16.row.prog w (Mine.hd.heap_39 w.params) p loose mean mg mb) : Mine.PkC 120 PySem.Challenge.rw_ui0507_16.row.prog w (Mine.hd.heap_39 w.params) p loose mean mg mb := by
  k_fill
  w_top off
  unfold Mine.PkC
  intro b ks tb kk news hb hlk hl hkk hal
  unfold Mine.Fun
  intro dp un gd cn cs a ccd cl outer A₀ base h₀ L m s Q E B F X N T hk hd hu hret
  refine wpAny_call ?_
  k_dflt (refine' code_def ?k1 ?k2 ?k3 ?k4 ?k5 (by exact rfl) (by exact rfl) (by first | assumption | exact rfl) ?k6 ?k7 ?k8 ?k9 ?kB ?_ ?c2 ?c3 ?c4 ?c5; (case k1 | k2 | k3 | k4 | k5 => k_asm); (case k6 | k7 => k_is); (case k8 => ktr_room); (case k9 => first | exact BindsTo.of_eq rfl | exact binds_K (by k_in) rfl (by k_is) rfl rfl rfl); (case c5 => decide); (case kB => exact locs rfl); (case c2 | c3 | c4 => exact rfl); k_whole; intro _ _ _ _ _ _ B' _ _; (try dsimp only); (try k_lift B'); (try k_fold))
  k_steps
  all_goals exact Mine.pk_ret hret (by with_reducible assumption) (by with_reducible assumption) (by kcf_all) (by with_reducible assumption) (by with_reducible assumption) (by with_reducible assumption)
end
section
local macro_rules | `(tactic| walk_at "call ref") => `(tactic| (k_dflt (rename Mine.RnC _ _ _ _ _ _ _ _ _ => cL; refine' Mine.Fun.go (by k_asm) (by k_asm) (cL _ _ _ _ 0 _ _ _ _ (by k_asm) (by exact rfl) (by exact Mine.drop0 (by k_asm)) (by omega) (by omega)) ?_; k_whole); (intro _ _ _ _ kR _ _); (unfold Mine.RnOut at kR); (obtain ⟨_, _, y9, _, _, e1, e2, _, e3, _⟩ := kR); (subst e1); (subst e2); (subst e3); (have e5 : y9 = 1 := by omega); (subst e5)))
local macro_rules | `(tactic| walk_at "subscriptTail") => `(tactic| (k_dflt (refine' KBw.item_K (by k_asm) (by omega) (by omega) (by omega) ?_ (by with_unfolding_all rfl) (by (intro _; with_unfolding_all rfl)); k_whole); intros))
local macro_rules | `(tactic| walk_at "subscriptTail") => `(tactic| ((rename Fr _ _ _ _ => F'); (rename News _ _ _ _ => N'); (refine KBc.slice_K (s := ⟨_, _, _, _, _⟩) F' N' (by k_asm) (by constructor) (by constructor) (by omega) ?_); intro _ _ _ _ _ kbcK; (have kbc2 := Mine.rr_cut kbcK (by k_asm) (by k_asm) (by k_asm) (by k_asm)); (clear kbcK)))
local macro_rules | `(tactic| walk_at "pyIter ref") => `(tactic| ((with_reducible show wpAny _ _ (pyIter (Value.ref _)) (fun it s₂ => LoopAtV _ _ _ _ _ _ _ _ _ it s₂) _ _); ((rename Fr _ _ _ _ => lF'); (rename News _ _ _ _ => lN'); (rename IsRange _ _ _ _ _ _ _ _ => rgX); (with_unfolding_all refine' Mine.rr_for ?hh rgX (by exact rfl) lF' lN' ?hat ?ha ?hoff ?h64 (by k_asm) ?tn ?dn); (case hh | hat => with_unfolding_all exact rfl); (case ha => exact rfl); (case hoff => exact Mine.lt_all2 (by assumption)); (case h64 => k_asm)); (all_goals (try clear lF' lN')); (case' tn => (intros; (try k_fold))); (case' dn => (intros; (try k_unfold); (try dsimp only)))))
local macro_rules | `(tactic| walk_at "InvEndG") => `(tactic| (with_unfolding_all refine' Mine.rr_end (by k_asm) (by k_asm) (by exact rfl) ?k1 ?n1 ?n2 ?n3 ?n4 ?l1 ?o1 ?o2 (by k_asm) ?j2 ?j3 (by k_asm) ?j5; (case j2 | j3 | j5 => k_asm); (case n1 | n2 => kcf_m); (case n3 | n4 => kcf_all); (case l1 | o1 | o2 => k_asm); (case k1 => (intro _ h1 h2 _; (have h3 := h2 _ (.head _)); dsimp only at h3; simp only [h1, h3, if_false]))))
set_option maxRecDepth 100000 in
set_option maxHeartbeats 8000000 in
theorem Mine.rr_ctr {w : World} {p : Program} {loose : List Str} {mean : ExcName → Option Value} {mg mb : Str → Option Value} (cRN : Mine.RnC 65 PySem.Challenge.rw_ui0507_16.row.prog w (Mine.hd.heap_39 w.params) p loose mean mg mb) : Mine.RrC 127 PySem.Challenge.rw_ui0507_16.row.prog w (Mine.hd.heap_39 w.params) p loose mean mg mb := by
  k_fill
  w_top off
  unfold Mine.RrC
  intro b ks rules row tb news hb hk0 hlen h1 h64 hl
  unfold Mine.Fun
  intro dp un gd cn cs a ccd cl outer A₀ base h₀ L m s Q E B F X N T hk hd hu hret
  refine wpAny_call ?_
  k_dflt (refine' code_def ?k1 ?k2 ?k3 ?k4 ?k5 (by exact rfl) (by exact rfl) (by first | assumption | exact rfl) ?k6 ?k7 ?k8 ?k9 ?kB ?_ ?c2 ?c3 ?c4 ?c5; (case k1 | k2 | k3 | k4 | k5 => k_asm); (case k6 | k7 => k_is); (case k8 => ktr_room); (case k9 => first | exact BindsTo.of_eq rfl | exact binds_K (by k_in) rfl (by k_is) rfl rfl rfl); (case c5 => decide); (case kB => exact locs rfl); (case c2 | c3 | c4 => exact rfl); k_whole; intro _ _ _ _ _ _ B' _ _; (try dsimp only); (try k_lift B'); (try k_fold))
  k_steps
  all_goals exact Mine.rr_ret hret (by with_reducible assumption) (by with_reducible assumption) (by assumption) (by with_reducible assumption) (by with_reducible assumption) (by kcf_m) (by kcf_m) (by kcf_all) (by kcf_all)
end
section
local macro_rules | `(tactic| walk_at "call ref") => `(tactic| (k_dflt (rename Mine.RrC _ _ _ _ _ _ _ _ _ => cRR; refine' Mine.Fun.go (by k_asm) (by k_asm) (cRR _ _ _ _ _ _ (by k_asm) (by k_asm) (by k_asm) (by k_asm) (by k_asm) (by k_asm)) ?_; k_whole); (intro _ _ _ _ kR _ _); (unfold Mine.RrOut at kR); (obtain ⟨_, _, _, _, _, _, _, _, e1, e2, _, _, _, _, _⟩ := kR); (subst e1); (subst e2)))
local macro_rules | `(tactic| walk_at "call ref") => `(tactic| (k_dflt (rename Mine.GrC _ _ _ _ _ _ _ _ _ => cGR; refine' Mine.Fun.go (by k_asm) (by k_asm) (cGR _ _ _ _ _ _ _ _ _ (by kcf_m) ?l2 (by kcf_m) ?l4 ?l5 ?l6 ?l7) ?_; (case l2 => (refine DatAll.mono ?_ (by k_asm); kcf_all)); (case l4 => k_asm); (case l5 => omega); (case l6 => exact Mine.PInv.rbytes (by k_asm)); (case l7 => exact Mine.PInv.bytes (by k_asm)); k_whole); (intro _ _ _ _ kR _ _); (unfold Mine.GrOut at kR); (obtain ⟨_, e1, e2⟩ := kR); (subst e1); (subst e2); (rw [Mine.PInv.size (by k_asm)])))
local macro_rules | `(tactic| walk_at "call ref") => `(tactic| (k_dflt (rename Mine.LeC _ _ _ _ _ _ _ _ _ => cLE; refine' Mine.Fun.go (by k_asm) (by k_asm) (cLE _ _ _ _ _ _ _ _ _ (by kcf_m) ?l2 (by kcf_m) ?l4 ?l5) ?_; (case l2 => (refine DatAll.mono ?_ (by k_asm); kcf_all)); (case l4 => k_asm); (case l5 => exact Mine.up_len (by k_asm) (by k_asm)); k_whole); (intro _ _ _ _ kR _ _); (unfold Mine.LeOut at kR); (obtain ⟨_, _, _, e1, e2, kI⟩ := kR); (subst e1); (subst e2); (rw [Mine.PInv.back (by k_asm)] at kI)))
local macro_rules | `(tactic| walk_at "call type:bytes") => `(tactic| (k_dflt (refine' Mine.bytes_at (by exact rfl) (by k_asm) (by k_asm) (by kcf_m) (by k_asm) (by k_asm) (by omega) ?_; k_whole); intros))
set_option maxRecDepth 100000 in
set_option maxHeartbeats 8000000 in
theorem Mine.up_ctr {w : World} {p : Program} {loose : List Str} {mean : ExcName → Option Value} {mg mb : Str → Option Value} (cRR : Mine.RrC 127 PySem.Challenge.rw_ui0507_16.row.prog w (Mine.hd.heap_39 w.params) p loose mean mg mb) (cGR : Mine.GrC 113 PySem.Challenge.rw_ui0507_16.row.prog w (Mine.hd.heap_39 w.params) p loose mean mg mb) (cLE : Mine.LeC 108 PySem.Challenge.rw_ui0507_16.row.prog w (Mine.hd.heap_39 w.params) p loose mean mg mb) : Mine.UpC 134 PySem.Challenge.rw_ui0507_16.row.prog w (Mine.hd.heap_39 w.params) p loose mean mg mb := by
  k_fill
  w_top off
  unfold Mine.UpC
  intro b ks data kk rules row tb news hb hk0 hlen h1 h64 hl hP hdl hdb
  unfold Mine.Fun
  intro dp un gd cn cs a ccd cl outer A₀ base h₀ L m s Q E B F X N T hk hd hu hret
  refine wpAny_call ?_
  k_dflt (refine' code_def ?k1 ?k2 ?k3 ?k4 ?k5 (by exact rfl) (by exact rfl) (by first | assumption | exact rfl) ?k6 ?k7 ?k8 ?k9 ?kB ?_ ?c2 ?c3 ?c4 ?c5; (case k1 | k2 | k3 | k4 | k5 => k_asm); (case k6 | k7 => k_is); (case k8 => ktr_room); (case k9 => first | exact BindsTo.of_eq rfl | exact binds_K (by k_in) rfl (by k_is) rfl rfl rfl); (case c5 => decide); (case kB => exact locs rfl); (case c2 | c3 | c4 => exact rfl); k_whole; intro _ _ _ _ _ _ B' _ _; (try dsimp only); (try k_lift B'); (try k_fold))
  k_steps
  all_goals exact Mine.up_ret hret (by with_reducible assumption) (by with_reducible assumption) (by kcf_all) (by with_reducible assumption)
end
theorem Mine.pk_all {w : World} {p : Program} {loose : List Str} {mean : ExcName → Option Value} {mg mb : Str → Option Value} : Mine.PkC 120 PySem.Challenge.rw_ui0507_16.row.prog w (Mine.hd.heap_39 w.params) p loose mean mg mb := Mine.pk_ctr (Mine.sh_ctr (Mine.bp_ctr Mine.cp_ctr) Mine.un_ctr Mine.rp_ctr) Mine.nb_ctr
theorem Mine.up_all {w : World} {p : Program} {loose : List Str} {mean : ExcName → Option Value} {mg mb : Str → Option Value} : Mine.UpC 134 PySem.Challenge.rw_ui0507_16.row.prog w (Mine.hd.heap_39 w.params) p loose mean mg mb := Mine.up_ctr (Mine.rr_ctr Mine.rn_ctr) Mine.gr_ctr Mine.le_ctr
local macro_rules | `(tactic| walk_at "binaryOp Add ref ref") => `(tactic| (k_dflt (refine' kmk_add_ints (by k_asm) (by k_asm) (by kmk_list) (by kmk_list) (by k_asm) (by k_asm) ?_ (by exact Mine.d16_sz); k_whole); intro _ _ _ _ _ l1 hI'; (try k_lt l1); (obtain ⟨_, _, _, _, _, _, _, _⟩ := Mine.d16_at hI'); (clear hI')))
local macro_rules | `(tactic| walk_at "call type:bytes") => `(tactic| (k_dflt (refine' Mine.bytes_at (by exact rfl) (by k_asm) (by k_asm) ?m (by k_asm) ?r ?z ?_; (case m => kcf_m); (case r => k_asm); (case z => omega); k_whole); intro _ _ _ _ _ _ kB9; (have kS := Mine.srcB kB9)))
local macro_rules | `(tactic| walk_at "call ref") => `(tactic| (k_dflt (rename Mine.PkC _ _ _ _ _ _ _ _ _ => cPK; refine' Mine.Fun.go (by k_asm) (by k_asm) (cPK _ _ _ _ _ (by k_asm) (by k_asm) (by k_asm) (by k_asm) (by k_asm)) ?_; k_whole); (intro _ _ _ _ kR _ _); (unfold Mine.PkOut at kR); (obtain ⟨_, _, _, _, e1, e2, _, kP, k64⟩ := kR); (subst e1); (subst e2); (obtain ⟨_, _⟩ := Mine.pk_len k64 kP); (have kl3 := Mine.PInv.len kP)))
local macro_rules | `(tactic| walk_at "call ref") => `(tactic| (k_dflt (rename Mine.UpC _ _ _ _ _ _ _ _ _ => cUP; refine' Mine.Fun.go (by k_asm) (by k_asm) (cUP _ _ _ _ _ _ _ _ ?l1 ?l2 ?l3 ?l4 ?l5 ?l6 (by k_asm) ?l8 ?l9) ?_; (case l2 => exact rfl); (case l1 | l3 | l4 | l5 => k_asm); (case l6 => omega); (case l8 | l9 => k_asm); k_whole); (intro _ _ _ _ kR _ _); (unfold Mine.UpOut at kR); (obtain ⟨_, _, e1, e2, kB7⟩ := kR); (subst e1); (subst e2); (rename Mine.SrcB _ _ => kS); (have kE := Mine.src_eq kS kB7); (subst kE)))
local macro_rules | `(tactic| walk_at "mine pad") => `(tactic| skip)
set_option maxRecDepth 100000 in
set_option maxHeartbeats 8000000 in
theorem PySem.Challenge.cw_ui0507_16_holds : PySem.Challenge.rw_ui0507_16.Holds :=
  Mine.hd (by
  w_strict (k_go0; (all_goals try k_fold); (refine Mine.bring (fun prog w K p loose mean mg mb => Mine.PkC 120 prog w K p loose mean mg mb ∧ Mine.UpC 134 prog w K p loose mean mg mb) (by assumption) (by assumption) ?ctr ?_); (case ctr => exact ⟨Mine.pk_all, Mine.up_all⟩); intro cW0; (obtain ⟨cPK, cUP⟩ := cW0); k_steps; (all_goals (try k_data)); all_goals w_report))
