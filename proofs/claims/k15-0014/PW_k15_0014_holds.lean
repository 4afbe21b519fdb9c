import PyProof.Rows.All
import Wide.All
import OpenK.AllK
import Wide.FinOn
import PySem.Challenge.RW_k15_0014
open PySem PySem.W PyProof.Rows
set_option Elab.async false
namespace Mine
def letterC (c : Nat) : Bool := (decide (97 ≤ c) && decide (c ≤ 122)) || c == 95
def digitC (c : Nat) : Bool := decide (48 ≤ c) && decide (c ≤ 57)
theorem apart (c : Nat) : (letterC c && digitC c) = false := by
  unfold letterC digitC
  rw [Bool.eq_false_iff]; intro h
  simp only [Bool.and_eq_true, Bool.or_eq_true, decide_eq_true_eq, beq_iff_eq] at h
  omega
theorem count_le {p q : Nat → Bool} (hpq : ∀ c, (p c && q c) = false) : ∀ l : List Nat, (l.filter p).length + (l.filter q).length ≤ l.length
  | [] => by simp
  | c :: l => by
    have ih := count_le hpq l
    have h := hpq c
    cases hp : p c <;> cases hq : q c <;> simp [hp, hq, List.filter_cons] at h ⊢ <;> omega
theorem count_eq {p q : Nat → Bool} (hpq : ∀ c, (p c && q c) = false) : ∀ l : List Nat, decide ((l.filter p).length + (l.filter q).length = l.length) = l.all fun c => p c || q c
  | [] => by simp
  | c :: l => by
    have ih := count_eq hpq l
    have hl := count_le hpq l
    have h := hpq c
    rw [List.all_cons, ← ih]
    cases hp : p c <;> cases hq : q c <;> simp only [hp, hq, List.filter_cons, Bool.and_self, Bool.or_self, Bool.false_eq_true, if_false, if_true, List.length_cons, Bool.true_or, Bool.or_true, Bool.true_and, Bool.false_and, Bool.and_true] at h ⊢
    · rw [decide_eq_false_iff_not]; omega
    · congr 1; apply propext; omega
    · congr 1; apply propext; omega
    · cases h
end Mine
namespace Mine
abbrev S (x : String) : Str := Str.ofString x
def kwL : List Str := [S "fun", S "end", S "set", S "print", S "while", S "if", S "else", S "return", S "not"]
def isNameF (s : Str) : Bool := !(s == S "") && letterC (s.cps.getD 0 0) && !(kwL.any (· == s)) && s.cps.toList.all fun c => letterC c || digitC c
/-- the law's own reading: low[:1] != [s[:1]] -/
def dueF (s : Str) : Bool := !(kwL.any (· == s)) && decide (((s.cps.toList.filter letterC).take 1).map (fun c => [c]) = [s.cps.toList.take 1]) && decide ((s.cps.toList.filter letterC).length + (s.cps.toList.filter digitC).length = s.cps.toList.length)
theorem head_low (l : List Nat) : decide (((l.filter letterC).take 1).map (fun c => [c]) = [l.take 1]) = (!l.isEmpty && letterC (l.headD 0)) := by
  cases l with
  | nil => rfl
  | cons c l =>
    cases h : letterC c with
    | true => simp [List.filter_cons, h]
    | false =>
      simp only [List.filter_cons, h, List.headD_cons, Bool.and_false, Bool.false_eq_true, if_false]
      rw [decide_eq_false_iff_not]
      cases hf : l.filter letterC with
      | nil => simp
      | cons d r =>
        simp only [List.take_succ_cons, List.take_zero, List.map_cons, List.map_nil]
        intro e
        have e1 : d = c := by injection e with e _; injection e with e _
        have hd : d ∈ l.filter letterC := by rw [hf]; exact List.mem_cons_self
        have := (List.mem_filter.mp hd).2
        rw [e1, h] at this
        cases this
theorem name_due (s : Str) : isNameF s = dueF s := by
  unfold isNameF dueF
  rw [head_low, count_eq apart]
  obtain ⟨⟨l⟩⟩ := s
  have h1 : (!((⟨⟨l⟩⟩ : Str) == S "")) = !l.isEmpty := by
    cases l with
    | nil => decide +kernel
    | cons c l =>
      have : ((⟨⟨c :: l⟩⟩ : Str) == S "") = false := by
        rw [beq_eq_false_iff_ne]
        intro e
        rw [show S "" = (⟨#[]⟩ : Str) by decide +kernel] at e
        injection e with e
        simp at e
      rw [this]; rfl
  have h2 : (⟨⟨l⟩⟩ : Str).cps.getD 0 0 = l.headD 0 := by cases l <;> rfl
  rw [h1, h2]
  cases (!l.isEmpty) <;> cases letterC (l.headD 0) <;> cases (kwL.any (· == (⟨⟨l⟩⟩ : Str))) <;> rfl
end Mine
namespace Mine
/-- a turn's end in a search over a text's signs: nothing is stored, the ledger stands -/
def SgEnd (h₀ : Heap) (L : Addr) (m₀ : Str → Option Value) (x : Str) (led : List (Addr × Obj)) (P : Prop) (s₁ s₂ : Shared) : Prop :=
  ∃ h' tk m', s₂ = { s₁ with heap := h', toks := tk } ∧ Fr h₀ L h' m' ∧ News h₀ L h' led ∧ (∀ z, z ≠ x → m' z = m₀ z) ∧ P
def SgPost (h₀ : Heap) (L : Addr) (m₀ : Str → Option Value) (x : Str) (led : List (Addr × Obj)) (P : Prop) (s₁ : Shared) (Q : Flow → Shared → Prop) (f : Flow) (s₂ : Shared) : Prop :=
  match f with
  | .ret v => Q (.ret v) s₂
  | .brk => Q .next s₂
  | _ => SgEnd h₀ L m₀ x led P s₁ s₂
section
variable {prog : Program} {w : World} {A : Around} {E : Value → Shared → Prop} {s : Shared} {env : Env} {h₀ : Heap} {x : Str} {body : List Stmt} {Q : Flow → Shared → Prop}
theorem sign_search {xt : Str} {tx : Tok} {m₀ : Str → Option Value} {news : List (Addr × Obj)} (P : Nat → Prop)
    (hh : A.handled = none) (F : Fr h₀ env.locals s.heap m₀) (N : News h₀ env.locals s.heap news)
    (turn : ∀ (n : Nat) t h tk own, n ∈ xt.cps.toList → Fr h₀ env.locals h (fun y => if y = x then some (.str ⟨#[n]⟩ t) else m₀ y) → News h₀ env.locals h (news ++ own) →
      wpAny (model prog w) A (execs body env) (SgPost h₀ env.locals m₀ x (news ++ own) (P n) { s with heap := h, toks := tk } Q) E { s with heap := h, toks := tk })
    (done : ∀ (u : Option Value) h tk, (∀ n ∈ xt.cps.toList, P n) → Fr h₀ env.locals h (fun y => if y = x then u else m₀ y) → News h₀ env.locals h news → Q .next { s with heap := h, toks := tk }) :
    wpAny (model prog w) A (pyIter (.str xt tx)) (fun it s₂ => LoopAtV prog w A h₀ env x body Q E it s₂) E s := by
  refine wpAny_pyIter_str fun o St hW hst => ?_
  have W := hW A hh
  refine loop_invN (fun i m nx => nx = news ∧ (∀ z, z ≠ x → m z = m₀ z) ∧ ∀ n ∈ xt.cps.toList.take i, P n) W ?_ ?_ ?_ ?_ hst (F.push _) (fun p hp => ⟨Heap.get?_push_of_some _ (N p hp).1, (N p hp).2⟩) ⟨rfl, fun _ _ => rfl, by simp⟩ ?_ ?_
  · intro hm
    exact absurd F.ns.lt ((List.mem_singleton.mp hm) ▸ Nat.lt_irrefl _)
  · intro b' hb
    rw [List.mem_singleton.mp hb]
    exact next_is_new F
  · intro p hp hI
    exact absurd (Heap.lt_size (N p hp).1) ((List.mem_singleton.mp hI) ▸ Nat.lt_irrefl _)
  · intro p hp hI
    exact absurd (Heap.lt_size (N p hp).1) ((List.mem_singleton.mp hI) ▸ Nat.lt_irrefl _)
  · rintro i v m₁ nx h tk own hi ⟨n, u, hn, rfl⟩ _ _ ⟨rfl, hm, hp⟩ F₁ N₁
    have e : (fun y => if y = x then some (Value.str ⟨#[n]⟩ u) else m₁ y) = fun y => if y = x then some (Value.str ⟨#[n]⟩ u) else m₀ y := by
      funext y
      by_cases h1 : y = x
      · simp [h1]
      · simp only [if_neg h1]; exact hm y h1
    rw [e] at F₁
    have hn' : xt.cps.toList[i]? = some n := by simpa using hn
    refine wpAny_mono (turn n u h tk own (List.mem_of_getElem? hn') F₁ N₁) (fun f s₂ p => ?_) fun _ _ e => e
    have fin : SgEnd h₀ env.locals m₀ x (nx ++ own) (P n) { s with heap := h, toks := tk } s₂ → InvEndN h₀ env.locals (fun m nx' => nx' = nx ∧ (∀ z, z ≠ x → m z = m₀ z) ∧ ∀ n ∈ xt.cps.toList.take (i + 1), P n) own (nx.map (·.1)) { s with heap := h, toks := tk } s₂ := by
      rintro ⟨h', tk', m', rfl, F', N', hm', hP⟩
      refine InvEndN.intro F' N' ⟨rfl, hm', ?_⟩ rfl (fun p hp => List.mem_append_left _ hp) (fun p hp => List.mem_append_right _ hp)
      intro c hc
      rw [List.take_add_one, hn'] at hc
      rcases List.mem_append.mp hc with hc | hc
      · exact hp c hc
      · have : c = n := by simpa using hc
        exact this ▸ hP
    cases f with
    | ret v => exact p
    | brk => exact p
    | next => exact fin p
    | cont => exact fin p
  · rintro m₁ nx h tk ⟨rfl, hm, hp⟩ F₁ N₁
    have hl : xt.cps.size = xt.cps.toList.length := by simp
    rw [hl, List.take_length] at hp
    refine done (m₁ x) h tk hp ?_ N₁
    have e : (fun y => if y = x then m₁ x else m₀ y) = m₁ := by
      funext y
      by_cases h1 : y = x
      · simp [h1]
      · simp only [if_neg h1]; exact (hm y h1).symm
    rw [e]; exact F₁
end
/-- a sign that a test takes (or drops) in a comprehension over a text -/
def SgEl (news : List (Addr × Obj)) (b : Bool) (n : Nat) (y : Value) (news' : List (Addr × Obj)) : Prop := news' = news ∧ b = true ∧ ∃ t, y = .str ⟨#[n]⟩ t
def SgNo (news : List (Addr × Obj)) (b : Bool) (news' : List (Addr × Obj)) : Prop := news' = news ∧ b = false
section
variable {prog : Program} {w : World} {A : Around} {E : Value → Shared → Prop} {s : Shared} {h₀ : Heap} {L : Addr} {m : Str → Option Value} {env : Env}
theorem strs_snoc {vs : List Value} {ys : List Str} {y : Str} {t : Tok} (h : StrsAre vs ys) : StrsAre (vs ++ [.str y t]) (ys ++ [y]) := h.append' (.cons _ _ .nil)
theorem sign_rest {ct elt : Expr} {x : Str} {scope : Scope} {cl : List (Str × Addr)} {S : List (Addr × Obj) → Prop} {Fin : List Value → List (Addr × Obj) → Prop} {news : List (Addr × Obj)} {xt : Str} (pz : Nat → Bool)
    (turn : ∀ n t I oI C oC D m₂ ys h tk (E' : Value → Shared → Prop), n ∈ xt.cps.toList → LCg.NsObj oC m₂ → m₂ x = some (.str ⟨#[n]⟩ t) → Fr h₀ L h m → News h₀ L h ((I, oI) :: (C, oC) :: (D, LCg.lst ys) :: news) → LCg.Off3 I C D news → ((@Ne Nat I C) ∧ (@Ne Nat I D) ∧ (@Ne Nat C D)) →
      wpAny (model prog w) A (isTrue ct (compEnvC scope cl C env) (eval ct (compEnvC scope cl C env))) (fun b s' => if b = true then wpAny (model prog w) A (eval elt (compEnvC scope cl C env)) (LCg.CompEnd h₀ L m { s with heap := h, toks := tk } I oI C oC D (LCg.lst ys) S (fun y news' => SgEl news (pz n) n y news')) E' s'
        else LCg.CompEnd h₀ L m { s with heap := h, toks := tk } I oI C oC D (LCg.lst ys) S (fun _ news' => SgNo news (pz n) news') Value.none s') E' { s with heap := h, toks := tk })
    (fin : ∀ ys, StrsAre ys ((xt.cps.toList.filter pz).map fun n => (⟨#[n]⟩ : Str)) → ys.length = (xt.cps.toList.filter pz).length → ys.length ≤ xt.length → Fin ys news) : LCt.CompRestT prog w A h₀ L m env ct elt x scope cl s S (SignAt xt) Fin xt.cps.size 0 [] news := by
  have hsz : xt.cps.size = xt.cps.toList.length := by simp
  have key : ∀ (j i : Nat) (ys : List Value), i + j = xt.cps.size → StrsAre ys (((xt.cps.toList.take i).filter pz).map fun n => (⟨#[n]⟩ : Str)) → LCt.CompRestT prog w A h₀ L m env ct elt x scope cl s S (SignAt xt) Fin j i ys news := by
    intro j
    induction j with
    | zero =>
      intro i ys hi hy
      have e : i = xt.cps.toList.length := by omega
      subst e
      rw [List.take_length] at hy
      have hlen : ys.length = (xt.cps.toList.filter pz).length := by rw [hy.length, List.length_map]
      exact LCt.CompRestT.zero (fin ys hy hlen (by rw [hlen]; refine Nat.le_trans (List.length_filter_le _ _) ?_; simp [Str.length]))
    | succ j ih =>
      intro i ys hi hy
      refine LCt.CompRestT.succ ?_
      rintro v I oI C oC D m₂ h tk E' ⟨n, t, hn, rfl⟩ hC hx F N off ne
      have hn' : xt.cps.toList[i]? = some n := by simpa using hn
      refine wpAny_mono (turn n t I oI C oC D m₂ ys h tk E' (List.mem_of_getElem? hn') hC hx F N off ne) (fun b s₂ hq => ?_) fun _ _ e => e
      cases b with
      | true =>
        simp only [if_true] at hq ⊢
        refine wpAny_mono hq (fun y s₃ hr => ?_) fun _ _ e => e
        obtain ⟨h', tk', nw, e, F', N', off', hS, hnw, hb, t', hy'⟩ := hr
        rw [hnw] at N' off' hS
        refine ⟨h', tk', news, e, F', N', off', hS, ?_⟩
        rw [hy']
        refine ih (i + 1) _ (by omega) ?_
        rw [List.take_add_one, hn']
        simp only [Option.toList_some, List.filter_append, List.filter_cons, hb, if_true, List.filter_nil, List.map_append, List.map_cons, List.map_nil]
        exact strs_snoc hy
      | false =>
        simp only [Bool.false_eq_true, if_false] at hq ⊢
        obtain ⟨h', tk', nw, e, F', N', off', hS, hnw, hb⟩ := hq
        rw [hnw] at N' off' hS
        refine ⟨h', tk', news, e, F', N', off', hS, ih (i + 1) _ (by omega) ?_⟩
        rw [List.take_add_one, hn']
        simp only [Option.toList_some, List.filter_append, List.filter_cons, hb, Bool.false_eq_true, if_false, List.filter_nil, List.append_nil]
        exact hy
  exact key xt.cps.size 0 [] (by omega) (by simp only [List.take_zero, List.filter_nil, List.map_nil]; exact .nil)
/-- where a comprehension over a text stands when the text is read -/
def SgSrc (prog : Program) (w : World) (A : Around) (h₀ : Heap) (L : Addr) (m : Str → Option Value) (env : Env) (ct elt : Expr) (x : Str) (scope : Scope) (cl : List (Str × Addr)) (Fin : Shared → List Value → List (Addr × Obj) → Prop) (xv : Value) (s₁ : Shared) : Prop :=
  ∃ xt t news, xv = .str xt t ∧ A.handled = none ∧ Fr h₀ L s₁.heap m ∧ News h₀ L s₁.heap news ∧ xt.length ≤ sizeLine ∧
    ∀ s₂ : Shared, (∃ h, s₂ = { s₁ with heap := h }) → LCt.CompRestT prog w A h₀ L m env ct elt x scope cl s₂ (fun _ => True) (SignAt xt) (Fin s₂) xt.cps.size 0 [] news
theorem iter_st {I : Addr} {c : String} {xt : Str} {t : Tok} : ∀ i (h h' : Heap) (o : Obj) (nw : List (Addr × Obj)), h.IsStrIter I c xt t i → h.get? I = some o → h'.get? I = some o → (∀ b o, h₀.get? b = some o → h'.get? b = some o) → News h₀ L h' nw → True → h'.IsStrIter I c xt t i :=
  fun i h h' o nw st e e' _ _ _ => by
    obtain ⟨o', ho, r⟩ := st
    rw [e] at ho
    have : o = o' := Option.some.inj ho
    subst this
    exact ⟨o, e', r⟩
set_option maxHeartbeats 2000000 in
/-- a comprehension with one test over a text, stored under a name -/
theorem Assign_ListComp_S {ct elt iter : Expr} {x y : Str} {px py : Pos} {scope : Scope} {cl : List (Str × Addr)} {pos spos : Pos} {Q : Flow → Shared → Prop} (_F₀ : Fr h₀ L s.heap m) (hLe : env.locals = L)
    (hsw : swapsWith (.ListComp elt [⟨.Name x px, iter, [ct], 0⟩] scope pos) (some (.Name y py)) spos.line env = pure true)
    (hclos : closureFor scope env = pure cl) (hcell : ∀ z ∈ scope.names, z.2 ≠ .cell) (hkind : scope.kind = .function)
    (hnames : ∀ z ∈ scope.names, z.2 = .local → scope.names.lookup z.1 = some .local) (hx : scope.names.lookup x = some .local)
    (hy : env.kindOf y = some .local) (hp : (env.scope.kind == .class || (env.scope.kind == .module && env.locals != env.globals)) = false)
    (h : wpAny (model prog w) A (eval iter env) (SgSrc prog w A h₀ L m env ct elt x scope cl (fun s₂ => LCg.FinA h₀ L m s₂ y Q)) E s)
    (hs : ∀ x, foldedSetIterable iter env x = pure x := by intro _; rfl) :
    wpAny (model prog w) A (exec (.Assign [.Name y py] (.ListComp elt [⟨.Name x px, iter, [ct], 0⟩] scope pos) spos) env) Q E s := by
  subst hLe
  rw [exec_Assign_Name_used _ _ _ _ hsw]
  refine wpAny_bind (wpAny_standAt (wpAny_bind ?_))
  show wpAny _ A (do let _ ← comprehension (.ListComp elt [⟨.Name x px, iter, [ct], 0⟩] scope pos) scope env _ (newList []) false (eval iter env) (some (assign (.Name y py) env))) _ _ s
  refine wpAny_bind (wpAny_mono (wpAny_comprehension_free (use := some (assign (.Name y py) env)) (Q := fun _ s' => Q .next s') rfl hs hclos hkind hnames
    (wpAny_mono h (fun xv s₁ h₁ => ?_) fun _ _ e => e)) (fun _ s' hq => wpAny_pure (wpAny_pure hq)) fun _ _ e => e)
  obtain ⟨xt, t, news, rfl, hh, F, N, hsz, R⟩ := h₁
  cases ha : xt.cps.all (· < 128)
  · refine wpAny_pyIter_wide ha ?_
    refine LCt.block_T (Walks.strWide hh _ xt t) hsz (fun i h st => by obtain ⟨o, e, _⟩ := st; exact ⟨o, e⟩) iter_st hcell hkind hx ⟨_, Heap.get?_push_size _ rfl, rfl, rfl⟩ (fun b hb => ?_)
      (F.keeps fun _ _ e => Heap.get?_push_of_some _ e) (N.grown fun _ _ e => Heap.get?_push_of_some _ e) (Nat.ne_of_lt F.ns.lt) (next_is_new F) (fun p hp => Nat.ne_of_lt (Heap.lt_size (N p hp).1)) trivial (R _ ⟨_, rfl⟩) ?_
    · rw [List.mem_singleton.mp hb]
      show s₁.heap.objs.size < (s₁.heap.push _).objs.size
      rw [Heap.size_push]; exact Nat.lt_succ_self _
    · intro D C h' tk m' ys news' F' N' o1 hn hC₀ hD₀ hCL hDL hCD offC fin
      show wpAny _ A (assign (.Name y py) env (.ref D)) _ _ _
      refine wpAny_assign_Name (wpAny_storeName_local hy F'.ns (fun h₂ hn₂ hs₂ => ?_) hp)
      have hL₀ : h₀.get? env.locals = none := Heap.get?_none_of_le F'.above
      have F₂ : Fr h₀ env.locals h₂ (fun z => if z = y then some (.ref D) else m z) := ⟨hn₂, fun b o e => hs₂.extBut b o (fun q => by rw [q, hL₀] at e; cases e) (F'.keep b o e), F'.above⟩
      refine ⟨m', hn.sameBut hs₂ hCL, fun h'' hs'' => fin D h'' _ (F₂.change hs'' hCL hC₀) (fun p hp => ?_) o1⟩
      have z : h₂.get? p.1 = some p.2 := hs₂.extBut _ _ (N' p hp).2.1 (N' p hp).1
      refine ⟨hs''.extBut _ _ ?_ z, (N' p hp).2⟩
      rcases List.mem_cons.mp hp with rfl | hp
      · exact Ne.symm hCD
      · exact offC p hp
  · refine wpAny_pyIter_ascii ha ?_
    refine LCt.block_T (Walks.strAscii hh _ xt t) hsz (fun i h st => by obtain ⟨o, e, _⟩ := st; exact ⟨o, e⟩) iter_st hcell hkind hx ⟨_, Heap.get?_push_size _ rfl, rfl, rfl⟩ (fun b hb => ?_)
      (F.keeps fun _ _ e => Heap.get?_push_of_some _ e) (N.grown fun _ _ e => Heap.get?_push_of_some _ e) (Nat.ne_of_lt F.ns.lt) (next_is_new F) (fun p hp => Nat.ne_of_lt (Heap.lt_size (N p hp).1)) trivial (R _ ⟨_, rfl⟩) ?_
    · rw [List.mem_singleton.mp hb]
      show s₁.heap.objs.size < (s₁.heap.push _).objs.size
      rw [Heap.size_push]; exact Nat.lt_succ_self _
    · intro D C h' tk m' ys news' F' N' o1 hn hC₀ hD₀ hCL hDL hCD offC fin
      show wpAny _ A (assign (.Name y py) env (.ref D)) _ _ _
      refine wpAny_assign_Name (wpAny_storeName_local hy F'.ns (fun h₂ hn₂ hs₂ => ?_) hp)
      have hL₀ : h₀.get? env.locals = none := Heap.get?_none_of_le F'.above
      have F₂ : Fr h₀ env.locals h₂ (fun z => if z = y then some (.ref D) else m z) := ⟨hn₂, fun b o e => hs₂.extBut b o (fun q => by rw [q, hL₀] at e; cases e) (F'.keep b o e), F'.above⟩
      refine ⟨m', hn.sameBut hs₂ hCL, fun h'' hs'' => fin D h'' _ (F₂.change hs'' hCL hC₀) (fun p hp => ?_) o1⟩
      have z : h₂.get? p.1 = some p.2 := hs₂.extBut _ _ (N' p hp).2.1 (N' p hp).1
      refine ⟨hs''.extBut _ _ ?_ z, (N' p hp).2⟩
      rcases List.mem_cons.mp hp with rfl | hp
      · exact Ne.symm hCD
      · exact offC p hp
theorem SgSrc.intro {ct elt : Expr} {x : Str} {scope : Scope} {cl : List (Str × Addr)} {Fin : Shared → List Value → List (Addr × Obj) → Prop} {xt : Str} {t : Tok} {s₁ : Shared} {news : List (Addr × Obj)} (hh : A.handled = none) (F : Fr h₀ L s₁.heap m) (N : News h₀ L s₁.heap news) (hsz : xt.length ≤ sizeLine)
    (h : ∀ g, LCt.CompRestT prog w A h₀ L m env ct elt x scope cl { s₁ with heap := g } (fun _ => True) (SignAt xt) (Fin { s₁ with heap := g }) xt.cps.size 0 [] news) :
    SgSrc prog w A h₀ L m env ct elt x scope cl Fin (.str xt t) s₁ := ⟨xt, t, news, rfl, hh, F, N, hsz, fun _ ⟨g, e⟩ => e ▸ h g⟩
end
end Mine
namespace Mine
theorem pick_upto {l : List Value} {y : Int} (h : 0 ≤ y) : kms_pick l none (some y) = l.take y.toNat := by
  unfold kms_pick kms_lo kms_hi
  simp only [if_neg (show ¬ (y < 0) by omega), List.drop_zero, Nat.sub_zero]
  exact kmk_take_min l y.toNat
theorem pick_from {l : List Value} {x : Int} (h : 0 ≤ x) : kms_pick l (some x) none = l.drop x.toNat := by
  unfold kms_pick kms_lo kms_hi
  simp only [if_neg (show ¬ (x < 0) by omega)]
  rw [kmk_drop_min, List.take_of_length_le (by rw [List.length_drop]; omega)]
section
variable {prog : Program} {w : World} {A : Around} {E : Value → Shared → Prop} {s : Shared} {a b : Addr} {xs ys : List Value} {ns ms : List Str} {Q : Value → Shared → Prop}
theorem ne_lists {e : Nat → Bool} (ha : s.heap.IsList a xs.toArray) (hb : s.heap.IsList b ys.toArray) (hsz : xs.length = ys.length) (hu : A.units < cLine)
    (he : ∀ j (h1 : j < xs.length) (h2 : j < ys.length), SeqAt.EqAt A.in1 s xs[j] ys[j] (e j)) (h : Q (.bool (!(List.range xs.length).all e)) s) : wpAny (model prog w) A (compareOp .NotEq (.ref a) (.ref b)) Q E s :=
  SeqAt.RcNeAt.lists ha hb (by simpa using hsz) hu (fun j h1 h2 => by simpa using he j (by simpa using h1) (by simpa using h2)) prog w E Q (by simpa using h)
theorem ne_lists_len (ha : s.heap.IsList a xs.toArray) (hb : s.heap.IsList b ys.toArray) (hsz : xs.length ≠ ys.length) (hu : A.units < cLine) (h : Q (.bool true) s) : wpAny (model prog w) A (compareOp .NotEq (.ref a) (.ref b)) Q E s :=
  SeqAt.RcNeAt.lists_lengths ha hb (by simpa using hsz) hu prog w E Q h
/-- two lists of the very same items -/
theorem ne_same (ha : s.heap.IsList a xs.toArray) (hb : s.heap.IsList b xs.toArray) (hu : A.units < cLine) (h : Q (.bool false) s) : wpAny (model prog w) A (compareOp .NotEq (.ref a) (.ref b)) Q E s :=
  ne_lists (e := fun _ => true) ha hb rfl hu (fun j _ _ => SeqAt.EqAt.same _) (by
    have : (List.range xs.length).all (fun _ => true) = true := by simp
    rw [this]; exact h)
theorem strs_all : ∀ {ns ms : List Str}, ns.length = ms.length → (List.range ns.length).all (fun j => ns.getD j Str.empty == ms.getD j Str.empty) = decide (ns = ms) := by
  intro ns ms hl
  rw [Bool.eq_iff_iff, List.all_eq_true, decide_eq_true_eq]
  constructor
  · intro h
    apply List.ext_getElem hl
    intro i h1 h2
    have := h i (List.mem_range.mpr h1)
    simpa [List.getD, h1, h2] using this
  · rintro rfl i _
    simp
theorem ne_strs (ha : s.heap.IsList a xs.toArray) (hb : s.heap.IsList b ys.toArray) (hi : StrsAre xs ns) (hj : StrsAre ys ms) (hu : A.units < cLine) (h : Q (.bool (!decide (ns = ms))) s) :
    wpAny (model prog w) A (compareOp .NotEq (.ref a) (.ref b)) Q E s := by
  by_cases hl : ns.length = ms.length
  · refine ne_lists (e := fun j => ns.getD j Str.empty == ms.getD j Str.empty) ha hb (by rw [hi.length, hj.length, hl]) hu (fun j h1 h2 => ?_) (by rw [hi.length, strs_all hl]; exact h)
    have g1 : j < ns.length := by rw [← hi.length]; exact h1
    have g2 : j < ms.length := by rw [← hj.length]; exact h2
    obtain ⟨t, e1⟩ := hi.get j (ns[j]) (List.getElem?_eq_getElem g1)
    obtain ⟨u, e2⟩ := hj.get j (ms[j]) (List.getElem?_eq_getElem g2)
    have q1 : xs[j] = .str ns[j] t := Option.some.inj ((List.getElem?_eq_getElem h1).symm.trans e1)
    have q2 : ys[j] = .str ms[j] u := Option.some.inj ((List.getElem?_eq_getElem h2).symm.trans e2)
    rw [q1, q2]
    have g3 : ns.getD j Str.empty = ns[j] := by simp [List.getD, g1]
    have g4 : ms.getD j Str.empty = ms[j] := by simp [List.getD, g2]
    rw [g3, g4]
    exact SeqAt.EqAt.str_str _ _ _ _
  · refine ne_lists_len ha hb (by rw [hi.length, hj.length]; exact hl) hu ?_
    have : (!decide (ns = ms)) = true := by
      rw [Bool.not_eq_true', decide_eq_false_iff_not]
      rintro rfl; exact hl rfl
    rw [this] at h; exact h
end
end Mine
set_option maxRecDepth 100000
set_option maxHeartbeats 8000000
namespace Mine
open_top hd for PySem.Challenge.rw_k15_0014
end Mine
namespace Mine
abbrev MyClaim (prog : Program) (w : World) (K : Frag) (p : Program) (loose : List Str) (mean : ExcName → Option Value) (mg mb : Str → Option Value) (f : Addr) (news : List (Addr × Obj)) (pre : Prop) (vs : List Value) (R : Value) : Prop :=
  ∀ (dp un : Nat) (gd : Option (List Code)) (cn : Str) (cs : Scope) (a : Addr) (ccd : Value) (cl : List (Str × Addr)) (outer : List Env) (A₀ : Around) (base h₀ : Heap) (L : Addr) (m : Str → Option Value) (s : Shared) (Q E : Value → Shared → Prop),
    Below A₀ base outer h₀ → Fr h₀ L s.heap m → K.In h₀ → News h₀ L s.heap news → Top p loose mean mg mb h₀ → cs.kind = .function →
    pre → dp + 6 < recursionLimit → un + 200 < cLine → (∀ (h' : Heap) (tk' : Nat), Fr h₀ L h' m → News h₀ L h' news → Q R { s with heap := h', toks := tk' }) →
      wpAny (model prog w) (ktrTop dp un gd cn cs L a ccd cl outer) (call (.ref f) vs) Q E s
section
variable {prog : Program} {w : World} {A : Around} {E : Value → Shared → Prop} {s : Shared} {Q : Value → Shared → Prop} {u t : Tok} {n : Nat} {x : Str}
theorem letters_cps : (S "abcdefghijklmnopqrstuvwxyz_").cps.toList = [97, 98, 99, 100, 101, 102, 103, 104, 105, 106, 107, 108, 109, 110, 111, 112, 113, 114, 115, 116, 117, 118, 119, 120, 121, 122, 95] := by decide +kernel
theorem digits_cps : (S "0123456789").cps.toList = [48, 49, 50, 51, 52, 53, 54, 55, 56, 57] := by decide +kernel
theorem in_letters (h : Q (.bool (letterC n)) s) : wpAny (model prog w) A (compareOp .In (.str ⟨#[n]⟩ u) (.str (S "abcdefghijklmnopqrstuvwxyz_") t)) Q E s := by
  refine PySem.P.in_str ?_
  rw [StrLaws.found_one, letters_cps]
  have e : decide (n ∈ [97, 98, 99, 100, 101, 102, 103, 104, 105, 106, 107, 108, 109, 110, 111, 112, 113, 114, 115, 116, 117, 118, 119, 120, 121, 122, 95]) = letterC n := by
    unfold letterC
    rw [Bool.eq_iff_iff, decide_eq_true_eq]
    simp only [List.mem_cons, List.not_mem_nil, or_false, Bool.or_eq_true, Bool.and_eq_true, decide_eq_true_eq, beq_iff_eq]
    omega
  rw [e]; exact h
theorem in_digits (h : Q (.bool (digitC n)) s) : wpAny (model prog w) A (compareOp .In (.str ⟨#[n]⟩ u) (.str (S "0123456789") t)) Q E s := by
  refine PySem.P.in_str ?_
  rw [StrLaws.found_one, digits_cps]
  have e : decide (n ∈ [48, 49, 50, 51, 52, 53, 54, 55, 56, 57]) = digitC n := by
    unfold digitC
    rw [Bool.eq_iff_iff, decide_eq_true_eq]
    simp only [List.mem_cons, List.not_mem_nil, or_false, Bool.and_eq_true, decide_eq_true_eq]
    omega
  rw [e]; exact h
theorem item_head (hx : 1 ≤ x.length) : Txt.item x 0 = ⟨#[x.cps.getD 0 0]⟩ := by
  unfold Txt.item Txt.charAt
  rw [StrLaws.seqIndex_nonneg (by decide) (by omega)]
  simp
theorem in_letters_head (hx : 1 ≤ x.length) (h : Q (.bool (letterC (x.cps.getD 0 0))) s) : wpAny (model prog w) A (compareOp .In (.str (Txt.item x 0) u) (.str (S "abcdefghijklmnopqrstuvwxyz_") t)) Q E s := by
  rw [item_head hx]; exact in_letters h
end
section
variable {x : Str} {n : Nat}
theorem name_f0 (h : (x == S "") = true) : false = isNameF x := by unfold isNameF; rw [h]; rfl
theorem name_f1 (h : letterC (x.cps.getD 0 0) = false) : false = isNameF x := by unfold isNameF; rw [h]; simp
theorem name_f2 (h : (kwL.any (· == x)) = true) : false = isNameF x := by unfold isNameF; rw [h]; simp
theorem name_f3 (hn : n ∈ x.cps.toList) (h1 : letterC n = false) (h2 : digitC n = false) : false = isNameF x := by
  unfold isNameF
  have : (x.cps.toList.all fun c => letterC c || digitC c) = false := by
    rw [List.all_eq_false]
    exact ⟨n, hn, by rw [h1, h2]; simp⟩
  rw [this, Bool.and_false]
theorem name_t (h0 : (x == S "") = false) (h1 : letterC (x.cps.getD 0 0) = true) (h2 : (kwL.any (· == x)) = false) (h3 : ∀ n ∈ x.cps.toList, (letterC n || digitC n) = true) : true = isNameF x := by
  unfold isNameF
  rw [h0, h1, h2, List.all_eq_true.mpr h3]; rfl
theorem claim_ret {h₀ h' : Heap} {L : Addr} {m : Str → Option Value} {news : List (Addr × Obj)} {s : Shared} {Q : Value → Shared → Prop} {tk' : Nat} {b b' : Bool}
    (hret : ∀ (h' : Heap) (tk' : Nat), Fr h₀ L h' m → News h₀ L h' news → Q (.bool b) { s with heap := h', toks := tk' }) (e : b' = b) (F : Fr h₀ L h' m) (N : News h₀ L h' news) : Q (.bool b') { s with heap := h', toks := tk' } := by
  subst e; exact hret h' tk' F N
theorem news_left {h₀ h : Heap} {L : Addr} {a b : List (Addr × Obj)} (N : News h₀ L h (a ++ b)) : News h₀ L h a := fun p hp => N p (List.mem_append_left _ hp)
end
local macro_rules | `(tactic| k_room) => `(tactic| ((try simp only [depth_in1, depth_deeper]); omega))
local macro_rules | `(tactic| walk_at "compareOp In str ref") => `(tactic| (k_here; (with_reducible show wpAny _ _ (compareOp CmpOp.In (Value.str _ _) (Value.ref _)) _ _ _); k_dflt (refine' in_tuple_strs ?k1 ?k2 ?_; (case k1 => ktb_isTup); (case k2 => repeat constructor))))
local macro_rules | `(tactic| walk_at "compareOp In str str") => `(tactic| (k_here; first | refine in_letters ?_ | refine in_digits ?_ | refine in_letters_head (by assumption) ?_))
local macro_rules | `(tactic| walk_at "exec Assign cons ListComp") => `(tactic| (k_here; k_dflt (refine Assign_ListComp_S (by k_asm) (by rfl) (by with_unfolding_all rfl) (by with_unfolding_all rfl) (by decide) (by rfl) (by decide) (by rfl) (by rfl) (by rfl) ?_)))
local macro_rules | `(tactic| walk_at "SgSrc") => `(tactic| ((with_reducible show SgSrc _ _ _ _ _ _ _ (PySem.Expr.BoolOp _ _ _) _ _ _ _ _ _ _); (with_unfolding_all refine' SgSrc.intro (by rfl) (by k_asm) (by k_asm) (by rw [sizeLine_eq]; omega) (fun g' => sign_rest letterC (fun n' t' I' oI' C' oC' D' m' ys' h' tk' E' hn' hC' hx' F' N' off' ne' => ?_) (fun ys' hs' hl' hk' => ?_)))))
local macro_rules | `(tactic| walk_at "SgSrc") => `(tactic| ((with_reducible show SgSrc _ _ _ _ _ _ _ (PySem.Expr.Compare _ _ _ _) _ _ _ _ _ _ _); (with_unfolding_all refine' SgSrc.intro (by rfl) (by k_asm) (by k_asm) (by rw [sizeLine_eq]; omega) (fun g' => sign_rest digitC (fun n' t' I' oI' C' oC' D' m' ys' h' tk' E' hn' hC' hx' F' N' off' ne' => ?_) (fun ys' hs' hl' hk' => ?_)))))
local macro_rules | `(tactic| walk_at "exec For Name Name cons nil") => `(tactic| (k_here; (rename Fr _ _ _ _ => lF'); (with_unfolding_all refine' For_invVF lF' ?k1 ?k2 ?_; (case k1 => exact rfl); (case k2 => exact rfl); k_whole)))
local macro_rules | `(tactic| walk_at "pyIter str") => `(tactic| (k_here; (rename Fr _ _ _ _ => lF'); (rename News _ _ _ _ => lN'); (with_unfolding_all refine' sign_search (fun n => (letterC n || digitC n) = true) (by rfl) lF' lN' (fun n' t' h' tk' own' hm' F' N' => ?_) (fun u' h' tk' hA' F' N' => ?_)); (all_goals (try clear lF' lN')); (all_goals (try k_fold))))
local macro_rules | `(tactic| walk_at "SgPost") => `(tactic| dsimp only [SgPost])
local macro_rules | `(tactic| walk_at "subscriptTail Name Slice ref ref") => `(tactic| (k_here; (with_reducible show wpAny _ _ (subscriptTail _ (PySem.Expr.Slice none (some _) none _) (Value.ref _) (Value.ref _)) _ _ _); k_dflt (refine' kms_slice_lit ?F ?N ?l ?p ?q ?e ?_ ?s ?t ?z; (case F => k_asm); (case N => k_asm); (case l => kmk_list); (case p => kmk_part); (case q => kmk_part); (case e => exact pick_upto (by decide)); (case s => with_unfolding_all rfl); (case t => kmk_pure); (case z => (rw [List.size_toArray, sizeLine_eq]; omega))); intro D' h' F' N' l1; (try k_lt l1); (try k_sweep)))
local macro_rules | `(tactic| walk_at "compareOp NotEq ref ref") => `(tactic| (k_here; (with_reducible show wpAny _ _ (compareOp CmpOp.NotEq (Value.ref _) (Value.ref _)) _ _ _); k_dflt (refine' ne_strs ?a ?b ?i ?j ?u ?_; (case a => kmk_list); (case b => kmk_list); (case i => exact StrsAre.take' (by assumption) _); (case j => exact StrsAre.cons _ _ .nil); (case u => (simp only [units_deeper]; omega)))))
section
variable {n : Nat}
theorem lt_us (h : ((⟨#[n]⟩ : Str) == S "_") = true) : letterC n = true := by
  have e : (⟨#[n]⟩ : Str) = S "_" := by simpa using h
  rw [show S "_" = (⟨#[95]⟩ : Str) by decide +kernel] at e
  have : n = 95 := by injection e with e; simpa using e
  subst this; rfl
theorem lt_mid (h1 : 97 ≤ (n : Int)) (h2 : (n : Int) ≤ 122) : letterC n = true := by
  unfold letterC; rw [decide_eq_true (by omega : 97 ≤ n), decide_eq_true (by omega : n ≤ 122)]; rfl
theorem not_us (h : ((⟨#[n]⟩ : Str) == S "_") = false) : n ≠ 95 := by
  rintro rfl
  rw [show S "_" = (⟨#[95]⟩ : Str) by decide +kernel] at h
  simp at h
theorem lf_hi (h : ((⟨#[n]⟩ : Str) == S "_") = false) (h2 : ¬ (n : Int) ≤ 122) : letterC n = false := by
  have := not_us h
  unfold letterC; rw [decide_eq_false (by omega : ¬ n ≤ 122), Bool.and_false, Bool.false_or, beq_eq_false_iff_ne]; exact this
theorem lf_lo (h : ((⟨#[n]⟩ : Str) == S "_") = false) (h2 : ¬ 97 ≤ (n : Int)) : letterC n = false := by
  have := not_us h
  unfold letterC; rw [decide_eq_false (by omega : ¬ 97 ≤ n), Bool.false_and, Bool.false_or, beq_eq_false_iff_ne]; exact this
theorem dt_mid (h1 : 48 ≤ (n : Int)) (h2 : (n : Int) ≤ 57) : digitC n = true := by
  unfold digitC; rw [decide_eq_true (by omega : 48 ≤ n), decide_eq_true (by omega : n ≤ 57)]; rfl
theorem df_hi (h2 : ¬ (n : Int) ≤ 57) : digitC n = false := by
  unfold digitC; rw [decide_eq_false (by omega : ¬ n ≤ 57), Bool.and_false]
theorem df_lo (h2 : ¬ 48 ≤ (n : Int)) : digitC n = false := by
  unfold digitC; rw [decide_eq_false (by omega : ¬ 48 ≤ n), Bool.false_and]
end
theorem slice_one (x : Str) : Txt.slice x none (some 1) = ⟨(x.cps.toList.take 1).toArray⟩ := by
  by_cases h : 1 ≤ x.length
  · have := slice_closes_toL (x := x) (j := 1) (by decide) (by omega)
    simpa using this
  · have h1 := Txt.slice_le x none (some 1)
    have h2 : (Txt.slice x none (some 1)).length = 0 := by omega
    have h3 : x.length = 0 := by omega
    apply Str.ext'
    have e1 : (Txt.slice x none (some 1)).cps = #[] := Array.eq_empty_of_size_eq_zero h2
    have e2 : x.cps = #[] := Array.eq_empty_of_size_eq_zero h3
    rw [e1, e2]; rfl
theorem take_one (l l1 : List Nat) : (List.take (Int.toNat 1) (l1.map fun n => (⟨#[n]⟩ : Str)) = [(⟨(l.take 1).toArray⟩ : Str)]) ↔ ((l1.take 1).map (fun c => [c]) = [l.take 1]) := by
  cases l1 with
  | nil => simp
  | cons c r =>
    simp only [List.map_cons, Int.reduceToNat, List.take_succ_cons, List.take_zero, List.map_nil, List.cons.injEq, and_true, Str.mk.injEq]
    constructor
    · intro h
      have := congrArg Array.toList h
      simpa using this
    · intro h
      rw [← h]
theorem due_f1 {x : Str} (h : (kwL.any (· == x)) = true) : false = dueF x := by unfold dueF; rw [h]; rfl
theorem due_f2 {x : Str} (h : ¬ List.take (Int.toNat 1) ((x.cps.toList.filter letterC).map fun n => (⟨#[n]⟩ : Str)) = [Txt.slice x none (some 1)]) : false = dueF x := by
  rw [slice_one, take_one] at h
  unfold dueF
  rw [decide_eq_false h]; simp
theorem due_t {x : Str} {a b : Nat} (h0 : (kwL.any (· == x)) = false) (h : List.take (Int.toNat 1) ((x.cps.toList.filter letterC).map fun n => (⟨#[n]⟩ : Str)) = [Txt.slice x none (some 1)]) (ha : a = (x.cps.toList.filter letterC).length) (hb : b = (x.cps.toList.filter digitC).length) :
    decide ((a : Int) + (b : Int) = (x.length : Int)) = dueF x := by
  rw [slice_one, take_one] at h
  unfold dueF
  rw [h0, decide_eq_true h]
  simp only [Bool.not_false, Bool.true_and]
  congr 1
  apply propext
  have : x.cps.toList.length = x.length := by simp [Str.length]
  omega
theorem news_sub {h₀ h : Heap} {L : Addr} {a b : List (Addr × Obj)} (N : News h₀ L h a) (hs : ∀ p ∈ b, p ∈ a) : News h₀ L h b := fun p hp => N p (hs p hp)
local macro_rules | `(tactic| walk_at "call builtin:len") => `(tactic| (k_here; (with_reducible show wpAny _ _ (call (Value.builtin "len") [Value.ref _]) _ _ _); k_dflt (refine' Calls.call_len_list ?l ?z ?_; (case l => kmk_list); (case z => (rw [List.size_toArray]; omega)))))
theorem name_claim (w : World) (p : Program) (loose : List Str) (mean : ExcName → Option Value) (mg mb : Str → Option Value) (news : List (Addr × Obj)) (x : Str) (t : Tok) :
    MyClaim PySem.Challenge.rw_k15_0014.row.prog w (hd.heap_39 w.params) p loose mean mg mb 36 news (x.length ≤ 100) [.str x t] (.bool (isNameF x)) := by
  k_fill
  dsimp only [MyClaim]; intros; rename_i hret
  refine wpAny_call ?_
  k_dflt cell_enter
  k_steps
  all_goals first
    | (refine claim_ret hret ?e ?F ?N; (case F => assumption); (case N => first | assumption | exact news_left (by assumption)); (case e => first | exact name_f0 (by assumption) | exact name_f1 (by assumption) | exact name_f2 (by assumption) | exact name_f3 (by assumption) (by assumption) (by assumption) | exact name_t (by assumption) (by assumption) (by assumption) (by assumption)))
    | exact ⟨_, _, _, rfl, by assumption, by assumption, by (intro z hz; simp [hz]), by simp [*]⟩
theorem due_claim (w : World) (p : Program) (loose : List Str) (mean : ExcName → Option Value) (mg mb : Str → Option Value) (news : List (Addr × Obj)) (x : Str) (t : Tok) :
    MyClaim PySem.Challenge.rw_k15_0014.row.prog w (hd.heap_39 w.params) p loose mean mg mb 49 news (x.length ≤ 100) [.str x t] (.bool (dueF x)) := by
  k_fill
  dsimp only [MyClaim]; intros; rename_i hret
  refine wpAny_call ?_
  k_dflt cell_enter
  k_steps
  all_goals try first
    | exact ⟨_, _, _, rfl, by assumption, by assumption, by assumption, trivial, rfl, by first | exact lt_us (by assumption) | exact lt_mid (by assumption) (by assumption) | exact dt_mid (by assumption) (by assumption), _, rfl⟩
    | exact ⟨_, _, _, rfl, by assumption, by assumption, by assumption, trivial, rfl, by first | exact lf_hi (by assumption) (by assumption) | exact lf_lo (by assumption) (by assumption) | exact df_hi (by assumption) | exact df_lo (by assumption)⟩
  all_goals try first
    | (refine claim_ret hret ?e ?F ?N; (case F => assumption); (case N => first | assumption | exact news_sub (by assumption) (by intro p hp; (repeat (first | exact hp | apply List.mem_cons_of_mem)))); (case e => first | exact due_f1 (by assumption) | exact due_f2 (by assumption) | exact due_t (by assumption) (by assumption) (by assumption) (by assumption)))
section
variable {w : World} {p : Program} {loose : List Str} {mean : ExcName → Option Value} {mg mb : Str → Option Value} {news : List (Addr × Obj)} {x : Str} {t : Tok} {dp un : Nat} {gd : Option (List Code)} {cn : Str} {cs : Scope} {a : Addr} {ccd : Value} {cl : List (Str × Addr)} {outer : List Env} {A₀ : Around} {base h₀ : Heap} {L : Addr} {m : Str → Option Value} {s : Shared} {Q E : Value → Shared → Prop}
theorem due_call (B : Below A₀ base outer h₀) (F : Fr h₀ L s.heap m) (X : (hd.heap_39 w.params).In h₀) (N : News h₀ L s.heap news) (T : Top p loose mean mg mb h₀) (hk : cs.kind = .function) (hx : x.length ≤ 100) (hr : dp + 6 < recursionLimit) (hu : un + 200 < cLine)
    (ret : ∀ (h' : Heap) (tk' : Nat), Fr h₀ L h' m → News h₀ L h' news → Q (.bool (dueF x)) { s with heap := h', toks := tk' }) :
    wpAny (model PySem.Challenge.rw_k15_0014.row.prog w) (ktrTop dp un gd cn cs L a ccd cl outer) (call (.ref 49) [.str x t]) Q E s :=
  due_claim w p loose mean mg mb news x t dp un gd cn cs a ccd cl outer A₀ base h₀ L m s Q E B F X N T hk hx hr hu ret
theorem name_call (B : Below A₀ base outer h₀) (F : Fr h₀ L s.heap m) (X : (hd.heap_39 w.params).In h₀) (N : News h₀ L s.heap news) (T : Top p loose mean mg mb h₀) (hk : cs.kind = .function) (hx : x.length ≤ 100) (hr : dp + 6 < recursionLimit) (hu : un + 200 < cLine)
    (ret : ∀ (h' : Heap) (tk' : Nat), Fr h₀ L h' m → News h₀ L h' news → Q (.bool (dueF x)) { s with heap := h', toks := tk' }) :
    wpAny (model PySem.Challenge.rw_k15_0014.row.prog w) (ktrTop dp un gd cn cs L a ccd cl outer) (call (.ref 36) [.str x t]) Q E s :=
  name_claim w p loose mean mg mb news x t dp un gd cn cs a ccd cl outer A₀ base h₀ L m s Q E B F X N T hk hx hr hu (by rw [name_due]; exact ret)
end
theorem word_len (i : Nat) : ([Str.ofString "fun", Str.ofString "end", Str.ofString "set", Str.ofString "print", Str.ofString "while", Str.ofString "if", Str.ofString "else", Str.ofString "return", Str.ofString "not"].getD i Str.empty).length ≤ 6 := by
  by_cases h : i < 9
  · have : ∀ i, i < 9 → ([Str.ofString "fun", Str.ofString "end", Str.ofString "set", Str.ofString "print", Str.ofString "while", Str.ofString "if", Str.ofString "else", Str.ofString "return", Str.ofString "not"].getD i Str.empty).length ≤ 6 := by decide +kernel
    exact this i h
  · have : [Str.ofString "fun", Str.ofString "end", Str.ofString "set", Str.ofString "print", Str.ofString "while", Str.ofString "if", Str.ofString "else", Str.ofString "return", Str.ofString "not"].getD i Str.empty = Str.empty := by
      rw [List.getD_eq_getElem?_getD, List.getElem?_eq_none (by simp; omega)]; rfl
    rw [this]; decide
end Mine
namespace Mine
section
variable {x y z : Str} {r : List Int} {k : Int}
theorem cat3 (hx : x.length ≤ 20) (hy : y.length ≤ 20) (hz : z.length ≤ 20) : (x ++ y ++ z).length ≤ 100 := by rw [Str.length_append, Str.length_append]; omega
theorem cat2 (hx : x.length ≤ 20) (hy : y.length ≤ 20) : (x ++ y).length ≤ 100 := by rw [Str.length_append]; omega
theorem cat1 (hx : x.length ≤ 20) : x.length ≤ 100 := by omega
theorem tail20 (h1 : x.length = r.length) (h2 : r.length = (k - 0).toNat) (h3 : k < 6) : x.length ≤ 20 := by omega
theorem sliceT20 {lo hi : Option Int} (h1 : x.length = r.length) (h2 : r.length = (k - 0).toNat) (h3 : k < 6) : (Txt.slice x lo hi).length ≤ 20 := by
  have := Txt.slice_le x lo hi
  omega
theorem item20 (x : Str) (i : Int) : (Txt.item x i).length ≤ 20 := by show 1 ≤ 20; decide
theorem one20 (n : Nat) : (⟨#[n]⟩ : Str).length ≤ 20 := by show 1 ≤ 20; decide
theorem word20 (i : Nat) : ([Str.ofString "fun", Str.ofString "end", Str.ofString "set", Str.ofString "print", Str.ofString "while", Str.ofString "if", Str.ofString "else", Str.ofString "return", Str.ofString "not"].getD i Str.empty).length ≤ 20 := Nat.le_trans (word_len i) (by decide)
theorem wordLine (i : Nat) : ([Str.ofString "fun", Str.ofString "end", Str.ofString "set", Str.ofString "print", Str.ofString "while", Str.ofString "if", Str.ofString "else", Str.ofString "return", Str.ofString "not"].getD i Str.empty).length ≤ sizeLine := Nat.le_trans (word_len i) (by rw [sizeLine_eq]; decide)
theorem sliceW20 (i : Nat) (lo hi : Option Int) : (Txt.slice ([Str.ofString "fun", Str.ofString "end", Str.ofString "set", Str.ofString "print", Str.ofString "while", Str.ofString "if", Str.ofString "else", Str.ofString "return", Str.ofString "not"].getD i Str.empty) lo hi).length ≤ 20 := Nat.le_trans (Txt.slice_le _ lo hi) (word20 i)
end
end Mine
open Mine
local macro_rules | `(tactic| size_fits) => `(tactic| with_reducible exact wordLine _)
local macro_rules | `(tactic| walk_at "call ref") => `(tactic| (k_here; (with_reducible show wpAny _ _ (call (Value.ref 49) [Value.str _ _]) _ _ _); k_dflt (refine' due_call ?B ?F ?X ?N ?T ?k ?x ?r ?u ?_; (case B => k_asm); (case F => k_asm); (case X => k_asm); (case N => k_asm); (case T => k_asm); (case k => exact rfl); (case r => decide); (case u => decide); (case x => (with_reducible first | (refine cat3 ?_ ?_ ?_ <;> (with_reducible first | exact word20 _ | exact sliceW20 _ _ _ | exact item20 _ _ | exact one20 _ | exact tail20 (by assumption) (by assumption) (by assumption) | exact sliceT20 (by assumption) (by assumption) (by assumption))) | (refine cat2 ?_ ?_ <;> (with_reducible first | exact word20 _ | exact sliceW20 _ _ _ | exact item20 _ _ | exact one20 _ | exact tail20 (by assumption) (by assumption) (by assumption) | exact sliceT20 (by assumption) (by assumption) (by assumption))) | (refine cat1 ?_; (with_reducible first | exact word20 _ | exact sliceW20 _ _ _ | exact item20 _ _ | exact one20 _ | exact tail20 (by assumption) (by assumption) (by assumption) | exact sliceT20 (by assumption) (by assumption) (by assumption)))))); intro h' tk' F' N'; (try k_sweep)))
local macro_rules | `(tactic| walk_at "call ref") => `(tactic| (k_here; (with_reducible show wpAny _ _ (call (Value.ref 36) [Value.str _ _]) _ _ _); k_dflt (refine' name_call ?B ?F ?X ?N ?T ?k ?x ?r ?u ?_; (case B => k_asm); (case F => k_asm); (case X => k_asm); (case N => k_asm); (case T => k_asm); (case k => exact rfl); (case r => decide); (case u => decide); (case x => (with_reducible first | (refine cat3 ?_ ?_ ?_ <;> (with_reducible first | exact word20 _ | exact sliceW20 _ _ _ | exact item20 _ _ | exact one20 _ | exact tail20 (by assumption) (by assumption) (by assumption) | exact sliceT20 (by assumption) (by assumption) (by assumption))) | (refine cat2 ?_ ?_ <;> (with_reducible first | exact word20 _ | exact sliceW20 _ _ _ | exact item20 _ _ | exact one20 _ | exact tail20 (by assumption) (by assumption) (by assumption) | exact sliceT20 (by assumption) (by assumption) (by assumption))) | (refine cat1 ?_; (with_reducible first | exact word20 _ | exact sliceW20 _ _ _ | exact item20 _ _ | exact one20 _ | exact tail20 (by assumption) (by assumption) (by assumption) | exact sliceT20 (by assumption) (by assumption) (by assumption)))))); intro h' tk' F' N'; (try k_sweep)))
theorem PySem.Challenge.cw_k15_0014_holds : PySem.Challenge.rw_k15_0014.Holds :=
  hd (by k_go)
