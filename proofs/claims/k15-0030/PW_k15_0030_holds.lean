import PyProof.Rows.All
import Wide.All
import OpenK.AllK
import Wide.FinOn
import PySem.Challenge.RW_k15_0030
open PySem PySem.W PyProof.Rows
set_option Elab.async false
namespace Mine
def addS (sl : List Str) (x : Str) : List Str := if sl.any (· == x) then sl else sl ++ [x]
def dedup (l : List Str) : List Str := l.foldl addS []
theorem mem_addS (sl : List Str) (x y : Str) : y ∈ addS sl x ↔ y ∈ sl ∨ y = x := by
  unfold addS
  split
  · rename_i h
    rw [List.any_eq_true] at h
    obtain ⟨z, hz, e⟩ := h
    have : z = x := by simpa using e
    subst this
    constructor
    · intro h; exact .inl h
    · rintro (h | rfl)
      · exact h
      · exact hz
  · simp
theorem mem_fold (l : List Str) : ∀ (acc : List Str) (x : Str), x ∈ l.foldl addS acc ↔ x ∈ acc ∨ x ∈ l := by
  induction l with
  | nil => intro acc x; simp
  | cons y l ih =>
    intro acc x
    rw [List.foldl_cons, ih, mem_addS, List.mem_cons]
    constructor
    · rintro ((h | h) | h)
      · exact .inl h
      · exact .inr (.inl h)
      · exact .inr (.inr h)
    · rintro (h | h | h)
      · exact .inl (.inl h)
      · exact .inl (.inr h)
      · exact .inr h
theorem any_mem (l : List Str) (x : Str) : l.any (· == x) = decide (x ∈ l) := by
  rw [Bool.eq_iff_iff, List.any_eq_true, decide_eq_true_eq]
  constructor
  · rintro ⟨z, hz, e⟩
    have : z = x := by simpa using e
    exact this ▸ hz
  · intro h; exact ⟨x, h, by simp⟩
theorem dedup_snoc (l : List Str) (x : Str) : dedup (l ++ [x]) = if l.any (· == x) then dedup l else dedup l ++ [x] := by
  unfold dedup
  rw [List.foldl_append, List.foldl_cons, List.foldl_nil]
  show (if (l.foldl addS []).any (· == x) then l.foldl addS [] else l.foldl addS [] ++ [x]) = _
  rw [any_mem, any_mem]
  have : decide (x ∈ l.foldl addS []) = decide (x ∈ l) := by
    congr 1; apply propext; rw [mem_fold]; simp
  rw [this]
theorem dedup_len (l : List Str) : (dedup l).length ≤ l.length := by
  have h : ∀ (l acc : List Str), (l.foldl addS acc).length ≤ acc.length + l.length := by
    intro l
    induction l with
    | nil => intro acc; simp
    | cons y l ih =>
      intro acc
      rw [List.foldl_cons, List.length_cons]
      refine Nat.le_trans (ih _) ?_
      have : (addS acc y).length ≤ acc.length + 1 := by unfold addS; split <;> simp
      omega
  unfold dedup; simpa using h l []
end Mine
namespace Mine
theorem pick_upto {l : List Value} {y : Int} (h : 0 ≤ y) : kms_pick l none (some y) = l.take y.toNat := by
  unfold kms_pick kms_lo kms_hi
  simp only [if_neg (show ¬ (y < 0) by omega), List.drop_zero, Nat.sub_zero]
  exact kmk_take_min l y.toNat
theorem pick_from {l : List Value} {x : Int} (h : 0 ≤ x) : kms_pick l (some x) none = l.drop x.toNat := by
  unfold kms_pick kms_lo kms_hi
  simp only [if_neg (show ¬ (x < 0) by omega)]
  rw [kmk_drop_min, List.take_of_length_le (by rw [List.length_drop]; omega)]
section
variable {prog : Program} {w : World} {A : Around} {E : Value → Shared → Prop} {s : Shared} {a b : Addr} {xs ys : List Value} {ns ms : List Str} {Q : Value → Shared → Prop}
theorem ne_lists {e : Nat → Bool} (ha : s.heap.IsList a xs.toArray) (hb : s.heap.IsList b ys.toArray) (hsz : xs.length = ys.length) (hu : A.units < cLine)
    (he : ∀ j (h1 : j < xs.length) (h2 : j < ys.length), SeqAt.EqAt A.in1 s xs[j] ys[j] (e j)) (h : Q (.bool (!(List.range xs.length).all e)) s) : wpAny (model prog w) A (compareOp .NotEq (.ref a) (.ref b)) Q E s :=
  SeqAt.RcNeAt.lists ha hb (by simpa using hsz) hu (fun j h1 h2 => by simpa using he j (by simpa using h1) (by simpa using h2)) prog w E Q (by simpa using h)
theorem ne_lists_len (ha : s.heap.IsList a xs.toArray) (hb : s.heap.IsList b ys.toArray) (hsz : xs.length ≠ ys.length) (hu : A.units < cLine) (h : Q (.bool true) s) : wpAny (model prog w) A (compareOp .NotEq (.ref a) (.ref b)) Q E s :=
  SeqAt.RcNeAt.lists_lengths ha hb (by simpa using hsz) hu prog w E Q h
/-- two lists of the very same items -/
theorem ne_same (ha : s.heap.IsList a xs.toArray) (hb : s.heap.IsList b xs.toArray) (hu : A.units < cLine) (h : Q (.bool false) s) : wpAny (model prog w) A (compareOp .NotEq (.ref a) (.ref b)) Q E s :=
  ne_lists (e := fun _ => true) ha hb rfl hu (fun j _ _ => SeqAt.EqAt.same _) (by
    have : (List.range xs.length).all (fun _ => true) = true := by simp
    rw [this]; exact h)
theorem strs_all : ∀ {ns ms : List Str}, ns.length = ms.length → (List.range ns.length).all (fun j => ns.getD j Str.empty == ms.getD j Str.empty) = decide (ns = ms) := by
  intro ns ms hl
  rw [Bool.eq_iff_iff, List.all_eq_true, decide_eq_true_eq]
  constructor
  · intro h
    apply List.ext_getElem hl
    intro i h1 h2
    have := h i (List.mem_range.mpr h1)
    simpa [List.getD, h1, h2] using this
  · rintro rfl i _
    simp
theorem ne_strs (ha : s.heap.IsList a xs.toArray) (hb : s.heap.IsList b ys.toArray) (hi : StrsAre xs ns) (hj : StrsAre ys ms) (hu : A.units < cLine) (h : Q (.bool (!decide (ns = ms))) s) :
    wpAny (model prog w) A (compareOp .NotEq (.ref a) (.ref b)) Q E s := by
  by_cases hl : ns.length = ms.length
  · refine ne_lists (e := fun j => ns.getD j Str.empty == ms.getD j Str.empty) ha hb (by rw [hi.length, hj.length, hl]) hu (fun j h1 h2 => ?_) (by rw [hi.length, strs_all hl]; exact h)
    have g1 : j < ns.length := by rw [← hi.length]; exact h1
    have g2 : j < ms.length := by rw [← hj.length]; exact h2
    obtain ⟨t, e1⟩ := hi.get j (ns[j]) (List.getElem?_eq_getElem g1)
    obtain ⟨u, e2⟩ := hj.get j (ms[j]) (List.getElem?_eq_getElem g2)
    have q1 : xs[j] = .str ns[j] t := Option.some.inj ((List.getElem?_eq_getElem h1).symm.trans e1)
    have q2 : ys[j] = .str ms[j] u := Option.some.inj ((List.getElem?_eq_getElem h2).symm.trans e2)
    rw [q1, q2]
    have g3 : ns.getD j Str.empty = ns[j] := by simp [List.getD, g1]
    have g4 : ms.getD j Str.empty = ms[j] := by simp [List.getD, g2]
    rw [g3, g4]
    exact SeqAt.EqAt.str_str _ _ _ _
  · refine ne_lists_len ha hb (by rw [hi.length, hj.length]; exact hl) hu ?_
    have : (!decide (ns = ms)) = true := by
      rw [Bool.not_eq_true', decide_eq_false_iff_not]
      rintro rfl; exact hl rfl
    rw [this] at h; exact h
end
end Mine
namespace Mine
/-- the names of a list as one map holds them, the others as another -/
def mixN : List Str → (Str → Option Value) → (Str → Option Value) → Str → Option Value
  | [], _, m₀ => m₀
  | x :: r, a, m₀ => fun z => if z = x then a x else mixN r a m₀ z
theorem mixN_at (a m₀ : Str → Option Value) : ∀ (ns : List Str) (z : Str), (z ∉ ns → a z = m₀ z) → a z = mixN ns a m₀ z
  | [], z, h => h (by simp)
  | x :: r, z, h => by
    show a z = if z = x then a x else mixN r a m₀ z
    by_cases e : z = x
    · rw [if_pos e, e]
    · rw [if_neg e]
      exact mixN_at a m₀ r z fun hr => h fun hc => by
        rcases List.mem_cons.mp hc with q | q
        · exact e q
        · exact hr q
theorem mixN_eq {ns : List Str} {a m₀ : Str → Option Value} (h : ∀ z, z ∉ ns → a z = m₀ z) : a = mixN ns a m₀ := funext fun z => mixN_at a m₀ ns z (h z)
/-- a turn's end in a loop over a list -/
def ItEnd (h₀ : Heap) (L : Addr) (m₀ : Str → Option Value) (ns : List Str) (ads : List Addr) (src : Addr × Obj) (I : Addr) (o : Obj) (P : (Str → Option Value) → List (Addr × Obj) → Prop) (s₁ s₂ : Shared) : Prop :=
  ∃ h' tk m' nw, s₂ = { s₁ with heap := h', toks := tk } ∧ Fr h₀ L h' m' ∧ News h₀ L h' ((I, o) :: nw) ∧ nw.map (·.1) = ads ∧ src ∈ nw ∧ (∀ z, z ∉ ns → m' z = m₀ z) ∧ P m' nw
def ItPost (h₀ : Heap) (L : Addr) (m₀ : Str → Option Value) (ns : List Str) (ads : List Addr) (src : Addr × Obj) (I : Addr) (o : Obj) (P : (Str → Option Value) → List (Addr × Obj) → Prop) (s₁ : Shared) (Q : Flow → Shared → Prop) (f : Flow) (s₂ : Shared) : Prop :=
  match f with
  | .ret v => Q (.ret v) s₂
  | .brk => Q .next s₂
  | _ => ItEnd h₀ L m₀ ns ads src I o P s₁ s₂
theorem lt_of_ads {news nw : List (Addr × Obj)} {I : Addr} (h : ∀ p ∈ news, p.1 < I) (e : nw.map (·.1) = news.map (·.1)) : ∀ p ∈ nw, p.1 < I := fun p hp => by
  have h1 : p.1 ∈ news.map (·.1) := by rw [← e]; exact List.mem_map.mpr ⟨p, hp, rfl⟩
  obtain ⟨q, hq, eq⟩ := List.mem_map.mp h1
  rw [← eq]; exact h q hq
section
variable {prog : Program} {w : World} {A : Around} {E : Value → Shared → Prop} {s : Shared} {env : Env} {h₀ : Heap} {target : Expr} {body : List Stmt} {Q : Flow → Shared → Prop}
theorem list_turns {ax : Addr} {vs : List Value} {c : Nat} {m₀ : Str → Option Value} {news : List (Addr × Obj)} (P : Nat → (Str → Option Value) → List (Addr × Obj) → Prop) (ns : List Str)
    (hh : A.handled = none) (F : Fr h₀ env.locals s.heap m₀) (N : News h₀ env.locals s.heap news) (hm : (ax, listOf vs.toArray c) ∈ news) (h0 : P 0 m₀ news)
    (turn : ∀ (i : Nat) v m₁ nw I o h tk, vs[i]? = some v → P i m₁ nw → o.cls = .type "list_iterator" → nw.map (·.1) = news.map (·.1) → (ax, listOf vs.toArray c) ∈ nw → (∀ p ∈ nw, p.1 < I) → Fr h₀ env.locals h (mixN ns m₁ m₀) → News h₀ env.locals h ((I, o) :: nw) →
      wpAny (model prog w) A (assign target env v) (fun _ s₂ => wpAny (model prog w) A (execs body env) (ItPost h₀ env.locals m₀ ns (news.map (·.1)) (ax, listOf vs.toArray c) I o (P (i + 1)) { s with heap := h, toks := tk } Q) E s₂) E { s with heap := h, toks := tk })
    (done : ∀ m₁ nw h tk, P vs.length m₁ nw → nw.map (·.1) = news.map (·.1) → (ax, listOf vs.toArray c) ∈ nw → Fr h₀ env.locals h (mixN ns m₁ m₀) → News h₀ env.locals h nw → Q .next { s with heap := h, toks := tk }) :
    wpAny (model prog w) A (pyIter (.ref ax)) (fun it s₂ => TurnsAt prog w A h₀ env target body Q E it s₂) E s := by
  refine iter_listTurns (lo := listOf vs.toArray c) hh F N hm rfl rfl fun I hI => ?_
  have key : ∀ (us : List Value) (i : Nat) m₁ nw, i ≤ vs.length → vs.drop i = us → P i m₁ nw → nw.map (·.1) = news.map (·.1) → (ax, listOf vs.toArray c) ∈ nw → (∀ z, z ∉ ns → m₁ z = m₀ z) →
      ItemsRest prog w A E h₀ env target body Q s [(I, "list_iterator")] [(ax, listOf vs.toArray c)] (us.map .val) m₁ nw := by
    intro us
    induction us with
    | nil =>
      intro i m₁ nw hiv hd hP he hmem hz
      refine ItemsRest.zero fun h tk F₁ N₁ => ?_
      have hl : vs.length ≤ i := List.drop_eq_nil_iff.mp hd
      have e : i = vs.length := by omega
      subst e
      refine done m₁ nw h tk hP he hmem ?_ N₁
      rw [← mixN_eq hz]; exact F₁
    | cons u us ih =>
      intro i m₁ nw hiv hd hP he hmem hz
      refine ItemsRest.val fun h tk F₁ => AllObj.cons fun o hc => AllObj.nil fun N₁ => ?_
      have hlt := lt_of_ads hI he
      have hu : vs[i]? = some u := by
        have : (vs.drop i)[0]? = some u := by rw [hd]; rfl
        rwa [List.getElem?_drop] at this
      have hd' : vs.drop (i + 1) = us := by
        have : (vs.drop i).drop 1 = us := by rw [hd]; rfl
        rwa [List.drop_drop] at this
      refine wpAny_mono (turn i u m₁ nw I o h tk hu hP hc he hmem hlt (by rw [← mixN_eq hz]; exact F₁) N₁) (fun _ s₂ p => wpAny_mono p (fun f s₃ q => ?_) fun _ _ e => e) fun _ _ e => e
      have fin : ItEnd h₀ env.locals m₀ ns (news.map (·.1)) (ax, listOf vs.toArray c) I o (P (i + 1)) { s with heap := h, toks := tk } s₃ →
          UnrEndW h₀ env.locals { s with heap := h, toks := tk } [(I, o)] (fun m' n' => SubL [(ax, listOf vs.toArray c)] n' ∧ ItemsRest prog w A E h₀ env target body Q s [(I, "list_iterator")] [(ax, listOf vs.toArray c)] (us.map .val) m' n') s₃ := by
        rintro ⟨h', tk', m', nw', e, F', N', he', hmem', hz', hP'⟩
        refine ⟨h', tk', m', nw', e, F', N', ?_, ⟨hmem', trivial⟩, ih (i + 1) m' nw' (List.getElem?_eq_some_iff.mp hu).1 hd' hP' he' hmem' hz'⟩
        intro p hp q hq
        rw [List.mem_singleton.mp hq]
        exact Nat.ne_of_lt (lt_of_ads hI he' p hp)
      cases f with
      | ret v => exact q
      | brk => exact q
      | next => exact fin q
      | cont => exact fin q
  exact key vs 0 m₀ news (Nat.zero_le _) rfl h0 rfl hm fun _ _ => rfl
end
/-- a ledger of sequences and cells: no iterator -/
def AllSeq (nw : List (Addr × Obj)) : Prop := ∀ p ∈ nw, ∀ fs, p.2.data ≠ .fields fs
theorem AllSeq.nil : AllSeq [] := fun _ h => nomatch h
theorem AllSeq.consN {p : Addr × Obj} {nw : List (Addr × Obj)} (h : ∀ fs, p.2.data ≠ .fields fs) (hs : AllSeq nw) : AllSeq (p :: nw) := fun q hq => by
  rcases List.mem_cons.mp hq with rfl | hq
  · exact h
  · exact hs q hq
theorem AllSeq.append {a b : List (Addr × Obj)} (h : AllSeq a) (hs : AllSeq b) : AllSeq (a ++ b) := fun q hq => (List.mem_append.mp hq).elim (h q) (hs q)
/-- a turn's end in a loop over a range whose ledger may grow -/
def GrEnd (h₀ : Heap) (L : Addr) (m₀ : Str → Option Value) (ns : List Str) (I : Addr) (o : Obj) (P : (Str → Option Value) → List (Addr × Obj) → Prop) (s₁ s₂ : Shared) : Prop :=
  ∃ h' tk m' nw, s₂ = { s₁ with heap := h', toks := tk } ∧ Fr h₀ L h' m' ∧ News h₀ L h' ((I, o) :: nw) ∧ AllSeq nw ∧ (∀ z, z ∉ ns → m' z = m₀ z) ∧ P m' nw
def GrPost (h₀ : Heap) (L : Addr) (m₀ : Str → Option Value) (ns : List Str) (I : Addr) (o : Obj) (P : (Str → Option Value) → List (Addr × Obj) → Prop) (s₁ : Shared) (Q : Flow → Shared → Prop) (f : Flow) (s₂ : Shared) : Prop :=
  match f with
  | .ret v => Q (.ret v) s₂
  | .brk => Q .next s₂
  | _ => GrEnd h₀ L m₀ ns I o P s₁ s₂
section
variable {prog : Program} {w : World} {A : Around} {E : Value → Shared → Prop} {s : Shared} {env : Env} {h₀ : Heap} {x : Str} {body : List Stmt} {Q : Flow → Shared → Prop}
theorem range_turns {r : Addr} {b₀ : Int} {t₀ u₀ v₀ : Tok} {n : Nat} {m₀ : Str → Option Value} {news : List (Addr × Obj)} (P : Nat → (Str → Option Value) → List (Addr × Obj) → Prop) (ns : List Str)
    (hh : A.handled = none) (hr : IsRange s.heap r 0 b₀ 1 t₀ u₀ v₀) (hsmall : Builtin.Range.small 0 b₀ 1 = true) (hn : Builtin.Range.rangeSize 0 b₀ 1 = (n : Int)) (F : Fr h₀ env.locals s.heap m₀) (N : News h₀ env.locals s.heap news) (hx : x ∈ ns) (h0 : P 0 m₀ news) (hs0 : AllSeq news)
    (turn : ∀ (i : Nat) t m₁ nw I o h tk, i < n → P i m₁ nw → AllSeq nw → (∃ fs, o.data = .fields fs) → Fr h₀ env.locals h (fun z => if z = x then some (.int (i : Int) t) else mixN ns m₁ m₀ z) → News h₀ env.locals h ((I, o) :: nw) →
      wpAny (model prog w) A (execs body env) (GrPost h₀ env.locals m₀ ns I o (P (i + 1)) { s with heap := h, toks := tk } Q) E { s with heap := h, toks := tk })
    (done : ∀ m₁ nw h tk, P n m₁ nw → AllSeq nw → Fr h₀ env.locals h (mixN ns m₁ m₀) → News h₀ env.locals h nw → Q .next { s with heap := h, toks := tk }) :
    wpAny (model prog w) A (pyIter (.ref r)) (fun it s₂ => LoopAtV prog w A h₀ env x body Q E it s₂) E s := by
  refine wpAny_pyIter_range hr hsmall ?_
  have W : Walks prog w A s.heap.objs.size [s.heap.objs.size] [s.heap.objs.size] n (fun i v => i < n ∧ ∃ t, v = .int (0 + i * 1) t)
      (fun i h => IsRangeIter h s.heap.objs.size (0 + (i : Nat) * 1) ((n : Int) - (i : Nat)) 1) := (Walks.range hh _ 0 1 n).bound
  refine ⟨s.heap.objs.size, _, _, n, _, _, m₀, news, fun i m nw => P i m nw ∧ AllSeq nw ∧ ∀ z, z ∉ ns → m z = m₀ z, rfl, W, ?_, ?_, ?_, ?_, F.push _, fun p hp => ⟨Heap.get?_push_of_some _ (N p hp).1, (N p hp).2⟩, ⟨h0, hs0, fun _ _ => rfl⟩, ?_, ?_⟩
  · intro hm
    exact absurd F.ns.lt ((List.mem_singleton.mp hm) ▸ Nat.lt_irrefl _)
  · intro b hb
    rw [List.mem_singleton.mp hb]
    exact next_is_new F
  · intro p hp hI
    exact absurd (Heap.lt_size (N p hp).1) ((List.mem_singleton.mp hI) ▸ Nat.lt_irrefl _)
  · show IsRangeIter _ _ _ _ _
    rw [hn]; simpa using Heap.get?_push_size _ rfl
  · rintro i v m₁ nw s₁ own ⟨h, tk, rfl⟩ hi ⟨_, t, rfl⟩ ⟨hP, hsq, hz⟩ hnw hown hget hall hst F₁ N₁
    have e1 : (0 : Int) + (i : Int) * 1 = (i : Int) := by omega
    rw [e1] at F₁
    rw [mixN_eq hz] at F₁
    obtain ⟨oI, hoI, hcl⟩ : ∃ o : Obj, h.get? s.heap.objs.size = some o ∧ ∃ fs, o.data = .fields fs := ⟨_, hst, _, rfl⟩
    have hmem := hall s.heap.objs.size (List.mem_singleton.mpr rfl) (next_is_new F) oI hoI
    refine wpAny_mono (turn i t m₁ nw s.heap.objs.size oI h tk hi hP hsq hcl F₁ (fun p hp => ?_)) (fun f s₂ q => ?_) fun _ _ e => e
    · rcases List.mem_cons.mp hp with rfl | hp
      · exact N₁ _ (List.mem_append_left _ hmem)
      · exact N₁ _ (List.mem_append_right _ hp)
    · have fin : GrEnd h₀ env.locals m₀ ns s.heap.objs.size oI (P (i + 1)) { s with heap := h, toks := tk } s₂ → LoopStepU h₀ env.locals [s.heap.objs.size] own (fun m nw => P (i + 1) m nw ∧ AllSeq nw ∧ ∀ z, z ∉ ns → m z = m₀ z) { s with heap := h, toks := tk } .next s₂ := by
        rintro ⟨h', tk', m', nw', e, F', N', hsq', hz', hP'⟩
        have hI := N' _ List.mem_cons_self
        refine ⟨rfl, h', tk', m', nw', e, F', ?_, ?_, hP', hsq', hz'⟩
        · rintro ⟨pa, po⟩ hp
          rcases List.mem_append.mp hp with hp | hp
          · have h1 : pa = s.heap.objs.size := List.mem_singleton.mp (hown _ hp)
            subst h1
            have h2 : h.get? s.heap.objs.size = some po := hget _ hp
            have h4 := Option.some.inj (h2.symm.trans hoI)
            subst h4
            exact hI
          · exact N' _ (List.mem_cons_of_mem _ hp)
        · intro p hp hq
          have h1 := (N' _ (List.mem_cons_of_mem _ hp)).1
          rw [List.mem_singleton.mp hq, hI.1] at h1
          have h2 := Option.some.inj h1
          obtain ⟨fs, hfs⟩ := hcl
          exact hsq' p hp fs (by rw [← h2]; exact hfs)
      cases f with
      | ret v => exact q
      | brk => exact q
      | next => exact fin q
      | cont => exact fin q
  · rintro h' tk m' nw' F' N' _ ⟨hP', hsq', hz'⟩
    exact done m' nw' h' tk hP' hsq' (by rw [← mixN_eq hz']; exact F') N'
end
end Mine
namespace Mine
section
variable {prog : Program} {w : World} {A : Around} {E : Value → Shared → Prop} {s : Shared} {Q : Value → Shared → Prop} {value slice : Expr} {a : Addr} {vs : List Value} {ns : List Int} {ys : List Str} {k : Int} {u : Tok}
/-- a tuple of ints at a place told by a number -/
theorem itemT_ints (ht : IsTup s.heap a vs.toArray) (hi : IntsAre vs ns) (h0 : 0 ≤ k) (h1 : k < ns.length) (hz : (ns.length : Int) < 2 ^ 63) (h : ∀ t, Q (.int (ns.getD k.toNat 0) t) s)
    (hs : subscripted slice false (.ref a) (.int k u) = operate [.ref a, .int k u] (getItem (.ref a) (.int k u)) := by with_unfolding_all rfl) :
    wpAny (model prog w) A (subscriptTail value slice (.ref a) (.int k u)) Q E s := by
  have hl : vs.length = ns.length := hi.length
  obtain ⟨t, e⟩ := hi.get k.toNat (ns.getD k.toNat 0) (by rw [List.getD_eq_getElem?_getD, List.getElem?_eq_getElem (by omega)]; rfl)
  exact item_tupleT ht (by omega) (by omega) (j := k.toNat) (StrLaws.seqIndex_nonneg h0 (by omega)) e (h t) hs
theorem itemT_strs (ht : IsTup s.heap a vs.toArray) (hi : StrsAre vs ys) (h0 : 0 ≤ k) (h1 : k < ys.length) (hz : (ys.length : Int) < 2 ^ 63) (h : ∀ t, Q (.str (ys.getD k.toNat Str.empty) t) s)
    (hs : subscripted slice false (.ref a) (.int k u) = operate [.ref a, .int k u] (getItem (.ref a) (.int k u)) := by with_unfolding_all rfl) :
    wpAny (model prog w) A (subscriptTail value slice (.ref a) (.int k u)) Q E s := by
  have hl : vs.length = ys.length := hi.length
  obtain ⟨t, e⟩ := hi.get k.toNat (ys.getD k.toNat Str.empty) (by rw [List.getD_eq_getElem?_getD, List.getElem?_eq_getElem (by omega)]; rfl)
  exact item_tupleT ht (by omega) (by omega) (j := k.toNat) (StrLaws.seqIndex_nonneg h0 (by omega)) e (h t) hs
theorem itemL_strs (hl : s.heap.IsList a vs.toArray) (hi : StrsAre vs ys) (h0 : 0 ≤ k) (h1 : k < ys.length) (hz : (ys.length : Int) < 2 ^ 63) (h : ∀ t, Q (.str (ys.getD k.toNat Str.empty) t) s)
    (hs : subscripted slice false (.ref a) (.int k u) = operate [.ref a, .int k u] (getItem (.ref a) (.int k u)) := by with_unfolding_all rfl) :
    wpAny (model prog w) A (subscriptTail value slice (.ref a) (.int k u)) Q E s := by
  have hl' : vs.length = ys.length := hi.length
  obtain ⟨t, e⟩ := hi.get k.toNat (ys.getD k.toNat Str.empty) (by rw [List.getD_eq_getElem?_getD, List.getElem?_eq_getElem (by omega)]; rfl)
  exact item_litK hl h0 (by omega) e (h t) hs
section
variable {a b : Int} {t : Tok} {h₀ : Heap} {L : Addr} {m : Str → Option Value} {news : List (Addr × Obj)}
theorem max_sym (hh : A.handled = none) (F : Fr h₀ L s.heap m) (N : News h₀ L s.heap news) (h : ∀ h' tk t', Fr h₀ L h' m → News h₀ L h' news → Q (.int (max a b) t') { s with heap := h', toks := tk }) :
    wpAny (model prog w) A (call (.builtin "max") [.int a t, .int b u]) Q E s := by
  refine max_two_ints hh fun h' tk hk => ?_
  by_cases hc : b > a
  · have e : max a b = b := by omega
    have q := h h' tk u (F.keeps hk) (N.grown hk)
    rw [e] at q; rw [if_pos hc]; exact q
  · have e : max a b = a := by omega
    have q := h h' tk t (F.keeps hk) (N.grown hk)
    rw [e] at q; rw [if_neg hc]; exact q
theorem min_sym (hh : A.handled = none) (F : Fr h₀ L s.heap m) (N : News h₀ L s.heap news) (h : ∀ h' tk t', Fr h₀ L h' m → News h₀ L h' news → Q (.int (min a b) t') { s with heap := h', toks := tk }) :
    wpAny (model prog w) A (call (.builtin "min") [.int a t, .int b u]) Q E s := by
  refine min_two_ints hh fun h' tk hk => ?_
  by_cases hc : b < a
  · have e : min a b = b := by omega
    have q := h h' tk u (F.keeps hk) (N.grown hk)
    rw [e] at q; rw [if_pos hc]; exact q
  · have e : min a b = a := by omega
    have q := h h' tk t (F.keeps hk) (N.grown hk)
    rw [e] at q; rw [if_neg hc]; exact q
end
/-- one statement whose ends all say the same -/
theorem join1 {M : Model} {st : Stmt} {rest : List Stmt} {env : Env} {R : Flow → Shared → Prop} (Mid : Shared → Prop) (h : wpAny M A (exec st env) (fun f s' => f = .next ∧ Mid s') E s)
    (k : ∀ s', Mid s' → wpAny M A (execs rest env) R E s') : wpAny M A (execs (st :: rest) env) R E s :=
  wpAny_execs_cons (wpAny_mono h (fun f s' hf => by obtain ⟨rfl, hm⟩ := hf; exact k s' hm) fun _ _ e => e)
end
end Mine
namespace Mine
/-- an element of a comprehension that is told by a word of its place; the ledger stands -/
def ElOk (news : List (Addr × Obj)) (V : Value → Prop) (y : Value) (news' : List (Addr × Obj)) : Prop := news' = news ∧ V y
section
variable {prog : Program} {w : World} {A : Around} {h₀ : Heap} {L : Addr} {m : Str → Option Value} {env : Env} {ct elt : Expr} {x : Str} {scope : Scope} {cl : List (Str × Addr)} {s : Shared} {S : List (Addr × Obj) → Prop} {P : Nat → Value → Prop} {Fin : List Value → List (Addr × Obj) → Prop} {news : List (Addr × Obj)}
theorem el_rest {n : Nat} (V : Nat → Value → Prop)
    (turn : ∀ i v I oI C oC D m₂ ys h tk (E' : Value → Shared → Prop), i < n → P i v → LCg.NsObj oC m₂ → m₂ x = some v → Fr h₀ L h m → News h₀ L h ((I, oI) :: (C, oC) :: (D, LCg.lst ys) :: news) → LCg.Off3 I C D news → ((@Ne Nat I C) ∧ (@Ne Nat I D) ∧ (@Ne Nat C D)) →
      wpAny (model prog w) A (eval elt (compEnvC scope cl C env)) (LCg.CompEnd h₀ L m { s with heap := h, toks := tk } I oI C oC D (LCg.lst ys) S (fun y news' => ElOk news (V i) y news')) E' { s with heap := h, toks := tk })
    (fin : ∀ ys, ys.length = n → (∀ i y, ys[i]? = some y → V i y) → Fin ys news) : LCg.CompRest prog w A h₀ L m env elt x scope cl s S P Fin n 0 [] news := by
  have key : ∀ (j i : Nat) (ys : List Value), i + j = n → ys.length = i → (∀ k y, ys[k]? = some y → V k y) → LCg.CompRest prog w A h₀ L m env elt x scope cl s S P Fin j i ys news := by
    intro j
    induction j with
    | zero =>
      intro i ys hi hl hy
      exact LCg.CompRest.zero (fin ys (by omega) hy)
    | succ j ih =>
      intro i ys hi hl hy
      refine LCg.CompRest.succ ?_
      intro v I oI C oC D m₂ h tk E' hv hC hx F N off ne
      refine wpAny_mono (turn i v I oI C oC D m₂ ys h tk E' (by omega) hv hC hx F N off ne) (fun y s₂ hq => ?_) fun _ _ e => e
      obtain ⟨h', tk', nw, e, F', N', off', hS, hn, hV⟩ := hq
      rw [hn] at N' off' hS
      refine ⟨h', tk', news, e, F', N', off', hS, ih (i + 1) _ (by omega) (by rw [List.length_append, List.length_singleton, hl]) ?_⟩
      intro k z hk
      rcases Nat.lt_or_ge k ys.length with hlt | hge
      · rw [List.getElem?_append_left hlt] at hk
        exact hy k z hk
      · rw [List.getElem?_append_right hge] at hk
        have hk0 : k - ys.length = 0 := by
          rcases Nat.eq_zero_or_pos (k - ys.length) with h0 | h0
          · exact h0
          · rw [List.getElem?_eq_none (by rw [List.length_singleton]; exact h0)] at hk; cases hk
        rw [hk0] at hk
        have e1 : z = y := by simpa using hk.symm
        have e2 : k = i := by omega
        rw [e1, e2]; exact hV
  exact key n 0 [] (by omega) rfl (by intro k y hk; simp at hk)
/-- a comprehension whose ledger grows: a word of what was made so far -/
def GrEl (R : List Value → List (Addr × Obj) → Prop) (ys : List Value) (y : Value) (news' : List (Addr × Obj)) : Prop := R (ys ++ [y]) news'
theorem gr_rest {n : Nat} (R : Nat → List Value → List (Addr × Obj) → Prop) (h0 : R 0 [] news)
    (turn : ∀ i v I oI C oC D m₂ ys nw h tk (E' : Value → Shared → Prop), i < n → P i v → R i ys nw → LCg.NsObj oC m₂ → m₂ x = some v → Fr h₀ L h m → News h₀ L h ((I, oI) :: (C, oC) :: (D, LCg.lst ys) :: nw) → LCg.Off3 I C D nw → ((@Ne Nat I C) ∧ (@Ne Nat I D) ∧ (@Ne Nat C D)) →
      wpAny (model prog w) A (eval elt (compEnvC scope cl C env)) (LCg.CompEnd h₀ L m { s with heap := h, toks := tk } I oI C oC D (LCg.lst ys) S (fun y news' => GrEl (R (i + 1)) ys y news')) E' { s with heap := h, toks := tk })
    (fin : ∀ ys nw, R n ys nw → Fin ys nw) : LCg.CompRest prog w A h₀ L m env elt x scope cl s S P Fin n 0 [] news := by
  have key : ∀ (j i : Nat) (ys : List Value) (nw : List (Addr × Obj)), i + j = n → R i ys nw → LCg.CompRest prog w A h₀ L m env elt x scope cl s S P Fin j i ys nw := by
    intro j
    induction j with
    | zero =>
      intro i ys nw hi hR
      have : i = n := by omega
      subst this
      exact LCg.CompRest.zero (fin ys nw hR)
    | succ j ih =>
      intro i ys nw hi hR
      refine LCg.CompRest.succ ?_
      intro v I oI C oC D m₂ h tk E' hv hC hx F N off ne
      refine wpAny_mono (turn i v I oI C oC D m₂ ys nw h tk E' (by omega) hv hR hC hx F N off ne) (fun y s₂ hq => ?_) fun _ _ e => e
      obtain ⟨h', tk', nw', e, F', N', off', hS, hV⟩ := hq
      exact ⟨h', tk', nw', e, F', N', off', hS, ih (i + 1) _ nw' (by omega) hV⟩
  exact key n 0 [] news (by omega) h0
/-- a comprehension with a test; the ledger stands -/
def TkEl (news : List (Addr × Obj)) (R : List Value → Prop) (ys : List Value) (y : Value) (news' : List (Addr × Obj)) : Prop := news' = news ∧ R (ys ++ [y])
def TkNo (news : List (Addr × Obj)) (R : List Value → Prop) (ys : List Value) (news' : List (Addr × Obj)) : Prop := news' = news ∧ R ys
theorem tk_rest {n : Nat} (R : Nat → List Value → Prop) (h0 : R 0 [])
    (turn : ∀ i v I oI C oC D m₂ ys h tk (E' : Value → Shared → Prop), i < n → P i v → R i ys → LCg.NsObj oC m₂ → m₂ x = some v → Fr h₀ L h m → News h₀ L h ((I, oI) :: (C, oC) :: (D, LCg.lst ys) :: news) → LCg.Off3 I C D news → ((@Ne Nat I C) ∧ (@Ne Nat I D) ∧ (@Ne Nat C D)) →
      wpAny (model prog w) A (isTrue ct (compEnvC scope cl C env) (eval ct (compEnvC scope cl C env))) (fun b s' => if b = true then wpAny (model prog w) A (eval elt (compEnvC scope cl C env)) (LCg.CompEnd h₀ L m { s with heap := h, toks := tk } I oI C oC D (LCg.lst ys) S (fun y news' => TkEl news (R (i + 1)) ys y news')) E' s'
        else LCg.CompEnd h₀ L m { s with heap := h, toks := tk } I oI C oC D (LCg.lst ys) S (fun _ news' => TkNo news (R (i + 1)) ys news') Value.none s') E' { s with heap := h, toks := tk })
    (fin : ∀ ys, R n ys → Fin ys news) : LCt.CompRestT prog w A h₀ L m env ct elt x scope cl s S P Fin n 0 [] news := by
  have key : ∀ (j i : Nat) (ys : List Value), i + j = n → R i ys → LCt.CompRestT prog w A h₀ L m env ct elt x scope cl s S P Fin j i ys news := by
    intro j
    induction j with
    | zero =>
      intro i ys hi hR
      have : i = n := by omega
      subst this
      exact LCt.CompRestT.zero (fin ys hR)
    | succ j ih =>
      intro i ys hi hR
      refine LCt.CompRestT.succ ?_
      intro v I oI C oC D m₂ h tk E' hv hC hx F N off ne
      refine wpAny_mono (turn i v I oI C oC D m₂ ys h tk E' (by omega) hv hR hC hx F N off ne) (fun b s₂ hq => ?_) fun _ _ e => e
      cases b with
      | true =>
        simp only [if_true] at hq ⊢
        refine wpAny_mono hq (fun y s₃ hr => ?_) fun _ _ e => e
        obtain ⟨h', tk', nw, e, F', N', off', hS, hnw, hV⟩ := hr
        rw [hnw] at N' off' hS
        exact ⟨h', tk', news, e, F', N', off', hS, ih (i + 1) _ (by omega) hV⟩
      | false =>
        simp only [Bool.false_eq_true, if_false] at hq ⊢
        obtain ⟨h', tk', nw, e, F', N', off', hS, hnw, hV⟩ := hq
        rw [hnw] at N' off' hS
        exact ⟨h', tk', news, e, F', N', off', hS, ih (i + 1) _ (by omega) hV⟩
  exact key n 0 [] (by omega) h0
end
end Mine
set_option maxRecDepth 100000
set_option maxHeartbeats 8000000
namespace Mine
open_top hd for PySem.Challenge.rw_k15_0030
end Mine
namespace Mine
abbrev S (x : String) : Str := Str.ofString x
/-- where the walk is to stop and wait for a hand -/
def Hold (P : Prop) : Prop := P
theorem Hold.out {P : Prop} (h : Hold P) : P := h
theorem Hold.mk {P : Prop} (h : P) : Hold P := h
/-- a tuple's object, whatever else it holds -/
def TupO (o : Obj) (items : Array Value) : Prop := o.cls = .type "tuple" ∧ ∃ n, o.data = .seq items n
theorem TupO.isTup {h₀ h : Heap} {L T : Addr} {o : Obj} {news : List (Addr × Obj)} {items : Array Value} (ho : TupO o items) (N : News h₀ L h news) (hm : (T, o) ∈ news) : IsTup h T items := ⟨o, (N _ hm).1, ho.1, ho.2⟩
/-- place for place -/
def Alls {α : Type} (R : Value → α → Prop) (vs : List Value) (as : List α) : Prop := vs.length = as.length ∧ ∀ (i : Nat) v, vs[i]? = some v → ∃ a, as[i]? = some a ∧ R v a
section
variable {α : Type} {R R' : Value → α → Prop}
theorem Alls.nil : Alls R [] [] := ⟨rfl, fun i v h => by simp at h⟩
theorem Alls.cons {v : Value} {vs : List Value} {t : α} {ts : List α} (h : R v t) (hs : Alls R vs ts) : Alls R (v :: vs) (t :: ts) := by
  refine ⟨by simp [hs.1], fun i u hu => ?_⟩
  cases i with
  | zero =>
    have e : v = u := by simpa using hu
    exact ⟨t, rfl, e ▸ h⟩
  | succ i => exact hs.2 i u (by simpa using hu)
theorem Alls.append : ∀ {vs : List Value} {ts : List α} {us : List Value} {rs : List α}, Alls R vs ts → Alls R us rs → Alls R (vs ++ us) (ts ++ rs)
  | [], [], _, _, _, h => h
  | [], _ :: _, _, _, h, _ => by have := h.1; simp at this
  | _ :: _, [], _, _, h, _ => by have := h.1; simp at this
  | v :: vs, t :: ts, us, rs, h, h2 => by
    have h0 : R v t := by
      obtain ⟨t', e, h'⟩ := h.2 0 v rfl
      have q : t = t' := by simpa using e
      exact q ▸ h'
    have hr : Alls R vs ts := ⟨by have := h.1; simpa using this, fun i u hu => h.2 (i + 1) u (by simpa using hu)⟩
    exact .cons h0 (hr.append h2)
theorem Alls.mono {vs : List Value} {ts : List α} (h : Alls R vs ts) (hs : ∀ v a, R v a → R' v a) : Alls R' vs ts :=
  ⟨h.1, fun i v hv => by obtain ⟨t, e, ht⟩ := h.2 i v hv; exact ⟨t, e, hs _ _ ht⟩⟩
end
abbrev Tr := Str × Int × Str
abbrev Stm := Str × Str × List Tr
def Tri (news : List (Addr × Obj)) (v : Value) (t : Tr) : Prop := ∃ T o t1 t2 t3, v = .ref T ∧ (T, o) ∈ news ∧ TupO o #[.str t.1 t1, .int t.2.1 t2, .str t.2.2 t3]
def StmAt (news : List (Addr × Obj)) (v : Value) (st : Stm) : Prop := ∃ T o t1 t2 l c vs, v = .ref T ∧ (T, o) ∈ news ∧ TupO o #[.str st.1 t1, .str st.2.1 t2, .ref l] ∧ (l, listOf (List.toArray vs) c) ∈ news ∧ Alls (Tri news) vs st.2.2 ∧ vs.length ≤ 4
theorem Tri.sub {a b : List (Addr × Obj)} (hs : ∀ p ∈ a, p ∈ b) (v : Value) (t : Tr) (h : Tri a v t) : Tri b v t := by
  obtain ⟨T, o, t1, t2, t3, e, hm, hT⟩ := h
  exact ⟨T, o, t1, t2, t3, e, hs _ hm, hT⟩
theorem StmAt.sub {a b : List (Addr × Obj)} (hs : ∀ p ∈ a, p ∈ b) (v : Value) (t : Stm) (h : StmAt a v t) : StmAt b v t := by
  obtain ⟨T, o, t1, t2, l, c, vs, e, hm, hT, hl, ha, hz⟩ := h
  exact ⟨T, o, t1, t2, l, c, vs, e, hs _ hm, hT, hs _ hl, ha.mono (Tri.sub hs), hz⟩
def varsOf (ts : List Tr) : List Str := (ts.filter (fun t => t.1 == S "var")).map (·.2.2)
def usedOf (st : Stm) : List Str := varsOf st.2.2 ++ if st.1 == S "set" then [st.2.1] else []
theorem dedup_add (l : List Str) (x : Str) : dedup (l ++ [x]) = addS (dedup l) x := by unfold dedup; rw [List.foldl_append]; rfl
theorem vars_snoc (ts : List Tr) (t : Tr) : varsOf (ts ++ [t]) = varsOf ts ++ if t.1 == S "var" then [t.2.2] else [] := by
  unfold varsOf
  rw [List.filter_append, List.map_append, List.filter_cons]
  congr 1
  split <;> rfl
theorem vars_len (ts : List Tr) : (varsOf ts).length ≤ ts.length := by unfold varsOf; rw [List.length_map]; exact List.length_filter_le _ _
theorem used_len {st : Stm} (h : st.2.2.length ≤ 4) : (usedOf st).length ≤ 5 := by
  unfold usedOf
  have := vars_len st.2.2
  rw [List.length_append]
  split <;> simp <;> omega
theorem flat_len {sts : List Stm} (h : ∀ st ∈ sts, st.2.2.length ≤ 4) : (sts.flatMap usedOf).length ≤ 5 * sts.length := by
  induction sts with
  | nil => simp
  | cons a l ih =>
    rw [List.flatMap_cons, List.length_append, List.length_cons]
    have h1 := used_len (h a (List.mem_cons_self ..))
    have h2 := ih fun st hs => h st (List.mem_cons_of_mem _ hs)
    omega
/-- new objects: sequences all -/
def Seqs (own : List (Addr × Obj)) : Prop := ∀ p ∈ own, ∃ a n, p.2.data = .seq a n
theorem Seqs.nil : Seqs [] := fun _ h => nomatch h
theorem Seqs.cons {p : Addr × Obj} {l : List (Addr × Obj)} (h : ∃ a n, p.2.data = .seq a n) (hs : Seqs l) : Seqs (p :: l) := fun q hq => by
  rcases List.mem_cons.mp hq with rfl | hq
  · exact h
  · exact hs q hq
theorem Seqs.append {a b : List (Addr × Obj)} (h : Seqs a) (hs : Seqs b) : Seqs (a ++ b) := fun q hq => (List.mem_append.mp hq).elim (h q) (hs q)
theorem Seqs.all {l : List (Addr × Obj)} (h : Seqs l) : AllSeq l := fun p hp fs e => by
  obtain ⟨a, n, e'⟩ := h p hp
  rw [e] at e'; cases e'
/-- a list's head part ahead of another -/
inductive Pre (news : List (Addr × Obj)) : List (Addr × Obj) → List (Addr × Obj) → Prop
  | nil : Pre news [] news
  | cons {p own l} : Pre news own l → Pre news (p :: own) (p :: l)
theorem Pre.eq {news own l : List (Addr × Obj)} (h : Pre news own l) : l = own ++ news := by
  induction h with
  | nil => rfl
  | cons _ ih => rw [ih]; rfl
/-- what is a cell stands apart from what are sequences -/
theorem off_cell {h₀ h : Heap} {L C : Addr} {o : Obj} {led rest : List (Addr × Obj)} {v : Option Value} (N : News h₀ L h led) (hC : (C, o) ∈ led) (hv : o.data = .cell v) (hr : ∀ p ∈ rest, p ∈ led) (hs : Seqs rest) : ∀ p ∈ rest, @Ne Nat p.1 C := fun p hp e => by
  have h1 := (N _ (hr p hp)).1
  have h2 := (N _ hC).1
  have e' : p.1 = C := e
  rw [e'] at h1
  have h3 : p.2 = o := Option.some.inj (h1.symm.trans h2)
  obtain ⟨a, n, h4⟩ := hs p hp
  rw [h3, hv] at h4; cases h4
end Mine
namespace Mine
theorem strs_get {vs : List Value} {ys : List Str} (h : StrsAre vs ys) {i : Nat} {v : Value} (hv : vs[i]? = some v) : ∃ x t, ys[i]? = some x ∧ v = .str x t := by
  have hi : i < vs.length := (List.getElem?_eq_some_iff.mp hv).1
  have hy : i < ys.length := by rw [← h.length]; exact hi
  obtain ⟨t, e⟩ := h.get i ys[i] (List.getElem?_eq_getElem hy)
  rw [hv] at e
  exact ⟨ys[i], t, List.getElem?_eq_getElem hy, Option.some.inj e⟩
theorem take_snoc {α : Type} {l : List α} {i : Nat} {x : α} (h : l[i]? = some x) : l.take (i + 1) = l.take i ++ [x] := by
  rw [List.take_add_one, h]; rfl
theorem ded_yes {l : List Str} {x : Str} {vs : List Value} {t : Tok} (h : StrsAre vs (dedup l)) (hn : (dedup l).any (· == x) = false) : StrsAre (vs ++ [.str x t]) (dedup (l ++ [x])) := by
  rw [dedup_add]; unfold addS; rw [hn]
  exact h.append' (.cons _ _ .nil)
theorem ded_no {l : List Str} {x : Str} {vs : List Value} (h : StrsAre vs (dedup l)) (hn : (dedup l).any (· == x) = true) : StrsAre vs (dedup (l ++ [x])) := by
  rw [dedup_add]; unfold addS; rw [hn]; exact h
theorem ded_bound {l : List Str} {vs : List Value} {n : Nat} (h : StrsAre vs (dedup l)) (hl : l.length ≤ n) : vs.length ≤ n := by rw [h.length]; exact Nat.le_trans (dedup_len l) hl
theorem one_len {ps : List Str} {vs : List Value} {i : Nat} (h : StrsAre vs (dedup (ps.take i))) (hp : ps.length ≤ 10) : vs.length ≤ 200 := ded_bound h (by rw [List.length_take]; omega)
theorem two_len {ps : List Str} {sts : List Stm} {ts : List Tr} {vs : List Value} {i j : Nat} (h : StrsAre vs (dedup (ps ++ (sts.take i).flatMap usedOf ++ varsOf (ts.take j)))) (hp : ps.length ≤ 10) (hs : sts.length ≤ 20) (hts : ∀ st ∈ sts, st.2.2.length ≤ 4) (ht : ts.length ≤ 4) : vs.length ≤ 200 := by
  refine ded_bound h ?_
  have h1 := flat_len (sts := sts.take i) fun st hst => hts st (List.mem_of_mem_take hst)
  have h2 := vars_len (ts.take j)
  rw [List.length_take] at h1 h2
  rw [List.length_append, List.length_append]; omega
section
variable {ps : List Str} {sts : List Stm} {kd tg tx : Str} {ts : List Tr} {vs : List Value} {i j : Nat} {t : Tok} {tr : Tr}
theorem in_start (h : StrsAre vs (dedup (ps ++ (sts.take i).flatMap usedOf))) : StrsAre vs (dedup (ps ++ (sts.take i).flatMap usedOf ++ varsOf (ts.take 0))) := by
  rw [List.take_zero]; unfold varsOf; simpa using h
theorem in_yes {l : List Str} (et : ts[j]? = some tr) (hv : (tr.1 == S "var") = true) (h : StrsAre vs (dedup (l ++ varsOf (ts.take j)))) (hn : (dedup (l ++ varsOf (ts.take j))).any (· == tr.2.2) = false) : StrsAre (vs ++ [.str tr.2.2 t]) (dedup (l ++ varsOf (ts.take (j + 1)))) := by
  rw [take_snoc et, vars_snoc, hv, if_pos rfl, ← List.append_assoc]
  exact ded_yes h hn
theorem in_had {l : List Str} (et : ts[j]? = some tr) (hv : (tr.1 == S "var") = true) (h : StrsAre vs (dedup (l ++ varsOf (ts.take j)))) (hn : (dedup (l ++ varsOf (ts.take j))).any (· == tr.2.2) = true) : StrsAre vs (dedup (l ++ varsOf (ts.take (j + 1)))) := by
  rw [take_snoc et, vars_snoc, hv, if_pos rfl, ← List.append_assoc]
  exact ded_no h hn
theorem in_not {l : List Str} (et : ts[j]? = some tr) (hv : (tr.1 == S "var") = false) (h : StrsAre vs (dedup (l ++ varsOf (ts.take j)))) : StrsAre vs (dedup (l ++ varsOf (ts.take (j + 1)))) := by
  rw [take_snoc et, vars_snoc, hv]; simpa using h
theorem out_eq (est : sts[i]? = some (kd, tg, ts)) : ps ++ (sts.take (i + 1)).flatMap usedOf = ps ++ (sts.take i).flatMap usedOf ++ varsOf ts ++ (if kd == S "set" then [tg] else []) := by
  rw [take_snoc est, List.flatMap_append, List.flatMap_cons, List.flatMap_nil, List.append_nil]
  show _ ++ (_ ++ (varsOf ts ++ _)) = _
  simp only [List.append_assoc]
theorem out_yes (est : sts[i]? = some (kd, tg, ts)) (hv : (kd == S "set") = true) (h : StrsAre vs (dedup (ps ++ (sts.take i).flatMap usedOf ++ varsOf ts))) (hn : (dedup (ps ++ (sts.take i).flatMap usedOf ++ varsOf ts)).any (· == tg) = false) : StrsAre (vs ++ [.str tg t]) (dedup (ps ++ (sts.take (i + 1)).flatMap usedOf)) := by
  rw [out_eq est, hv, if_pos rfl]; exact ded_yes h hn
theorem out_had (est : sts[i]? = some (kd, tg, ts)) (hv : (kd == S "set") = true) (h : StrsAre vs (dedup (ps ++ (sts.take i).flatMap usedOf ++ varsOf ts))) (hn : (dedup (ps ++ (sts.take i).flatMap usedOf ++ varsOf ts)).any (· == tg) = true) : StrsAre vs (dedup (ps ++ (sts.take (i + 1)).flatMap usedOf)) := by
  rw [out_eq est, hv, if_pos rfl]; exact ded_no h hn
theorem out_not (est : sts[i]? = some (kd, tg, ts)) (hv : (kd == S "set") = false) (h : StrsAre vs (dedup (ps ++ (sts.take i).flatMap usedOf ++ varsOf ts))) : StrsAre vs (dedup (ps ++ (sts.take (i + 1)).flatMap usedOf)) := by
  rw [out_eq est, hv]; simpa using h
end
abbrev adOf {D : Addr} {news : List (Addr × Obj)} (_ : ∀ p ∈ news, p.1 < D) : Addr := D
theorem not1 {z a : Str} (h : z ∉ [a]) : z ≠ a := by simpa using h
theorem not3 {z a b c : Str} (h : z ∉ [a, b, c]) : z ≠ a ∧ z ≠ b ∧ z ≠ c := by
  simp only [List.mem_cons, List.not_mem_nil, or_false, not_or] at h; exact h
theorem not6 {z a b c d e f : Str} (h : z ∉ [a, b, c, d, e, f]) : z ≠ a ∧ z ≠ b ∧ z ≠ c ∧ z ≠ d ∧ z ≠ e ∧ z ≠ f := by
  simp only [List.mem_cons, List.not_mem_nil, or_false, not_or] at h; exact h
local macro_rules | `(tactic| k_room) => `(tactic| ((try simp only [depth_in1, depth_deeper]); omega))
local macro_rules | `(tactic| walk_at "exec For Name Subscript cons nil") => `(tactic| (k_here; (rename Fr _ _ _ _ => lF'); (with_unfolding_all refine' For_turns lF' ?_; k_whole)))
local macro_rules | `(tactic| walk_at "exec For Tuple Subscript cons nil") => `(tactic| (k_here; (rename Fr _ _ _ _ => lF'); (with_unfolding_all refine' For_turns lF' ?_; k_whole)))
local macro_rules | `(tactic| walk_at "exec For Tuple Name cons nil") => `(tactic| (k_here; (rename Fr _ _ _ _ => lF'); (with_unfolding_all refine' For_turns lF' ?_; k_whole)))
local macro_rules | `(tactic| walk_at "pyIter ref") => `(tactic| ((with_reducible show wpAny _ _ (pyIter (Value.ref _)) (fun it s₂ => TurnsAt _ _ _ _ _ _ _ _ _ it s₂) _ _); refine Hold.out ?_))
local macro_rules | `(tactic| walk_at "ItPost") => `(tactic| dsimp only [ItPost])
local macro_rules | `(tactic| size_fits) => `(tactic| (rw [sizeLine_eq, List.size_toArray]; omega))
local macro_rules | `(tactic| walk_at "compareOp NotIn str ref") => `(tactic| (k_here; (with_reducible show wpAny _ _ (compareOp CmpOp.NotIn (Value.str _ _) (Value.ref _)) _ _ _); k_dflt (refine' notin_list_strs ?k1 ?k2 ?_; (case k1 => kmk_list); (case k2 => with_reducible assumption))))
local macro_rules | `(tactic| walk_at "call builtin:list.append") => `(tactic| (k_here; (with_reducible show wpAny _ _ (call (Value.builtin _) [Value.ref _, Value.str _ _]) _ _ _); k_dflt (refine' append_K ?F ?N ?U ?_ ?z; (case F => k_asm); (case N => k_asm); (case U => first | exact Upd.tail (by assumption) (Upd.head (by assumption)) | exact Upd.tail (by assumption) (Upd.tail (by assumption) (Upd.head (by assumption)))); (case z => (rw [sizeLine_eq, List.size_toArray]; omega))); intro h' F' N'; (try simp only [List.push_toArray] at N'); (try k_sweep)))
local macro_rules | `(tactic| walk_at "subscriptTail") => `(tactic| (k_here; (with_reducible show wpAny _ _ (subscriptTail _ _ (Value.ref _) (Value.int _ _)) _ _ _); k_dflt (refine' item_tupleT ?t ?a ?b ?c ?d ?_ ?s; (case t => exact TupO.isTup (by with_reducible assumption) (by k_asm) (by (repeat (first | with_reducible assumption | apply List.mem_cons_of_mem)))); (case a => decide); (case b => decide); (case c => rfl); (case d => rfl); (case s => with_unfolding_all rfl))))
set_option linter.unusedVariables false in
theorem slots_call {w : World} {p : Program} {loose : List Str} {mean : ExcName → Option Value} {mg mb : Str → Option Value} {news : List (Addr × Obj)} {dp un : Nat} {gd : Option (List Code)} {cn : Str} {cs : Scope} {a : Addr} {ccd : Value} {cl : List (Str × Addr)} {outer : List Env} {A₀ : Around} {base h₀ : Heap} {L : Addr} {m : Str → Option Value} {s : Shared} {Q E : Value → Shared → Prop} {f pA bA : Addr} {o : Obj} {tv : Value} {pv bv : List Value} {c1 c2 : Nat} {ps : List Str} {sts : List Stm}
    (B : Below A₀ base outer h₀) (F : Fr h₀ L s.heap m) (X : (hd.heap_39 w.params).In h₀) (N : News h₀ L s.heap news) (T : Top p loose mean mg mb h₀) (hk : cs.kind = .function)
    (hf : (f, o) ∈ news) (ho : TupO o [tv, .ref pA, .ref bA].toArray) (hp : (pA, listOf pv.toArray c1) ∈ news) (hb : (bA, listOf bv.toArray c2) ∈ news) (hpv : StrsAre pv ps) (hbv : Alls (StmAt news) bv sts) (hpl : ps.length ≤ 10) (hbl : sts.length ≤ 20) (hts : ∀ st ∈ sts, st.2.2.length ≤ 4) (hr : dp + 6 < recursionLimit) (hu : un + 200 < cLine)
    (ret : ∀ (D : Addr) (vs : List Value) (c : Nat) (h' : Heap) (tk' : Nat), Fr h₀ L h' m → News h₀ L h' ((D, listOf vs.toArray c) :: news) → (∀ p ∈ news, p.1 < D) → StrsAre vs (dedup (ps ++ sts.flatMap usedOf)) → Q (.ref D) { s with heap := h', toks := tk' }) :
    wpAny (model PySem.Challenge.rw_k15_0030.row.prog w) (ktrTop dp un gd cn cs L a ccd cl outer) (call (.ref 21) [.ref f]) Q E s := by
  w_top off
  revert X; k_fill; intro X
  refine wpAny_call ?_
  k_dflt cell_enter
  k_steps
  refine Hold.mk ?_
  rename Fr _ _ _ _ => F1
  rename News _ _ _ _ => N1
  rename (∀ p ∈ news, p.1 < _) => hDl
  obtain ⟨D, eD⟩ : ∃ D, D = adOf hDl := ⟨_, rfl⟩
  dsimp only [adOf] at eD
  subst eD
  have hDn : ∀ p ∈ news, p.1 ≠ D := fun p hp => Nat.ne_of_lt (hDl p hp)
  (with_unfolding_all refine' list_turns (vs := pv) (c := c1) (fun i m₁ nw => ∃ vs c, nw = (D, listOf (List.toArray vs) c) :: news ∧ StrsAre vs (dedup (ps.take i))) [S "name"] (by rfl) F1 N1 (List.mem_cons_of_mem _ hp) ⟨[], 0, rfl, .nil⟩ (fun i v m₁ nw I o' h tk hv hP hc he hmem hlt F' N' => ?t1) (fun m₁ nw h tk hP he hmem F' N' => ?t2))
  case t1 =>
    obtain ⟨vs, c, rfl, hS⟩ := hP
    obtain ⟨x, t, hx, rfl⟩ := strs_get hpv hv
    have hvl := one_len hS hpl
    have hID : I ≠ D := Nat.ne_of_gt (hlt _ (List.mem_cons_self ..))
    dsimp only [mixN] at F'
    clear F1 N1 he hmem hlt
    k_steps
    · exact ⟨_, _, _, (D, listOf vs.toArray c) :: news, rfl, by assumption, by assumption, rfl, List.mem_cons_of_mem _ hp, by (intro z hz; simp only [not1 hz, if_false]), vs, c, rfl, by rw [take_snoc hx]; exact ded_no hS (by assumption)⟩
    · exact ⟨_, _, _, (D, listOf (vs ++ [Value.str x t]).toArray (c + 1)) :: news, rfl, by assumption, by assumption, rfl, List.mem_cons_of_mem _ hp, by (intro z hz; simp only [not1 hz, if_false]), vs ++ [.str x t], c + 1, rfl, by rw [take_snoc hx]; exact ded_yes hS (by assumption)⟩
  case t2 =>
    obtain ⟨vs₀, c₀, rfl, hS₀⟩ := hP
    dsimp only [mixN] at F'
    rw [hpv.length, List.take_length] at hS₀
    clear F1 N1 he hmem
    k_steps
    refine Hold.mk ?_
    rename Fr _ _ _ _ => F2
    rename News _ _ _ _ => N2
    (with_unfolding_all refine' list_turns (vs := bv) (c := c2) (fun i m₁ nw => ∃ vs c, nw = (D, listOf (List.toArray vs) c) :: news ∧ StrsAre vs (dedup (ps ++ (sts.take i).flatMap usedOf))) [S "kind", S "target", S "post", S "form", S "n", S "text"] (by rfl) F2 N2 (List.mem_cons_of_mem _ hb) ⟨vs₀, c₀, rfl, by simpa using hS₀⟩ (fun i v m₁ nw I o' h tk hv hP hc he hmem hlt F' N' => ?t3) (fun m₁ nw h tk hP he hmem F' N' => ?t4))
    case t4 =>
      obtain ⟨vs, c, rfl, hS⟩ := hP
      rw [hbv.1, List.take_length] at hS
      dsimp only [mixN] at F'
      clear F2 N2 he hmem
      k_steps
      refine ret D vs c _ _ ?_ ?_ hDl hS
      · first | with_reducible assumption | assumption
      · first | with_reducible assumption | assumption
    case t3 =>
      obtain ⟨vs₁, c, rfl, hS⟩ := hP
      obtain ⟨⟨kd, tg, ts⟩, est, T', o2, t1, t2, l, c3, us, rfl, hmT, hTO, hml, hAll, hus⟩ := hbv.2 i v hv
      have hID : I ≠ D := Nat.ne_of_gt (hlt _ (List.mem_cons_self ..))
      have hTu : IsTup h T' #[.str kd t1, .str tg t2, .ref l] := hTO.isTup N' (List.mem_cons_of_mem _ (List.mem_cons_of_mem _ hmT))
      have htl : ts.length ≤ 4 := hts _ (List.mem_of_getElem? est)
      dsimp only [mixN] at F'
      clear F2 N2 he hmem
      k_steps
      refine Hold.mk ?_
      rename Fr _ _ _ _ => F3
      rename News _ _ _ _ => N3
      (with_unfolding_all refine' list_turns (vs := us) (c := c3) (fun j m₁ nw => ∃ vs c, nw = (I, o') :: (D, listOf (List.toArray vs) c) :: news ∧ StrsAre vs (dedup (ps ++ (sts.take i).flatMap usedOf ++ varsOf (ts.take j)))) [S "form", S "n", S "text"] (by rfl) F3 N3 (List.mem_cons_of_mem _ (List.mem_cons_of_mem _ hml)) ⟨vs₁, c, rfl, in_start hS⟩ (fun j v' m₂ nw I2 o3 h tk hv2 hP2 hc2 he2 hmem2 hlt2 F' N' => ?t5) (fun m₂ nw h tk hP2 he2 hmem2 F' N' => ?t6))
      case t5 =>
        obtain ⟨vs, c', rfl, hS2⟩ := hP2
        obtain ⟨⟨fm, n', tx⟩, et, T2, o4, t3, t4, t5, rfl, hmT2, hTO2⟩ := hAll.2 j v' hv2
        have hvl := two_len hS2 hpl hbl hts htl
        have hI2 : I2 ≠ D := Nat.ne_of_gt (hlt2 _ (List.mem_cons_of_mem _ (List.mem_cons_self ..)))
        have hTu2 : IsTup h T2 #[.str fm t3, .int n' t4, .str tx t5] := hTO2.isTup N' (List.mem_cons_of_mem _ (List.mem_cons_of_mem _ (List.mem_cons_of_mem _ hmT2)))
        dsimp only [mixN] at F'
        clear F3 N3 he2 hmem2 hlt2 hTu
        k_steps
        · exact ⟨_, _, _, (I, o') :: (D, listOf vs.toArray c') :: news, rfl, by assumption, by assumption, rfl, List.mem_cons_of_mem _ (List.mem_cons_of_mem _ hml), by (intro z hz; obtain ⟨z1, z2, z3⟩ := not3 hz; simp only [z1, z2, z3, if_false]), vs, c', rfl, in_had et (by assumption) hS2 (by assumption)⟩
        · exact ⟨_, _, _, (I, o') :: (D, listOf (vs ++ [Value.str tx t5]).toArray (c' + 1)) :: news, rfl, by assumption, by assumption, rfl, List.mem_cons_of_mem _ (List.mem_cons_of_mem _ hml), by (intro z hz; obtain ⟨z1, z2, z3⟩ := not3 hz; simp only [z1, z2, z3, if_false]), vs ++ [.str tx t5], c' + 1, rfl, in_yes et (by assumption) hS2 (by assumption)⟩
        · exact ⟨_, _, _, (I, o') :: (D, listOf vs.toArray c') :: news, rfl, by assumption, by assumption, rfl, List.mem_cons_of_mem _ (List.mem_cons_of_mem _ hml), by (intro z hz; obtain ⟨z1, z2, z3⟩ := not3 hz; simp only [z1, z2, z3, if_false]), vs, c', rfl, in_not et (by assumption) hS2⟩
      case t6 =>
        obtain ⟨vs, c', rfl, hS2⟩ := hP2
        rw [hAll.1, List.take_length] at hS2
        dsimp only at hS2
        have hvl : vs.length ≤ 200 := two_len (i := i) (j := ts.length) (by rw [List.take_length]; exact hS2) hpl hbl hts htl
        dsimp only [mixN] at F'
        clear F3 N3 he2 hmem2
        k_steps
        · exact ⟨_, _, _, (D, listOf vs.toArray c') :: news, rfl, by assumption, by assumption, rfl, List.mem_cons_of_mem _ hb, by (intro z hz; obtain ⟨z1, z2, z3, z4, z5, z6⟩ := not6 hz; simp only [z1, z2, z3, z4, z5, z6, if_false]), vs, c', rfl, out_had est (by assumption) hS2 (by assumption)⟩
        · exact ⟨_, _, _, (D, listOf (vs ++ [Value.str tg t2]).toArray (c' + 1)) :: news, rfl, by assumption, by assumption, rfl, List.mem_cons_of_mem _ hb, by (intro z hz; obtain ⟨z1, z2, z3, z4, z5, z6⟩ := not6 hz; simp only [z1, z2, z3, z4, z5, z6, if_false]), vs ++ [.str tg t2], c' + 1, rfl, out_yes est (by assumption) hS2 (by assumption)⟩
        · exact ⟨_, _, _, (D, listOf vs.toArray c') :: news, rfl, by assumption, by assumption, rfl, List.mem_cons_of_mem _ hb, by (intro z hz; obtain ⟨z1, z2, z3, z4, z5, z6⟩ := not6 hz; simp only [z1, z2, z3, z4, z5, z6, if_false]), vs, c', rfl, out_not est (by assumption) hS2⟩
end Mine
namespace Mine
/-- an expression's pair: its triples, and the names that it reads -/
def ExprOk (nw : List (Addr × Obj)) (T : Addr) : Prop := ∃ o P vs c U uv c' ts, (T, o) ∈ nw ∧ TupO o [Value.ref P, .ref U].toArray ∧ (P, listOf (List.toArray vs) c) ∈ nw ∧ Alls (Tri nw) vs ts ∧ vs.length ≤ 4 ∧ (U, listOf (List.toArray uv) c') ∈ nw ∧ StrsAre uv (varsOf ts) ∧ uv.length ≤ 4
theorem Tri.mk {news : List (Addr × Obj)} {T : Addr} {o : Obj} {k x : Str} {n : Int} {t1 t2 t3 : Tok} (hm : (T, o) ∈ news) (ho : TupO o #[.str k t1, .int n t2, .str x t3]) : Tri news (.ref T) (k, n, x) := ⟨T, o, t1, t2, t3, rfl, hm, ho⟩
theorem ExprOk.intro {nw : List (Addr × Obj)} {T P U : Addr} {o : Obj} {vs uv : List Value} {c c' : Nat} {ts : List Tr} (h1 : (T, o) ∈ nw) (h2 : TupO o [Value.ref P, .ref U].toArray) (h3 : (P, listOf (List.toArray vs) c) ∈ nw) (h4 : Alls (Tri nw) vs ts) (h5 : vs.length ≤ 4) (h6 : (U, listOf (List.toArray uv) c') ∈ nw) (h7 : StrsAre uv (varsOf ts)) (h8 : uv.length ≤ 4) : ExprOk nw T := ⟨o, P, vs, c, U, uv, c', ts, h1, h2, h3, h4, h5, h6, h7, h8⟩
theorem sv_nil : StrsAre [] (varsOf []) := .nil
theorem sv_var {uv : List Value} {ts : List Tr} {n : Int} {x : Str} {t : Tok} (h : StrsAre uv (varsOf ts)) : StrsAre (.str x t :: uv) (varsOf ((S "var", n, x) :: ts)) := by
  have e : varsOf ((S "var", n, x) :: ts) = x :: varsOf ts := by unfold varsOf; rw [List.filter_cons]; simp
  rw [e]; exact .cons _ _ h
theorem sv_no {uv : List Value} {ts : List Tr} {n : Int} {k x : Str} (hk : (k == S "var") = false) (h : StrsAre uv (varsOf ts)) : StrsAre uv (varsOf ((k, n, x) :: ts)) := by
  have e : varsOf ((k, n, x) :: ts) = varsOf ts := by unfold varsOf; rw [List.filter_cons]; simp [hk]
  rw [e]; exact h
theorem six {k : Int} (h0 : 0 ≤ k) (h1 : k < 6) : k = 0 ∨ k = 1 ∨ k = 2 ∨ k = 3 ∨ k = 4 ∨ k = 5 := by omega
theorem four {k : Int} (h0 : 0 ≤ k) (h1 : k < 4) : k = 0 ∨ k = 1 ∨ k = 2 ∨ k = 3 := by omega
local macro_rules | `(tactic| k_room) => `(tactic| ((try simp only [depth_in1, depth_deeper]); omega))
local macro_rules | `(tactic| walk_at "subscriptTail") => `(tactic| ((with_reducible show wpAny _ _ (subscriptTail _ _ (Value.ref _) (Value.int _ _)) _ _ _); refine Hold.out ?_))
theorem ret_pre {h₀ h' : Heap} {L : Addr} {m : Str → Option Value} {news own l : List (Addr × Obj)} {s : Shared} {Q : Value → Shared → Prop} {Tt : Addr} {tk' : Nat} {Ok : List (Addr × Obj) → Addr → Prop}
    (ret : ∀ (Tt : Addr) (own : List (Addr × Obj)) (h' : Heap) (tk' : Nat), Fr h₀ L h' m → News h₀ L h' (own ++ news) → Seqs own → Ok own Tt → Q (.ref Tt) { s with heap := h', toks := tk' })
    (pre : Pre news own l) (F : Fr h₀ L h' m) (N : News h₀ L h' l) (hs : Seqs own) (hE : Ok own Tt) : Q (.ref Tt) { s with heap := h', toks := tk' } := ret Tt own h' tk' F (by rw [← pre.eq]; exact N) hs hE
set_option linter.unusedVariables false in
theorem expr_call {w : World} {p : Program} {loose : List Str} {mean : ExcName → Option Value} {mg mb : Str → Option Value} {news : List (Addr × Obj)} {dp un : Nat} {gd : Option (List Code)} {cn : Str} {cs : Scope} {a : Addr} {ccd : Value} {cl : List (Str × Addr)} {outer : List Env} {A₀ : Around} {base h₀ : Heap} {L : Addr} {m : Str → Option Value} {s : Shared} {Q E : Value → Shared → Prop} {k n : Int} {x y z : Str} {t0 t1 t2 t3 t4 : Tok}
    (B : Below A₀ base outer h₀) (F : Fr h₀ L s.heap m) (X : (hd.heap_39 w.params).In h₀) (N : News h₀ L s.heap news) (T : Top p loose mean mg mb h₀) (hk : cs.kind = .function)
    (h0 : 0 ≤ k) (h1 : k < 6) (hr : dp + 6 < recursionLimit) (hu : un + 200 < cLine)
    (ret : ∀ (Tt : Addr) (own : List (Addr × Obj)) (h' : Heap) (tk' : Nat), Fr h₀ L h' m → News h₀ L h' (own ++ news) → Seqs own → ExprOk own Tt → Q (.ref Tt) { s with heap := h', toks := tk' }) :
    wpAny (model PySem.Challenge.rw_k15_0030.row.prog w) (ktrTop dp un gd cn cs L a ccd cl outer) (call (.ref 44) [.int k t0, .str x t1, .str y t2, .str z t3, .int n t4]) Q E s := by
  w_top off
  revert X; k_fill; intro X
  refine wpAny_call ?_
  k_dflt cell_enter
  k_steps
  refine Hold.mk ?_
  rename News _ _ _ _ => NN
  rcases six h0 h1 with rfl | rfl | rfl | rfl | rfl | rfl
  · refine' item_litK ?q1 h0 ?q2 ?q5 ?q3 ?q4
    case q1 => exact News.isList NN (List.mem_cons_self ..)
    case q5 => exact rfl
    case q2 => decide
    case q4 => with_unfolding_all rfl
    case q3 =>
      k_steps
      refine' ret_pre ret ?r0 ?r1 ?r2 ?r4 ?r5
      case r1 => first | with_reducible assumption | assumption
      case r2 => (rename News _ _ _ _ => NK; exact NK)
      case r0 => (repeat (first | exact Pre.nil | apply Pre.cons))
      case r4 => (repeat (first | exact Seqs.nil | refine Seqs.cons ⟨_, _, rfl⟩ ?_))
      case r5 =>
        refine' ExprOk.intro (ts := [(S "var", 0, x)]) ?m1 ?m2 ?m3 ?m4 ?m5 ?m6 ?m7 ?m8
        case m1 => k_mem
        case m2 => exact ⟨rfl, _, rfl⟩
        case m3 => k_mem
        case m6 => k_mem
        case m5 => exact Nat.le_of_ble_eq_true rfl
        case m8 => exact Nat.le_of_ble_eq_true rfl
        case m4 => exact (Alls.cons (Tri.mk (by k_mem) ⟨rfl, _, rfl⟩) Alls.nil)
        case m7 => exact (sv_var sv_nil)
  · refine' item_litK ?q1 h0 ?q2 ?q5 ?q3 ?q4
    case q1 => exact News.isList NN (List.mem_cons_self ..)
    case q5 => exact rfl
    case q2 => decide
    case q4 => with_unfolding_all rfl
    case q3 =>
      k_steps
      refine' ret_pre ret ?r0 ?r1 ?r2 ?r4 ?r5
      case r1 => first | with_reducible assumption | assumption
      case r2 => (rename News _ _ _ _ => NK; exact NK)
      case r0 => (repeat (first | exact Pre.nil | apply Pre.cons))
      case r4 => (repeat (first | exact Seqs.nil | refine Seqs.cons ⟨_, _, rfl⟩ ?_))
      case r5 =>
        refine' ExprOk.intro (ts := [(S "var", 0, x), (S "var", 0, y), (S "bin", 0, S "-")]) ?m1 ?m2 ?m3 ?m4 ?m5 ?m6 ?m7 ?m8
        case m1 => k_mem
        case m2 => exact ⟨rfl, _, rfl⟩
        case m3 => k_mem
        case m6 => k_mem
        case m5 => exact Nat.le_of_ble_eq_true rfl
        case m8 => exact Nat.le_of_ble_eq_true rfl
        case m4 => exact (Alls.cons (Tri.mk (by k_mem) ⟨rfl, _, rfl⟩) (Alls.cons (Tri.mk (by k_mem) ⟨rfl, _, rfl⟩) (Alls.cons (Tri.mk (by k_mem) ⟨rfl, _, rfl⟩) Alls.nil)))
        case m7 => exact (sv_var (sv_var (sv_no (by decide +kernel) sv_nil)))
  · refine' item_litK ?q1 h0 ?q2 ?q5 ?q3 ?q4
    case q1 => exact News.isList NN (List.mem_cons_self ..)
    case q5 => exact rfl
    case q2 => decide
    case q4 => with_unfolding_all rfl
    case q3 =>
      k_steps
      refine' ret_pre ret ?r0 ?r1 ?r2 ?r4 ?r5
      case r1 => first | with_reducible assumption | assumption
      case r2 => (rename News _ _ _ _ => NK; exact NK)
      case r0 => (repeat (first | exact Pre.nil | apply Pre.cons))
      case r4 => (repeat (first | exact Seqs.nil | refine Seqs.cons ⟨_, _, rfl⟩ ?_))
      case r5 =>
        refine' ExprOk.intro (ts := [(S "var", 0, x), (S "call", 1, y)]) ?m1 ?m2 ?m3 ?m4 ?m5 ?m6 ?m7 ?m8
        case m1 => k_mem
        case m2 => exact ⟨rfl, _, rfl⟩
        case m3 => k_mem
        case m6 => k_mem
        case m5 => exact Nat.le_of_ble_eq_true rfl
        case m8 => exact Nat.le_of_ble_eq_true rfl
        case m4 => exact (Alls.cons (Tri.mk (by k_mem) ⟨rfl, _, rfl⟩) (Alls.cons (Tri.mk (by k_mem) ⟨rfl, _, rfl⟩) Alls.nil))
        case m7 => exact (sv_var (sv_no (by decide +kernel) sv_nil))
  · refine' item_litK ?q1 h0 ?q2 ?q5 ?q3 ?q4
    case q1 => exact News.isList NN (List.mem_cons_self ..)
    case q5 => exact rfl
    case q2 => decide
    case q4 => with_unfolding_all rfl
    case q3 =>
      k_steps
      refine' ret_pre ret ?r0 ?r1 ?r2 ?r4 ?r5
      case r1 => first | with_reducible assumption | assumption
      case r2 => (rename News _ _ _ _ => NK; exact NK)
      case r0 => (repeat (first | exact Pre.nil | apply Pre.cons))
      case r4 => (repeat (first | exact Seqs.nil | refine Seqs.cons ⟨_, _, rfl⟩ ?_))
      case r5 =>
        refine' ExprOk.intro (ts := [(S "num", n, S ""), (S "neg", 0, S "")]) ?m1 ?m2 ?m3 ?m4 ?m5 ?m6 ?m7 ?m8
        case m1 => k_mem
        case m2 => exact ⟨rfl, _, rfl⟩
        case m3 => k_mem
        case m6 => k_mem
        case m5 => exact Nat.le_of_ble_eq_true rfl
        case m8 => exact Nat.le_of_ble_eq_true rfl
        case m4 => exact (Alls.cons (Tri.mk (by k_mem) ⟨rfl, _, rfl⟩) (Alls.cons (Tri.mk (by k_mem) ⟨rfl, _, rfl⟩) Alls.nil))
        case m7 => exact (sv_no (by decide +kernel) (sv_no (by decide +kernel) sv_nil))
  · refine' item_litK ?q1 h0 ?q2 ?q5 ?q3 ?q4
    case q1 => exact News.isList NN (List.mem_cons_self ..)
    case q5 => exact rfl
    case q2 => decide
    case q4 => with_unfolding_all rfl
    case q3 =>
      k_steps
      refine' ret_pre ret ?r0 ?r1 ?r2 ?r4 ?r5
      case r1 => first | with_reducible assumption | assumption
      case r2 => (rename News _ _ _ _ => NK; exact NK)
      case r0 => (repeat (first | exact Pre.nil | apply Pre.cons))
      case r4 => (repeat (first | exact Seqs.nil | refine Seqs.cons ⟨_, _, rfl⟩ ?_))
      case r5 =>
        refine' ExprOk.intro (ts := [(S "var", 0, y), (S "var", 0, x), (S "not", 0, S ""), (S "call", 2, z)]) ?m1 ?m2 ?m3 ?m4 ?m5 ?m6 ?m7 ?m8
        case m1 => k_mem
        case m2 => exact ⟨rfl, _, rfl⟩
        case m3 => k_mem
        case m6 => k_mem
        case m5 => exact Nat.le_of_ble_eq_true rfl
        case m8 => exact Nat.le_of_ble_eq_true rfl
        case m4 => exact (Alls.cons (Tri.mk (by k_mem) ⟨rfl, _, rfl⟩) (Alls.cons (Tri.mk (by k_mem) ⟨rfl, _, rfl⟩) (Alls.cons (Tri.mk (by k_mem) ⟨rfl, _, rfl⟩) (Alls.cons (Tri.mk (by k_mem) ⟨rfl, _, rfl⟩) Alls.nil))))
        case m7 => exact (sv_var (sv_var (sv_no (by decide +kernel) (sv_no (by decide +kernel) sv_nil))))
  · refine' item_litK ?q1 h0 ?q2 ?q5 ?q3 ?q4
    case q1 => exact News.isList NN (List.mem_cons_self ..)
    case q5 => exact rfl
    case q2 => decide
    case q4 => with_unfolding_all rfl
    case q3 =>
      k_steps
      refine' ret_pre ret ?r0 ?r1 ?r2 ?r4 ?r5
      case r1 => first | with_reducible assumption | assumption
      case r2 => (rename News _ _ _ _ => NK; exact NK)
      case r0 => (repeat (first | exact Pre.nil | apply Pre.cons))
      case r4 => (repeat (first | exact Seqs.nil | refine Seqs.cons ⟨_, _, rfl⟩ ?_))
      case r5 =>
        refine' ExprOk.intro (ts := [(S "call", 0, y)]) ?m1 ?m2 ?m3 ?m4 ?m5 ?m6 ?m7 ?m8
        case m1 => k_mem
        case m2 => exact ⟨rfl, _, rfl⟩
        case m3 => k_mem
        case m6 => k_mem
        case m5 => exact Nat.le_of_ble_eq_true rfl
        case m8 => exact Nat.le_of_ble_eq_true rfl
        case m4 => exact (Alls.cons (Tri.mk (by k_mem) ⟨rfl, _, rfl⟩) Alls.nil)
        case m7 => exact (sv_no (by decide +kernel) sv_nil)
theorem subOf {h₀ h : Heap} {L : Addr} {news nw : List (Addr × Obj)} (_ : News h₀ L h nw) (hs : ∀ p ∈ news, p ∈ nw) : ∀ p ∈ news, p ∈ nw := hs
/-- a block's list of statements -/
def BlockOk (nw : List (Addr × Obj)) (R : Addr) (us : List Str) : Prop := ∃ bs c sts, (R, listOf (List.toArray bs) c) ∈ nw ∧ Alls (StmAt nw) bs sts ∧ sts.flatMap usedOf = us ∧ bs.length ≤ 3 ∧ ∀ st ∈ sts, st.2.2.length ≤ 4
theorem BlockOk.intro {nw : List (Addr × Obj)} {R : Addr} {us : List Str} {bs : List Value} {c : Nat} {sts : List Stm} (h1 : (R, listOf (List.toArray bs) c) ∈ nw) (h2 : Alls (StmAt nw) bs sts) (h3 : sts.flatMap usedOf = us) (h4 : bs.length ≤ 3) (h5 : ∀ st ∈ sts, st.2.2.length ≤ 4) : BlockOk nw R us := ⟨bs, c, sts, h1, h2, h3, h4, h5⟩
theorem StmAt.mk {nw : List (Addr × Obj)} {T l : Addr} {o : Obj} {k x : Str} {t1 t2 : Tok} {vs : List Value} {c : Nat} {ts : List Tr} (h1 : (T, o) ∈ nw) (h2 : TupO o #[.str k t1, .str x t2, .ref l]) (h3 : (l, listOf (List.toArray vs) c) ∈ nw) (h4 : Alls (Tri nw) vs ts) (h5 : vs.length ≤ 4) : StmAt nw (.ref T) (k, x, ts) := ⟨T, o, t1, t2, l, c, vs, rfl, h1, h2, h3, h4, h5⟩
theorem used_no {k x : Str} {ts : List Tr} (hk : (k == S "set") = false) : usedOf (k, x, ts) = varsOf ts := by
  unfold usedOf; simp [hk]
theorem bl1 {k x : Str} {ts : List Tr} (hk : (k == S "set") = false) : List.flatMap usedOf [(k, x, ts)] = varsOf ts := by
  rw [List.flatMap_cons, List.flatMap_nil, List.append_nil, used_no hk]
theorem bl2 {k x k2 x2 : Str} {ts : List Tr} (hk : (k == S "set") = false) (hk2 : (k2 == S "set") = false) : List.flatMap usedOf [(k, x, ts), (k2, x2, [])] = varsOf ts := by
  rw [List.flatMap_cons, List.flatMap_cons, List.flatMap_nil, used_no hk, used_no hk2]; simp [varsOf]
theorem bl3 {k x k2 x2 k3 x3 : Str} {ts : List Tr} (hk : (k == S "set") = false) (hk2 : (k2 == S "set") = false) (hk3 : (k3 == S "set") = false) : List.flatMap usedOf [(k, x, ts), (k2, x2, []), (k3, x3, [])] = varsOf ts := by
  rw [List.flatMap_cons, List.flatMap_cons, List.flatMap_cons, List.flatMap_nil, used_no hk, used_no hk2, used_no hk3]; simp [varsOf]
set_option linter.unusedVariables false in
theorem block_call {w : World} {p : Program} {loose : List Str} {mean : ExcName → Option Value} {mg mb : Str → Option Value} {news : List (Addr × Obj)} {dp un : Nat} {gd : Option (List Code)} {cn : Str} {cs : Scope} {a : Addr} {ccd : Value} {cl : List (Str × Addr)} {outer : List Env} {A₀ : Around} {base h₀ : Heap} {L : Addr} {m : Str → Option Value} {s : Shared} {Q E : Value → Shared → Prop} {k : Int} {P : Addr} {vs : List Value} {c : Nat} {ts : List Tr} {t0 : Tok}
    (B : Below A₀ base outer h₀) (F : Fr h₀ L s.heap m) (X : (hd.heap_39 w.params).In h₀) (N : News h₀ L s.heap news) (T : Top p loose mean mg mb h₀) (hk : cs.kind = .function)
    (h0 : 0 ≤ k) (h1 : k < 4) (b0 : List (Addr × Obj)) (hb0 : ∀ p ∈ b0, p ∈ news) (hP : (P, listOf vs.toArray c) ∈ b0) (hA : Alls (Tri b0) vs ts) (hl : vs.length ≤ 4) (hr : dp + 6 < recursionLimit) (hu : un + 200 < cLine)
    (ret : ∀ (R : Addr) (own : List (Addr × Obj)) (h' : Heap) (tk' : Nat), Fr h₀ L h' m → News h₀ L h' (own ++ news) → Seqs own → BlockOk (own ++ b0) R (varsOf ts) → Q (.ref R) { s with heap := h', toks := tk' }) :
    wpAny (model PySem.Challenge.rw_k15_0030.row.prog w) (ktrTop dp un gd cn cs L a ccd cl outer) (call (.ref 51) [.int k t0, .ref P]) Q E s := by
  w_top off
  revert X; k_fill; intro X
  refine wpAny_call ?_
  k_dflt cell_enter
  k_steps
  refine Hold.mk ?_
  rename News _ _ _ _ => NN
  have htl : ts.length ≤ 4 := by rw [← hA.1]; exact hl
  rcases four h0 h1 with rfl | rfl | rfl | rfl
  · refine' item_litK ?q1 h0 ?q2 ?q5 ?q3 ?q4
    case q1 => exact News.isList NN (List.mem_cons_self ..)
    case q5 => exact rfl
    case q2 => decide
    case q4 => with_unfolding_all rfl
    case q3 =>
      k_steps
      refine' ret_pre (Ok := fun own R => BlockOk (own ++ b0) R (varsOf ts)) ret ?r0 ?r1 ?r2 ?r4 ?r5
      case r1 => first | with_reducible assumption | assumption
      case r2 => (rename News _ _ _ _ => NK; exact NK)
      case r0 => (repeat (first | exact Pre.nil | apply Pre.cons))
      case r4 => (repeat (first | exact Seqs.nil | refine Seqs.cons ⟨_, _, rfl⟩ ?_))
      case r5 =>
        try dsimp only
        refine' BlockOk.intro (sts := [(S "print", S "", ts)]) ?m1 ?m2 ?m3 ?m4 ?m5
        case m1 => exact List.mem_append_left _ (by k_mem)
        case m2 => exact (Alls.cons (StmAt.mk (List.mem_append_left _ (by k_mem)) ⟨rfl, _, rfl⟩ (List.mem_append_right _ hP) (hA.mono (Tri.sub fun p hp => List.mem_append_right _ hp)) hl) Alls.nil)
        case m3 => exact bl1 (by decide +kernel)
        case m4 => exact Nat.le_of_ble_eq_true rfl
        case m5 => (intro st hst; simp only [List.mem_cons, List.not_mem_nil, or_false] at hst; rcases hst with rfl <;> first | exact htl | exact Nat.zero_le _)
  · refine' item_litK ?q1 h0 ?q2 ?q5 ?q3 ?q4
    case q1 => exact News.isList NN (List.mem_cons_self ..)
    case q5 => exact rfl
    case q2 => decide
    case q4 => with_unfolding_all rfl
    case q3 =>
      k_steps
      refine' ret_pre (Ok := fun own R => BlockOk (own ++ b0) R (varsOf ts)) ret ?r0 ?r1 ?r2 ?r4 ?r5
      case r1 => first | with_reducible assumption | assumption
      case r2 => (rename News _ _ _ _ => NK; exact NK)
      case r0 => (repeat (first | exact Pre.nil | apply Pre.cons))
      case r4 => (repeat (first | exact Seqs.nil | refine Seqs.cons ⟨_, _, rfl⟩ ?_))
      case r5 =>
        try dsimp only
        refine' BlockOk.intro (sts := [(S "while", S "", ts), (S "end", S "", [])]) ?m1 ?m2 ?m3 ?m4 ?m5
        case m1 => exact List.mem_append_left _ (by k_mem)
        case m2 => exact (Alls.cons (StmAt.mk (List.mem_append_left _ (by k_mem)) ⟨rfl, _, rfl⟩ (List.mem_append_right _ hP) (hA.mono (Tri.sub fun p hp => List.mem_append_right _ hp)) hl) (Alls.cons (StmAt.mk (vs := []) (List.mem_append_left _ (by k_mem)) ⟨rfl, _, rfl⟩ (List.mem_append_left _ (by k_mem)) Alls.nil (Nat.zero_le _)) Alls.nil))
        case m3 => exact bl2 (by decide +kernel) (by decide +kernel)
        case m4 => exact Nat.le_of_ble_eq_true rfl
        case m5 => (intro st hst; simp only [List.mem_cons, List.not_mem_nil, or_false] at hst; rcases hst with rfl | rfl <;> first | exact htl | exact Nat.zero_le _)
  · refine' item_litK ?q1 h0 ?q2 ?q5 ?q3 ?q4
    case q1 => exact News.isList NN (List.mem_cons_self ..)
    case q5 => exact rfl
    case q2 => decide
    case q4 => with_unfolding_all rfl
    case q3 =>
      k_steps
      refine' ret_pre (Ok := fun own R => BlockOk (own ++ b0) R (varsOf ts)) ret ?r0 ?r1 ?r2 ?r4 ?r5
      case r1 => first | with_reducible assumption | assumption
      case r2 => (rename News _ _ _ _ => NK; exact NK)
      case r0 => (repeat (first | exact Pre.nil | apply Pre.cons))
      case r4 => (repeat (first | exact Seqs.nil | refine Seqs.cons ⟨_, _, rfl⟩ ?_))
      case r5 =>
        try dsimp only
        refine' BlockOk.intro (sts := [(S "if", S "", ts), (S "else", S "", []), (S "end", S "", [])]) ?m1 ?m2 ?m3 ?m4 ?m5
        case m1 => exact List.mem_append_left _ (by k_mem)
        case m2 => exact (Alls.cons (StmAt.mk (List.mem_append_left _ (by k_mem)) ⟨rfl, _, rfl⟩ (List.mem_append_right _ hP) (hA.mono (Tri.sub fun p hp => List.mem_append_right _ hp)) hl) (Alls.cons (StmAt.mk (vs := []) (List.mem_append_left _ (by k_mem)) ⟨rfl, _, rfl⟩ (List.mem_append_left _ (by k_mem)) Alls.nil (Nat.zero_le _)) (Alls.cons (StmAt.mk (vs := []) (List.mem_append_left _ (by k_mem)) ⟨rfl, _, rfl⟩ (List.mem_append_left _ (by k_mem)) Alls.nil (Nat.zero_le _)) Alls.nil)))
        case m3 => exact bl3 (by decide +kernel) (by decide +kernel) (by decide +kernel)
        case m4 => exact Nat.le_of_ble_eq_true rfl
        case m5 => (intro st hst; simp only [List.mem_cons, List.not_mem_nil, or_false] at hst; rcases hst with rfl | rfl | rfl <;> first | exact htl | exact Nat.zero_le _)
  · refine' item_litK ?q1 h0 ?q2 ?q5 ?q3 ?q4
    case q1 => exact News.isList NN (List.mem_cons_self ..)
    case q5 => exact rfl
    case q2 => decide
    case q4 => with_unfolding_all rfl
    case q3 =>
      k_steps
      refine' ret_pre (Ok := fun own R => BlockOk (own ++ b0) R (varsOf ts)) ret ?r0 ?r1 ?r2 ?r4 ?r5
      case r1 => first | with_reducible assumption | assumption
      case r2 => (rename News _ _ _ _ => NK; exact NK)
      case r0 => (repeat (first | exact Pre.nil | apply Pre.cons))
      case r4 => (repeat (first | exact Seqs.nil | refine Seqs.cons ⟨_, _, rfl⟩ ?_))
      case r5 =>
        try dsimp only
        refine' BlockOk.intro (sts := [(S "return", S "", ts)]) ?m1 ?m2 ?m3 ?m4 ?m5
        case m1 => exact List.mem_append_left _ (by k_mem)
        case m2 => exact (Alls.cons (StmAt.mk (List.mem_append_left _ (by k_mem)) ⟨rfl, _, rfl⟩ (List.mem_append_right _ hP) (hA.mono (Tri.sub fun p hp => List.mem_append_right _ hp)) hl) Alls.nil)
        case m3 => exact bl1 (by decide +kernel)
        case m4 => exact Nat.le_of_ble_eq_true rfl
        case m5 => (intro st hst; simp only [List.mem_cons, List.not_mem_nil, or_false] at hst; rcases hst with rfl <;> first | exact htl | exact Nat.zero_le _)
end Mine
namespace Mine
/-- the loop's word -/
structure BodyAt (pA : Addr) (pv : List Value) (ps : List Str) (i : Nat) (bA mA : Addr) (rest : List (Addr × Obj)) (bs : List Value) (sts : List Stm) (mv : List Value) : Prop where
  fBody : ∃ c, (bA, listOf bs.toArray c) ∈ rest
  fAlls : Alls (StmAt rest) bs sts
  fMet : ∃ c, (mA, listOf mv.toArray c) ∈ rest
  fStrs : StrsAre mv (ps ++ sts.flatMap usedOf)
  fFour : ∀ st ∈ sts, st.2.2.length ≤ 4
  fFew : sts.length ≤ 3 * i
  fSeqs : Seqs rest
  fPars : (pA, LCg.lst pv) ∈ rest
def Body (C C0 pA : Addr) (w0 : Obj) (pv : List Value) (ps : List Str) (i : Nat) (m : Str → Option Value) (nw : List (Addr × Obj)) : Prop :=
  ∃ oC rest bA bs sts mA mv, nw = (C, oC) :: (C0, w0) :: rest ∧ oC.data = .cell (some (.ref mA)) ∧ m (S "body") = some (.ref bA) ∧ BodyAt pA pv ps i bA mA rest bs sts mv
theorem cell_seq {C : Addr} {o : Obj} {v : Option Value} (h : o.data = .cell v) : ∀ fs, (C, o).2.data ≠ .fields fs := fun fs e => by
  have e' : o.data = .fields fs := e
  rw [h] at e'; cases e'
theorem body_seq {C C0 : Addr} {oC w0 : Obj} {v v0 : Option Value} {rest : List (Addr × Obj)} (h : oC.data = .cell v) (h0 : w0.data = .cell v0) (hs : Seqs rest) : AllSeq ((C, oC) :: (C0, w0) :: rest) := .consN (cell_seq h) (.consN (cell_seq h0) hs.all)
theorem off_two {C C0 : Addr} {w0 : Obj} {rest : List (Addr × Obj)} (h : @Ne Nat C0 C) (hr : ∀ p ∈ rest, @Ne Nat p.1 C) : ∀ p ∈ (C0, w0) :: rest, @Ne Nat p.1 C := fun p hp => by
  rcases List.mem_cons.mp hp with rfl | hp
  · exact h
  · exact hr p hp
theorem perm5 {h₀ h : Heap} {L : Addr} {a b c d e : Addr × Obj} (N : News h₀ L h [a, b, c, d, e]) : News h₀ L h (d :: e :: [a, b, c]) := fun p hp => N p (by
  simp only [List.mem_cons, List.not_mem_nil, or_false] at hp ⊢
  rcases hp with h | h | h | h | h <;> simp [h])
section
variable {prog : Program} {w : World} {A : Around} {E : Value → Shared → Prop} {s : Shared} {env : Env} {h₀ : Heap} {x : Str} {body : List Stmt} {Q : Flow → Shared → Prop}
theorem body_loop {r : Addr} {b₀ : Int} {t₀ u₀ v₀ : Tok} {n : Nat} {m₀ : Str → Option Value} {C C0 l pA mA₀ : Addr} {oC₀ w0 : Obj} {ys : List Value} {c₀ : Nat} {ps : List Str} {vW : Option Value} (ns : List Str)
    (hh : A.handled = none) (hr : IsRange s.heap r 0 b₀ 1 t₀ u₀ v₀) (hsmall : Builtin.Range.small 0 b₀ 1 = true) (hn : Builtin.Range.rangeSize 0 b₀ 1 = (n : Int)) (F : Fr h₀ env.locals s.heap m₀)
    (N : News h₀ env.locals s.heap [(mA₀, listOf ys.toArray c₀), (l, listOf #[] 0), (pA, LCg.lst ys), (C, oC₀), (C0, w0)]) (dM : oC₀.data = .cell (some (.ref mA₀))) (dW : w0.data = .cell vW) (hb : m₀ (S "body") = some (.ref l)) (hps : StrsAre ys ps) (hx : x ∈ ns) (hCC : @Ne Nat C0 C)
    (turn : ∀ (i : Nat) t m₁ oC rest bA bs sts mA mv I o h tk, i < n → oC.data = .cell (some (.ref mA)) → m₁ (S "body") = some (.ref bA) → BodyAt pA ys ps i bA mA rest bs sts mv → (∀ p ∈ (C0, w0) :: rest, @Ne Nat p.1 C) → (@Ne Nat I C) → Fr h₀ env.locals h (fun z => if z = x then some (.int (i : Int) t) else mixN ns m₁ m₀ z) → News h₀ env.locals h ((I, o) :: (C, oC) :: (C0, w0) :: rest) →
      wpAny (model prog w) A (execs body env) (GrPost h₀ env.locals m₀ ns I o (Body C C0 pA w0 ys ps (i + 1)) { s with heap := h, toks := tk } Q) E { s with heap := h, toks := tk })
    (done : ∀ m₁ oC rest bA bs sts mA mv h tk, oC.data = .cell (some (.ref mA)) → m₁ (S "body") = some (.ref bA) → BodyAt pA ys ps n bA mA rest bs sts mv → Fr h₀ env.locals h (mixN ns m₁ m₀) → News h₀ env.locals h ((C, oC) :: (C0, w0) :: rest) → Q .next { s with heap := h, toks := tk }) :
    wpAny (model prog w) A (pyIter (.ref r)) (fun it s₂ => LoopAtV prog w A h₀ env x body Q E it s₂) E s := by
  refine range_turns (Body C C0 pA w0 ys ps) ns hh hr hsmall hn F (perm5 N) hx ⟨oC₀, _, l, [], [], mA₀, ys, rfl, dM, hb, ⟨⟨0, by simp⟩, .nil, ⟨c₀, by simp⟩, by simpa using hps, by simp, by simp, .cons ⟨_, _, rfl⟩ (.cons ⟨_, _, rfl⟩ (.cons ⟨_, _, rfl⟩ .nil)), by simp⟩⟩
    (body_seq dM dW (.cons ⟨_, _, rfl⟩ (.cons ⟨_, _, rfl⟩ (.cons ⟨_, _, rfl⟩ .nil)))) ?_ ?_
  · intro i t m₁ nw I o h tk hi hP hsq hfo F₁ N₁
    obtain ⟨oC, rest, bA, bs, sts, mA, mv, rfl, hC, hbm, hB⟩ := hP
    refine turn i t m₁ oC rest bA bs sts mA mv I o h tk hi hC hbm hB (off_two hCC (off_cell N₁ (by simp) hC (fun p hp => by simp [hp]) hB.fSeqs)) ?_ F₁ N₁
    intro e
    have h1 := (N₁ _ (List.mem_cons_self ..)).1
    have h2 := (N₁ (C, oC) (by simp)).1
    have e' : I = C := e
    rw [show ((I, o) : Addr × Obj).1 = C from e'] at h1
    have h3 : o = oC := Option.some.inj (h1.symm.trans h2)
    obtain ⟨fs, hfs⟩ := hfo
    rw [h3, hC] at hfs; cases hfs
  · intro m₁ nw h tk hP hsq F₁ N₁
    obtain ⟨oC, rest, bA, bs, sts, mA, mv, rfl, hC, hbm, hB⟩ := hP
    exact done m₁ oC rest bA bs sts mA mv h tk hC hbm hB F₁ N₁
end
/-- a turn's end -/
theorem gr_end {h₀ h' : Heap} {L : Addr} {m₀ m' : Str → Option Value} {ns : List Str} {I C C0 pA : Addr} {o oC w0 : Obj} {ys : List Value} {ps : List Str} {i : Nat} {s₁ : Shared} {tk : Nat} {rest : List (Addr × Obj)} {bA mA : Addr} {bs : List Value} {sts : List Stm} {mv : List Value} {vW : Option Value}
    (F : Fr h₀ L h' m') (N : News h₀ L h' ((I, o) :: (C, oC) :: (C0, w0) :: rest)) (hC : oC.data = .cell (some (.ref mA))) (dW : w0.data = .cell vW) (hbm : m' (S "body") = some (.ref bA)) (hB : BodyAt pA ys ps i bA mA rest bs sts mv) (hz : ∀ z, z ∉ ns → m' z = m₀ z) :
    GrEnd h₀ L m₀ ns I o (Body C C0 pA w0 ys ps i) s₁ { s₁ with heap := h', toks := tk } :=
  ⟨h', tk, m', _, rfl, F, N, body_seq hC dW hB.fSeqs, hz, oC, rest, bA, bs, sts, mA, mv, rfl, hC, hbm, hB⟩
theorem BodyAt.sub {pA : Addr} {pv : List Value} {ps : List Str} {i : Nat} {bA mA : Addr} {rest rest' : List (Addr × Obj)} {bs : List Value} {sts : List Stm} {mv : List Value} (h : BodyAt pA pv ps i bA mA rest bs sts mv) (hs : ∀ p ∈ rest, p ∈ rest') (hq : Seqs rest') : BodyAt pA pv ps i bA mA rest' bs sts mv := by
  obtain ⟨c, hb⟩ := h.fBody
  obtain ⟨c', hm⟩ := h.fMet
  exact ⟨⟨c, hs _ hb⟩, h.fAlls.mono (StmAt.sub hs), ⟨c', hs _ hm⟩, h.fStrs, h.fFour, h.fFew, hq, hs _ h.fPars⟩
/-- the next turn's word -/
theorem BodyAt.step {pA : Addr} {pv : List Value} {ps : List Str} {i : Nat} {bA mA bA' mA' : Addr} {rest rest' : List (Addr × Obj)} {bs bs' : List Value} {sts sts' : List Stm} {mv mv' : List Value} {c c' : Nat} (h : BodyAt pA pv ps i bA mA rest bs sts mv) (hs : ∀ p ∈ rest, p ∈ rest') (hq : Seqs rest')
    (hb : (bA', listOf (bs ++ bs').toArray c) ∈ rest') (ha : Alls (StmAt rest') bs' sts') (h4 : ∀ st ∈ sts', st.2.2.length ≤ 4) (h3 : sts'.length ≤ 3) (hm : (mA', listOf (mv ++ mv').toArray c') ∈ rest') (hst : StrsAre mv' (sts'.flatMap usedOf)) : BodyAt pA pv ps (i + 1) bA' mA' rest' (bs ++ bs') (sts ++ sts') (mv ++ mv') := by
  refine ⟨⟨c, hb⟩, (h.fAlls.mono (StmAt.sub hs)).append ha, ⟨c', hm⟩, ?_, ?_, ?_, hq, hs _ h.fPars⟩
  · rw [List.flatMap_append, ← List.append_assoc]; exact h.fStrs.append' hst
  · intro st hst
    rcases List.mem_append.mp hst with hst | hst
    · exact h.fFour st hst
    · exact h4 st hst
  · have := h.fFew
    rw [List.length_append]; omega
theorem BodyAt.mlen {pA : Addr} {pv : List Value} {ps : List Str} {i : Nat} {bA mA : Addr} {rest : List (Addr × Obj)} {bs : List Value} {sts : List Stm} {mv : List Value} (h : BodyAt pA pv ps i bA mA rest bs sts mv) (hi : i ≤ 3) (hp : ps.length ≤ 3) : mv.length ≤ 60 ∧ bs.length ≤ 10 := by
  have h1 := h.fStrs.length
  have h2 := flat_len h.fFour
  have h3 := h.fFew
  have h4 := h.fAlls.1
  rw [List.length_append] at h1
  omega
theorem regroup {h₀ h : Heap} {L : Addr} {own rest : List (Addr × Obj)} {a b c : Addr × Obj} (N : News h₀ L h (own ++ (a :: b :: c :: rest))) : News h₀ L h (a :: b :: c :: (own ++ rest)) := fun p hp => N p (by
  simp only [List.mem_cons, List.mem_append] at hp ⊢
  rcases hp with h | h | h | h | h
  · exact .inr (.inl h)
  · exact .inr (.inr (.inl h))
  · exact .inr (.inr (.inr (.inl h)))
  · exact .inl h
  · exact .inr (.inr (.inr (.inr h))))
section
variable {h₀ h : Heap} {L I C C0 pA bA mA : Addr} {o oC w0 : Obj} {rest own : List (Addr × Obj)} {pv bs mv : List Value} {ps : List Str} {sts : List Stm} {i : Nat} {v : Option Value}
/-- new sequences go to the rest, which is then one letter -/
theorem grow (N : News h₀ L h (own ++ ((I, o) :: (C, oC) :: (C0, w0) :: rest))) (hC : oC.data = .cell v) (hCC : @Ne Nat C0 C) (hs : Seqs own) (hr : Seqs rest) :
    ∃ R, News h₀ L h ((I, o) :: (C, oC) :: (C0, w0) :: R) ∧ (∀ p ∈ (C0, w0) :: R, @Ne Nat p.1 C) ∧ Seqs R ∧ (∀ p ∈ rest, p ∈ R) ∧ R = own ++ rest := by
  have N2 := regroup N
  have hq : Seqs (own ++ rest) := hs.append hr
  exact ⟨own ++ rest, N2, off_two hCC (off_cell N2 (by simp) hC (fun p hp => by simp only [List.mem_cons]; exact .inr (.inr (.inr hp))) hq), hq, fun p hp => List.mem_append_right _ hp, rfl⟩
theorem after_expr {T : Addr} (N : News h₀ L h (own ++ ((I, o) :: (C, oC) :: (C0, w0) :: rest))) (hC : oC.data = .cell v) (hCC : @Ne Nat C0 C) (hs : Seqs own) (hE : ExprOk own T) (hB : BodyAt pA pv ps i bA mA rest bs sts mv) :
    ∃ R oE P vs cP U uv cU ts, News h₀ L h ((I, o) :: (C, oC) :: (C0, w0) :: R) ∧ (∀ p ∈ (C0, w0) :: R, @Ne Nat p.1 C) ∧ BodyAt pA pv ps i bA mA R bs sts mv ∧ (T, oE) ∈ R ∧ TupO oE [Value.ref P, .ref U].toArray ∧ (P, listOf (List.toArray vs) cP) ∈ R ∧ Alls (Tri R) vs ts ∧ vs.length ≤ 4 ∧ (U, listOf (List.toArray uv) cU) ∈ R ∧ StrsAre uv (varsOf ts) ∧ uv.length ≤ 4 := by
  obtain ⟨R, N2, hof, hq, hsub, e⟩ := grow N hC hCC hs hB.fSeqs
  obtain ⟨oE, P, vs, cP, U, uv, cU, ts, h1, h2, h3, h4, h5, h6, h7, h8⟩ := hE
  have hl : ∀ p ∈ own, p ∈ R := fun p hp => by rw [e]; exact List.mem_append_left _ hp
  exact ⟨R, oE, P, vs, cP, U, uv, cU, ts, N2, hof, hB.sub hsub hq, hl _ h1, h2, hl _ h3, h4.mono (Tri.sub hl), h5, hl _ h6, h7, h8⟩
theorem after_block {T : Addr} {us : List Str} (N : News h₀ L h (own ++ ((I, o) :: (C, oC) :: (C0, w0) :: rest))) (hC : oC.data = .cell v) (hCC : @Ne Nat C0 C) (hs : Seqs own) (hE : BlockOk (own ++ rest) T us) (hr : Seqs rest) :
    ∃ R bs' c' sts', News h₀ L h ((I, o) :: (C, oC) :: (C0, w0) :: R) ∧ (∀ p ∈ (C0, w0) :: R, @Ne Nat p.1 C) ∧ Seqs R ∧ (∀ p ∈ rest, p ∈ R) ∧ (T, listOf (List.toArray bs') c') ∈ R ∧ Alls (StmAt R) bs' sts' ∧ sts'.flatMap usedOf = us ∧ bs'.length ≤ 3 ∧ ∀ st ∈ sts', st.2.2.length ≤ 4 := by
  obtain ⟨R, N2, hof, hq, hsub, rfl⟩ := grow N hC hCC hs hr
  obtain ⟨bs', c', sts', h1, h2, h3, h4, h5⟩ := hE
  exact ⟨_, bs', c', sts', N2, hof, hq, hsub, h1, h2, h3, h4, h5⟩
end
section
variable {prog : Program} {w : World} {A : Around} {E : Value → Shared → Prop} {s : Shared} {Q : Value → Shared → Prop} {h₀ : Heap} {L : Addr} {m : Str → Option Value}
theorem add_two {news : List (Addr × Obj)} {a b : Addr} {vs ws : List Value} (F : Fr h₀ L s.heap m) (N : News h₀ L s.heap news) (ha : s.heap.IsList a vs.toArray) (hb : s.heap.IsList b ws.toArray)
    (h : ∀ D h', Fr h₀ L h' m → News h₀ L h' ((D, listOf (vs ++ ws).toArray 0) :: news) → (∀ p ∈ news, p.1 < D) → Q (.ref D) { s with heap := h' }) (hz : vs.length + ws.length ≤ sizeLine) :
    wpAny (model prog w) A (binaryOp .Add (.ref a) (.ref b)) Q E s := kmk_add_lit F N ha hb rfl h hz
end
theorem fit2 {a b : Nat} (ha : a ≤ 100) (hb : b ≤ 100) : a + b ≤ sizeLine := by rw [sizeLine_eq]; omega
theorem used_set {z : Str} {ts : List Tr} : List.flatMap usedOf [(S "set", z, ts)] = varsOf ts ++ [z] := by
  rw [List.flatMap_cons, List.flatMap_nil, List.append_nil]; unfold usedOf; simp
theorem loop_few {c : Int} {i : Nat} (h : i < (c.fmod 4 - 0).toNat) : i ≤ 3 := by
  have := fmod_hi c (n := 4) (by decide)
  omega
theorem not10 {z a b c d e f g h i j : Str} (hz : z ∉ [a, b, c, d, e, f, g, h, i, j]) : z ≠ a ∧ z ≠ b ∧ z ≠ c ∧ z ≠ d ∧ z ≠ e ∧ z ≠ f ∧ z ≠ g ∧ z ≠ h ∧ z ≠ i ∧ z ≠ j := by
  simp only [List.mem_cons, List.not_mem_nil, or_false, not_or] at hz; exact hz
section
variable {pA bA mA P D2 D3 l l2 D' D1 : Addr} {pv bs mv vs uv bs' : List Value} {ps : List Str} {sts sts' : List Stm} {i cP : Nat} {R3 R4 : List (Addr × Obj)} {ts : List Tr} {z : Str} {t1 t2 : Tok} {o2 o3 : Obj}
theorem set_step (e : R4 = [(D3, listOf (mv ++ uv ++ [Value.str z t2]).toArray 0), (l2, o2), (D2, listOf (bs ++ [Value.ref D']).toArray 0), (l, o3), (D', { cls := .type "tuple", data := .seq #[.str (S "set") t1, .str z t2, .ref P] })] ++ R3) (hB : BodyAt pA pv ps i bA mA R3 bs sts mv) (hP : (P, listOf vs.toArray cP) ∈ R3) (hA : Alls (Tri R3) vs ts) (h5 : vs.length ≤ 4) (h7 : StrsAre uv (varsOf ts)) (hq : Seqs R4) :
    BodyAt pA pv ps (i + 1) D2 D3 R4 (bs ++ [.ref D']) (sts ++ [(S "set", z, ts)]) (mv ++ (uv ++ [.str z t2])) := by
  have hsub : ∀ p ∈ R3, p ∈ R4 := fun p hp => by rw [e]; exact List.mem_append_right _ hp
  refine hB.step (c := 0) (c' := 0) hsub hq (by rw [e]; simp) (.cons (StmAt.mk (t1 := t1) (t2 := t2) (o := { cls := .type "tuple", data := .seq #[.str (S "set") t1, .str z t2, .ref P] }) (by rw [e]; simp) ⟨rfl, _, rfl⟩ (hsub _ hP) (hA.mono (Tri.sub hsub)) h5) .nil) ?_ (by simp) (by rw [e, ← List.append_assoc]; simp) (by rw [used_set]; exact h7.append' (.cons _ _ .nil))
  intro st hst
  rw [List.mem_singleton.mp hst]
  show ts.length ≤ 4
  rw [← hA.1]; exact h5
theorem block_step (e : R4 = [(D2, listOf (bs ++ bs').toArray 0)] ++ R3) (hB : BodyAt pA pv ps i bA mA R3 bs sts mv) (hM : (D1, listOf (mv ++ uv).toArray 0) ∈ R3) (ha : Alls (StmAt R3) bs' sts') (hf : sts'.flatMap usedOf = varsOf ts) (h3 : bs'.length ≤ 3) (h4 : ∀ st ∈ sts', st.2.2.length ≤ 4) (h7 : StrsAre uv (varsOf ts)) (hq : Seqs R4) :
    BodyAt pA pv ps (i + 1) D2 D1 R4 (bs ++ bs') (sts ++ sts') (mv ++ uv) := by
  have hsub : ∀ p ∈ R3, p ∈ R4 := fun p hp => by rw [e]; exact List.mem_append_right _ hp
  exact hB.step (c := 0) (c' := 0) hsub hq (by rw [e]; simp) (ha.mono (StmAt.sub hsub)) h4 (by rw [← ha.1]; exact h3) (hsub _ hM) (by rw [hf]; exact h7)
end
theorem way_lo {c : Int} (h : ¬ c.fmod 7 < 3) : 0 ≤ c.fmod 7 - 3 := by omega
theorem way_hi {c : Int} : c.fmod 7 - 3 < 4 := by have := fmod_hi c (n := 7) (by decide); omega
end Mine
namespace Mine
theorem loop_all {c : Int} : (c.fmod 4 - 0).toNat ≤ 3 := by have := fmod_hi c (n := 4) (by decide); omega
section
variable {A : Around} {s : Shared} {l b : Addr} {xs ys : List Value}
theorem eq_lists (hl : s.heap.IsList l xs.toArray) (hb : s.heap.IsList b ys.toArray) (hsz : xs.length = ys.length) (hu : A.units < cLine) (he : ∀ (j : Nat) v u, xs[j]? = some v → ys[j]? = some u → SeqAt.EqAt A.in1 s v u true) : SeqAt.EqAt A s (.ref l) (.ref b) true := by
  by_cases e : l = b
  · subst e; exact SeqAt.EqAt.same _
  · have h := SeqAt.RcAt.lists (A := A) (e := fun _ => true) hl hb (by simpa using hsz) hu (fun j h1 h2 => he j _ _ (by simpa using List.getElem?_eq_getElem (by simpa using h1)) (by simpa using List.getElem?_eq_getElem (by simpa using h2)))
    have q : (List.range xs.toArray.size).all (fun _ => true) = true := by simp
    rw [q] at h
    exact SeqAt.EqAt.of_refs e h
theorem eq_tups (hl : IsTup s.heap l xs.toArray) (hb : IsTup s.heap b ys.toArray) (hsz : xs.length = ys.length) (hu : A.units < cLine) (he : ∀ (j : Nat) v u, xs[j]? = some v → ys[j]? = some u → SeqAt.EqAt A.in1 s v u true) : SeqAt.EqAt A s (.ref l) (.ref b) true := by
  by_cases e : l = b
  · subst e; exact SeqAt.EqAt.same _
  · have h := SeqAt.RcAt.tuples (A := A) (e := fun _ => true) (items := xs.toArray) (items2 := ys.toArray) hl hb hu (fun j h1 h2 => he j _ _ (by simpa using List.getElem?_eq_getElem (by simpa using h1)) (by simpa using List.getElem?_eq_getElem (by simpa using h2)))
    have q : ((List.range (min xs.toArray.size ys.toArray.size)).all (fun _ => true) && xs.toArray.size == ys.toArray.size) = true := by simp [hsz]
    rw [q] at h
    exact SeqAt.EqAt.of_refs e h
theorem three_eq {a b c a' b' c' : Value} (h1 : SeqAt.EqAt A s a a' true) (h2 : SeqAt.EqAt A s b b' true) (h3 : SeqAt.EqAt A s c c' true) : ∀ (j : Nat) v u, [a, b, c][j]? = some v → [a', b', c'][j]? = some u → SeqAt.EqAt A s v u true := by
  intro j v u hv hu
  match j with
  | 0 => cases hv; cases hu; exact h1
  | 1 => cases hv; cases hu; exact h2
  | 2 => cases hv; cases hu; exact h3
  | j + 3 => simp at hv
end
/-- a copy of a statement: the words the same objects, the list a list of the same objects -/
def CopyAt (nw : List (Addr × Obj)) (y b : Value) : Prop := ∃ T o T' o' a1 a2 l l' us c c', b = .ref T ∧ y = .ref T' ∧ (T, o) ∈ nw ∧ TupO o [a1, a2, Value.ref l].toArray ∧ (l, listOf (List.toArray us) c) ∈ nw ∧ (T', o') ∈ nw ∧ TupO o' [a1, a2, Value.ref l'].toArray ∧ (l', listOf (List.toArray us) c') ∈ nw
theorem CopyAt.sub {a b : List (Addr × Obj)} (hs : ∀ p ∈ a, p ∈ b) (y v : Value) (h : CopyAt a y v) : CopyAt b y v := by
  obtain ⟨T, o, T', o', a1, a2, l, l', us, c, c', e1, e2, h1, h2, h3, h4, h5, h6⟩ := h
  exact ⟨T, o, T', o', a1, a2, l, l', us, c, c', e1, e2, hs _ h1, h2, hs _ h3, hs _ h4, h5, hs _ h6⟩
section
variable {A : Around} {s : Shared} {h₀ : Heap} {L : Addr} {nw : List (Addr × Obj)}
theorem same_items {us : List Value} {A : Around} : ∀ (j : Nat) v u, us[j]? = some v → us[j]? = some u → SeqAt.EqAt A s v u true := by
  intro j v u hv hu
  rw [hv] at hu
  have : v = u := Option.some.inj hu
  subst this; exact SeqAt.EqAt.same _
theorem eq_copy {y b : Value} (N : News h₀ L s.heap nw) (h : CopyAt nw y b) (hu : A.units + 2 < cLine) : SeqAt.EqAt A s b y true := by
  obtain ⟨T, o, T', o', a1, a2, l, l', us, c, c', rfl, rfl, h1, h2, h3, h4, h5, h6⟩ := h
  refine eq_tups (h2.isTup N h1) (h5.isTup N h4) rfl (by omega) (three_eq (.same _) (.same _) ?_)
  exact eq_lists (News.isList N h3) (News.isList N h6) rfl (by rw [units_in1]; omega) same_items
theorem eq_copies {bs ys : List Value} {b y : Addr} (N : News h₀ L s.heap nw) (hb : s.heap.IsList b bs.toArray) (hy : s.heap.IsList y ys.toArray) (h : Alls (CopyAt nw) ys bs) (hu : A.units + 3 < cLine) : SeqAt.EqAt A s (.ref b) (.ref y) true := by
  refine eq_lists hb hy h.1.symm (by omega) (fun j v u hv hu' => ?_)
  obtain ⟨b', e, hc⟩ := h.2 j u hu'
  rw [hv] at e
  have : v = b' := Option.some.inj e
  subst this
  exact eq_copy N hc (by rw [units_in1]; omega)
variable {prog : Program} {w : World} {E : Value → Shared → Prop} {Q : Value → Shared → Prop}
/-- a function and its copy -/
theorem ne_fun {f k pA pC bA bC : Addr} {tv : Value} {ys bs cs : List Value} (N : News h₀ L s.heap nw) (hf : IsTup s.heap f [tv, .ref pA, .ref bA].toArray) (hk : IsTup s.heap k [tv, .ref pC, .ref bC].toArray) (hp : s.heap.IsList pA ys.toArray) (hpc : s.heap.IsList pC ys.toArray) (hb : s.heap.IsList bA bs.toArray) (hbc : s.heap.IsList bC cs.toArray)
    (h : Alls (CopyAt nw) cs bs) (hu : A.units + 5 < cLine) (hQ : Q (.bool false) s) : wpAny (model prog w) A (compareOp .NotEq (.ref f) (.ref k)) Q E s := by
  have h3 := three_eq (A := A.in1) (s := s) (SeqAt.EqAt.same tv) (eq_lists hp hpc rfl (by rw [units_in1]; omega) same_items) (eq_copies (A := A.in1) N hb hbc h (by rw [units_in1]; omega))
  refine SeqAt.RcNeAt.tuples (A := A) (e := fun _ => true) (items := [tv, .ref pA, .ref bA].toArray) (items2 := [tv, .ref pC, .ref bC].toArray) hf hk (by omega) (fun j h1 h2 => h3 j _ _ (by simpa using List.getElem?_eq_getElem (by simpa using h1)) (by simpa using List.getElem?_eq_getElem (by simpa using h2))) prog w E Q ?_
  have q : (!((List.range (min [tv, Value.ref pA, .ref bA].toArray.size [tv, Value.ref pC, .ref bC].toArray.size)).all (fun _ => true) && [tv, Value.ref pA, .ref bA].toArray.size == [tv, Value.ref pC, .ref bC].toArray.size)) = false := by simp
  rw [q]; exact hQ
theorem ne_words {a b : Addr} {xs ys : List Value} {ns : List Str} (ha : s.heap.IsList a xs.toArray) (hb : s.heap.IsList b ys.toArray) (hi : StrsAre xs ns) (hj : StrsAre ys ns) (hu : A.units < cLine) (h : Q (.bool false) s) :
    wpAny (model prog w) A (compareOp .NotEq (.ref a) (.ref b)) Q E s := ne_strs ha hb hi hj hu (by simpa using h)
end
theorem fit1 {xs : List Value} {n : Nat} (h : xs.length ≤ n) (hn : n ≤ 1000) : xs.toArray.size ≤ sizeLine := by rw [List.size_toArray, sizeLine_eq]; omega
abbrev ledOf {h₀ h : Heap} {L : Addr} {led : List (Addr × Obj)} (_ : News h₀ L h led) : List (Addr × Obj) := led
theorem expose {h₀ h : Heap} {L : Addr} {a b c d x : Addr × Obj} {rest led nw : List (Addr × Obj)} (N : News h₀ L h (x :: nw)) (e : led = a :: b :: c :: d :: rest) (hs : ∀ p ∈ led, p ∈ nw) : News h₀ L h (c :: d :: x :: nw) := fun p hp => by
  subst e
  rcases List.mem_cons.mp hp with rfl | hp
  · exact N _ (List.mem_cons_of_mem _ (hs _ (by simp)))
  rcases List.mem_cons.mp hp with rfl | hp
  · exact N _ (List.mem_cons_of_mem _ (hs _ (by simp)))
  · exact N p hp
theorem regroup2 {h₀ h : Heap} {L : Addr} {x y a b c : Addr × Obj} {rest : List (Addr × Obj)} (N : News h₀ L h (x :: y :: a :: b :: c :: rest)) : News h₀ L h (a :: b :: c :: x :: y :: rest) := regroup (own := [x, y]) N
theorem len_fit {xs : List Value} {n : Nat} (h : xs.length ≤ n) (hn : n ≤ 1000) : (xs.toArray.size : Int) < 2 ^ 63 := by rw [List.size_toArray]; omega
theorem copy_step {nw nw' : List (Addr × Obj)} {ys bs us : List Value} {i c c' : Nat} {T T' l l' : Addr} {o o' : Obj} {a1 a2 : Value} (hs : ∀ p ∈ nw, p ∈ nw') (h : Alls (CopyAt nw) ys (bs.take i)) (hb : bs[i]? = some (.ref T)) (h1 : (T, o) ∈ nw) (h2 : TupO o [a1, a2, Value.ref l].toArray) (h3 : (l, listOf us.toArray c) ∈ nw) (h4 : (T', o') ∈ nw') (h5 : TupO o' [a1, a2, Value.ref l'].toArray) (h6 : (l', listOf us.toArray c') ∈ nw') : Alls (CopyAt nw') (ys ++ [.ref T']) (bs.take (i + 1)) := by
  rw [take_snoc hb]
  exact (h.mono (CopyAt.sub hs)).append (.cons ⟨T, o, T', o', a1, a2, l, l', us, c, c', rfl, rfl, hs _ h1, h2, hs _ h3, h4, h5, h6⟩ .nil)
theorem dd_yes {ms : List Str} {ys : List Value} {i : Nat} {t : Tok} (hi : i < ms.length) (h : StrsAre ys (dedup (ms.take i))) (hn : (ms.take i).any (· == ms.getD i Str.empty) = false) : StrsAre (ys ++ [.str (ms.getD i Str.empty) t]) (dedup (ms.take (i + 1))) := by
  have e : ms[i]? = some (ms.getD i Str.empty) := by rw [List.getD_eq_getElem?_getD, List.getElem?_eq_getElem hi]; rfl
  rw [take_snoc e, dedup_snoc, hn]
  exact h.append' (.cons _ _ .nil)
theorem dd_no {ms : List Str} {ys : List Value} {i : Nat} (hi : i < ms.length) (h : StrsAre ys (dedup (ms.take i))) (hn : (ms.take i).any (· == ms.getD i Str.empty) = true) : StrsAre ys (dedup (ms.take (i + 1))) := by
  have e : ms[i]? = some (ms.getD i Str.empty) := by rw [List.getD_eq_getElem?_getD, List.getElem?_eq_getElem hi]; rfl
  rw [take_snoc e, dedup_snoc, hn]; exact h
theorem dd_yesk {ms : List Str} {ys : List Value} {i : Nat} {k : Int} {t : Tok} (e : k.toNat = i) (hi : i < ms.length) (h : StrsAre ys (dedup (ms.take i))) (hn : (ms.take k.toNat).any (· == ms.getD k.toNat Str.empty) = false) : StrsAre (ys ++ [.str (ms.getD k.toNat Str.empty) t]) (dedup (ms.take (i + 1))) := by
  rw [e] at hn ⊢; exact dd_yes hi h hn
theorem dd_nok {ms : List Str} {ys : List Value} {i : Nat} {k : Int} (e : k.toNat = i) (hi : i < ms.length) (h : StrsAre ys (dedup (ms.take i))) (hn : (ms.take k.toNat).any (· == ms.getD k.toNat Str.empty) = true) : StrsAre ys (dedup (ms.take (i + 1))) := by
  rw [e] at hn; exact dd_no hi h hn
theorem idx_in {mv : List Value} {ms : List Str} {i : Nat} (h : StrsAre mv ms) (hi : i < ((mv.toArray.size : Int) - 0).toNat) : i < ms.length := by
  have := h.length
  rw [List.size_toArray] at hi; omega
theorem idx_lo (i : Nat) : 0 ≤ 0 + (i : Int) := by omega
theorem idx_hi {i n : Nat} (h : i < n) : 0 + (i : Int) < (n : Int) := by omega
theorem idx_nat (i : Nat) : (0 + (i : Int)).toNat = i := by omega
theorem ms_fit {mv : List Value} {ms : List Str} (h : StrsAre mv ms) (hl : mv.length ≤ 60) : (ms.length : Int) < 2 ^ 63 := by
  have := h.length; omega
theorem sts_few {pA bA mA : Addr} {pv bs mv : List Value} {ps : List Str} {c : Int} {rest : List (Addr × Obj)} {sts : List Stm} (h : BodyAt pA pv ps (c.fmod 4 - 0).toNat bA mA rest bs sts mv) : sts.length ≤ 20 := by
  have := h.fFew
  have := loop_all (c := c)
  omega
theorem all_len {mv : List Value} {ms : List Str} {n : Nat} (h : StrsAre mv ms) (hn : n = ((mv.toArray.size : Int) - 0).toNat) : ms.take n = ms := by
  have := h.length
  rw [List.size_toArray] at hn
  rw [List.take_of_length_le (by omega)]
theorem small_mv {mv : List Value} (h : mv.length ≤ 60) : Builtin.Range.small 0 (mv.toArray.size : Int) 1 = true := by
  rw [List.size_toArray]
  have : ∀ n : Nat, n ≤ 60 → Builtin.Range.small 0 (n : Int) 1 = true := by decide
  exact this _ h
theorem size_mv {mv : List Value} (h : mv.length ≤ 60) : ((mv.toArray.size : Int) - 0).toNat ≤ sizeLine := by
  rw [List.size_toArray, sizeLine_eq]; omega
theorem all_strs {mv ys : List Value} {ms : List Str} (h : StrsAre mv ms) (hR : StrsAre ys (dedup (ms.take (((mv.length : Nat) : Int) - 0).toNat))) : StrsAre ys (dedup ms) := by
  have := h.length
  rw [List.take_of_length_le (by omega)] at hR; exact hR
theorem copy_end {h₀ h' : Heap} {L I C D Tn ln : Addr} {m : Str → Option Value} {s₁ : Shared} {oI oC oT oL : Obj} {ys : List Value} {nw : List (Addr × Obj)} {Sx : List (Addr × Obj) → Prop} {R : List Value → List (Addr × Obj) → Prop} {tk : Nat} (F : Fr h₀ L h' m) (N : News h₀ L h' ((Tn, oT) :: (ln, oL) :: (I, oI) :: (C, oC) :: (D, LCg.lst ys) :: nw)) (off : LCg.Off3 I C D nw)
    (n1 : @Ne Nat Tn I) (n2 : @Ne Nat Tn C) (n3 : @Ne Nat Tn D) (n4 : @Ne Nat ln I) (n5 : @Ne Nat ln C) (n6 : @Ne Nat ln D) (hS : Sx ((Tn, oT) :: (ln, oL) :: nw)) (hR : R (ys ++ [.ref Tn]) ((Tn, oT) :: (ln, oL) :: nw)) :
    LCg.CompEnd h₀ L m s₁ I oI C oC D (LCg.lst ys) Sx (fun y news' => GrEl R ys y news') (.ref Tn) { s₁ with heap := h', toks := tk } :=
  ⟨h', tk, _, rfl, F, regroup2 N, ⟨⟨n1, n2, n3⟩, ⟨n4, n5, n6⟩, off⟩, hS, hR⟩
end Mine
open Mine
theorem names_at (P : Params) : ∃ vs n dd sl ys, (hd.heap_39 P).lookup 22 = some ⟨.type "tuple", dd, .seq (List.toArray vs) n, sl⟩ ∧ StrsAre vs ys ∧ ys.length = 6 := ⟨_, _, _, _, _, rfl, by repeat constructor, rfl⟩
theorem titles_at (P : Params) : ∃ vs n dd sl ys, (hd.heap_39 P).lookup 23 = some ⟨.type "tuple", dd, .seq (List.toArray vs) n, sl⟩ ∧ StrsAre vs ys ∧ ys.length = 4 := ⟨_, _, _, _, _, rfl, by repeat constructor, rfl⟩
section
variable {prog : Program} {w : World} {A : Around} {E : Value → Shared → Prop} {s : Shared} {Q : Value → Shared → Prop} {h₀ : Heap} {L : Addr} {m : Str → Option Value} {value slice : Expr} {u : Tok} {k : Int}
theorem it_names (F : Fr h₀ L s.heap m) (X : (hd.heap_39 w.params).In h₀) (h0 : 0 ≤ k) (h1 : k < 6) (h : ∀ x t, Q (.str x t) s)
    (hs : subscripted slice false (.ref 22) (.int k u) = operate [.ref 22, .int k u] (getItem (.ref 22) (.int k u)) := by with_unfolding_all rfl) :
    wpAny (model prog w) A (subscriptTail value slice (.ref 22) (.int k u)) Q E s := by
  obtain ⟨vs, n, dd, sl, ys, e, hS, hl⟩ := names_at w.params
  exact itemT_strs (tupK (X.keeps F.keep) e) hS h0 (by omega) (by omega) (h _) hs
theorem it_titles (F : Fr h₀ L s.heap m) (X : (hd.heap_39 w.params).In h₀) (h0 : 0 ≤ k) (h1 : k < 4) (h : ∀ x t, Q (.str x t) s)
    (hs : subscripted slice false (.ref 23) (.int k u) = operate [.ref 23, .int k u] (getItem (.ref 23) (.int k u)) := by with_unfolding_all rfl) :
    wpAny (model prog w) A (subscriptTail value slice (.ref 23) (.int k u)) Q E s := by
  obtain ⟨vs, n, dd, sl, ys, e, hS, hl⟩ := titles_at w.params
  exact itemT_strs (tupK (X.keeps F.keep) e) hS h0 (by omega) (by omega) (h _) hs
end
theorem strs_of {ys : List Value} (h : ∀ (i : Nat) y, ys[i]? = some y → ∃ x t, y = .str x t) : ∃ ps : List Str, StrsAre ys ps := by
  induction ys with
  | nil => exact ⟨[], .nil⟩
  | cons y ys ih =>
    obtain ⟨x, t, rfl⟩ := h 0 y rfl
    obtain ⟨ps, hp⟩ := ih fun i z hz => h (i + 1) z hz
    exact ⟨x :: ps, .cons _ _ hp⟩
local macro_rules | `(tactic| walk_at "exec Assign cons ListComp") => `(tactic| (k_here; (with_reducible show wpAny _ _ (exec (Stmt.Assign _ (Expr.ListComp _ [⟨_, _, [], _⟩] _ _) _) _) _ _ _); k_dflt (refine LCg.Assign_ListComp_U (F₀ := by k_asm) (by rfl) (by with_unfolding_all rfl) (by with_unfolding_all rfl) (by decide) (by rfl) (by decide) (by rfl) (by rfl) (by rfl) ?_)))
local macro_rules | `(tactic| walk_at "exec Assign cons ListComp") => `(tactic| (k_here; (with_reducible show wpAny _ _ (exec (Stmt.Assign _ (Expr.ListComp _ [⟨_, _, [_], _⟩] _ _) _) _) _ _ _); k_dflt (refine LCt.Assign_ListComp_T (F₀ := by k_asm) (by rfl) (by with_unfolding_all rfl) (by with_unfolding_all rfl) (by decide) (by rfl) (by decide) (by rfl) (by rfl) (by rfl) ?_)))
local macro_rules | `(tactic| walk_at "eval ListComp") => `(tactic| (k_here; k_dflt (refine LCg.ListComp_U (F₀ := by k_asm) (by with_unfolding_all rfl) (by decide) (by rfl) (by decide) (by rfl) ?_)))
local macro_rules | `(tactic| walk_at "call type:list") => `(tactic| (k_here; (with_reducible show wpAny _ _ (call (Value.type _) [Value.ref _]) _ _ _); k_dflt (refine' list_copyK ?F ?N ?l ?_ ?z; (case F => k_asm); (case N => k_asm); (case l => first | exact News.isList (by k_asm) (by (repeat (first | with_reducible assumption | apply List.mem_cons_of_mem))) | kmk_list); (case z => exact fit1 (by with_reducible assumption) (by decide))); intro D' c' h' F' N' l1; (try k_lt l1); (try k_sweep)))
local macro_rules | `(tactic| walk_at "call builtin:len") => `(tactic| (k_here; (with_reducible show wpAny _ _ (call (Value.builtin "len") [Value.ref _]) _ _ _); k_dflt (refine' Calls.call_len_list ?l ?z ?_; (case l => exact News.isList (by k_asm) (by (repeat (first | with_reducible assumption | apply List.mem_cons_of_mem)))); (case z => exact len_fit (by with_reducible assumption) (by decide)))))
local macro_rules | `(tactic| walk_at "subscriptTail") => `(tactic| (k_here; (with_reducible show wpAny _ _ (subscriptTail _ _ (Value.ref _) (Value.int _ _)) _ _ _); k_dflt (refine' item_tupleT ?t ?a ?b ?c ?d ?_ ?s; (case t => with_reducible assumption); (case a => decide); (case b => decide); (case c => rfl); (case d => rfl); (case s => with_unfolding_all rfl))))
local macro_rules | `(tactic| walk_at "subscriptTail") => `(tactic| (k_here; (with_reducible show wpAny _ _ (subscriptTail _ _ (Value.ref _) (Value.int (0 + Nat.cast _) _)) _ _ _); k_dflt (refine' itemL_strs ?l ?i ?a ?b ?z ?_ ?s; (case l => exact News.isList (by k_asm) (by (repeat (first | with_reducible assumption | apply List.mem_cons_of_mem)))); (case i => with_reducible assumption); (case a => with_reducible assumption); (case b => with_reducible assumption); (case z => with_reducible assumption); (case s => with_unfolding_all rfl)); intro t'))
local macro_rules | `(tactic| walk_at "subscriptTail Name Slice ref ref") => `(tactic| (k_here; (with_reducible show wpAny _ _ (subscriptTail _ (PySem.Expr.Slice none (some _) none _) (Value.ref _) (Value.ref _)) _ _ _); k_dflt (refine' kms_slice_lit ?F ?N ?l ?p ?q ?e ?_ ?s ?t ?z; (case F => k_asm); (case N => k_asm); (case l => exact News.isList (by k_asm) (by (repeat (first | with_reducible assumption | apply List.mem_cons_of_mem)))); (case p => kmk_part); (case q => kmk_part); (case e => exact pick_upto (by with_reducible assumption)); (case s => with_unfolding_all rfl); (case t => kmk_pure); (case z => exact fit1 (by with_reducible assumption) (by decide))); intro D' h' F' N' l1; (try k_lt l1); (try k_sweep)))
local macro_rules | `(tactic| walk_at "compareOp NotIn str ref") => `(tactic| (k_here; (with_reducible show wpAny _ _ (compareOp CmpOp.NotIn (Value.str _ _) (Value.ref _)) _ _ _); k_dflt (refine' notin_list_strs ?k1 ?k2 ?_; (case k1 => exact News.isList (by k_asm) (List.mem_cons_self ..)); (case k2 => exact StrsAre.take' (by assumption) _))))
local macro_rules | `(tactic| walk_at "compareOp NotEq ref ref") => `(tactic| (k_here; refine Hold.out ?_))
local macro_rules | `(tactic| walk_at "CompSrcT") => `(tactic| refine Hold.out ?_)
local macro_rules | `(tactic| walk_at "CompSrc") => `(tactic| refine Hold.out ?_)
local macro_rules | `(tactic| walk_at "exec For Name Call cons nil") => `(tactic| (k_here; (rename Fr _ _ _ _ => lF'); (with_unfolding_all refine' For_invVF lF' ?k1 ?k2 ?_; (case k1 => exact rfl); (case k2 => exact rfl); k_whole)))
local macro_rules | `(tactic| walk_at "pyIter ref") => `(tactic| ((with_reducible show wpAny _ _ (pyIter (Value.ref _)) (fun it s₂ => LoopAtV _ _ _ _ _ _ _ _ _ it s₂) _ _); refine Hold.out ?_))
local macro_rules | `(tactic| k_all) => `(tactic| assumption)
local macro_rules | `(tactic| walk_at "GrPost") => `(tactic| dsimp only [GrPost])
local macro_rules | `(tactic| walk_at "subscriptTail") => `(tactic| (k_here; first
  | ((with_reducible show wpAny _ _ (subscriptTail _ _ (Value.ref 22) (Value.int _ _)) _ _ _); k_dflt (refine' it_names ?F ?X ?a ?b ?_ ?s; (case F => k_asm); (case X => k_asm); (case a => exact fmod_lo _ (by decide)); (case b => exact fmod_hi _ (by decide)); (case s => with_unfolding_all rfl)); intro x' t')
  | ((with_reducible show wpAny _ _ (subscriptTail _ _ (Value.ref 23) (Value.int _ _)) _ _ _); k_dflt (refine' it_titles ?F ?X ?a ?b ?_ ?s; (case F => k_asm); (case X => k_asm); (case a => exact fmod_lo _ (by decide)); (case b => exact fmod_hi _ (by decide)); (case s => with_unfolding_all rfl)); intro x' t')))
local macro_rules | `(tactic| walk_at "call ref") => `(tactic| (k_here; first
  | ((with_reducible show wpAny _ _ (call (Value.ref 44) _) _ _ _); refine Hold.out ?_)
  | ((with_reducible show wpAny _ _ (call (Value.ref 51) _) _ _ _); refine Hold.out ?_)
  | ((with_reducible show wpAny _ _ (call (Value.ref 21) _) _ _ _); refine Hold.out ?_)))
local macro_rules | `(tactic| walk_at "binaryOp Add ref ref") => `(tactic| (k_here; refine Hold.out ?_))
theorem PySem.Challenge.cw_k15_0030_holds : PySem.Challenge.rw_k15_0030.Holds :=
  hd (by
  w_top off
  k_go0; (all_goals try k_fold)
  rename List Int => ns
  k_steps
  refine Hold.mk ?_
  (try k_fmods)
  refine LCg.CompSrc.range (by rfl) (by k_asm) (by k_asm) (by assumption) (by first | decide | exact small_one (by l_bnd) (by l_bnd) (by l_bnd) (by l_bnd)) (by first | exact rangeSize_nat _ _ | rfl) (by rw [PySem.sizeLine_eq]; omega) ?_
  intro g'
  refine' el_rest (fun _ y => ∃ x t, y = .str x t) (fun i' v' I' oI' C' oC' D' m' ys' h' tk' E' hi' hv' hC' hx' F' N' off' ne' => ?t1) (fun ys' hl' hV' => ?t2)
  case t1 =>
    obtain ⟨t', e'⟩ := hv'; subst e'
    k_steps
    exact ⟨_, _, _, rfl, by assumption, by assumption, off', trivial, rfl, _, _, rfl⟩
  case t2 =>
    obtain ⟨ps, hps⟩ := strs_of hV'
    have hyl : ys'.length ≤ 3 := by rw [hl']; exact loop_all
    have hpl : ps.length ≤ 3 := by rw [← hps.length]; exact hyl
    k_steps
    refine Hold.mk ?_
    rename Fr _ _ _ _ => F1
    rename News _ _ _ _ => N1
    rename IsRange _ _ _ _ _ _ _ _ => rgX
    rename (Obj.data _ = Data.cell (some (Value.ref _))) => dM
    (with_unfolding_all refine' body_loop (ps := ps) [S "i", S "at", S "way", S "shape", S "x", S "y", S "z", S "post", S "used", S "body"] (by rfl) rgX (by first | decide | exact small_one (by l_bnd) (by l_bnd) (by l_bnd) (by l_bnd)) (by first | exact rangeSize_nat _ _ | rfl) F1 N1 dM (by assumption) (by rfl) hps (List.mem_cons_self ..) (Nat.ne_of_lt (Nat.lt_succ_self _)) (fun i' t' m' oC' rest' bA' bs' sts' mA' mv' I' o' h' tk' hi' hC' hbm' hB' hof' hIC' F' N' => ?t3) (fun m' oC' rest' bA' bs' sts' mA' mv' h' tk' hC' hbm' hB' F' N' => ?t4))
    case t3 =>
      dsimp only [mixN] at F'
      rw [hbm'] at F'
      clear F1 N1 dM
      have hi3 : i' ≤ 3 := loop_few hi'
      have hCC' : @Ne Nat _ _ := hof' _ (List.mem_cons_self ..)
      obtain ⟨hml', hbl'⟩ := hB'.mlen hi3 hpl
      k_steps
      refine Hold.mk ?_
      refine' expr_call ?e9B ?e9F ?e9X ?e9N ?e9T ?e9k ?e9a ?e9b ?e9r ?e9u (fun Tt own h2 tk2 F2 N2 hSq hE => ?t5)
      case e9B => k_asm
      case e9F => k_asm
      case e9X => k_asm
      case e9N => k_asm
      case e9T => k_asm
      case e9k => exact rfl
      case e9a => exact fmod_lo _ (by decide)
      case e9b => exact fmod_hi _ (by decide)
      case e9r => decide
      case e9u => decide
      case t5 =>
        obtain ⟨R2, oE, P, vs, cP, U, uv, cU, ts, N3, hof3, hB3, hE1, hE2, hE3, hE4, hE5, hE6, hE7, hE8⟩ := after_expr N2 hC' hCC' hSq hE hB'
        have hTu : IsTup h2 Tt #[.ref P, .ref U] := hE2.isTup N3 (List.mem_cons_of_mem _ (List.mem_cons_of_mem _ (List.mem_cons_of_mem _ hE1)))
        obtain ⟨cM, hM3⟩ := hB3.fMet
        clear N2 hSq hE hB'
        (try clear hof'); (try clear N')
        k_steps
        refine Hold.mk ?_
        rename Fr _ _ _ _ => F4
        rename News _ _ _ _ => N4
        refine' add_two F4 N4 ?l1 ?l2 (fun D1 h3 F5 N5 lt5 => ?t6) ?l3
        case l1 => exact News.isList N4 (List.mem_cons_of_mem _ (List.mem_cons_of_mem _ (List.mem_cons_of_mem _ hM3)))
        case l2 => exact News.isList N4 (List.mem_cons_of_mem _ (List.mem_cons_of_mem _ (List.mem_cons_of_mem _ hE6)))
        case l3 => exact fit2 (Nat.le_trans hml' (by decide)) (Nat.le_trans hE8 (by decide))
        case t6 =>
          obtain ⟨R3, N6, hof6, hq6, hsub6, eR3⟩ := grow (own := [_]) N5 hC' hCC' (.cons ⟨_, _, rfl⟩ .nil) hB3.fSeqs
          have hM6 : (D1, PySem.W.listOf (mv' ++ uv).toArray 0) ∈ R3 := by rw [eR3]; exact List.mem_cons_self ..
          have hP6 := hsub6 _ hE3
          have hA6 := hE4.mono (Tri.sub hsub6)
          have hB6 := hB3.sub hsub6 hq6
          clear N5 lt5 eR3
          (try clear N4); (try clear N3); (try clear F4); (try clear hof3)
          k_steps
          · refine Hold.mk ?_
            rename Fr _ _ _ _ => F7
            rename News _ _ _ _ => N7
            rename (Obj.data _ = Data.cell (some (Value.ref D1))) => dM7
            obtain ⟨cB, hb6⟩ := hB6.fBody
            refine' add_two F7 N7 ?l4 ?l5 (fun D2 h4 F8 N8 lt8 => ?t7) ?l6
            case l4 => exact News.isList N7 (List.mem_cons_of_mem _ (List.mem_cons_of_mem _ (List.mem_cons_of_mem _ (List.mem_cons_of_mem _ (List.mem_cons_of_mem _ hb6)))))
            case l5 => exact News.isList N7 (List.mem_cons_self ..)
            case l6 => exact fit2 (Nat.le_trans hbl' (by decide)) (Nat.le_of_ble_eq_true rfl)
            case t7 =>
              (try clear N7); (try clear F7); clear lt8
              k_steps
              refine Hold.mk ?_
              rename Fr _ _ _ _ => F9
              rename News _ _ _ _ => N9
              refine' add_two F9 N9 ?l7 ?l8 (fun D3 h5 F10 N10 lt10 => ?t8) ?l9
              case l7 => exact News.isList N9 (List.mem_cons_of_mem _ (List.mem_cons_of_mem _ (List.mem_cons_of_mem _ (List.mem_cons_of_mem _ (List.mem_cons_of_mem _ (List.mem_cons_of_mem _ (List.mem_cons_of_mem _ hM6)))))))
              case l8 => exact News.isList N9 (List.mem_cons_self ..)
              case l9 => exact fit2 (by rw [List.length_append]; exact Nat.le_trans (Nat.add_le_add hml' hE8) (by decide)) (Nat.le_of_ble_eq_true rfl)
              case t8 =>
                obtain ⟨R4, N11, hof11, hq11, hsub11, eR4⟩ := grow (own := [_, _, _, _, _]) N10 dM7 hCC' (.cons ⟨_, _, rfl⟩ (.cons ⟨_, _, rfl⟩ (.cons ⟨_, _, rfl⟩ (.cons ⟨_, _, rfl⟩ (.cons ⟨_, _, rfl⟩ .nil))))) hq6
                have hBn := set_step eR4 hB6 hP6 hA6 hE5 hE7 hq11
                clear N10 lt10 eR4
                (try clear N9); (try clear F9)
                k_steps
                exact gr_end (by assumption) (by assumption) (by assumption) (by assumption) (by rfl) hBn (by intro z hz; obtain ⟨z1, z2, z3, z4, z5, z6, z7, z8, z9, z0⟩ := not10 hz; simp only [z1, z2, z3, z4, z5, z6, z7, z8, z9, z0, if_false])
          · refine Hold.mk ?_
            rename (Obj.data _ = Data.cell (some (Value.ref D1))) => dM7
            refine' block_call ?e9B ?e9F ?e9X ?e9N ?e9T ?e9k ?e9a ?e9b R3 ?e9c hP6 hA6 hE5 ?e9r ?e9u (fun Tb ownB h4 tk4 F8 N8 hSqB hEB => ?t9)
            case e9B => k_asm
            case e9F => k_asm
            case e9X => k_asm
            case e9N => k_asm
            case e9T => k_asm
            case e9k => exact rfl
            case e9a => exact way_lo (by assumption)
            case e9b => exact way_hi
            case e9c => exact fun p hp => (List.mem_cons_of_mem _ (List.mem_cons_of_mem _ (List.mem_cons_of_mem _ hp)))
            case e9r => decide
            case e9u => decide
            case t9 =>
              obtain ⟨R4, bsB, cBB, stsB, N9, hof9, hq9, hsub9, hT9, hA9, hf9, hl9, h49⟩ := after_block N8 dM7 hCC' hSqB hEB hq6
              have hB9 := hB6.sub hsub9 hq9
              obtain ⟨cB, hb9⟩ := hB9.fBody
              have hM9 := hsub9 _ hM6
              clear N8 hSqB hEB
              k_steps
              refine Hold.mk ?_
              rename Fr _ _ _ _ => F10
              rename News _ _ _ _ => N10
              refine' add_two F10 N10 ?l4 ?l5 (fun D2 h5 F11 N11 lt11 => ?t10) ?l6
              case l4 => exact News.isList N10 (List.mem_cons_of_mem _ (List.mem_cons_of_mem _ (List.mem_cons_of_mem _ hb9)))
              case l5 => exact News.isList N10 (List.mem_cons_of_mem _ (List.mem_cons_of_mem _ (List.mem_cons_of_mem _ hT9)))
              case l6 => exact fit2 (Nat.le_trans hbl' (by decide)) (Nat.le_trans hl9 (by decide))
              case t10 =>
                obtain ⟨R5, N12, hof12, hq12, hsub12, eR5⟩ := grow (own := [_]) N11 dM7 hCC' (.cons ⟨_, _, rfl⟩ .nil) hq9
                have hBn := block_step eR5 hB9 hM9 hA9 hf9 hl9 h49 hE7 hq12
                clear N11 lt11 eR5
                (try clear N10); (try clear F10)
                k_steps
                exact gr_end (by assumption) (by assumption) (by assumption) (by assumption) (by rfl) hBn (by intro z hz; obtain ⟨z1, z2, z3, z4, z5, z6, z7, z8, z9, z0⟩ := not10 hz; simp only [z1, z2, z3, z4, z5, z6, z7, z8, z9, z0, if_false])
    case t4 =>
      dsimp only [mixN] at F'
      rw [hbm'] at F'
      clear F1 N1 dM
      obtain ⟨hml', hbl'⟩ := hB'.mlen loop_all hpl
      obtain ⟨cB, hb0⟩ := hB'.fBody
      obtain ⟨cM, hM0⟩ := hB'.fMet
      have hp0 := hB'.fPars
      k_steps
      refine Hold.mk ?_
      rename Fr _ _ _ _ => F2
      rename News _ _ _ _ => N2
      refine LCg.CompSrc.ledger (its := bs'.toArray) (k := cB) (by rfl) F2 N2 (List.mem_cons_of_mem _ (List.mem_cons_of_mem _ (List.mem_cons_of_mem _ (List.mem_cons_of_mem _ hb0)))) (fit1 hbl' (by decide)) (fun g' => ?_)
      refine' gr_rest (fun i ys nw => (∀ p ∈ ledOf N2, p ∈ nw) ∧ Alls (CopyAt nw) ys (bs'.take i)) ⟨fun _ h => h, Alls.nil⟩ (fun i v I oI C oC D m2 ys nw h tk E' hi hv hR hCC hx F3 N3 off ne => ?c1) (fun ys nw hR => ?c2)
      case c1 =>
        obtain ⟨hsub, hAl⟩ := hR
        have hv' : bs'[i]? = some v := by simpa using hv
        obtain ⟨⟨kd, tg, ts⟩, est, T', o2, t1, t2, l, c3, us, rfl, hmT, hTO, hml, hAll, hus⟩ := hB'.fAlls.2 i v hv'
        have hmT2 : (T', o2) ∈ nw := hsub _ (List.mem_cons_of_mem _ (List.mem_cons_of_mem _ (List.mem_cons_of_mem _ (List.mem_cons_of_mem _ hmT))))
        have hml2 : (l, PySem.W.listOf us.toArray c3) ∈ nw := hsub _ (List.mem_cons_of_mem _ (List.mem_cons_of_mem _ (List.mem_cons_of_mem _ (List.mem_cons_of_mem _ hml))))
        have hb2 : (bA', PySem.W.listOf bs'.toArray cB) ∈ nw := hsub _ (List.mem_cons_of_mem _ (List.mem_cons_of_mem _ (List.mem_cons_of_mem _ (List.mem_cons_of_mem _ hb0))))
        have hTu : IsTup h T' [Value.str kd t1, .str tg t2, .ref l].toArray := hTO.isTup N3 (List.mem_cons_of_mem _ (List.mem_cons_of_mem _ (List.mem_cons_of_mem _ hmT2)))
        clear F2
        k_steps
        refine' copy_end ?x1 ?x2 off ?n1 ?n2 ?n3 ?n4 ?n5 ?n6 ?x3 ?x4
        case x1 => first | with_reducible assumption | assumption
        case x2 => (rename News _ _ _ _ => NN; exact NN)
        case n1 => k_ne
        case n2 => k_ne
        case n3 => k_ne
        case n4 => k_ne
        case n5 => k_ne
        case n6 => k_ne
        case x3 => exact .inr ⟨_, (List.mem_cons_of_mem _ (List.mem_cons_of_mem _ hb2)), rfl, _, rfl⟩
        case x4 => exact ⟨fun p hp => (List.mem_cons_of_mem _ (List.mem_cons_of_mem _ (hsub p hp))), copy_step (fun p hp => (List.mem_cons_of_mem _ (List.mem_cons_of_mem _ hp))) hAl hv' hmT2 hTO hml2 (List.mem_cons_self ..) ⟨rfl, _, rfl⟩ (List.mem_cons_of_mem _ (List.mem_cons_self ..))⟩
      case c2 =>
        obtain ⟨hsub, hAl⟩ := hR
        intro D h tk F3 N3 off
        have hM1 : (mA', PySem.W.listOf mv'.toArray cM) ∈ nw := hsub _ (List.mem_cons_of_mem _ (List.mem_cons_of_mem _ (List.mem_cons_of_mem _ (List.mem_cons_of_mem _ hM0))))
        have N4 := expose (led := ledOf N2) N3 rfl hsub
        have hfA := hsub _ (List.mem_cons_of_mem _ (List.mem_cons_self ..))
        have hpC := hsub _ (List.mem_cons_self ..)
        have hp1 := hsub _ (List.mem_cons_of_mem _ (List.mem_cons_of_mem _ (List.mem_cons_of_mem _ (List.mem_cons_of_mem _ hp0))))
        have hb1 := hsub _ (List.mem_cons_of_mem _ (List.mem_cons_of_mem _ (List.mem_cons_of_mem _ (List.mem_cons_of_mem _ hb0))))
        have hsr : ∀ p ∈ rest', p ∈ nw := fun p hp => hsub _ (List.mem_cons_of_mem _ (List.mem_cons_of_mem _ (List.mem_cons_of_mem _ (List.mem_cons_of_mem _ hp))))
        dsimp only [ledOf] at hsub
        have hAl2 : Alls (CopyAt nw) ys bs' := by rw [List.size_toArray, List.take_length] at hAl; exact hAl
        have hst' := hB'.fStrs
        have hmf := ms_fit hst' hml'
        clear F2 N2 N3
        k_steps
        refine Hold.mk ?_
        refine' LCt.CompSrcT.range ?g1 ?g2 ?g3 ?g4 ?g5 ?g6 ?g7 (fun g2' => ?g8)
        case g1 => exact rfl
        case g2 => k_asm
        case g3 => k_asm
        case g4 => assumption
        case g5 => exact small_mv hml'
        case g6 => exact rangeSize_nat _ _
        case g7 => exact size_mv hml'
        case g8 =>
          refine' tk_rest (fun i ys => StrsAre ys (dedup ((ps ++ sts'.flatMap usedOf).take i))) .nil (fun i v I oI C oC D2 m2 ys h tk E' hi hv hR hC2 hx F5 N5 off2 ne2 => ?d1) (fun ys2 hR2 => ?d2)
          case d1 =>
            obtain ⟨t', rfl⟩ := hv
            have hi2 := idx_in hst' hi
            have hk0 := idx_lo i
            have hk1 := idx_hi hi2
            k_steps
            all_goals first
              | exact ⟨_, _, _, rfl, by assumption, by first | assumption | (rename News _ _ _ _ => NN; exact fun p hp => NN p (List.mem_cons_of_mem _ hp)), off2, trivial, rfl, dd_yesk (idx_nat i) hi2 hR (by assumption)⟩
              | exact ⟨_, _, _, rfl, by assumption, by first | assumption | (rename News _ _ _ _ => NN; exact fun p hp => NN p (List.mem_cons_of_mem _ hp)), off2, trivial, rfl, dd_nok (idx_nat i) hi2 hR (by assumption)⟩
          case d2 =>
            have hR3 := all_strs hst' hR2
            intro D5 h5 tk5 F6 N6 off6
            k_steps
            refine Hold.mk ?_
            refine' slots_call (ps := ps) (sts := sts') (pv := ys') (bv := bs') ?s9B ?s9F ?s9X ?s9N ?s9T ?s9k ?s9f ?s9o ?s9p ?s9b hps ?s9v ?s9h ?s9l hB'.fFour ?s9r ?s9u (fun DS vsDS cDS hDS tkDS FDS NDS ltDS hSDS => ?f1)
            case s9B => k_asm
            case s9F => k_asm
            case s9X => k_asm
            case s9N => k_asm
            case s9T => k_asm
            case s9k => exact rfl
            case s9f => exact (List.mem_cons_of_mem _ (List.mem_cons_of_mem _ (List.mem_cons_of_mem _ (List.mem_cons_of_mem _ (List.mem_cons_of_mem _ hfA)))))
            case s9o => exact ⟨rfl, _, rfl⟩
            case s9p => exact (List.mem_cons_of_mem _ (List.mem_cons_of_mem _ (List.mem_cons_of_mem _ (List.mem_cons_of_mem _ (List.mem_cons_of_mem _ hp1)))))
            case s9b => exact (List.mem_cons_of_mem _ (List.mem_cons_of_mem _ (List.mem_cons_of_mem _ (List.mem_cons_of_mem _ (List.mem_cons_of_mem _ hb1)))))
            case s9v => exact hB'.fAlls.mono (StmAt.sub fun p hp => (List.mem_cons_of_mem _ (List.mem_cons_of_mem _ (List.mem_cons_of_mem _ (List.mem_cons_of_mem _ (List.mem_cons_of_mem _ (hsr p hp)))))))
            case s9h => exact Nat.le_trans hpl (by decide)
            case s9l => exact sts_few hB'
            case s9r => decide
            case s9u => decide
            case f1 =>
              k_steps
              refine Hold.mk ?_
              rename News _ _ _ _ => N8
              refine' ne_words (ns := dedup (ps ++ sts'.flatMap usedOf)) ?w1 ?w2 hSDS hR3 ?w3 ?_
              case w1 => exact News.isList N8 (List.mem_cons_self ..)
              case w2 => exact News.isList N8 (List.mem_cons_of_mem _ (List.mem_cons_self ..))
              case w3 => exact Nat.le_of_ble_eq_true rfl
              k_steps
              refine Hold.mk ?_
              rename News _ _ _ _ => N9
              refine' ne_fun N9 ?y1 ?y2 ?y3 ?y4 ?y5 ?y6 (hAl2.mono (CopyAt.sub fun p hp => (List.mem_cons_of_mem _ (List.mem_cons_of_mem _ (List.mem_cons_of_mem _ (List.mem_cons_of_mem _ (List.mem_cons_of_mem _ (List.mem_cons_of_mem _ hp)))))))) ?y7 ?_
              case y1 => exact News.isTup N9 (List.mem_cons_of_mem _ (List.mem_cons_of_mem _ (List.mem_cons_of_mem _ (List.mem_cons_of_mem _ (List.mem_cons_of_mem _ (List.mem_cons_of_mem _ hfA))))))
              case y2 => exact News.isTup N9 (List.mem_cons_of_mem _ (List.mem_cons_of_mem _ (List.mem_cons_self ..)))
              case y3 => exact News.isList N9 (List.mem_cons_of_mem _ (List.mem_cons_of_mem _ (List.mem_cons_of_mem _ (List.mem_cons_of_mem _ (List.mem_cons_of_mem _ (List.mem_cons_of_mem _ hp1))))))
              case y4 => exact News.isList N9 (List.mem_cons_of_mem _ (List.mem_cons_of_mem _ (List.mem_cons_of_mem _ (List.mem_cons_of_mem _ (List.mem_cons_of_mem _ (List.mem_cons_of_mem _ hpC))))))
              case y5 => exact News.isList N9 (List.mem_cons_of_mem _ (List.mem_cons_of_mem _ (List.mem_cons_of_mem _ (List.mem_cons_of_mem _ (List.mem_cons_of_mem _ (List.mem_cons_of_mem _ hb1))))))
              case y6 => exact News.isList N9 (List.mem_cons_of_mem _ (List.mem_cons_of_mem _ (List.mem_cons_of_mem _ (List.mem_cons_of_mem _ (List.mem_cons_of_mem _ (List.mem_cons_self ..))))))
              case y7 => exact Nat.le_of_ble_eq_true rfl
              k_steps
              refine Hold.mk ?_
              refine' slots_call (ps := ps) (sts := sts') (pv := ys') (bv := bs') ?s9B ?s9F ?s9X ?s9N ?s9T ?s9k ?s9f ?s9o ?s9p ?s9b hps ?s9v ?s9h ?s9l hB'.fFour ?s9r ?s9u (fun DT vsDT cDT hDT tkDT FDT NDT ltDT hSDT => ?f2)
              case s9B => k_asm
              case s9F => k_asm
              case s9X => k_asm
              case s9N => k_asm
              case s9T => k_asm
              case s9k => exact rfl
              case s9f => exact (List.mem_cons_of_mem _ (List.mem_cons_of_mem _ (List.mem_cons_of_mem _ (List.mem_cons_of_mem _ (List.mem_cons_of_mem _ (List.mem_cons_of_mem _ hfA))))))
              case s9o => exact ⟨rfl, _, rfl⟩
              case s9p => exact (List.mem_cons_of_mem _ (List.mem_cons_of_mem _ (List.mem_cons_of_mem _ (List.mem_cons_of_mem _ (List.mem_cons_of_mem _ (List.mem_cons_of_mem _ hp1))))))
              case s9b => exact (List.mem_cons_of_mem _ (List.mem_cons_of_mem _ (List.mem_cons_of_mem _ (List.mem_cons_of_mem _ (List.mem_cons_of_mem _ (List.mem_cons_of_mem _ hb1))))))
              case s9v => exact hB'.fAlls.mono (StmAt.sub fun p hp => (List.mem_cons_of_mem _ (List.mem_cons_of_mem _ (List.mem_cons_of_mem _ (List.mem_cons_of_mem _ (List.mem_cons_of_mem _ (List.mem_cons_of_mem _ (hsr p hp))))))))
              case s9h => exact Nat.le_trans hpl (by decide)
              case s9l => exact sts_few hB'
              case s9r => decide
              case s9u => decide
              case f2 =>
                k_steps
                refine Hold.mk ?_
                rename News _ _ _ _ => N10
                refine' ne_words (ns := dedup (ps ++ sts'.flatMap usedOf)) ?w1 ?w2 hSDT hR3 ?w3 ?_
                case w1 => exact News.isList N10 (List.mem_cons_self ..)
                case w2 => exact News.isList N10 (List.mem_cons_of_mem _ (List.mem_cons_of_mem _ (List.mem_cons_self ..)))
                case w3 => exact Nat.le_of_ble_eq_true rfl
                k_steps
  )
