import PyProof.Rows.All
import Wide.All
import OpenK.AllK
import Wide.FinOn
import PySem.Challenge.RW_k15_0018
open PySem PySem.W PyProof.Rows
set_option Elab.async false
namespace Mine
theorem pick_upto {l : List Value} {y : Int} (h : 0 ≤ y) : kms_pick l none (some y) = l.take y.toNat := by
  unfold kms_pick kms_lo kms_hi
  simp only [if_neg (show ¬ (y < 0) by omega), List.drop_zero, Nat.sub_zero]
  exact kmk_take_min l y.toNat
theorem pick_from {l : List Value} {x : Int} (h : 0 ≤ x) : kms_pick l (some x) none = l.drop x.toNat := by
  unfold kms_pick kms_lo kms_hi
  simp only [if_neg (show ¬ (x < 0) by omega)]
  rw [kmk_drop_min, List.take_of_length_le (by rw [List.length_drop]; omega)]
section
variable {prog : Program} {w : World} {A : Around} {E : Value → Shared → Prop} {s : Shared} {a b : Addr} {xs ys : List Value} {ns ms : List Str} {Q : Value → Shared → Prop}
theorem ne_lists {e : Nat → Bool} (ha : s.heap.IsList a xs.toArray) (hb : s.heap.IsList b ys.toArray) (hsz : xs.length = ys.length) (hu : A.units < cLine)
    (he : ∀ j (h1 : j < xs.length) (h2 : j < ys.length), SeqAt.EqAt A.in1 s xs[j] ys[j] (e j)) (h : Q (.bool (!(List.range xs.length).all e)) s) : wpAny (model prog w) A (compareOp .NotEq (.ref a) (.ref b)) Q E s :=
  SeqAt.RcNeAt.lists ha hb (by simpa using hsz) hu (fun j h1 h2 => by simpa using he j (by simpa using h1) (by simpa using h2)) prog w E Q (by simpa using h)
theorem ne_lists_len (ha : s.heap.IsList a xs.toArray) (hb : s.heap.IsList b ys.toArray) (hsz : xs.length ≠ ys.length) (hu : A.units < cLine) (h : Q (.bool true) s) : wpAny (model prog w) A (compareOp .NotEq (.ref a) (.ref b)) Q E s :=
  SeqAt.RcNeAt.lists_lengths ha hb (by simpa using hsz) hu prog w E Q h
/-- two lists of the very same items -/
theorem ne_same (ha : s.heap.IsList a xs.toArray) (hb : s.heap.IsList b xs.toArray) (hu : A.units < cLine) (h : Q (.bool false) s) : wpAny (model prog w) A (compareOp .NotEq (.ref a) (.ref b)) Q E s :=
  ne_lists (e := fun _ => true) ha hb rfl hu (fun j _ _ => SeqAt.EqAt.same _) (by
    have : (List.range xs.length).all (fun _ => true) = true := by simp
    rw [this]; exact h)
theorem strs_all : ∀ {ns ms : List Str}, ns.length = ms.length → (List.range ns.length).all (fun j => ns.getD j Str.empty == ms.getD j Str.empty) = decide (ns = ms) := by
  intro ns ms hl
  rw [Bool.eq_iff_iff, List.all_eq_true, decide_eq_true_eq]
  constructor
  · intro h
    apply List.ext_getElem hl
    intro i h1 h2
    have := h i (List.mem_range.mpr h1)
    simpa [List.getD, h1, h2] using this
  · rintro rfl i _
    simp
theorem ne_strs (ha : s.heap.IsList a xs.toArray) (hb : s.heap.IsList b ys.toArray) (hi : StrsAre xs ns) (hj : StrsAre ys ms) (hu : A.units < cLine) (h : Q (.bool (!decide (ns = ms))) s) :
    wpAny (model prog w) A (compareOp .NotEq (.ref a) (.ref b)) Q E s := by
  by_cases hl : ns.length = ms.length
  · refine ne_lists (e := fun j => ns.getD j Str.empty == ms.getD j Str.empty) ha hb (by rw [hi.length, hj.length, hl]) hu (fun j h1 h2 => ?_) (by rw [hi.length, strs_all hl]; exact h)
    have g1 : j < ns.length := by rw [← hi.length]; exact h1
    have g2 : j < ms.length := by rw [← hj.length]; exact h2
    obtain ⟨t, e1⟩ := hi.get j (ns[j]) (List.getElem?_eq_getElem g1)
    obtain ⟨u, e2⟩ := hj.get j (ms[j]) (List.getElem?_eq_getElem g2)
    have q1 : xs[j] = .str ns[j] t := Option.some.inj ((List.getElem?_eq_getElem h1).symm.trans e1)
    have q2 : ys[j] = .str ms[j] u := Option.some.inj ((List.getElem?_eq_getElem h2).symm.trans e2)
    rw [q1, q2]
    have g3 : ns.getD j Str.empty = ns[j] := by simp [List.getD, g1]
    have g4 : ms.getD j Str.empty = ms[j] := by simp [List.getD, g2]
    rw [g3, g4]
    exact SeqAt.EqAt.str_str _ _ _ _
  · refine ne_lists_len ha hb (by rw [hi.length, hj.length]; exact hl) hu ?_
    have : (!decide (ns = ms)) = true := by
      rw [Bool.not_eq_true', decide_eq_false_iff_not]
      rintro rfl; exact hl rfl
    rw [this] at h; exact h
end
end Mine
set_option maxRecDepth 100000
set_option maxHeartbeats 8000000
namespace Mine
open_top hd for PySem.Challenge.rw_k15_0018
end Mine
namespace Mine
abbrev S (x : String) : Str := Str.ofString x
abbrev outR (j : Nat) : Value := .ref (24 + 2 * j)
abbrev inR (j : Nat) : Value := .ref (23 + 2 * j)
def rkL : List Int := [3, 3, 3, 2, 2, 1, 1, 1, 1, 1, 1, 4, 4, -1, -1, -1]
/-- the first place from which on nothing binds less tightly -/
structure IsCut (rank : Int) (js : List Nat) (cut : Nat) : Prop where
  le : cut ≤ js.length
  at_ : cut = 0 ∨ ∃ j, js[cut - 1]? = some j ∧ rkL.getD j 0 < rank
  off : ∀ k j, cut ≤ k → js[k]? = some j → ¬ rkL.getD j 0 < rank
theorem cut_down {rank : Int} {js : List Nat} {cut k j : Nat} (C : IsCut rank js cut) (hk : cut ≤ k + 1) (hj : js[k]? = some j) (h : ¬ rkL.getD j 0 < rank) : cut ≤ k := by
  rcases Nat.lt_or_ge k cut with hlt | hge
  · have e : cut = k + 1 := by omega
    rcases C.at_ with h0 | ⟨j', hj', h'⟩
    · omega
    · rw [e, Nat.add_sub_cancel, hj] at hj'
      cases hj'
      exact absurd h' h
  · exact hge
theorem cut_here {rank : Int} {js : List Nat} {cut k j : Nat} (C : IsCut rank js cut) (hk : cut ≤ k + 1) (hj : js[k]? = some j) (h : rkL.getD j 0 < rank) : cut = k + 1 := by
  rcases Nat.lt_or_ge k cut with hlt | hge
  · omega
  · exact absurd h (C.off k j hge hj)
theorem news_sub {h₀ h : Heap} {L : Addr} {a b : List (Addr × Obj)} (N : News h₀ L h a) (hs : ∀ p ∈ b, p ∈ a) : News h₀ L h b := fun p hp => N p (hs p hp)
theorem last_cases (j : Nat) (h : j < 16) : j = 0 ∨ j = 1 ∨ j = 2 ∨ j = 3 ∨ j = 4 ∨ j = 5 ∨ j = 6 ∨ j = 7 ∨ j = 8 ∨ j = 9 ∨ j = 10 ∨ j = 11 ∨ j = 12 ∨ j = 13 ∨ j = 14 ∨ j = 15 := by omega
section
variable {prog : Program} {w : World} {A : Around} {E : Value → Shared → Prop} {s : Shared} {Q : Value → Shared → Prop}
theorem item_last {value slice : Expr} {l : Addr} {vs : List Value} {y : Value} {u : Tok} (hl : s.heap.IsList l (vs ++ [y]).toArray) (hz : vs.length < 2 ^ 60) (h : Q y s)
    (hs : subscripted slice false (.ref l) (.int (-1) u) = operate [.ref l, .int (-1) u] (getItem (.ref l) (.int (-1) u)) := by with_unfolding_all rfl) :
    wpAny (model prog w) A (subscriptTail value slice (.ref l) (.int (-1) u)) Q E s :=
  tail_any hl.typeIs slot_list_getitem.lookup (wpAny_getItem_list_neg hl (by decide) (by simp; omega) (by decide) (x := y) (by
    have e : ((-1 : Int) + ((vs ++ [y]).toArray.size : Int)).toNat = vs.length := by simp; omega
    rw [e]; simp) h) hs
theorem pop_last {h₀ : Heap} {L D : Addr} {m : Str → Option Value} {news news' : List (Addr × Obj)} {n : Nat} {vs : List Value} {y : Value} (F : Fr h₀ L s.heap m) (N : News h₀ L s.heap news) (U : Upd D (listOf (vs ++ [y]).toArray n) (listOf vs.toArray (n + 1)) news news') (hz : vs.length ≤ 1000)
    (h : ∀ h', Fr h₀ L h' m → News h₀ L h' news' → Q y { s with heap := h' }) : wpAny (model prog w) A (call (.builtin "list.pop") [.ref D]) Q E s :=
  kl_pop F N (kpa_last y vs) U (by rw [sizeLine_eq]; show List.length (vs ++ [y]) ≤ _; rw [List.length_append, List.length_singleton]; omega) h
end
def kindL : List Str := [S "bin", S "bin", S "bin", S "bin", S "bin", S "bin", S "bin", S "bin", S "bin", S "bin", S "bin", S "neg", S "not", S "open", S "call", S "call"]
def textL : List Str := [S "*", S "//", S "%", S "+", S "-", S "<", S "<=", S "==", S "!=", S ">", S ">=", S "", S "", S "", S "f", S "gcd"]
theorem in_tup {P : Params} {h : Heap} {j : Nat} (X : (hd.heap_39 P).In h) (hj : j < 16) : ∃ t1 t2 t3, IsTup h (23 + 2 * j) [Value.str (kindL.getD j (S "")) t1, Value.int 0 t2, Value.str (textL.getD j (S "")) t3].toArray := by
  rcases last_cases j hj with rfl | rfl | rfl | rfl | rfl | rfl | rfl | rfl | rfl | rfl | rfl | rfl | rfl | rfl | rfl | rfl <;> exact ⟨_, _, _, tupK X rfl⟩
theorem out_tup {P : Params} {h : Heap} {j : Nat} (X : (hd.heap_39 P).In h) (hj : j < 16) : ∃ t1, IsTup h (24 + 2 * j) [inR j, Value.int (rkL.getD j 0) t1].toArray := by
  rcases last_cases j hj with rfl | rfl | rfl | rfl | rfl | rfl | rfl | rfl | rfl | rfl | rfl | rfl | rfl | rfl | rfl | rfl <;> exact ⟨_, tupK X rfl⟩
theorem ranks_at (P : Params) {j : Nat} (hj : j < 11) : ∃ t, nsIn (hd.heap_39 P) 15 (textL.getD j (S "")) = some (some (.int (rkL.getD j 0) t)) := by
  have : j = 0 ∨ j = 1 ∨ j = 2 ∨ j = 3 ∨ j = 4 ∨ j = 5 ∨ j = 6 ∨ j = 7 ∨ j = 8 ∨ j = 9 ∨ j = 10 := by omega
  rcases this with rfl | rfl | rfl | rfl | rfl | rfl | rfl | rfl | rfl | rfl | rfl <;> exact ⟨_, rfl⟩
section
variable {prog : Program} {w : World} {A : Around} {E : Value → Shared → Prop} {s : Shared} {Q : Value → Shared → Prop} {h₀ : Heap} {L : Addr} {m : Str → Option Value} {j : Nat} {value slice : Expr} {u : Tok}
theorem in0 (F : Fr h₀ L s.heap m) (X : (hd.heap_39 w.params).In h₀) (hj : j < 16) (h : ∀ t, Q (.str (kindL.getD j (S "")) t) s)
    (hs : subscripted slice false (.ref (23 + 2 * j)) (.int 0 u) = operate [.ref (23 + 2 * j), .int 0 u] (getItem (.ref (23 + 2 * j)) (.int 0 u)) := by with_unfolding_all rfl) :
    wpAny (model prog w) A (subscriptTail value slice (.ref (23 + 2 * j)) (.int 0 u)) Q E s := by
  obtain ⟨t1, t2, t3, ht⟩ := in_tup (X.keeps F.keep) hj
  exact item_tupleT ht (by decide) (by decide) (j := 0) rfl rfl (h t1) hs
theorem in2 (F : Fr h₀ L s.heap m) (X : (hd.heap_39 w.params).In h₀) (hj : j < 16) (h : ∀ t, Q (.str (textL.getD j (S "")) t) s)
    (hs : subscripted slice false (.ref (23 + 2 * j)) (.int 2 u) = operate [.ref (23 + 2 * j), .int 2 u] (getItem (.ref (23 + 2 * j)) (.int 2 u)) := by with_unfolding_all rfl) :
    wpAny (model prog w) A (subscriptTail value slice (.ref (23 + 2 * j)) (.int 2 u)) Q E s := by
  obtain ⟨t1, t2, t3, ht⟩ := in_tup (X.keeps F.keep) hj
  exact item_tupleT ht (by decide) (by decide) (j := 2) rfl rfl (h t3) hs
theorem out0 (F : Fr h₀ L s.heap m) (X : (hd.heap_39 w.params).In h₀) (hj : j < 16) (h : Q (inR j) s)
    (hs : subscripted slice false (.ref (24 + 2 * j)) (.int 0 u) = operate [.ref (24 + 2 * j), .int 0 u] (getItem (.ref (24 + 2 * j)) (.int 0 u)) := by with_unfolding_all rfl) :
    wpAny (model prog w) A (subscriptTail value slice (.ref (24 + 2 * j)) (.int 0 u)) Q E s := by
  obtain ⟨t1, ht⟩ := out_tup (X.keeps F.keep) hj
  exact item_tupleT ht (by decide) (by decide) (j := 0) rfl rfl h hs
theorem out1 (F : Fr h₀ L s.heap m) (X : (hd.heap_39 w.params).In h₀) (hj : j < 16) (h : ∀ t, Q (.int (rkL.getD j 0) t) s)
    (hs : subscripted slice false (.ref (24 + 2 * j)) (.int 1 u) = operate [.ref (24 + 2 * j), .int 1 u] (getItem (.ref (24 + 2 * j)) (.int 1 u)) := by with_unfolding_all rfl) :
    wpAny (model prog w) A (subscriptTail value slice (.ref (24 + 2 * j)) (.int 1 u)) Q E s := by
  obtain ⟨t1, ht⟩ := out_tup (X.keeps F.keep) hj
  exact item_tupleT ht (by decide) (by decide) (j := 1) rfl rfl (h t1) hs
theorem ranks_item (F : Fr h₀ L s.heap m) (X : (hd.heap_39 w.params).In h₀) (hj : j < 11) (h : ∀ t, Q (.int (rkL.getD j 0) t) { s with toks := s.toks + 1 })
    (hs : subscripted slice false (.ref 15) (.str (textL.getD j (S "")) u) = operate [.ref 15, .str (textL.getD j (S "")) u] (getItem (.ref 15) (.str (textL.getD j (S "")) u)) := by with_unfolding_all rfl) :
    wpAny (model prog w) A (subscriptTail value slice (.ref 15) (.str (textL.getD j (S "")) u)) Q E s := by
  obtain ⟨t, e⟩ := ranks_at w.params hj
  exact topItem_K F X rfl (by k_keys) e (h t) hs
end
theorem bin_is {j : Nat} (hj : j < 16) : (kindL.getD j (S "") == S "bin") = decide (j < 11) := by
  rcases last_cases j hj with rfl | rfl | rfl | rfl | rfl | rfl | rfl | rfl | rfl | rfl | rfl | rfl | rfl | rfl | rfl | rfl <;> decide +kernel
theorem stop_is {j : Nat} (hj : j < 16) : ([S "open", S "call"].any fun x => x == kindL.getD j (S "")) = decide (13 ≤ j) := by
  rcases last_cases j hj with rfl | rfl | rfl | rfl | rfl | rfl | rfl | rfl | rfl | rfl | rfl | rfl | rfl | rfl | rfl | rfl <;> decide +kernel
theorem rk_stop {j : Nat} (hj : j < 16) (h : 13 ≤ j) : rkL.getD j 0 = -1 := by
  rcases last_cases j hj with rfl | rfl | rfl | rfl | rfl | rfl | rfl | rfl | rfl | rfl | rfl | rfl | rfl | rfl | rfl | rfl <;> first | rfl | omega
theorem rk_one {j : Nat} (hj : j < 16) (h : ¬ 13 ≤ j) (h' : ¬ j < 11) : rkL.getD j 0 = 4 := by
  rcases last_cases j hj with rfl | rfl | rfl | rfl | rfl | rfl | rfl | rfl | rfl | rfl | rfl | rfl | rfl | rfl | rfl | rfl <;> first | rfl | omega
theorem bin_lt {j : Nat} (hj : j < 16) (h : (kindL.getD j (S "") == S "bin") = true) : j < 11 := by rw [bin_is hj] at h; simpa using h
local macro_rules | `(tactic| walk_at "subscriptTail") => `(tactic| (k_here; first
  | ((with_reducible show wpAny _ _ (subscriptTail _ _ (Value.ref (23 + 2 * _)) (Value.int 0 _)) _ _ _); k_dflt (refine' in0 ?F ?X ?j ?_ ?s; (case F => k_asm); (case X => k_asm); (case j => assumption); (case s => with_unfolding_all rfl)); intro t')
  | ((with_reducible show wpAny _ _ (subscriptTail _ _ (Value.ref (23 + 2 * _)) (Value.int 2 _)) _ _ _); k_dflt (refine' in2 ?F ?X ?j ?_ ?s; (case F => k_asm); (case X => k_asm); (case j => assumption); (case s => with_unfolding_all rfl)); intro t')
  | ((with_reducible show wpAny _ _ (subscriptTail _ _ (Value.ref 15) (Value.str _ _)) _ _ _); k_dflt (refine' ranks_item ?F ?X ?j ?_ ?s; (case F => k_asm); (case X => k_asm); (case j => exact bin_lt (by assumption) (by assumption)); (case s => with_unfolding_all rfl)); intro t')))
local macro_rules | `(tactic| k_room) => `(tactic| ((try simp only [depth_in1, depth_deeper]); omega))
local macro_rules | `(tactic| walk_at "call builtin:len") => `(tactic| (k_here; (with_reducible show wpAny _ _ (call (Value.builtin "len") [Value.ref _]) _ _ _); k_dflt (refine' Calls.call_len_list ?l ?z ?_; (case l => kmk_list); (case z => (simp only [List.size_toArray, List.length_append, List.length_cons, List.length_nil]; omega)))))
local macro_rules | `(tactic| walk_at "subscriptTail") => `(tactic| (k_here; (with_reducible show wpAny _ _ (subscriptTail _ _ (Value.ref _) (Value.int (-1) _)) _ _ _); k_dflt (refine' item_last ?l ?z ?_ ?s; (case l => kmk_list); (case z => omega); (case s => with_unfolding_all rfl))))
local macro_rules | `(tactic| walk_at "call builtin:list.pop") => `(tactic| (k_here; (with_reducible show wpAny _ _ (call (Value.builtin _) [Value.ref _]) _ _ _); k_dflt (refine' pop_last ?F ?N ?U ?z ?_; (case F => k_asm); (case N => k_asm); (case U => k_upd); (case z => omega)); intro h' F' N'; (try k_sweep)))
local macro_rules | `(tactic| k_all) => `(tactic| assumption)
local macro_rules | `(tactic| size_fits) => `(tactic| (rw [sizeLine_eq, List.size_toArray]; simp only [List.length_append, List.length_map, List.length_reverse, List.length_drop]; omega))
set_option linter.unusedVariables false in
theorem unwind_call {w : World} {p : Program} {loose : List Str} {mean : ExcName → Option Value} {mg mb : Str → Option Value} {rest : List (Addr × Obj)} {dp un : Nat} {gd : Option (List Code)} {cn : Str} {cs : Scope} {a : Addr} {ccd : Value} {cl : List (Str × Addr)} {outer : List Env} {A₀ : Around} {base h₀ : Heap} {L : Addr} {m : Str → Option Value} {s : Shared} {Q E : Value → Shared → Prop} {o q : Addr} {ps : List Value} {js : List Nat} {c1 c2 cut : Nat} {rank : Int} {t : Tok}
    (B : Below A₀ base outer h₀) (F : Fr h₀ L s.heap m) (X : (hd.heap_39 w.params).In h₀) (N : News h₀ L s.heap ((q, listOf ps.toArray c1) :: (o, listOf (js.map inR).toArray c2) :: rest)) (T : Top p loose mean mg mb h₀) (hk : cs.kind = .function)
    (hoq : @Ne Nat o q) (ho : ∀ p ∈ rest, @Ne Nat p.1 o) (hq : ∀ p ∈ rest, @Ne Nat p.1 q) (hj : ∀ j ∈ js, j < 16) (hjl : js.length ≤ 100) (hpl : ps.length ≤ 100) (hr0 : 0 ≤ rank) (hr3 : rank ≤ 3) (C : IsCut rank js cut) (hr : dp + 6 < recursionLimit) (hu : un + 200 < cLine)
    (ret : ∀ (h' : Heap) (tk' c1' c2' : Nat), Fr h₀ L h' m → News h₀ L h' ((q, listOf (ps ++ (js.drop cut).reverse.map inR).toArray c1') :: (o, listOf ((js.take cut).map inR).toArray c2') :: rest) → Q .none { s with heap := h', toks := tk' }) :
    wpAny (model PySem.Challenge.rw_k15_0018.row.prog w) (ktrTop dp un gd cn cs L a ccd cl outer) (call (.ref 22) [.ref o, .ref q, .int rank t]) Q E s := by
  w_top off
  revert X; k_fill; intro X
  refine wpAny_call ?_
  k_dflt cell_enter
  refine wpAny_execs_cons ?_
  rename_i g L' h' FG F' N' B' X' T'
  refine While_inv2 (fun n m₁ nx => cut ≤ n ∧ n ≤ js.length ∧ m₁ = (_ : Str → Option Value) ∧ ∃ d1 d2, nx = (q, listOf (ps ++ (js.drop n).reverse.map inR).toArray d1) :: (o, listOf ((js.take n).map inR).toArray d2) :: rest) (n₀ := js.length) F' N' ⟨C.le, Nat.le_refl _, rfl, c1, c2, by simp⟩ ?_ (by with_unfolding_all passes_own)
  rintro n m₁ nx h₁ tk₁ F₁ N₁ ⟨hcn, hn, rfl, d1, d2, rfl⟩
  cases n with
  | zero =>
    have hc0 : cut = 0 := by omega
    subst hc0
    simp only [List.take_zero, List.map_nil, List.drop_zero] at N₁
    clear F' N'
    k_steps
    exact ret _ _ _ _ (by first | with_reducible assumption | assumption) (by simp only [List.drop_zero, List.take_zero, List.map_nil]; (rename News _ _ _ _ => NN); exact NN)
  | succ n =>
    obtain ⟨j, hjn⟩ : ∃ j, js[n]? = some j := ⟨js[n]'hn, List.getElem?_eq_getElem hn⟩
    have hj16 := hj j (List.mem_of_getElem? hjn)
    have et : (js.take (n + 1)).map inR = (js.take n).map inR ++ [inR j] := by rw [List.take_add_one, hjn]; simp
    have ed : (js.drop n).reverse.map inR = (js.drop (n + 1)).reverse.map inR ++ [inR j] := by
      have : js.drop n = j :: js.drop (n + 1) := by
        rw [List.drop_eq_getElem_cons hn]; congr 1
        exact Option.some.inj ((List.getElem?_eq_getElem hn).symm.trans hjn)
      rw [this]; simp
    have hl : ((js.take n).map inR).length ≤ 100 := by rw [List.length_map, List.length_take]; omega
    rw [et] at N₁
    clear F' N'
    k_steps
    · have ec := cut_here C hcn hjn (by rw [rk_stop hj16 (by rename (List.any _ _ = true) => ha; rw [stop_is hj16] at ha; simpa using ha)]; omega)
      subst ec
      rename News _ _ _ _ => NN
      exact ret _ _ _ _ (by first | with_reducible assumption | assumption) (by rw [et]; exact fun p hp => NN p (List.mem_cons_of_mem _ hp))
    · dsimp only
      dsimp only [WhileStep2]
      k_steps
      have ec := cut_here C hcn hjn (by assumption)
      subst ec
      rename News _ _ _ _ => NN
      exact ret _ _ _ _ (by first | with_reducible assumption | assumption) (by rw [et]; exact fun p hp => NN p (List.mem_cons_of_mem _ hp))
    · (rename News _ _ _ _ => NN)
      simp only [List.push_toArray] at NN
      dsimp only [WhileStep2]
      exact ⟨_, _, _, (q, listOf (ps ++ (js.drop (n + 1)).reverse.map inR ++ [inR j]).toArray (d1 + 1)) :: (o, listOf ((js.take n).map inR).toArray (d2 + 1)) :: rest, n, rfl, by assumption, fun p hp => NN p (List.mem_cons_of_mem _ hp), by omega, cut_down C hcn hjn (by assumption), by omega, rfl, d1 + 1, d2 + 1, by rw [ed, List.append_assoc]⟩
    · (rename News _ _ _ _ => NN)
      simp only [List.push_toArray] at NN
      dsimp only [WhileStep2]
      have h4 : rkL.getD j 0 = 4 := rk_one hj16 (by rename (List.any _ _ = false) => ha; rw [stop_is hj16] at ha; simpa using ha) (by rename ((_ == _) = false) => ha; rw [bin_is hj16] at ha; simpa using ha)
      exact ⟨_, _, _, (q, listOf (ps ++ (js.drop (n + 1)).reverse.map inR ++ [inR j]).toArray (d1 + 1)) :: (o, listOf ((js.take n).map inR).toArray (d2 + 1)) :: rest, n, rfl, by assumption, fun p hp => NN p (List.mem_cons_of_mem _ hp), by omega, cut_down C hcn hjn (by rw [h4]; omega), by omega, rfl, d1 + 1, d2 + 1, by rw [ed, List.append_assoc]⟩
    · exfalso
      rename (¬ _ < _) => hh
      simp only [List.size_toArray, List.length_append, List.length_cons, List.length_nil] at hh
      omega
end Mine
namespace Mine
/-- where the walk is to stop and wait for a hand -/
def Hold (P : Prop) : Prop := P
theorem Hold.out {P : Prop} (h : Hold P) : P := h
theorem Hold.mk {P : Prop} (h : P) : Hold P := h
/-- a turn's end where one name's int was stored -/
def R1End (h₀ : Heap) (L : Addr) (m₀ : Str → Option Value) (x y : Str) (led : List (Addr × Obj)) (P : Int → Prop) (s₁ s₂ : Shared) : Prop :=
  ∃ h' tk m' c t, s₂ = { s₁ with heap := h', toks := tk } ∧ Fr h₀ L h' m' ∧ News h₀ L h' led ∧ m' y = some (.int c t) ∧ (∀ z, z ≠ x → z ≠ y → m' z = m₀ z) ∧ P c
def R1Post (h₀ : Heap) (L : Addr) (m₀ : Str → Option Value) (x y : Str) (led : List (Addr × Obj)) (P : Int → Prop) (s₁ : Shared) (Q : Flow → Shared → Prop) (f : Flow) (s₂ : Shared) : Prop :=
  match f with
  | .ret v => Q (.ret v) s₂
  | .brk => Q .next s₂
  | _ => R1End h₀ L m₀ x y led P s₁ s₂
section
variable {prog : Program} {w : World} {A : Around} {E : Value → Shared → Prop} {s : Shared} {env : Env} {h₀ : Heap} {x : Str} {body : List Stmt} {Q : Flow → Shared → Prop}
theorem range_int_loop {r : Addr} {b₀ : Int} {t₀ u₀ v₀ : Tok} {n : Nat} {m₀ : Str → Option Value} {news : List (Addr × Obj)} {y : Str} {c₀ : Int} {tc₀ : Tok} (P : Nat → Int → Prop)
    (hh : A.handled = none) (hr : IsRange s.heap r 0 b₀ 1 t₀ u₀ v₀) (hsmall : Builtin.Range.small 0 b₀ 1 = true) (hn : Builtin.Range.rangeSize 0 b₀ 1 = (n : Int)) (F : Fr h₀ env.locals s.heap m₀) (N : News h₀ env.locals s.heap news)
    (hy : m₀ y = some (.int c₀ tc₀)) (hyx : y ≠ x) (hp : P 0 c₀)
    (turn : ∀ (i : Nat) t c tc h tk own, i < n → P i c → Fr h₀ env.locals h (fun z => if z = x then some (.int (i : Int) t) else if z = y then some (.int c tc) else m₀ z) → News h₀ env.locals h (news ++ own) →
      wpAny (model prog w) A (execs body env) (R1Post h₀ env.locals m₀ x y (news ++ own) (P (i + 1)) { s with heap := h, toks := tk } Q) E { s with heap := h, toks := tk })
    (done : ∀ (u : Option Value) c tc h tk, P n c → Fr h₀ env.locals h (fun z => if z = x then u else if z = y then some (.int c tc) else m₀ z) → News h₀ env.locals h news → Q .next { s with heap := h, toks := tk }) :
    wpAny (model prog w) A (pyIter (.ref r)) (fun it s₂ => LoopAtV prog w A h₀ env x body Q E it s₂) E s := by
  refine wpAny_pyIter_range hr hsmall ?_
  have W : Walks prog w A s.heap.objs.size [s.heap.objs.size] [s.heap.objs.size] n (fun i v => i < n ∧ ∃ t, v = .int (0 + i * 1) t)
      (fun i h => IsRangeIter h s.heap.objs.size (0 + (i : Nat) * 1) ((n : Int) - (i : Nat)) 1) := (Walks.range hh _ 0 1 n).bound
  refine loop_invN (fun i m nx => nx = news ∧ (∃ c t, m y = some (.int c t) ∧ P i c) ∧ ∀ z, z ≠ x → z ≠ y → m z = m₀ z) W ?_ ?_ ?_ ?_ (by show IsRangeIter _ _ _ _ _; rw [hn]; simpa using Heap.get?_push_size _ rfl) (F.push _) (fun p hp => ⟨Heap.get?_push_of_some _ (N p hp).1, (N p hp).2⟩) ⟨rfl, ⟨c₀, tc₀, hy, hp⟩, fun _ _ _ => rfl⟩ ?_ ?_
  · intro hm
    exact absurd F.ns.lt ((List.mem_singleton.mp hm) ▸ Nat.lt_irrefl _)
  · intro b hb
    rw [List.mem_singleton.mp hb]
    exact next_is_new F
  · intro p hp hI
    exact absurd (Heap.lt_size (N p hp).1) ((List.mem_singleton.mp hI) ▸ Nat.lt_irrefl _)
  · intro p hp hI
    exact absurd (Heap.lt_size (N p hp).1) ((List.mem_singleton.mp hI) ▸ Nat.lt_irrefl _)
  · rintro i v m₁ nx h tk own hi ⟨_, t, rfl⟩ _ _ ⟨rfl, ⟨c, tc, hc, hP⟩, hm⟩ F₁ N₁
    have e1 : (0 : Int) + (i : Int) * 1 = (i : Int) := by omega
    rw [e1] at F₁
    have e : (fun z => if z = x then some (Value.int (i : Int) t) else m₁ z) = fun z => if z = x then some (Value.int (i : Int) t) else if z = y then some (Value.int c tc) else m₀ z := by
      funext z
      by_cases h1 : z = x
      · simp [h1]
      · simp only [if_neg h1]
        by_cases h2 : z = y
        · subst h2; simp [hc]
        · simp only [if_neg h2]; exact hm z h1 h2
    rw [e] at F₁
    refine wpAny_mono (turn i t c tc h tk own hi hP F₁ N₁) (fun f s₂ p => ?_) fun _ _ e => e
    have fin : R1End h₀ env.locals m₀ x y (nx ++ own) (P (i + 1)) { s with heap := h, toks := tk } s₂ → InvEndN h₀ env.locals (fun m nx' => nx' = nx ∧ (∃ c t, m y = some (.int c t) ∧ P (i + 1) c) ∧ ∀ z, z ≠ x → z ≠ y → m z = m₀ z) own (nx.map (·.1)) { s with heap := h, toks := tk } s₂ := by
      rintro ⟨h', tk', m', c', t', rfl, F', N', hc', hm', hP'⟩
      exact InvEndN.intro F' N' ⟨rfl, ⟨c', t', hc', hP'⟩, hm'⟩ rfl (fun p hp => List.mem_append_left _ hp) (fun p hp => List.mem_append_right _ hp)
    cases f with
    | ret v => exact p
    | brk => exact p
    | next => exact fin p
    | cont => exact fin p
  · rintro m₁ nx h tk ⟨rfl, ⟨c, tc, hc, hP⟩, hm⟩ F₁ N₁
    refine done (m₁ x) c tc h tk hP ?_ N₁
    have e : (fun z => if z = x then m₁ x else if z = y then some (Value.int c tc) else m₀ z) = m₁ := by
      funext z
      by_cases h1 : z = x
      · simp [h1]
      · simp only [if_neg h1]
        by_cases h2 : z = y
        · subst h2; simp [hc]
        · simp only [if_neg h2]; exact (hm z h1 h2).symm
    rw [e]; exact F₁
end
/-- an element of a comprehension that is told by a word of its place; the ledger stands -/
def ElOk (news : List (Addr × Obj)) (V : Value → Prop) (y : Value) (news' : List (Addr × Obj)) : Prop := news' = news ∧ V y
section
variable {prog : Program} {w : World} {A : Around} {h₀ : Heap} {L : Addr} {m : Str → Option Value} {env : Env} {elt : Expr} {x : Str} {scope : Scope} {cl : List (Str × Addr)} {s : Shared} {S : List (Addr × Obj) → Prop} {P : Nat → Value → Prop} {Fin : List Value → List (Addr × Obj) → Prop} {news : List (Addr × Obj)}
theorem el_rest {n : Nat} (V : Nat → Value → Prop)
    (turn : ∀ i v I oI C oC D m₂ ys h tk (E' : Value → Shared → Prop), i < n → P i v → LCg.NsObj oC m₂ → m₂ x = some v → Fr h₀ L h m → News h₀ L h ((I, oI) :: (C, oC) :: (D, LCg.lst ys) :: news) → LCg.Off3 I C D news → ((@Ne Nat I C) ∧ (@Ne Nat I D) ∧ (@Ne Nat C D)) →
      wpAny (model prog w) A (eval elt (compEnvC scope cl C env)) (LCg.CompEnd h₀ L m { s with heap := h, toks := tk } I oI C oC D (LCg.lst ys) S (fun y news' => ElOk news (V i) y news')) E' { s with heap := h, toks := tk })
    (fin : ∀ ys, ys.length = n → (∀ i y, ys[i]? = some y → V i y) → Fin ys news) : LCg.CompRest prog w A h₀ L m env elt x scope cl s S P Fin n 0 [] news := by
  have key : ∀ (j i : Nat) (ys : List Value), i + j = n → ys.length = i → (∀ k y, ys[k]? = some y → V k y) → LCg.CompRest prog w A h₀ L m env elt x scope cl s S P Fin j i ys news := by
    intro j
    induction j with
    | zero =>
      intro i ys hi hl hy
      exact LCg.CompRest.zero (fin ys (by omega) hy)
    | succ j ih =>
      intro i ys hi hl hy
      refine LCg.CompRest.succ ?_
      intro v I oI C oC D m₂ h tk E' hv hC hx F N off ne
      refine wpAny_mono (turn i v I oI C oC D m₂ ys h tk E' (by omega) hv hC hx F N off ne) (fun y s₂ hq => ?_) fun _ _ e => e
      obtain ⟨h', tk', nw, e, F', N', off', hS, hn, hV⟩ := hq
      rw [hn] at N' off' hS
      refine ⟨h', tk', news, e, F', N', off', hS, ih (i + 1) _ (by omega) (by rw [List.length_append, List.length_singleton, hl]) ?_⟩
      intro k z hk
      rcases Nat.lt_or_ge k ys.length with hlt | hge
      · rw [List.getElem?_append_left hlt] at hk
        exact hy k z hk
      · rw [List.getElem?_append_right hge] at hk
        have hk0 : k - ys.length = 0 := by
          rcases Nat.eq_zero_or_pos (k - ys.length) with h0 | h0
          · exact h0
          · rw [List.getElem?_eq_none (by rw [List.length_singleton]; exact h0)] at hk; cases hk
        rw [hk0] at hk
        have e1 : z = y := by simpa using hk.symm
        have e2 : k = i := by omega
        rw [e1, e2]; exact hV
  exact key n 0 [] (by omega) rfl (by intro k y hk; simp at hk)
/-- a list whose places are each of sixteen makes -/
theorem picks_of {ys : List Value} (h : ∀ (i : Nat) y, ys[i]? = some y → ∃ j, j < 16 ∧ y = outR j) : ∃ js : List Nat, ys = js.map outR ∧ ∀ j ∈ js, j < 16 := by
  induction ys with
  | nil => exact ⟨[], rfl, by simp⟩
  | cons y ys ih =>
    obtain ⟨j, hj, e⟩ := h 0 y rfl
    obtain ⟨js, e2, h2⟩ := ih fun i z hz => h (i + 1) z hz
    refine ⟨j :: js, by rw [e, e2]; rfl, ?_⟩
    intro k hk
    rcases List.mem_cons.mp hk with rfl | hk
    · exact hj
    · exact h2 k hk
theorem inner_of {ys : List Value} {js : List Nat} (hl : ys.length = js.length) (h : ∀ (i : Nat) y, ys[i]? = some y → ∃ j, js[i]? = some j ∧ y = inR j) : ys = js.map inR := by
  apply List.ext_getElem
  · simpa using hl
  · intro i h1 h2
    obtain ⟨j, hj, e⟩ := h i _ (List.getElem?_eq_getElem h1)
    rw [e, List.getElem_map]
    have h3 : i < js.length := by rw [← hl]; exact h1
    rw [List.getElem?_eq_getElem h3] at hj
    rw [Option.some.inj hj]
end
section
variable {prog : Program} {w : World} {A : Around} {E : Value → Shared → Prop} {s : Shared} {Q : Value → Shared → Prop} {h₀ : Heap} {L : Addr} {m : Str → Option Value} {value slice : Expr} {u : Tok} {k : Int}
theorem items_at (P : Params) : ∃ n dd sl, (hd.heap_39 P).lookup 55 = some ⟨.type "tuple", dd, .seq [outR 0, outR 1, outR 2, outR 3, outR 4, outR 5, outR 6, outR 7, outR 8, outR 9, outR 10, outR 11, outR 12, outR 13, outR 14, outR 15].toArray n, sl⟩ := ⟨_, _, _, rfl⟩
theorem menu16 {j : Nat} (hj : j < 16) : [outR 0, outR 1, outR 2, outR 3, outR 4, outR 5, outR 6, outR 7, outR 8, outR 9, outR 10, outR 11, outR 12, outR 13, outR 14, outR 15][j]? = some (outR j) := by
  rcases last_cases j hj with rfl | rfl | rfl | rfl | rfl | rfl | rfl | rfl | rfl | rfl | rfl | rfl | rfl | rfl | rfl | rfl <;> rfl
theorem item55 (F : Fr h₀ L s.heap m) (X : (hd.heap_39 w.params).In h₀) (h0 : 0 ≤ k) (h1 : k < 16) (h : Q (outR k.toNat) s)
    (hs : subscripted slice false (.ref 55) (.int k u) = operate [.ref 55, .int k u] (getItem (.ref 55) (.int k u)) := by with_unfolding_all rfl) :
    wpAny (model prog w) A (subscriptTail value slice (.ref 55) (.int k u)) Q E s := by
  obtain ⟨n, dd, sl, e⟩ := items_at w.params
  exact item_tupleT (tupK (X.keeps F.keep) e) (by omega) (by omega) (j := k.toNat) (StrLaws.seqIndex_nonneg h0 (by simpa using h1)) (menu16 (by omega)) h hs
end
/-- the loop's word: c is the cut of the first i picks -/
def CutTo (rank : Int) (js : List Nat) (i : Nat) (c : Int) : Prop := ∃ k : Nat, c = (k : Int) ∧ i ≤ js.length ∧ IsCut rank (js.take i) k
theorem cut_start (rank : Int) (js : List Nat) : CutTo rank js 0 0 := ⟨0, rfl, Nat.zero_le _, by simp, .inl rfl, by intro k j _ h; simp at h⟩
theorem cut_yes {rank : Int} {js : List Nat} {i j : Nat} (hj : js[i]? = some j) (hlt : rkL.getD j 0 < rank) : CutTo rank js (i + 1) ((i : Int) + 1) := by
  have hi : i < js.length := (List.getElem?_eq_some_iff.mp hj).1
  refine ⟨i + 1, by omega, hi, ?_, .inr ⟨j, ?_, hlt⟩, ?_⟩
  · rw [List.length_take]; omega
  · rw [Nat.add_sub_cancel, List.getElem?_take, if_pos (Nat.lt_succ_self i)]; exact hj
  · intro k j' hk h
    rw [List.getElem?_take, if_neg (by omega)] at h; cases h
theorem cut_no {rank : Int} {js : List Nat} {i j : Nat} {c : Int} (C : CutTo rank js i c) (hj : js[i]? = some j) (hlt : ¬ rkL.getD j 0 < rank) : CutTo rank js (i + 1) c := by
  have hi : i < js.length := (List.getElem?_eq_some_iff.mp hj).1
  obtain ⟨k, rfl, _, C⟩ := C
  have hk : k ≤ i := Nat.le_trans C.le (by rw [List.length_take]; omega)
  refine ⟨k, rfl, hi, ?_, ?_, ?_⟩
  · rw [List.length_take]; omega
  · rcases C.at_ with h0 | ⟨j', hj', h'⟩
    · exact .inl h0
    · rcases Nat.eq_zero_or_pos k with h0 | h0
      · exact .inl h0
      · refine .inr ⟨j', ?_, h'⟩
        rw [List.getElem?_take, if_pos (by omega)] at hj' ⊢
        exact hj'
  · intro q j' hq h
    rcases Nat.lt_or_ge q i with h1 | h1
    · refine C.off q j' hq ?_
      rw [List.getElem?_take, if_pos (by omega)] at h ⊢
      exact h
    · rcases Nat.lt_or_ge q (i + 1) with h2 | h2
      · have e : q = i := by omega
        subst e
        rw [List.getElem?_take, if_pos (by omega), hj] at h
        cases h
        exact hlt
      · rw [List.getElem?_take, if_neg (by omega)] at h; cases h
theorem cut_end {rank : Int} {js : List Nat} {c : Int} (C : CutTo rank js js.length c) : 0 ≤ c ∧ c.toNat ≤ js.length ∧ IsCut rank js c.toNat := by
  obtain ⟨k, rfl, _, C⟩ := C
  rw [List.take_length] at C
  exact ⟨by omega, by simpa using C.le, by simpa using C⟩
end Mine
namespace Mine
theorem map_get {f : Nat → Value} {js : List Nat} {i j : Nat} (h : js[i]? = some j) : (js.map f)[((i : Nat) : Int).toNat]? = some (f j) := by
  rw [Int.toNat_natCast, List.getElem?_map, h]; rfl
theorem upto_map {f : Nat → Value} {js : List Nat} {c : Int} (h : 0 ≤ c) : kms_pick (js.map f).toArray.toList none (some c) = (js.take c.toNat).map f := by
  show kms_pick (js.map f) none (some c) = _
  rw [pick_upto h, List.map_take]
theorem from_map {f : Nat → Value} {js : List Nat} {c : Int} (h : 0 ≤ c) : kms_pick (js.map f).toArray.toList (some c) none = (js.drop c.toNat).map f := by
  show kms_pick (js.map f) (some c) none = _
  rw [pick_from h, List.map_drop]
theorem src_get {js : List Nat} {i : Nat} {v : Value} (h : (js.map outR).toArray[i]? = some v) : ∃ j, js[i]? = some j ∧ v = outR j := by
  have h' : (js.map outR)[i]? = some v := by simpa using h
  rw [List.getElem?_map] at h'
  cases e : js[i]? with
  | none => rw [e] at h'; cases h'
  | some j => rw [e] at h'; exact ⟨j, rfl, (Option.some.inj h').symm⟩
theorem small_take {js : List Nat} (h : ∀ j ∈ js, j < 16) (k : Nat) : ∀ j ∈ js.take k, j < 16 := fun j hj => h j (List.mem_of_mem_take hj)
theorem small_drop {js : List Nat} (h : ∀ j ∈ js, j < 16) (k : Nat) : ∀ j ∈ js.drop k, j < 16 := fun j hj => h j (List.mem_of_mem_drop hj)
theorem take_len (js : List Nat) (k n : Nat) (h : js.length ≤ n) : (js.take k).length ≤ n := by rw [List.length_take]; omega
theorem drop_len (js : List Nat) (k n : Nat) (h : js.length ≤ n) : (js.drop k).length ≤ n := by rw [List.length_drop]; omega
theorem pick_len (l : List Value) (lo hi : Option Int) : (kms_pick l lo hi).length ≤ l.length := by
  unfold kms_pick
  rw [List.length_take, List.length_drop]; omega
theorem pick_two {a b : Value} {lo hi : Option Int} : (kms_pick #[a, b].toList lo hi).length ≤ 2 := pick_len [a, b] lo hi
theorem sum_len {a b : Value} {lo hi : Option Int} {js : List Nat} {k : Nat} (h : js.length ≤ 5) : (kms_pick #[a, b].toList lo hi).toArray.toList.length + ((js.drop k).map inR).toArray.toList.reverse.toArray.toList.length ≤ sizeLine := by
  have h1 := pick_two (a := a) (b := b) (lo := lo) (hi := hi)
  show (kms_pick #[a, b].toList lo hi).length + (((js.drop k).map inR).reverse).length ≤ _
  rw [List.length_reverse, List.length_map, List.length_drop, sizeLine_eq]; omega
theorem rev_fit {js : List Nat} {k : Nat} (h : js.length ≤ 5) : ((js.drop k).map inR).toArray.size ≤ sizeLine := by
  rw [List.size_toArray, List.length_map, List.length_drop, sizeLine_eq]; omega
theorem fst_ne {a : Addr} {l : List (Addr × Obj)} (h : LCg.Off1 a l) : ∀ p ∈ l, @Ne Nat p.1 a := by
  induction l with
  | nil => intro p hp; cases hp
  | cons q l ih =>
    intro p hp
    rcases List.mem_cons.mp hp with rfl | hp
    · exact h.1
    · exact ih h.2 p hp
theorem lt_off {a : Nat} : ∀ {l : List (Addr × Obj)}, AllLt a l → ∀ p ∈ l, @Ne Nat p.1 a
  | [], _, _, h => nomatch h
  | q :: l, x, p, h => by
    rcases List.mem_cons.mp h with rfl | h
    · exact Nat.ne_of_lt x.1
    · exact lt_off x.2 p h
section
variable {prog : Program} {w : World} {A : Around} {h₀ : Heap} {L : Addr} {m : Str → Option Value} {env : Env} {elt : Expr} {x : Str} {scope : Scope} {cl : List (Str × Addr)} {Fin : Shared → List Value → List (Addr × Obj) → Prop} {s₁ : Shared} {news : List (Addr × Obj)} {ax : Addr} {k : Nat} {js : List Nat}
/-- a comprehension that takes each pick's own triple -/
theorem inner_src (hh : A.handled = none) (F : Fr h₀ L s₁.heap m) (N : News h₀ L s₁.heap news) (hm : (ax, listOf (js.map outR).toArray k) ∈ news) (hl : js.length ≤ 5) (hj : ∀ j ∈ js, j < 16)
    (turn : ∀ (g : Heap) (i j : Nat) I oI C oC D m₂ ys h tk (E' : Value → Shared → Prop), j < 16 → LCg.NsObj oC m₂ → m₂ x = some (outR j) → Fr h₀ L h m → News h₀ L h ((I, oI) :: (C, oC) :: (D, LCg.lst ys) :: news) → LCg.Off3 I C D news → ((@Ne Nat I C) ∧ (@Ne Nat I D) ∧ (@Ne Nat C D)) →
      wpAny (model prog w) A (eval elt (compEnvC scope cl C env)) (LCg.CompEnd h₀ L m { s₁ with heap := h, toks := tk } I oI C oC D (LCg.lst ys) (fun _ => True) (fun y news' => ElOk news (fun y => y = inR j) y news')) E' { s₁ with heap := h, toks := tk })
    (fin : ∀ g, Fin { s₁ with heap := g } (js.map inR) news) : LCg.CompSrc prog w A h₀ L m env elt x scope cl Fin (.ref ax) s₁ := by
  refine LCg.CompSrc.ledger hh F N hm (by rw [sizeLine_eq]; simp; omega) fun g => ?_
  have hsz : (js.map outR).toArray.size = js.length := by simp
  refine el_rest (fun i y => ∃ j, js[i]? = some j ∧ y = inR j) (fun i v I oI C oC D m₂ ys h tk E' hi hv hC hx F₁ N₁ off ne => ?_) (fun ys hly hV => ?_)
  · obtain ⟨j, hji, rfl⟩ := src_get hv
    refine wpAny_mono (turn g i j I oI C oC D m₂ ys h tk E' (hj j (List.mem_of_getElem? hji)) hC hx F₁ N₁ off ne) (fun y s₂ hq => ?_) fun _ _ e => e
    obtain ⟨h', tk', nw, e, F', N', off', _, hn, hy⟩ := hq
    refine ⟨h', tk', nw, e, F', N', off', ?_, hn, j, hji, hy⟩
    rw [hn]; exact .inr ⟨_, hm, rfl, _, rfl⟩
  · rw [inner_of (js := js) (by rw [hly, hsz]) hV]
    exact fin g
end
end Mine
open Mine
local macro_rules | `(tactic| walk_at "exec Assign cons ListComp") => `(tactic| (k_here; k_dflt (refine LCg.Assign_ListComp_U (F₀ := by k_asm) (by rfl) (by with_unfolding_all rfl) (by with_unfolding_all rfl) (by decide) (by rfl) (by decide) (by rfl) (by rfl) (by rfl) ?_)))
local macro_rules | `(tactic| walk_at "CompSrc") => `(tactic| refine Hold.out ?_)
local macro_rules | `(tactic| walk_at "exec For Name Call cons nil") => `(tactic| (k_here; (rename Fr _ _ _ _ => lF'); (with_unfolding_all refine' For_invVF lF' ?k1 ?k2 ?_; (case k1 => exact rfl); (case k2 => exact rfl); k_whole)))
local macro_rules | `(tactic| walk_at "pyIter ref") => `(tactic| ((with_reducible show wpAny _ _ (pyIter (Value.ref _)) (fun it s₂ => LoopAtV _ _ _ _ _ _ _ _ _ it s₂) _ _); refine Hold.out ?_))
local macro_rules | `(tactic| walk_at "R1Post") => `(tactic| dsimp only [R1Post])
local macro_rules | `(tactic| walk_at "subscriptTail") => `(tactic| (k_here; first
  | ((with_reducible show wpAny _ _ (subscriptTail _ _ (Value.ref 55) (Value.int _ _)) _ _ _); (try k_fmods); k_dflt (refine' item55 ?F ?X ?a ?b ?_ ?s; (case F => k_asm); (case X => k_asm); (case a => omega); (case b => omega); (case s => with_unfolding_all rfl)))
  | ((with_reducible show wpAny _ _ (subscriptTail _ _ (Value.ref (24 + 2 * _)) (Value.int 0 _)) _ _ _); k_dflt (refine' out0 ?F ?X ?j ?_ ?s; (case F => k_asm); (case X => k_asm); (case j => assumption); (case s => with_unfolding_all rfl)))
  | ((with_reducible show wpAny _ _ (subscriptTail _ _ (Value.ref (24 + 2 * _)) (Value.int 1 _)) _ _ _); k_dflt (refine' out1 ?F ?X ?j ?_ ?s; (case F => k_asm); (case X => k_asm); (case j => assumption); (case s => with_unfolding_all rfl)); intro t')
  | ((with_reducible show wpAny _ _ (subscriptTail _ _ (Value.ref _) (Value.int (Nat.cast _) _)) _ _ _); k_dflt (refine' item_litK ?l ?a ?b ?x ?_ ?s; (case l => kmk_list); (case a => omega); (case b => omega); (case x => exact map_get (by assumption)); (case s => with_unfolding_all rfl)))))
local macro_rules | `(tactic| walk_at "subscriptTail List Slice ref ref") => `(tactic| (k_here; (with_reducible show wpAny _ _ (subscriptTail _ (PySem.Expr.Slice none (some _) none _) (Value.ref _) (Value.ref _)) _ _ _); (try k_fmods); k_dflt (refine' kms_slice_lit ?F ?N ?l ?p ?q ?e ?_ ?s ?t ?z; (case F => k_asm); (case N => k_asm); (case l => kmk_list); (case p => kmk_part); (case q => kmk_part); (case e => exact pick_upto (by omega)); (case s => with_unfolding_all rfl); (case t => kmk_pure); (case z => exact Nat.le_of_ble_eq_true rfl)); intro D' h' F' N' l1; (try k_lt l1); (try k_sweep)))
local macro_rules | `(tactic| walk_at "subscriptTail Name Slice ref ref") => `(tactic| (k_here; k_dflt (refine' kms_slice_lit ?F ?N ?l ?p ?q ?e ?_ ?s ?t ?z; (case F => k_asm); (case N => k_asm); (case l => kmk_list); (case p => kmk_part); (case q => kmk_part); (case e => first | exact upto_map (by assumption) | exact from_map (by assumption)); (case s => with_unfolding_all rfl); (case t => kmk_pure); (case z => (rw [List.size_toArray, List.length_map, sizeLine_eq]; omega))); intro D' h' F' N' l1; (try k_lt l1); (try k_sweep)))
local macro_rules | `(tactic| walk_at "call ref") => `(tactic| (k_here; (with_reducible show wpAny _ _ (call (Value.ref 22) [Value.ref _, Value.ref _, Value.int _ _]) _ _ _); refine Hold.out ?_))
local macro_rules | `(tactic| walk_at "call type:list") => `(tactic| (k_here; (with_reducible show wpAny _ _ (call (Value.type _) [Value.ref _]) _ _ _); k_dflt (refine' list_copyK ?F ?N ?l ?_ ?z; (case F => k_asm); (case N => k_asm); (case l => kmk_list); (case z => (rw [List.size_toArray, sizeLine_eq]; exact Nat.le_trans pick_two (by decide)))); intro D' c' h' F' N' l1; (try k_lt l1); (try k_sweep)))
local macro_rules | `(tactic| walk_at "subscriptTail Name Slice ref ref") => `(tactic| (k_here; (with_reducible show wpAny _ _ (subscriptTail _ (PySem.Expr.Slice none none (some _) _) (Value.ref _) (Value.ref _)) _ _ _); k_dflt (refine' krv_lit ?F ?N ?l ?k ?e ?_ ?s ?t ?z; (case F => k_asm); (case N => k_asm); (case l => kmk_list); (case k => exact IsPart.int _ _); (case e => exact rfl); (case s => with_unfolding_all rfl); (case t => kmk_pure); (case z => exact rev_fit (by with_reducible assumption))); intro D' h' F' N' l1))
local macro_rules | `(tactic| walk_at "binaryOp Add ref ref") => `(tactic| (k_here; (with_reducible show wpAny _ _ (binaryOp _ (Value.ref _) (Value.ref _)) _ _ _); k_dflt (refine' kmk_add_lit ?F ?N ?a ?b ?e ?_ ?z; (case F => k_asm); (case N => k_asm); (case a => kmk_list); (case b => kmk_list); (case e => exact rfl); (case z => exact sum_len (by with_reducible assumption))); intro D' h' F' N' l1))
local macro_rules | `(tactic| walk_at "compareOp NotEq ref ref") => `(tactic| (k_here; refine Hold.out ?_))
theorem PySem.Challenge.cw_k15_0018_holds : PySem.Challenge.rw_k15_0018.Holds :=
  hd (by
  w_top off
  k_go0; (all_goals try k_fold)
  rename List Int => ns
  k_steps
  refine Hold.mk ?_
  (try k_fmods)
  refine LCg.CompSrc.range (by rfl) (by k_asm) (by k_asm) (by assumption) (by first | decide | exact small_one (by l_bnd) (by l_bnd) (by l_bnd) (by l_bnd)) (by first | exact rangeSize_nat _ _ | rfl) (by rw [PySem.sizeLine_eq]; omega) ?_
  intro g'
  refine' el_rest (fun _ y => ∃ j, j < 16 ∧ y = outR j) (fun i' v' I' oI' C' oC' D' m' ys' h' tk' E' hi' hv' hC' hx' F' N' off' ne' => ?t1) (fun ys' hl' hV' => ?t2)
  case t1 =>
    obtain ⟨t', e'⟩ := hv'; subst e'
    k_steps
    exact ⟨_, _, _, rfl, by assumption, by assumption, off', trivial, rfl, _, by omega, rfl⟩
  case t2 =>
    obtain ⟨js, e', hj'⟩ := picks_of hV'; subst e'
    rw [List.length_map] at hl'
    k_steps
    refine Hold.mk ?_
    (rename Fr _ _ _ _ => lF); (rename News _ _ _ _ => lN); (rename IsRange _ _ _ _ _ _ _ _ => rgX)
    have hjl : js.length ≤ 5 := by omega
    rw [kms_pick_eq] at lN
    (with_unfolding_all refine' range_int_loop (y := Str.ofString "cut") (fun i c => CutTo ((cellAt ns 1 0).fmod 4) js i c) (by rfl) rgX (by first | decide | exact small_one (by l_bnd) (by l_bnd) (by l_bnd) (by l_bnd)) (by first | exact rangeSize_nat _ _ | rfl) lF lN (by rfl) (by decide) (cut_start _ _) (fun i' t' c' tc' h' tk' own' hi' hP' F' N' => ?t3) (fun u' c' tc' h' tk' hP' F' N' => ?t4))
    case t3 =>
      clear lF lN
      try simp only [List.nil_append, List.cons_append] at N'
      obtain ⟨j, hjn⟩ : ∃ j, js[i']? = some j := ⟨js[i']'(by omega), List.getElem?_eq_getElem (by omega)⟩
      have hj16 : j < 16 := hj' j (List.mem_of_getElem? hjn)
      k_steps
      all_goals first
        | exact ⟨_, _, _, _, _, rfl, by assumption, by assumption, by rfl, by (intro z h1 h2; simp [h1, h2]), cut_yes hjn (by assumption)⟩
        | exact ⟨_, _, _, _, _, rfl, by assumption, by assumption, by rfl, by (intro z h1 h2; simp [h1, h2]), cut_no hP' hjn (by assumption)⟩
    case t4 =>
      clear lF lN
      rw [← hl'] at hP'
      obtain ⟨hc0, hcl, C⟩ := cut_end hP'
      k_steps
      refine Hold.mk ?_
      refine' inner_src (js := js.take c'.toNat) (by rfl) (by k_asm) (by k_asm) (by k_mem) (take_len _ _ _ hjl) (small_take hj' _) (fun g' i' j' I' oI' C' oC' D' m' ys' h' tk' E' hj16' hC' hx' F' N' off' ne' => ?t5) (fun g' => ?t6)
      case t5 =>
        k_steps
        exact ⟨_, _, _, rfl, by assumption, by assumption, off', trivial, rfl, rfl⟩
      case t6 =>
        k_steps
        refine Hold.mk ?_
        refine' inner_src (js := js.drop c'.toNat) (by rfl) (by k_asm) (by k_asm) (by k_mem) (drop_len _ _ _ hjl) (small_drop hj' _) (fun g' i' j' I' oI' C' oC' D' m' ys' h' tk' E' hj16' hC' hx' F' N' off' ne' => ?t7) (fun g' => ?t8)
        case t7 =>
          k_steps
          exact ⟨_, _, _, rfl, by assumption, by assumption, off', trivial, rfl, rfl⟩
        case t8 =>
          k_steps
          refine Hold.mk ?_
          refine' inner_src (js := js) (by rfl) (by k_asm) (by k_asm) (by k_mem) hjl hj' (fun g' i' j' I' oI' C' oC' D' m' ys' h' tk' E' hj16' hC' hx' F' N' off' ne' => ?t9) (fun g' => ?t10)
          case t9 =>
            k_steps
            exact ⟨_, _, _, rfl, by assumption, by assumption, off', trivial, rfl, rfl⟩
          case t10 =>
            k_steps
            refine Hold.mk ?_
            refine' unwind_call (js := js) (cut := c'.toNat) ?u9B ?u9F ?u9X ?u9N ?u9T ?u9k ?oq ?ro ?rq hj' ?u9jl ?pl ?r0 ?r3 C ?u9r ?u9u (fun h' tk' d1 d2 F' N' => ?t11)
            case u9B => k_asm
            case u9F => k_asm
            case u9X => k_asm
            case u9N => k_asm
            case u9T => k_asm
            case u9k => exact rfl
            case u9r => decide
            case u9u => decide
            case u9jl => omega
            case oq => exact Nat.ne_of_lt (by (rename (_ < _ ∧ _) => ll); exact ll.1)
            case ro => (refine fst_ne ?_; simp only [LCg.Off1, and_true]; assumption)
            case rq => (refine lt_off ?_; simp only [AllLt, and_true]; (rename (_ < _ ∧ _) => ll); exact ll.2)
            case pl => exact Nat.le_trans pick_two (by decide)
            case r0 => exact fmod_lo _ (by decide)
            case r3 => exact Int.le_of_lt_add_one (fmod_hi _ (by decide))
            case t11 =>
              rw [List.map_reverse] at N'
              k_steps
              refine Hold.mk ?_
              rename News _ _ _ _ => NN
              refine' ne_same (xs := (js.take c'.toNat).map inR) ?q1 ?q2 ?q3 ?_
              case q1 => exact News.isList NN (List.mem_cons_of_mem _ (List.mem_cons_self ..))
              case q2 => exact News.isList NN (List.mem_cons_of_mem _ (List.mem_cons_of_mem _ (List.mem_cons_of_mem _ (List.mem_cons_of_mem _ (List.mem_cons_self ..)))))
              case q3 => exact Nat.le_of_ble_eq_true rfl
              k_steps
              refine Hold.mk ?_
              rename News _ _ _ _ => N2
              refine' ne_same ?q4 ?q5 ?q6 ?_
              case q4 => exact News.isList N2 (List.mem_cons_of_mem _ (List.mem_cons_of_mem _ (List.mem_cons_self ..)))
              case q5 => exact News.isList N2 (List.mem_cons_self ..)
              case q6 => exact Nat.le_of_ble_eq_true rfl
              k_steps
  )
