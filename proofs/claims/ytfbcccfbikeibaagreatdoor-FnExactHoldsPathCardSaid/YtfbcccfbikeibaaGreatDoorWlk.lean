/- The walks, printed by a program. -/
import Derived.Test.YtfbcccfbikeibaaGreatDoorWlkA
set_option linter.unusedVariables false
set_option maxRecDepth 100000
namespace Go.Proofs.YtfbcccfbikeibaaGreatDoor
open Go.GL Go.Maps Go.WideMaps
/-- what the loop has gathered, as far as it has come -/
structure Gat (m : List (Str × Int)) (left : Lit → Bool) (l : List D.Value) : Prop where
  nd : l.Pairwise fun a b => a.Name ≠ b.Name
  mem : ∀ v, v ∈ l ↔ m.lookup v.Name = some v.W ∧ v.N = 0 ∧ left (map102.lit v.Name) = false
theorem SL_same (a b : Str) : (map102.lit a).sameKey (map102.lit b) = decide (a = b) := by
  cases a; cases b
  show Lit.sameKey (.string _) (.string _) = _
  simp only [Lit.sameKey, Str.mk.injEq]
  exact Bool.beq_eq_decide_eq _ _
theorem SL_fit {m : List (Str × Int)} (hf : ∀ p ∈ m, map102.fit p.1 = true) {s : Str} {w : Int} (h : m.lookup s = some w) : map102.fit s = true := by
  induction m with
  | nil => cases h
  | cons p m ih =>
    obtain ⟨u, y⟩ := p
    rw [List.lookup_cons] at h
    by_cases e : s = u
    · subst e; exact hf _ List.mem_cons_self
    · have e' : (s == u) = false := by simpa using e
      rw [e'] at h
      exact ih (fun p hp => hf p (List.mem_cons_of_mem _ hp)) h
theorem Gat.start {m : List (Str × Int)} (hf : ∀ p ∈ m, map102.fit p.1 = true) : Gat m (Maps.has (map102.D m)) [] := ⟨List.Pairwise.nil, fun v => by
  constructor
  · intro h; cases h
  · rintro ⟨h1, _, h3⟩
    rw [MapT.has_ _ (SL_fit hf h1) _ hf, h1] at h3
    cases h3⟩
theorem Gat.step {m : List (Str × Int)} {left : Lit → Bool} {l : List D.Value} (h : Gat m left l) {u : Str} {z : Int} (hz : m.lookup u = some z) (hl : left (map102.lit u) = true) : Gat m (fun q => left q && !q.sameKey (map102.lit u)) (l ++ [⟨u, z, 0⟩]) := by
  have hno : ∀ v ∈ l, v.Name ≠ u := fun v hv e => by
    have := ((h.mem v).1 hv).2.2
    rw [e, hl] at this; cases this
  refine ⟨List.pairwise_append.2 ⟨h.nd, List.pairwise_singleton _ _, fun a ha b hb => by rw [List.mem_singleton] at hb; subst hb; exact hno a ha⟩, fun v => ?_⟩
  rw [List.mem_append, List.mem_singleton, h.mem v, SL_same]
  by_cases e : v.Name = u
  · subst e
    simp only [decide_true, Bool.not_true, Bool.and_false, and_true, hl]
    rw [hz]
    constructor
    · rintro (⟨_, _, h3⟩ | h)
      · cases h3
      · rw [h]; exact ⟨rfl, rfl⟩
    · rintro ⟨h1, h2⟩
      right
      cases v; simp_all
  · have hne : v ≠ ⟨u, z, 0⟩ := fun h => e (by rw [h])
    simp [e, hne]
theorem Gat.done {m : List (Str × Int)} {left : Lit → Bool} {l l' : List D.Value} (h : Gat m left l) (h0 : ∀ kl, left kl = false) (hp : l'.Perm l) (hs : l'.Pairwise fun x y => Go.Proofs.ltOf cmpV y x = false) : l' = vtab m := by
  have hnd : l'.Pairwise fun a b => a.Name ≠ b.Name := (hp.pairwise_iff fun {a b} (hab : a.Name ≠ b.Name) => hab.symm).2 h.nd
  refine ss_eq ?_ (vtab_sorted m) fun v => ?_
  · refine (hnd.and hs).imp fun {a b} hab => ?_
    obtain ⟨h1, h2⟩ := hab
    rw [ltV_cmp] at h2
    exact SL_tot h2 (Ne.symm h1)
  · rw [hp.mem_iff, h.mem v, vtab_mem]
    simp [h0]
theorem vnan (s : Str) (w : World) : Calls Tryz.prog 111 [Str.val s].toArray w fun e w' => e = .returned (.bool false) ∧ w' = w := by
  refine enter Tryz.func111 rfl Tryz.ntmps111 (by rfl) fun a hF => ?_
  have c : Cx ⟨w, Non, Non⟩ _ (args0 0 [Str.val s]) [] [] a w := ⟨hF, Non, Non, Mem.start (fun _ h => h.elim) (fun _ h => h.elim) (fun _ h => h.elim), Sep.nil _ _, AllF.nil⟩
  refine P0 [] c fun _ c => ?_
  refine P0 [] c fun _ c => ?_
  refine wp_ret (ret1 rfl c.fr (v := .bool (!(Str.eqb s s))) (by kernel_rfl) ⟨?_, rfl⟩)
  have : Str.eqb s s = true := by unfold Str.eqb; simp
  rw [this]; rfl
theorem vcmp (s t : Str) (w : World) : Calls Tryz.prog 87 [Str.val s, Str.val t].toArray w fun e w' => e = .returned (.int .i64 (cmpS s t)) ∧ w' = w := by
  refine enter Tryz.func87 rfl Tryz.ntmps87 (by rfl) fun a hF => ?_
  have c : Cx ⟨w, Non, Non⟩ _ (args0 0 [Str.val s, Str.val t]) [] [] a w := ⟨hF, Non, Non, Mem.start (fun _ h => h.elim) (fun _ h => h.elim) (fun _ h => h.elim), Sep.nil _ _, AllF.nil⟩
  clear hF
  refine P0 [] c fun _ c => ?_
  refine T0 ?_
  refine Fp [] 1 c fun _ c => ?_
  refine s_call [Str.val s] (R := fun v w' => v = .bool false ∧ w' = w) Tryz.call111 rfl rfl c.fr (by kernel_rfl) ((vnan s w).mono fun e w' h => ⟨_, h.1, rfl, h.2⟩) fun v w' fr hR hF => ?_
  obtain ⟨rfl, rfl⟩ := hR
  replace c := c.to hF
  refine Fp [] 1 c fun _ c => ?_
  refine E0 ?_
  refine T0 ?_
  refine Fp [] 1 c fun _ c => ?_
  refine s_call [Str.val t] (R := fun v w1 => v = .bool false ∧ w1 = w') Tryz.call111 rfl rfl c.fr (by kernel_rfl) ((vnan t w').mono fun e w1 h => ⟨_, h.1, rfl, h.2⟩) fun v w1 fr hR hF => ?_
  obtain ⟨rfl, rfl⟩ := hR
  replace c := c.to hF
  refine Fp [] 1 c fun _ c => ?_
  refine E0 ?_
  refine S0 ?_
  refine P0 [] c fun _ c => ?_
  refine If (b := false) c (fun h => by cases h) fun _ => ?_
  refine K0 ?_
  refine S0 ?_
  refine P0 [] c fun _ c => ?_
  refine If (b := false) c (fun h => by cases h) fun _ => ?_
  refine K0 ?_
  refine S0 ?_
  refine P0 [] c fun _ c => ?_
  refine If (b := Str.ltb s t) c (fun h1 => ?_) fun h1 => ?_
  · refine P0 [] c fun _ c => ?_
    exact wp_ret (tr (ret1 rfl c.fr (v := I (-1)) (by kernel_rfl) ⟨by unfold cmpS; rw [h1]; rfl, rfl⟩))
  refine K0 ?_
  refine S0 ?_
  refine P0 [] c fun _ c => ?_
  refine If (b := Str.gtb s t) c (fun h2 => ?_) fun h2 => ?_
  · refine P0 [] c fun _ c => ?_
    exact wp_ret (tr (ret1 rfl c.fr (v := I 1) (by kernel_rfl) ⟨by unfold cmpS; rw [h1, h2]; rfl, rfl⟩))
  refine K0 ?_
  refine P0 [] c fun _ c => ?_
  exact wp_ret (ret1 rfl c.fr (v := I 0) (by kernel_rfl) ⟨by unfold cmpS; rw [h1, h2]; rfl, rfl⟩)
theorem vclo (x y : D.Value) (W : World) : Calls Tryz.prog 86 #[.agg (Flat.enc x).toArray, .agg (Flat.enc y).toArray] W fun e w' => e = .returned (.int .i64 (cmpV x y)) ∧ ∃ q os', w' = Go.Sort.grow (W.drewN q) os' := by
  have hcon := fun W' => vcmp x.Name y.Name W'
  unfold cmpV
  generalize cmpS x.Name y.Name = r at hcon ⊢
  obtain ⟨⟨nx⟩, wx, mx⟩ := x
  obtain ⟨⟨ny⟩, wy, my⟩ := y
  change ∀ W', Calls Tryz.prog 87 #[.string ⟨nx.toArray⟩, .string ⟨ny.toArray⟩] _ _ at hcon
  change Calls Tryz.prog 86 #[.agg #[.string ⟨nx.toArray⟩, .int .i64 wx, .int .i64 mx], .agg #[.string ⟨ny.toArray⟩, .int .i64 wy, .int .i64 my]] _ _
  go_enter Tryz.func86, Tryz.ntmps86
  go_wp2_with (go_at_call 87; refine (hcon _).mono ?_; rintro e w' ⟨rfl, rfl⟩)
  go_ret
  exact ⟨rfl, 0, _, by rw [Go.Sort.alloc_eq_grow, Go.Sort.alloc_eq_grow, Go.Sort.grow_grow]; rfl⟩
theorem vback (key : Value) (x : Str) (h : keyOf Tryz.prog 9 key = some (map102.lit x)) : key = Rep.val Str (Flat.enc x) := by
  have hk : Tryz.prog.underlying 9 = some .string := by kernel_rfl
  have h2 : keyOf Tryz.prog 9 key = some (.string x.bytes) := h
  cases key <;> simp [keyOf, hk, mapKey] at h2
  rename_i s
  obtain ⟨_, h3⟩ := h2
  show Value.string s = .string ⟨x.bytes.toArray⟩
  rw [← h3]
theorem impl_VarsOf_ok {n : Nat} {p0 : D.Term} {ga0 : Option Addr} {gc1 : Nat} {r : (List D.Value)} (h : impl_VarsOf n p0 = some r) : Con Tryz.prog 68 [.agg #[I p0.Op, I p0.W, I p0.N, Str.val p0.Name, L ga0 p0.Kids gc1]] [] [RO (L ga0 p0.Kids gc1) p0.Kids] fun (i : Option Addr × Nat) => ([L i.1 r i.2], [sl89 (L i.1 r i.2) r], []) := by
 unfold impl_VarsOf at h
 refine En Tryz.func68 rfl Tryz.ntmps68 fun Bb fr w c => ?_
 refine T0 ?_
 refine Ebx [I p0.Op, I p0.W, I p0.N, Str.val p0.Name, L ga0 p0.Kids gc1] c fun b1 _ _ c => ?_
 refine Fp [] 1 c fun _ c => ?_
 refine E0 ?_
 refine S0 ?_
 refine T0 ?_
 refine Fp [(0, 0)] 1 c fun _ c => ?_
 obtain ⟨x1, hx1, h⟩ := bindE h
 refine Ca [] c (impl_TermOk_ok hx1) ⟨.f 0, trivial⟩ Tryz.call66 fun _ _ _ c => ?_
 refine Fp [] 1 c fun _ c => ?_
 refine E0 ?_
 refine I0 c h (fun h => ?_) fun h => ?_
 · refine P0 [] c fun _ c => ?_
   obtain rfl := Option.some.inj h
   replace c := c.nil (α := D.Value) 89
   exact wp_ret (tr (Rt c (none, 0) [1] []))
 refine K0 ?_
 refine T0 ?_
 refine Emm map102 c fun b2 _ _ c => ?_
 refine Fp [] 1 c fun _ c => ?_
 refine E0 ?_
 refine T0 ?_
 refine Fp [(0, 0)] 2 c fun _ c => ?_
 replace c := c.om 1
 obtain ⟨x2, hx2, h⟩ := bindE h
 refine Ca [1] c (impl_collectVars_ok hx2) ⟨.f 0, trivial⟩ Tryz.call84 fun _ _ _ c => ?_
 obtain ⟨x3, hx3, h⟩ := bindE h
 obtain ⟨b3, hb3, c⟩ := c.smx 1 hx3
 obtain rfl : b2 = b3 := by simpa using hb3
 clear hb3
 refine E0 ?_
 refine P0 [] c fun _ c => ?_
 refine S0 ?_
 refine T0 ?_
 refine Fp [] 1 c fun _ c => ?_
 obtain ⟨hlen, h⟩ : x3.length ≤ 1048576 ∧ some (vtab x3) = some r := by
   by_cases hl : x3.length ≤ 1048576
   · rw [if_pos hl] at h; exact ⟨hl, h⟩
   · rw [if_neg hl] at h; cases h
 obtain rfl := Option.some.inj h
 clear h
 have hfit : ∀ p ∈ x3, map102.fit p.1 = true := by
   obtain ⟨_, S, F, _, hs, _⟩ := c
   exact (hs.mp 1 rfl).2
 refine Ern 1 c fun r1 _ _ c => ?_
 refine E0 ?_
 replace c := c.nil (α := D.Value) 89
 refine (LpW (fun cnt a w => ∃ left l a' c', Cx Bb 30 [(4, .slice a' (List.length l) c'), (15, .pointer (some ⟨r1, 0, none⟩))] [RG map102 b2 r1 x3 left cnt, sl89 (.slice a' (List.length l) c') l] [] a w ∧ Gat x3 left l)
   (fun a w => ∃ left l a' c', Cx Bb 30 [(4, .slice a' (List.length l) c')] [sl89 (.slice a' (List.length l) c') l] [] a w ∧ Gat x3 left l ∧ ∀ kl, left kl = false)
   ⟨_, [], none, 0, c.re [1, 2] [], Gat.start hfit⟩ (fun cnt a w ⟨left, l, a', c', c, hG⟩ => ?_) fun a w ⟨left, l, a', c', c, hG, h0⟩ => ?_)
 · have hl1 : l.length ≤ 1048576 := by
     have := SL_len (l' := vtab x3) hG.nd fun v hv => (vtab_mem v x3).2 ⟨((hG.mem v).1 hv).1, ((hG.mem v).1 hv).2.1⟩
     have := vtab_len x3
     omega
   refine T0 ?_
   refine Enx 0 vback c (fun hl _ c => ?_) fun u z cnt' _ w1 hu hz hlk hlt hen c => ?_
   · refine Fp [] 1 c fun _ c => ?_
     refine E0 ?_
     refine S0 (If (b := false) c (fun h => by cases h) fun _ => ?_)
     refine wp_exit (te (te (be ?_)))
     exact tn ⟨left, l, a', c', c.re [1] [], hG, hl⟩
   · refine Fp [] 1 c fun _ c => ?_
     refine E0 ?_
     refine S0 (If (b := true) c (fun _ => ?_) fun h => by cases h)
     refine K0 ?_
     refine wp_block ?_
     refine T0 ?_
     refine Een c hen fun _ c => ?_
     refine Fp [] 4 c fun _ c => ?_
     refine E0 ?_
     refine T1 ?_
     refine Fp [] 4 c fun _ c => ?_
     refine Elt 89 ([⟨u, z, 0⟩] : List D.Value) c fun a2 c2 _ _ c => ?_
     have hap : app? l ([⟨u, z, 0⟩] : List D.Value) = some (l ++ [⟨u, z, 0⟩]) := by unfold app?; rw [if_pos (by unfold room; simp; omega)]
     refine Eap 1 c (.g 2) hap fun a3 c3 _ _ c => ?_
     refine Fp [] 1 c fun _ c => ?_
     refine E1 ?_
     refine bk (tn ?_)
     exact ⟨cnt', hlt, _, l ++ [⟨u, z, 0⟩], a3, c3, c.re [0, 1] [], hG.step hz hlk⟩
 · refine T0 ?_
   refine Fp [] 1 c fun _ c => ?_
   have hl1 : l.length ≤ 1048576 := by
     have := SL_len (l' := vtab x3) hG.nd fun v hv => (vtab_mem v x3).2 ⟨((hG.mem v).1 hv).1, ((hG.mem v).1 hv).2.1⟩
     have := vtab_len x3
     omega
   refine Ca [0] c (con_sortF (α := D.Value) (l := l) Tryz.sortV rfl Tryz.isAgg89 Tryz.sizeOf89 (by decide) (fun x v hv => by
     have hv : v ∈ [Str.val x.Name, I x.W, I x.N] := hv
     simp only [List.mem_cons, List.not_mem_nil, or_false] at hv
     rcases hv with rfl | rfl | rfl <;> rfl) cmpV swoV (enters_of Tryz.func86 (by kernel_rfl) rfl) vclo (by omega)) trivial Tryz.call85 fun i _ _ c => ?_
   refine E0 ?_
   obtain ⟨l', hp, hs⟩ := i
   obtain ⟨hl', c⟩ := c.relen 0
   obtain rfl := hG.done h0 hp hs
   refine P0 [] c fun _ c => ?_
   replace c := c.eqs (v := L a' l c') (u := L a' (vtab x3) c') 2 (by simp only [L, hl'])
   exact wp_ret (Rt c (a', c') [0] [])


theorem impl_WordOf_ok {p0 : Int} {p1 : Int} {r : Int} (h : impl_WordOf p0 p1 = some r) : Con Tryz.prog 112 [I p0, I p1] [] [] fun (_ : Unit) => ([I r], [], []) := by
 unfold impl_WordOf at h
 refine En Tryz.func112 rfl Tryz.ntmps112 fun _ fr w c => ?_
 refine P0 [] c fun _ c => S0 (T0 (Fp [] 1 c fun _ c => Bd h fun x1 hx1 h => Ca [] c (impl_isWidth_ok hx1) trivial Tryz.call102 fun _ _ _ c => ?_))
 refine Fp [] 1 c fun _ c => E0 (I0 c h (fun h => ?_) fun h => ?_)
 refine P0 [] c fun _ c => ?_
 cases h
 exact wp_ret (tr (Rt c () [] []))
 refine K0 (T0 (Fp [] 3 c fun _ c => Bd h fun x2 hx2 h => Eshl c hx2 fun _ c => ?_))
 refine Fp [] 3 c fun _ c => E0 ?_
 cases h
 exact wp_ret (Rt c () [] [])

theorem impl_ApplyUnary_ok {p0 : Int} {p1 : Int} {p2 : Int} {r : Int} (h : impl_ApplyUnary p0 p1 p2 = some r) : Con Tryz.prog 88 [I p0, I p1, I p2] [] [] fun (_ : Unit) => ([I r], [], []) := by
 unfold impl_ApplyUnary at h
 refine En Tryz.func88 rfl Tryz.ntmps88 fun _ fr w c => ?_
 refine P0 [] c fun _ c => S0 (T0 (Fp [] 2 c fun _ c => Bd h fun x1 hx1 h => Ca [] c (impl_WordOk_ok hx1) trivial Tryz.call79 fun _ _ _ c => ?_))
 refine Fp [] 1 c fun _ c => E0 (I0 c h (fun h => ?_) fun h => ?_)
 refine P0 [] c fun _ c => ?_
 cases h
 exact wp_ret (tr (Rt c () [] []))
 refine K0 (S0 (P0 [] c fun _ c => wp_block (P0 [] c fun _ c => I0 c h (fun h => ?_) fun h => ?_)))
 refine T0 (Fp [] 2 c fun _ c => Bd h fun x2 hx2 h => Eshl c hx2 fun _ c => ?_)
 refine Fp [] 4 c fun _ c => E0 ?_
 cases h
 exact wp_ret (br (tr (Rt c () [] [])))
 refine P0 [] c fun _ c => I0 c h (fun h => ?_) fun h => ?_
 refine T0 (Fp [] 3 c fun _ c => Bd h fun x3 hx3 h => Ca [] c (impl_WordOf_ok hx3) trivial Tryz.call112 fun _ _ _ c => ?_)
 refine Fp [] 1 c fun _ c => E0 ?_
 obtain rfl := sj h
 exact wp_ret (br (tr (Rt c () [] [])))
 refine K1 (bk (tn (P0 [] c fun _ c => ?_)))
 cases h
 exact wp_ret (Rt c () [] [])

theorem impl_CutWord_ok {p0 : Int} {p1 : Int} {p2 : Int} {p3 : Int} {r : Int} (h : impl_CutWord p0 p1 p2 p3 = some r) : Con Tryz.prog 89 [I p0, I p1, I p2, I p3] [] [] fun (_ : Unit) => ([I r], [], []) := by
 unfold impl_CutWord at h
 refine En Tryz.func89 rfl Tryz.ntmps89 fun _ fr w c => ?_
 refine P0 [] c fun _ c => S0 (Bd h fun x1 hx1 h => S0 (rZ [(2, .eq (.bool x1))] [] mix c ⟨Ncl c (kN (impl_WordOk_ok hx1)) trivial Tryz.call79, trivial⟩ fun _ _ c => I0 c h (fun h => ?_) fun h => ?_))
 refine P0 [] c fun _ c => ?_
 cases h
 exact wp_ret (tr (Rt c () [] []))
 refine K0 (T0 (Fp [] 3 c fun _ c => Bd h fun x2 hx2 h => Eshr c hx2 fun _ c => ?_))
 refine Fp [] 2 c fun _ c => Bd h fun x3 hx3 h => Eshl c hx3 fun _ c => ?_
 refine Fp [] 3 c fun _ c => E0 ?_
 cases h
 exact wp_ret (Rt c () [] [])

theorem impl_SignedOf_ok {p0 : Int} {p1 : Int} {r : Int} (h : impl_SignedOf p0 p1 = some r) : Con Tryz.prog 113 [I p0, I p1] [] [] fun (_ : Unit) => ([I r], [], []) := by
 unfold impl_SignedOf at h
 refine En Tryz.func113 rfl Tryz.ntmps113 fun _ fr w c => ?_
 refine P0 [] c fun _ c => S0 (T0 (Fp [] 2 c fun _ c => Bd h fun x1 hx1 h => Ca [] c (impl_WordOk_ok hx1) trivial Tryz.call79 fun _ _ _ c => ?_))
 refine Fp [] 1 c fun _ c => E0 (I0 c h (fun h => ?_) fun h => ?_)
 refine P0 [] c fun _ c => ?_
 obtain rfl := sj h
 exact wp_ret (tr (Rt c () [] []))
 refine K0 (S0 (T0 (Fp [] 4 c fun _ c => Bd h fun x2 hx2 h => Eshr c hx2 fun _ c => ?_)))
 refine Fp [] 1 c fun _ c => E0 (I0 c h (fun h => ?_) fun h => ?_)
 refine P0 [] c fun _ c => ?_
 obtain rfl := sj h
 exact wp_ret (tr (Rt c () [] []))
 refine K0 (T0 (Fp [] 3 c fun _ c => Bd h fun x3 hx3 h => Eshl c hx3 fun _ c => ?_))
 refine Fp [] 2 c fun _ c => E0 ?_
 cases h
 exact wp_ret (Rt c () [] [])

theorem impl_WidenWord_ok {p0 : Int} {p1 : Int} {p2 : Int} {p3 : Bool} {r : Int} (h : impl_WidenWord p0 p1 p2 p3 = some r) : Con Tryz.prog 90 [I p0, I p1, I p2, .bool p3] [] [] fun (_ : Unit) => ([I r], [], []) := by
 unfold impl_WidenWord at h
 refine En Tryz.func90 rfl Tryz.ntmps90 fun _ fr w c => ?_
 refine P0 [] c fun _ c => S0 (Bd h fun x1 hx1 h => Bd h fun x2 hx2 h => S0 (rZ [(2, .eq (.bool x1)), (6, .eq (.bool x2))] [] mix c ⟨Ncl c (kN (impl_WordOk_ok hx1)) trivial Tryz.call79, Ncl c (fun hg => impl_isWidth_ok (iteF (gcF hg) hx2)) trivial Tryz.call102, trivial⟩ fun _ _ c => I0 c h (fun h => ?_) fun h => ?_))
 refine P0 [] c fun _ c => ?_
 cases h
 exact wp_ret (tr (Rt c () [] []))
 refine K0 (S0 (P0 [] c fun _ c => I0 c h (fun h => ?_) fun h => ?_))
 refine T0 (Fp [] 3 c fun _ c => Bd h fun x3 hx3 h => Ca [] c (impl_SignedOf_ok hx3) trivial Tryz.call113 fun _ _ _ c => ?_)
 refine Bd h fun x4 hx4 h => Ca [] c (impl_WordOf_ok hx4) trivial Tryz.call112 fun _ _ _ c => ?_
 refine Fp [] 1 c fun _ c => E0 ?_
 obtain rfl := sj h
 exact wp_ret (tr (Rt c () [] []))
 refine K0 (P0 [] c fun _ c => ?_)
 obtain rfl := sj h
 exact wp_ret (Rt c () [] [])

theorem impl_JoinWords_ok {p0 : Int} {p1 : Int} {p2 : Int} {p3 : Int} {r : Int} (h : impl_JoinWords p0 p1 p2 p3 = some r) : Con Tryz.prog 91 [I p0, I p1, I p2, I p3] [] [] fun (_ : Unit) => ([I r], [], []) := by
 unfold impl_JoinWords at h
 refine En Tryz.func91 rfl Tryz.ntmps91 fun _ fr w c => ?_
 refine P0 [] c fun _ c => S0 (Bd h fun x1 hx1 h => Bd h fun x2 hx2 h => S0 (rZ [(2, .eq (.bool x1)), (7, .eq (.bool x2))] [] mix c ⟨Ncl c (kN (impl_WordOk_ok hx1)) trivial Tryz.call79, Ncl c (fun hg => impl_WordOk_ok (iteF (gcF hg) hx2)) trivial Tryz.call79, trivial⟩ fun _ _ c => I0 c h (fun h => ?_) fun h => ?_))
 refine P0 [] c fun _ c => ?_
 cases h
 exact wp_ret (tr (Rt c () [] []))
 refine K0 (T0 (Fp [] 3 c fun _ c => Bd h fun x3 hx3 h => Eshl c hx3 fun _ c => ?_))
 refine Fp [] 3 c fun _ c => E0 ?_
 cases h
 exact wp_ret (Rt c () [] [])

theorem impl_shiftWord_ok {p0 : Int} {p1 : Int} {p2 : Int} {p3 : Int} {r : Int} (h : impl_shiftWord p0 p1 p2 p3 = some r) : Con Tryz.prog 114 [I p0, I p1, I p2, I p3] [] [] fun (_ : Unit) => ([I r], [], []) := by
 unfold impl_shiftWord at h
 refine En Tryz.func114 rfl Tryz.ntmps114 fun _ fr w c => ?_
 refine P0 [] c fun _ c => S0 (P0 [] c fun _ c => I0 c h (fun h => ?_) fun h => ?_)
 refine T0 (Fp [] 3 c fun _ c => Bd h fun x1 hx1 h => Ca [] c (impl_SignedOf_ok hx1) trivial Tryz.call113 fun _ _ _ c => ?_)
 refine Fp [] 5 c fun _ c => Bd h fun x2 hx2 h => Eshr c hx2 fun _ c => ?_
 refine Bd h fun x3 hx3 h => Ca [] c (impl_WordOf_ok hx3) trivial Tryz.call112 fun _ _ _ c => ?_
 refine Fp [] 1 c fun _ c => E0 ?_
 obtain rfl := sj h
 exact wp_ret (tr (Rt c () [] []))
 refine K0 (S0 (P0 [] c fun _ c => I0 c h (fun h => ?_) fun h => ?_))
 refine P0 [] c fun _ c => ?_
 obtain rfl := sj h
 exact wp_ret (tr (Rt c () [] []))
 refine K0 (S0 (P0 [] c fun _ c => I0 c h (fun h => ?_) fun h => ?_))
 refine T0 (Fp [] 4 c fun _ c => Bd h fun x4 hx4 h => Eshl c hx4 fun _ c => ?_)
 refine Bd h fun x5 hx5 h => Ca [] c (impl_WordOf_ok hx5) trivial Tryz.call112 fun _ _ _ c => ?_
 refine Fp [] 1 c fun _ c => E0 ?_
 obtain rfl := sj h
 exact wp_ret (tr (Rt c () [] []))
 refine K0 (T0 (Fp [] 3 c fun _ c => Bd h fun x6 hx6 h => Eshr c hx6 fun _ c => ?_))
 refine Fp [] 1 c fun _ c => E0 ?_
 obtain rfl := sj h
 exact wp_ret (Rt c () [] [])

theorem impl_boolWord_ok {p0 : Bool} {r : Int} (h : impl_boolWord p0 = some r) : Con Tryz.prog 115 [.bool p0] [] [] fun (_ : Unit) => ([I r], [], []) := by
 unfold impl_boolWord at h
 refine En Tryz.func115 rfl Tryz.ntmps115 fun _ fr w c => ?_
 refine P0 [] c fun _ c => S0 (P0 [] c fun _ c => I0 c h (fun h => ?_) fun h => ?_)
 refine P0 [] c fun _ c => ?_
 obtain rfl := sj h
 exact wp_ret (tr (Rt c () [] []))
 refine K0 (P0 [] c fun _ c => ?_)
 obtain rfl := sj h
 exact wp_ret (Rt c () [] [])

theorem impl_ApplyBinary_ok {p0 : Int} {p1 : Int} {p2 : Int} {p3 : Int} {r : Int} (h : impl_ApplyBinary p0 p1 p2 p3 = some r) : Con Tryz.prog 92 [I p0, I p1, I p2, I p3] [] [] fun (_ : Unit) => ([I r], [], []) := by
 unfold impl_ApplyBinary at h
 refine En Tryz.func92 rfl Tryz.ntmps92 fun _ fr w c => ?_
 refine P0 [] c fun _ c => S0 (Bd h fun x1 hx1 h => Bd h fun x2 hx2 h => S0 (rZ [(2, .eq (.bool x1)), (7, .eq (.bool x2))] [] mix c ⟨Ncl c (kN (impl_WordOk_ok hx1)) trivial Tryz.call79, Ncl c (fun hg => impl_WordOk_ok (iteF (gcF hg) hx2)) trivial Tryz.call79, trivial⟩ fun _ _ c => I0 c h (fun h => ?_) fun h => ?_))
 refine P0 [] c fun _ c => ?_
 cases h
 exact wp_ret (tr (Rt c () [] []))
 refine K0 (S0 (P0 [] c fun _ c => wp_block (P0 [] c fun _ c => I0 c h (fun h => ?_) fun h => ?_)))
 refine T0 (Fp [] 4 c fun _ c => Bd h fun x3 hx3 h => Ca [] c (impl_WordOf_ok hx3) trivial Tryz.call112 fun _ _ _ c => ?_)
 refine Fp [] 1 c fun _ c => E0 ?_
 obtain rfl := sj h
 exact wp_ret (br (tr (Rt c () [] [])))
 refine P0 [] c fun _ c => I0 c h (fun h => ?_) fun h => ?_
 refine T0 (Fp [] 4 c fun _ c => Bd h fun x4 hx4 h => Ca [] c (impl_WordOf_ok hx4) trivial Tryz.call112 fun _ _ _ c => ?_)
 refine Fp [] 1 c fun _ c => E0 ?_
 obtain rfl := sj h
 exact wp_ret (br (tr (Rt c () [] [])))
 refine P0 [] c fun _ c => I0 c h (fun h => ?_) fun h => ?_
 refine T0 (Fp [] 4 c fun _ c => Bd h fun x5 hx5 h => Ca [] c (impl_WordOf_ok hx5) trivial Tryz.call112 fun _ _ _ c => ?_)
 refine Fp [] 1 c fun _ c => E0 ?_
 obtain rfl := sj h
 exact wp_ret (br (tr (Rt c () [] [])))
 refine P0 [] c fun _ c => I0 c h (fun h => ?_) fun h => ?_
 refine S0 (P0 [] c fun _ c => I0 c h (fun h => ?_) fun h => ?_)
 refine T0 (Fp [] 2 c fun _ c => Bd h fun x6 hx6 h => Eshl c hx6 fun _ c => ?_)
 refine Fp [] 2 c fun _ c => E0 ?_
 cases h
 exact wp_ret (tr (br (tr (Rt c () [] []))))
 refine K0 (T0 (Fp [] 2 c fun _ c => Bd h fun x7 hx7 h => Equo c hx7 fun _ c => ?_))
 refine Fp [] 1 c fun _ c => E0 ?_
 obtain rfl := sj h
 exact wp_ret (br (tr (Rt c () [] [])))
 refine P0 [] c fun _ c => I0 c h (fun h => ?_) fun h => ?_
 refine S0 (P0 [] c fun _ c => I0 c h (fun h => ?_) fun h => ?_)
 refine P0 [] c fun _ c => ?_
 obtain rfl := sj h
 exact wp_ret (tr (br (tr (Rt c () [] []))))
 refine K0 (T0 (Fp [] 2 c fun _ c => Bd h fun x8 hx8 h => Erem c hx8 fun _ c => ?_))
 refine Fp [] 1 c fun _ c => E0 ?_
 obtain rfl := sj h
 exact wp_ret (br (tr (Rt c () [] [])))
 refine P0 [] c fun _ c => I0 c h (fun h => ?_) fun h => ?_
 refine P0 [] c fun _ c => ?_
 cases h
 exact wp_ret (br (tr (Rt c () [] [])))
 refine P0 [] c fun _ c => I0 c h (fun h => ?_) fun h => ?_
 refine P0 [] c fun _ c => ?_
 cases h
 exact wp_ret (br (tr (Rt c () [] [])))
 refine P0 [] c fun _ c => I0 c h (fun h => ?_) fun h => ?_
 refine P0 [] c fun _ c => ?_
 cases h
 exact wp_ret (br (tr (Rt c () [] [])))
 refine S0 (P0 [] c fun _ c => I0 c h (fun h => ?_) fun h => ?_)
 refine K0 (I0 c h (fun h => ?_) fun h => ?_)
 refine T0 (Fp [] 4 c fun _ c => Bd h fun x9 hx9 h => Ca [] c (impl_shiftWord_ok hx9) trivial Tryz.call114 fun _ _ _ c => ?_)
 refine Fp [] 1 c fun _ c => E0 ?_
 obtain rfl := sj h
 exact wp_ret (br (tr (Rt c () [] [])))
 refine P0 [] c fun _ c => I0 c h (fun h => ?_) fun h => ?_
 refine T0 (Fp [] 3 c fun _ c => Bd h fun x10 hx10 h => Ca [] c (impl_boolWord_ok hx10) trivial Tryz.call115 fun _ _ _ c => ?_)
 refine Fp [] 1 c fun _ c => E0 ?_
 obtain rfl := sj h
 exact wp_ret (br (tr (Rt c () [] [])))
 refine P0 [] c fun _ c => I0 c h (fun h => ?_) fun h => ?_
 refine T0 (Fp [] 3 c fun _ c => Bd h fun x11 hx11 h => Ca [] c (impl_boolWord_ok hx11) trivial Tryz.call115 fun _ _ _ c => ?_)
 refine Fp [] 1 c fun _ c => E0 ?_
 obtain rfl := sj h
 exact wp_ret (br (tr (Rt c () [] [])))
 refine P0 [] c fun _ c => I0 c h (fun h => ?_) fun h => ?_
 refine T0 (Fp [] 2 c fun _ c => Bd h fun x12 hx12 h => Ca [] c (impl_SignedOf_ok hx12) trivial Tryz.call113 fun _ _ _ c => ?_)
 refine Fp [] 2 c fun _ c => Bd h fun x13 hx13 h => Ca [] c (impl_SignedOf_ok hx13) trivial Tryz.call113 fun _ _ _ c => ?_
 refine Fp [] 1 c fun _ c => Bd h fun x14 hx14 h => Ca [] c (impl_boolWord_ok hx14) trivial Tryz.call115 fun _ _ _ c => ?_
 refine Fp [] 1 c fun _ c => E0 ?_
 obtain rfl := sj h
 exact wp_ret (br (tr (Rt c () [] [])))
 refine K1 (bk (tn (P0 [] c fun _ c => ?_)))
 cases h
 exact wp_ret (Rt c () [] [])
 refine P0 [] c fun _ c => Mp (p0 == 12) [(75, .bool (p0 == 12))] [(75, .bool (p0 == 13))] [(75, .bool ((p0 == 12) || (p0 == 13)))] [75, 78] c fun _ c => I0 c h (fun h => ?_) fun h => ?_
 refine T0 (Fp [] 4 c fun _ c => Bd h fun x15 hx15 h => Ca [] c (impl_shiftWord_ok hx15) trivial Tryz.call114 fun _ _ _ c => ?_)
 refine Fp [] 1 c fun _ c => E0 ?_
 obtain rfl := sj h
 exact wp_ret (br (tr (Rt c () [] [])))
 refine P0 [] c fun _ c => I0 c h (fun h => ?_) fun h => ?_
 refine T0 (Fp [] 3 c fun _ c => Bd h fun x16 hx16 h => Ca [] c (impl_boolWord_ok hx16) trivial Tryz.call115 fun _ _ _ c => ?_)
 refine Fp [] 1 c fun _ c => E0 ?_
 obtain rfl := sj h
 exact wp_ret (br (tr (Rt c () [] [])))
 refine P0 [] c fun _ c => I0 c h (fun h => ?_) fun h => ?_
 refine T0 (Fp [] 3 c fun _ c => Bd h fun x17 hx17 h => Ca [] c (impl_boolWord_ok hx17) trivial Tryz.call115 fun _ _ _ c => ?_)
 refine Fp [] 1 c fun _ c => E0 ?_
 obtain rfl := sj h
 exact wp_ret (br (tr (Rt c () [] [])))
 refine P0 [] c fun _ c => I0 c h (fun h => ?_) fun h => ?_
 refine T0 (Fp [] 2 c fun _ c => Bd h fun x18 hx18 h => Ca [] c (impl_SignedOf_ok hx18) trivial Tryz.call113 fun _ _ _ c => ?_)
 refine Fp [] 2 c fun _ c => Bd h fun x19 hx19 h => Ca [] c (impl_SignedOf_ok hx19) trivial Tryz.call113 fun _ _ _ c => ?_
 refine Fp [] 1 c fun _ c => Bd h fun x20 hx20 h => Ca [] c (impl_boolWord_ok hx20) trivial Tryz.call115 fun _ _ _ c => ?_
 refine Fp [] 1 c fun _ c => E0 ?_
 obtain rfl := sj h
 exact wp_ret (br (tr (Rt c () [] [])))
 refine K1 (bk (tn (P0 [] c fun _ c => ?_)))
 cases h
 exact wp_ret (Rt c () [] [])

theorem impl_evalNode_ok {n : Nat} : ∀ {p0 : D.Term} {p1 : Option (List (Str × Int))} {ga0 : Option Addr} {gc1 : Nat} {gu2 : Value} {r : Int} (h : impl_evalNode n p0 p1 = some r), Con Tryz.prog 69 [.agg #[I p0.Op, I p0.W, I p0.N, Str.val p0.Name, L ga0 p0.Kids gc1], gu2] [] [RO (L ga0 p0.Kids gc1) p0.Kids, MO map102 (gu2) p1] fun (_ : Unit) => ([I r], [], []) := by
 induction n with
 | zero => intro p0 p1 ga0 gc1 gu2 r h; simp [impl_evalNode] at h
 | succ n ih =>
 intro p0 p1 ga0 gc1 gu2 r h
 rw [impl_evalNode] at h
 refine En Tryz.func69 rfl Tryz.ntmps69 fun _ fr w c => ?_
 refine T0 (Ebx [I p0.Op, I p0.W, I p0.N, Str.val p0.Name, L ga0 p0.Kids gc1] c fun b1 _ _ c => ?_)
 refine Fp [] 1 c fun _ c => E0 (S0 (P0 [(1, 0)] c fun _ c => wp_block (P0 [] c fun _ c => I0 c h (fun h => ?_) fun h => ?_)))
 refine P0 [(1, 0)] c fun _ c => ?_
 cases h
 exact wp_ret (br (tr (Rt c () [] [])))
 refine P0 [] c fun _ c => I0 c h (fun h => ?_) fun h => ?_
 refine T0 (Fp [(2, 0)] 3 c fun _ c => Bd h fun x1 hx1 h => Erg c (.f 1) hx1 fun _ c => ?_)
 refine Fp [] 1 c fun _ c => E0 ?_
 obtain rfl := sj h
 exact wp_ret (br (tr (Rt c () [] [])))
 refine P0 [] c fun _ c => I0 c h (fun h => ?_) fun h => ?_
 refine S0 (T0 (Fp [(1, 0)] 2 c fun _ c => Bd h fun x2 hx2 h => Eem c (.f 0) hx2 fun _ u1 _ c => ?_))
 obtain ⟨a1, c1, rfl, c⟩ := c.o_Term 2
 refine Fp [] 1 c fun _ c => Bd h fun x3 hx3 h => Ca [] c (ih hx3) ⟨.f 3, .f 1, trivial⟩ Tryz.call69 fun _ _ _ c => ?_
 refine Fp [] 1 c fun _ c => E0 (I0 c h (fun h => ?_) fun h => ?_)
 refine T0 (Fp [(1, 0)] 2 c fun _ c => Bd h fun x4 hx4 h => Eem c (.f 0) hx4 fun _ u2 _ c => ?_)
 obtain ⟨a2, c2, rfl, c⟩ := c.o_Term 4
 refine Fp [] 1 c fun _ c => Bd h fun x5 hx5 h => Ca [] c (ih hx5) ⟨.f 5, .f 1, trivial⟩ Tryz.call69 fun _ _ _ c => ?_
 refine Fp [] 1 c fun _ c => E0 ?_
 obtain rfl := sj h
 exact wp_ret (tr (br (tr (Rt c () [] []))))
 refine K0 (T0 (Fp [(1, 0)] 2 c fun _ c => Bd h fun x6 hx6 h => Eem c (.f 0) hx6 fun _ u3 _ c => ?_))
 obtain ⟨a3, c3, rfl, c⟩ := c.o_Term 4
 refine Fp [] 1 c fun _ c => Bd h fun x7 hx7 h => Ca [] c (ih hx7) ⟨.f 5, .f 1, trivial⟩ Tryz.call69 fun _ _ _ c => ?_
 refine Fp [] 1 c fun _ c => E0 ?_
 obtain rfl := sj h
 exact wp_ret (br (tr (Rt c () [] [])))
 refine K1 (bk (tn (T0 (Fp [(1, 0)] 2 c fun _ c => Bd h fun x8 hx8 h => Eem c (.f 0) hx8 fun _ u4 _ c => ?_))))
 obtain ⟨a4, c4, rfl, c⟩ := c.o_Term 2
 refine Fp [] 1 c fun _ c => Bd h fun x9 hx9 h => Ca [] c (ih hx9) ⟨.f 3, .f 1, trivial⟩ Tryz.call69 fun _ _ _ c => ?_
 refine Fp [] 1 c fun _ c => E0 (T0 (Fp [(1, 0)] 2 c fun _ c => Bd h fun x10 hx10 h => Eef c (.f 0) hx10 fc75_1 fun _ _ _ c => ?_))
 refine Fp [] 1 c fun _ c => E0 (S0 (P0 [(1, 0)] c fun _ c => wp_block (S0 (P0 [] c fun _ c => Mp (p0.Op == 1) [(54, .bool (p0.Op == 1))] [(54, .bool (p0.Op == 2))] [(54, .bool ((p0.Op == 1) || (p0.Op == 2)))] [54, 56] c fun _ c => I0 c h (fun h => ?_) fun h => ?_))))
 refine T0 (Fp [(1, 0)] 4 c fun _ c => Bd h fun x11 hx11 h => Ca [] c (impl_ApplyUnary_ok hx11) trivial Tryz.call88 fun _ _ _ c => ?_)
 refine Fp [] 1 c fun _ c => E0 ?_
 obtain rfl := sj h
 exact wp_ret (br (tr (Rt c () [] [])))
 refine P0 [] c fun _ c => I0 c h (fun h => ?_) fun h => ?_
 refine T0 (Fp [(3, 0), (5, 0)] 6 c fun _ c => Bd h fun x12 hx12 h => Ca [] c (impl_CutWord_ok hx12) trivial Tryz.call89 fun _ _ _ c => ?_)
 refine Fp [] 1 c fun _ c => E0 ?_
 obtain rfl := sj h
 exact wp_ret (br (tr (Rt c () [] [])))
 refine S0 (P0 [] c fun _ c => Mp (p0.Op == 20) [(71, .bool (p0.Op == 20))] [(71, .bool (p0.Op == 21))] [(71, .bool ((p0.Op == 20) || (p0.Op == 21)))] [71, 73] c fun _ c => I0 c h (fun h => ?_) fun h => ?_)
 refine T0 (Fp [(3, 0), (5, 0)] 7 c fun _ c => Bd h fun x13 hx13 h => Ca [] c (impl_WidenWord_ok hx13) trivial Tryz.call90 fun _ _ _ c => ?_)
 refine Fp [] 1 c fun _ c => E0 ?_
 obtain rfl := sj h
 exact wp_ret (br (tr (Rt c () [] [])))
 refine K1 (bk (tn (T0 (Fp [(1, 0)] 2 c fun _ c => Bd h fun x14 hx14 h => Eem c (.f 0) hx14 fun _ u5 _ c => ?_))))
 obtain ⟨a5, c5, rfl, c⟩ := c.o_Term 4
 refine Fp [] 1 c fun _ c => Bd h fun x15 hx15 h => Ca [] c (ih hx15) ⟨.f 5, .f 1, trivial⟩ Tryz.call69 fun _ _ _ c => ?_
 refine Fp [] 1 c fun _ c => E0 (S0 (P0 [(1, 0)] c fun _ c => I0 c h (fun h => ?_) fun h => ?_))
 refine T0 (Fp [(3, 0)] 4 c fun _ c => ?_)
 replace c := c.gm [BX b1 75 [I p0.Op, I p0.W, I p0.N, Str.val p0.Name, L ga0 p0.Kids gc1]]
 refine Bd h fun x16 hx16 h => Eef c (.f 0) hx16 fc75_1 fun _ _ _ c => ?_
 refine Fp [] 1 c fun _ c => Bd h fun x17 hx17 h => Ca [] c (impl_JoinWords_ok hx17) trivial Tryz.call91 fun _ _ _ c => ?_
 refine Fp [] 1 c fun _ c => E0 ?_
 obtain rfl := sj h
 exact wp_ret (tr (Rt c () [] []))
 refine K0 (T0 (Fp [(1, 0)] 5 c fun _ c => ?_))
 replace c := c.gm [BX b1 75 [I p0.Op, I p0.W, I p0.N, Str.val p0.Name, L ga0 p0.Kids gc1]]
 refine Bd h fun x18 hx18 h => Ca [] c (impl_ApplyBinary_ok hx18) trivial Tryz.call92 fun _ _ _ c => ?_
 refine Fp [] 1 c fun _ c => E0 ?_
 obtain rfl := sj h
 exact wp_ret (Rt c () [] [])

theorem impl_EvalTerm_ok {n : Nat} {p0 : D.Term} {p1 : List D.Value} {ga0 : Option Addr} {gc1 : Nat} {ga2 : Option Addr} {gc3 : Nat} {r : Int × Bool} (h : impl_EvalTerm n p0 p1 = some r) : Con Tryz.prog 43 [.agg #[I p0.Op, I p0.W, I p0.N, Str.val p0.Name, L ga0 p0.Kids gc1], L ga2 p1 gc3] [] [RO (L ga0 p0.Kids gc1) p0.Kids, RO (L ga2 p1 gc3) p1] fun (_ : Unit) => ([I r.1, .bool r.2], [], []) := by
 unfold impl_EvalTerm at h
 refine En Tryz.func43 rfl Tryz.ntmps43 fun _ fr w c => ?_
 refine T0 (Ebx [I p0.Op, I p0.W, I p0.N, Str.val p0.Name, L ga0 p0.Kids gc1] c fun b1 _ _ c => ?_)
 refine Fp [] 2 c fun _ c => E0 (S0 (Bd h fun x1 hx1 h => Bd h fun x2 hx2 h => S0 (rZ [(1, .eq (.bool x1)), (5, .eq (.bool x2))] [(0, 0)] mix c ⟨Ncl c (kN (impl_TermOk_ok hx1)) ⟨.f 0, trivial⟩ Tryz.call66, Ncl c (fun hg => impl_ValuesOk_ok (iteF (gcF hg) hx2)) ⟨.f 1, trivial⟩ Tryz.call67, trivial⟩ fun _ _ c => I0 c h (fun h => ?_) fun h => ?_)))
 refine P0 [] c fun _ c => ?_
 cases h
 exact wp_ret (tr (Rg c () [] [] (.tmp (.tmp .nil))))
 refine K0 (T0 (Emm map102 c fun b2 _ _ c => ?_))
 refine Fp [] 1 c fun _ c => E0 (T0 (Emm map102 c fun b3 _ _ c => ?_))
 refine Fp [] 1 c fun _ c => E0 (S0 (P0 [] c fun _ c => Bd h fun rl1 hit1 h => Lp (fun s1  (_ : Unit) => ([(2, B b1 0), (6, .map (some b2)), (7, .map (some b3)), (24, L ga2 p1 gc3), (25, I (len p1)), (26, I s1.1)], fun Γ => (Γ.set 1 (MP map102 b2 s1.2.1)).set 2 (MP map102 b3 s1.2.2), [])) (fun  (_ : Unit) => ([(2, B b1 0), (6, .map (some b2)), (7, .map (some b3))], fun Γ => (Γ.set 1 (MP map102 b2 rl1.1)).set 2 (MP map102 b3 rl1.2), [])) hit1 c () (c.re [0, 1, 2] [0, 1]) (fun s1 q1 _ _ _ c h hr1 => ?_) fun _ _ _ c => ?_))
 refine P0 [] c fun _ c => S0 (I0 c h (fun h => ?_) fun h => ?_)
 refine K0 (S0 (wp_block (T0 (Bd h fun x3 hx3 h => Eel c (.f 1) hx3 fun _ _ c => ?_))))
 refine Eal [Str.val ⟨[]⟩, I 0, I 0] c fun b4 _ _ c => ?_
 refine Ess 3 [Str.val x3.Name, I x3.W, I x3.N] c fun _ c => ?_
 refine E0 (T0 (Fp [(2, 1), (4, 1)] 5 c fun _ c => ?_))
 replace c := c.gm [BX b1 75 [I p0.Op, I p0.W, I p0.N, Str.val p0.Name, L ga0 p0.Kids gc1], MP map102 b2 s1.2.1, MP map102 b3 s1.2.2, BX b4 89 [Str.val x3.Name, I x3.W, I x3.N]]
 refine Bd h fun x4 hx4 h => Emp 1 c hx4 fun _ c => ?_
 refine E0 (T1 (Fp [(2, 1), (4, 1)] 5 c fun _ c => Bd h fun x5 hx5 h => Emp 2 c hx5 fun _ c => ?_))
 refine E1 (bk (tn (P1 [] c fun _ c => Nx h () (c.re [0, 1, 2] [0, 1]))))
 refine wp_exit (te (te (be ?_)))
 obtain rfl := hr1 _ (Option.some.inj h).symm
 exact tn ⟨(), c.re [0, 1, 2] [0, 1]⟩
 refine S0 (T0 (Fp [(0, 0)] 1 c fun _ c => Bd h fun x6 hx6 h => Ca [] c (impl_VarsOf_ok hx6) ⟨.f 0, trivial⟩ Tryz.call68 fun i1 _ _ c => ?_))
 refine Fp [] 2 c fun _ c => E0 (Bd h fun rl2 hit2 h => ?_)
 have hk2 := h
 refine LpR (fun s2  (_ : Unit) => ([(2, B b1 0), (6, .map (some b2)), (7, .map (some b3)), (42, L i1.1 x6 i1.2), (43, I (len x6)), (44, I s2)], id, [])) (fun s  (_ : Unit) => ([(2, B b1 0), (6, .map (some b2))], id, [])) hit2 c () (c.re (rg 4) [0, 1]) (fun s2 q2 _ _ _ c h hr2 => ?_) fun s2r _ _ _ hrl c => ?_
 refine P0 [] c fun _ c => S0 (I0 c h (fun h => ?_) fun h => ?_)
 refine K0 (S0 (wp_block (T0 (Bd h fun x7 hx7 h => Eel c (.g 3) hx7 fun _ _ c => ?_))))
 refine Eal [Str.val ⟨[]⟩, I 0, I 0] c fun b5 _ _ c => ?_
 replace c := c.gm [BX b1 75 [I p0.Op, I p0.W, I p0.N, Str.val p0.Name, L ga0 p0.Kids gc1], MP map102 b2 rl1.1, MP map102 b3 rl1.2, sl89 (L i1.1 x6 i1.2) x6, BX b5 89 [Str.val ⟨[]⟩, I 0, I 0]]
 refine Ess 4 [Str.val x7.Name, I x7.W, I x7.N] c fun _ c => ?_
 refine E0 (T0 (Fp [(2, 1)] 3 c fun _ c => Bd h fun x8 hx8 h => Emg2 2 c hx8 fun _ c => ?_))
 refine Fp [] 5 c fun _ c => E0 (S0 (Ry [(5, 1)] mix c fun _ _ c => I0 c h (fun h => ?_) fun h => ?_))
 refine P0 [] c fun _ c => ?_
 obtain rfl := hr2 _ (Option.some.inj h).symm
 obtain rfl := Option.some.inj hk2
 exact wp_ret (br (tr (tr (br (tr (Rg c () [] [] (.tmp (.tmp .nil))))))))
 refine K1 (bk (tn (P1 [] c fun _ c => Nx h () (c.re (rg 4) [0, 1]))))
 refine wp_exit (te (te (be ?_)))
 obtain rfl := hr2 _ (Option.some.inj h).symm
 exact tn ⟨_, (), rfl, c.re (rg 4) [0, 1]⟩
 subst hrl
 refine T0 (Fp [(0, 0)] 2 c fun _ c => Bd h fun x9 hx9 h => Ca [] c (impl_evalNode_ok hx9) ⟨.f 0, .mp 1, trivial⟩ Tryz.call69 fun _ _ _ c => ?_)
 refine Fp [] 2 c fun _ c => E0 ?_
 cases h
 exact wp_ret (Rg c () [] [] (.tmp (.tmp .nil)))

theorem impl_HoldsPath_ok {n : Nat} {p0 : D.Program} {p1 : D.Path} {p2 : List Int} {ga0 : Option Addr} {gc1 : Nat} {ga2 : Option Addr} {gc3 : Nat} {ga4 : Option Addr} {gc5 : Nat} {ga6 : Option Addr} {gc7 : Nat} {ga8 : Option Addr} {gc9 : Nat} {ga10 : Option Addr} {gc11 : Nat} {ga12 : Option Addr} {gc13 : Nat} {ga14 : Option Addr} {gc15 : Nat} {r : Bool} (h : impl_HoldsPath n p0 p1 p2 = some r) : Con Tryz.prog 12 [.agg #[I p0.W, I p0.Mem, I p0.In, L ga0 p0.Code gc1], .agg #[I p1.Pc, L ga2 p1.Regs gc3, L ga4 p1.Mem gc5, L ga6 p1.Stack gc7, I p1.In, L ga8 p1.Out gc9, I p1.Code, I p1.Steps, L ga10 p1.Cond gc11, L ga12 p1.Turns gc13], L ga14 p2 gc15] [] [RO (L ga0 p0.Code gc1) p0.Code, RO (L ga2 p1.Regs gc3) p1.Regs, RO (L ga4 p1.Mem gc5) p1.Mem, RO (L ga6 p1.Stack gc7) p1.Stack, RO (L ga8 p1.Out gc9) p1.Out, RO (L ga10 p1.Cond gc11) p1.Cond, RO (L ga12 p1.Turns gc13) p1.Turns, RO (L ga14 p2 gc15) p2, TBf Tryz.prog] fun (_ : Unit) => ([.bool r], [], []) := by
 unfold impl_HoldsPath at h
 refine En Tryz.func12 rfl Tryz.ntmps12 fun _ fr w c => ?_
 refine T0 (Ebx [I p0.W, I p0.Mem, I p0.In, L ga0 p0.Code gc1] c fun b1 _ _ c => ?_)
 refine Ebx [I p1.Pc, L ga2 p1.Regs gc3, L ga4 p1.Mem gc5, L ga6 p1.Stack gc7, I p1.In, L ga8 p1.Out gc9, I p1.Code, I p1.Steps, L ga10 p1.Cond gc11, L ga12 p1.Turns gc13] c fun b2 _ _ c => ?_
 refine Fp [] 1 c fun _ c => E0 (S0 (Bd h fun x1 hx1 h => Bd h fun x2 hx2 h => S0 (rZ [(2, .eq (.bool x1)), (7, .eq (.bool x2))] [(0, 0), (1, 1), (5, 0)] mix c ⟨Ncl c (kN (impl_PathOk_ok hx1)) ⟨.f 0, .f 1, .f 2, .f 3, .f 4, .f 5, .f 6, trivial⟩ Tryz.call40, Ncl c (fun hg => impl_InputsOk_ok (iteF (gcF hg) hx2)) ⟨.f 0, .f 7, trivial⟩ Tryz.call41, trivial⟩ fun _ _ c => I0 c h (fun h => ?_) fun h => ?_)))
 refine P0 [] c fun _ c => ?_
 obtain rfl := sj h
 exact wp_ret (tr (Rt c () [] []))
 refine K0 (T0 (Fp [(0, 0)] 2 c fun _ c => Bd h fun x3 hx3 h => Ca [] c (impl_inputValues_ok hx3) ⟨.f 0, .f 7, .f 8, trivial⟩ Tryz.call42 fun i1 _ _ c => ?_))
 refine Fp [] 1 c fun _ c => E0 (S0 (P0 [(1, 1)] c fun _ c => Bd h fun rl1 hit1 h => ?_))
 have hk1 := h
 refine LpR (fun s1  (_ : Unit) => ([(4, B b2 0), (7, L i1.1 x3 i1.2), (26, I (len p1.Cond)), (27, I s1)], id, [])) (fun s  (_ : Unit) => ([], id, [])) hit1 c () (c.re [0, 1, 2] (rg 9)) (fun s1 q1 _ _ _ c h hr1 => ?_) fun s1r _ _ _ hrl c => ?_
 refine P0 [] c fun _ c => S0 (I0 c h (fun h => ?_) fun h => ?_)
 refine K0 (S0 (wp_block (P0 [] c fun _ c => T0 (Fp [(1, 1)] 3 c fun _ c => Bd h fun x4 hx4 h => Eem c (.f 5) hx4 fun _ u1 _ c => ?_))))
 obtain ⟨a1, c1, rfl, c⟩ := c.o_Term 9
 refine Fp [] 1 c fun _ c => Bd h fun x5 hx5 h => Ca [] c (impl_EvalTerm_ok hx5) ⟨.f 10, .g 2, trivial⟩ Tryz.call43 fun _ _ _ c => ?_
 refine Fp [] 5 c fun _ c => E0 (S0 (Ry [] mix c fun _ _ c => I0 c h (fun h => ?_) fun h => ?_))
 refine P0 [] c fun _ c => ?_
 obtain rfl := hr1 _ (Option.some.inj h).symm
 obtain rfl := Option.some.inj hk1
 exact wp_ret (br (tr (tr (br (tr (Rt c () [] []))))))
 refine K1 (bk (tn (P1 [] c fun _ c => Nx h () (c.re [0, 1, 2] (rg 9)))))
 refine wp_exit (te (te (be ?_)))
 obtain rfl := hr1 _ (Option.some.inj h).symm
 exact tn ⟨_, (), rfl, c.re [0, 1, 2] (rg 9)⟩
 subst hrl
 refine P0 [] c fun _ c => ?_
 obtain rfl := sj h
 exact wp_ret (Rt c () [] [])

theorem laws_eqIns_ok {p0 : D.Ins} {p1 : D.Ins} {r : Bool} (h : laws_eqIns p0 p1 = some r) : Con Tryz.prog 70 [.agg #[I p0.Op, I p0.A, I p0.B, I p0.C], .agg #[I p1.Op, I p1.A, I p1.B, I p1.C]] [] [] fun (_ : Unit) => ([.bool r], [], []) := by
 unfold laws_eqIns at h
 refine En Tryz.func70 rfl Tryz.ntmps70 fun _ fr w c => ?_
 refine T0 (Ebx [I p0.Op, I p0.A, I p0.B, I p0.C] c fun b1 _ _ c => ?_)
 refine Ebx [I p1.Op, I p1.A, I p1.B, I p1.C] c fun b2 _ _ c => ?_
 refine Fp [] 1 c fun _ c => E0 (S0 (P0 [(1, 0), (3, 1)] c fun _ c => I0 c h (fun h => ?_) fun h => ?_))
 refine P0 [] c fun _ c => ?_
 obtain rfl := sj h
 exact wp_ret (tr (Rt c () [] []))
 refine K0 (S0 (P0 [(1, 0), (3, 1)] c fun _ c => I0 c h (fun h => ?_) fun h => ?_))
 refine P0 [] c fun _ c => ?_
 obtain rfl := sj h
 exact wp_ret (tr (Rt c () [] []))
 refine K0 (S0 (P0 [(1, 0), (3, 1)] c fun _ c => I0 c h (fun h => ?_) fun h => ?_))
 refine P0 [] c fun _ c => ?_
 obtain rfl := sj h
 exact wp_ret (tr (Rt c () [] []))
 refine K0 (S0 (P0 [(1, 0), (3, 1)] c fun _ c => I0 c h (fun h => ?_) fun h => ?_))
 refine P0 [] c fun _ c => ?_
 obtain rfl := sj h
 exact wp_ret (tr (Rt c () [] []))
 refine K0 (P0 [] c fun _ c => ?_)
 obtain rfl := sj h
 exact wp_ret (Rt c () [] [])

theorem laws_eqInsS_ok {n : Nat} {p0 : List D.Ins} {p1 : List D.Ins} {ga0 : Option Addr} {gc1 : Nat} {ga2 : Option Addr} {gc3 : Nat} {r : Bool} (h : laws_eqInsS n p0 p1 = some r) : Con Tryz.prog 44 [L ga0 p0 gc1, L ga2 p1 gc3] [] [RO (L ga0 p0 gc1) p0, RO (L ga2 p1 gc3) p1] fun (_ : Unit) => ([.bool r], [], []) := by
 unfold laws_eqInsS at h
 refine En Tryz.func44 rfl Tryz.ntmps44 fun _ fr w c => ?_
 refine P0 [] c fun _ c => S0 (P0 [] c fun _ c => I0 c h (fun h => ?_) fun h => ?_)
 refine P0 [] c fun _ c => ?_
 obtain rfl := sj h
 exact wp_ret (tr (Rt c () [] []))
 refine K0 (S0 (P0 [] c fun _ c => Bd h fun rl1 hit1 h => ?_))
 have hk1 := h
 refine LpR (fun s1  (_ : Unit) => ([(0, L ga0 p0 gc1), (1, L ga2 p1 gc3), (5, I s1)], id, [])) (fun s  (_ : Unit) => ([], id, [])) hit1 c () (c.re [] [0, 1]) (fun s1 q1 _ _ _ c h hr1 => ?_) fun s1r _ _ _ hrl c => ?_
 refine S0 (P0 [] c fun _ c => I0 c h (fun h => ?_) fun h => ?_)
 refine K0 (S0 (wp_block (Bd h fun x1 hx1 h => Bd h fun x2 hx2 h => Bd h fun x3 hx3 h => S0 (rZ [(2, Pd.el (x1 : D.Ins)), (3, .eq (.agg #[I x1.Op, I x1.A, I x1.B, I x1.C])), (6, Pd.el (x2 : D.Ins)), (7, .eq (.agg #[I x2.Op, I x2.A, I x2.B, I x2.C])), (8, .eq (.bool x3))] [] mix c ⟨Nid c (.f 0) (kN hx1), Nld c 2 (q := x1) (atN 2), Nid c (.f 1) (kN hx2), Nld c 6 (q := x2) (atN 6), Ncl c (kN (laws_eqIns_ok hx3)) trivial Tryz.call70, trivial⟩ fun _ _ c => I0 c h (fun h => ?_) fun h => ?_))))
 refine P0 [] c fun _ c => ?_
 obtain rfl := hr1 _ (Option.some.inj h).symm
 obtain rfl := Option.some.inj hk1
 exact wp_ret (br (tr (tr (br (tr (Rt c () [] []))))))
 refine K1 (bk (tn (P1 [] c fun _ c => Nx h () (c.re [] [0, 1]))))
 refine wp_exit (te (te (be ?_)))
 obtain rfl := hr1 _ (Option.some.inj h).symm
 exact tn ⟨_, (), rfl, c.re [] [0, 1]⟩
 subst hrl
 refine P0 [] c fun _ c => ?_
 obtain rfl := sj h
 exact wp_ret (Rt c () [] [])

theorem laws_eqProgram_ok {n : Nat} {p0 : D.Program} {p1 : D.Program} {ga0 : Option Addr} {gc1 : Nat} {ga2 : Option Addr} {gc3 : Nat} {r : Bool} (h : laws_eqProgram n p0 p1 = some r) : Con Tryz.prog 13 [.agg #[I p0.W, I p0.Mem, I p0.In, L ga0 p0.Code gc1], .agg #[I p1.W, I p1.Mem, I p1.In, L ga2 p1.Code gc3]] [] [RO (L ga0 p0.Code gc1) p0.Code, RO (L ga2 p1.Code gc3) p1.Code] fun (_ : Unit) => ([.bool r], [], []) := by
 unfold laws_eqProgram at h
 refine En Tryz.func13 rfl Tryz.ntmps13 fun _ fr w c => ?_
 refine T0 (Ebx [I p0.W, I p0.Mem, I p0.In, L ga0 p0.Code gc1] c fun b1 _ _ c => ?_)
 refine Ebx [I p1.W, I p1.Mem, I p1.In, L ga2 p1.Code gc3] c fun b2 _ _ c => ?_
 refine Fp [] 1 c fun _ c => E0 (S0 (P0 [(1, 0), (3, 1)] c fun _ c => I0 c h (fun h => ?_) fun h => ?_))
 refine P0 [] c fun _ c => ?_
 obtain rfl := sj h
 exact wp_ret (tr (Rt c () [] []))
 refine K0 (S0 (P0 [(1, 0), (3, 1)] c fun _ c => I0 c h (fun h => ?_) fun h => ?_))
 refine P0 [] c fun _ c => ?_
 obtain rfl := sj h
 exact wp_ret (tr (Rt c () [] []))
 refine K0 (S0 (P0 [(1, 0), (3, 1)] c fun _ c => I0 c h (fun h => ?_) fun h => ?_))
 refine P0 [] c fun _ c => ?_
 obtain rfl := sj h
 exact wp_ret (tr (Rt c () [] []))
 refine K0 (S0 (T0 (Fp [(1, 0), (3, 1)] 4 c fun _ c => Bd h fun x1 hx1 h => Ca [] c (laws_eqInsS_ok hx1) ⟨.f 0, .f 1, trivial⟩ Tryz.call44 fun _ _ _ c => ?_)))
 refine Fp [] 1 c fun _ c => E0 (I0 c h (fun h => ?_) fun h => ?_)
 refine P0 [] c fun _ c => ?_
 obtain rfl := sj h
 exact wp_ret (tr (Rt c () [] []))
 refine K0 (P0 [] c fun _ c => ?_)
 obtain rfl := sj h
 exact wp_ret (Rt c () [] [])

theorem laws_eqTerm_laws_eqTermS_rec (n : Nat) : (∀ {p0 : D.Term} {p1 : D.Term} {ga0 : Option Addr} {gc1 : Nat} {ga2 : Option Addr} {gc3 : Nat} {r : Bool} (h : laws_eqTerm n p0 p1 = some r), Con Tryz.prog 71 [.agg #[I p0.Op, I p0.W, I p0.N, Str.val p0.Name, L ga0 p0.Kids gc1], .agg #[I p1.Op, I p1.W, I p1.N, Str.val p1.Name, L ga2 p1.Kids gc3]] [] [RO (L ga0 p0.Kids gc1) p0.Kids, RO (L ga2 p1.Kids gc3) p1.Kids] fun (_ : Unit) => ([.bool r], [], [])) ∧
    (∀ {p0 : List D.Term} {p1 : List D.Term} {ga0 : Option Addr} {gc1 : Nat} {ga2 : Option Addr} {gc3 : Nat} {r : Bool} (h : laws_eqTermS n p0 p1 = some r), Con Tryz.prog 45 [L ga0 p0 gc1, L ga2 p1 gc3] [] [RO (L ga0 p0 gc1) p0, RO (L ga2 p1 gc3) p1] fun (_ : Unit) => ([.bool r], [], [])) := by
 induction n with
 | zero => exact ⟨by intro p0 p1 ga0 gc1 ga2 gc3 r h; simp [laws_eqTerm] at h, by intro p0 p1 ga0 gc1 ga2 gc3 r h; simp [laws_eqTermS] at h⟩
 | succ n ih =>
 obtain ⟨ih0, ih1⟩ := ih
 refine ⟨?_, ?_⟩
 · intro p0 p1 ga0 gc1 ga2 gc3 r h
   rw [laws_eqTerm] at h
   refine En Tryz.func71 rfl Tryz.ntmps71 fun _ fr w c => ?_
   refine T0 (Ebx [I p0.Op, I p0.W, I p0.N, Str.val p0.Name, L ga0 p0.Kids gc1] c fun b1 _ _ c => ?_)
   refine Ebx [I p1.Op, I p1.W, I p1.N, Str.val p1.Name, L ga2 p1.Kids gc3] c fun b2 _ _ c => ?_
   refine Fp [] 1 c fun _ c => E0 (S0 (P0 [(1, 0), (3, 1)] c fun _ c => I0 c h (fun h => ?_) fun h => ?_))
   refine P0 [] c fun _ c => ?_
   obtain rfl := sj h
   exact wp_ret (tr (Rt c () [] []))
   refine K0 (S0 (P0 [(1, 0), (3, 1)] c fun _ c => I0 c h (fun h => ?_) fun h => ?_))
   refine P0 [] c fun _ c => ?_
   obtain rfl := sj h
   exact wp_ret (tr (Rt c () [] []))
   refine K0 (S0 (P0 [(1, 0), (3, 1)] c fun _ c => I0 c h (fun h => ?_) fun h => ?_))
   refine P0 [] c fun _ c => ?_
   obtain rfl := sj h
   exact wp_ret (tr (Rt c () [] []))
   refine K0 (S0 (P0 [(1, 0), (3, 1)] c fun _ c => I0 c h (fun h => ?_) fun h => ?_))
   refine P0 [] c fun _ c => ?_
   obtain rfl := sj h
   exact wp_ret (tr (Rt c () [] []))
   refine K0 (S0 (T0 (Fp [(1, 0), (3, 1)] 4 c fun _ c => Bd h fun x1 hx1 h => Ca [] c (ih1 hx1) ⟨.f 0, .f 1, trivial⟩ Tryz.call45 fun _ _ _ c => ?_)))
   refine Fp [] 1 c fun _ c => E0 (I0 c h (fun h => ?_) fun h => ?_)
   refine P0 [] c fun _ c => ?_
   obtain rfl := sj h
   exact wp_ret (tr (Rt c () [] []))
   refine K0 (P0 [] c fun _ c => ?_)
   obtain rfl := sj h
   exact wp_ret (Rt c () [] [])
 · intro p0 p1 ga0 gc1 ga2 gc3 r h
   rw [laws_eqTermS] at h
   refine En Tryz.func45 rfl Tryz.ntmps45 fun _ fr w c => ?_
   refine P0 [] c fun _ c => S0 (P0 [] c fun _ c => I0 c h (fun h => ?_) fun h => ?_)
   refine P0 [] c fun _ c => ?_
   obtain rfl := sj h
   exact wp_ret (tr (Rt c () [] []))
   refine K0 (S0 (P0 [] c fun _ c => Bd h fun rl1 hit1 h => ?_))
   have hk1 := h
   refine LpR (fun s1  (_ : Unit) => ([(0, L ga0 p0 gc1), (1, L ga2 p1 gc3), (5, I s1)], id, [])) (fun s  (_ : Unit) => ([], id, [])) hit1 c () (c.re [] [0, 1]) (fun s1 q1 _ _ _ c h hr1 => ?_) fun s1r _ _ _ hrl c => ?_
   refine S0 (P0 [] c fun _ c => I0 c h (fun h => ?_) fun h => ?_)
   refine K0 (S0 (wp_block (Bd h fun x1 hx1 h => Bd h fun x2 hx2 h => Bd h fun x3 hx3 h => S0 (rZ [(2, Pd.el (x1 : D.Term)), (3, Pd.rd (x1 : D.Term)), (6, Pd.el (x2 : D.Term)), (7, Pd.rd (x2 : D.Term)), (8, .eq (.bool x3))] [] mix c ⟨Nid c (.f 0) (kN hx1), Nrd c 2 (atN 2), Nid c (.f 1) (kN hx2), Nrd c 6 (atN 6), Ncd (Ψ := []) [.r 3 (fun v => RO v (x1 : D.Term)), .r 7 (fun v => RO v (x2 : D.Term))] c ⟨(atN 3), (atN 7), trivial⟩ trivial (fun hg _ _ ga gp => by obtain ⟨u1, _, rfl, g1, u2, _, rfl, g2, rfl⟩ := ga; obtain ⟨k1, rfl, f1⟩ := Opn.opn g1; obtain ⟨k2, rfl, f2⟩ := Opn.opn g2; exact ⟨_, (f1.join f2), ih0 hx3⟩) Tryz.call71, trivial⟩ fun _ _ c => I0 c h (fun h => ?_) fun h => ?_))))
   refine P0 [] c fun _ c => ?_
   obtain rfl := hr1 _ (Option.some.inj h).symm
   obtain rfl := Option.some.inj hk1
   exact wp_ret (br (tr (tr (br (tr (Rt c () [] []))))))
   refine K1 (bk (tn (P1 [] c fun _ c => Nx h () (c.re [] [0, 1]))))
   refine wp_exit (te (te (be ?_)))
   obtain rfl := hr1 _ (Option.some.inj h).symm
   exact tn ⟨_, (), rfl, c.re [] [0, 1]⟩
   subst hrl
   refine P0 [] c fun _ c => ?_
   obtain rfl := sj h
   exact wp_ret (Rt c () [] [])
theorem laws_eqTerm_ok {n : Nat} : ∀ {p0 : D.Term} {p1 : D.Term} {ga0 : Option Addr} {gc1 : Nat} {ga2 : Option Addr} {gc3 : Nat} {r : Bool} (h : laws_eqTerm n p0 p1 = some r), Con Tryz.prog 71 [.agg #[I p0.Op, I p0.W, I p0.N, Str.val p0.Name, L ga0 p0.Kids gc1], .agg #[I p1.Op, I p1.W, I p1.N, Str.val p1.Name, L ga2 p1.Kids gc3]] [] [RO (L ga0 p0.Kids gc1) p0.Kids, RO (L ga2 p1.Kids gc3) p1.Kids] fun (_ : Unit) => ([.bool r], [], []) := (laws_eqTerm_laws_eqTermS_rec n).1
theorem laws_eqTermS_ok {n : Nat} : ∀ {p0 : List D.Term} {p1 : List D.Term} {ga0 : Option Addr} {gc1 : Nat} {ga2 : Option Addr} {gc3 : Nat} {r : Bool} (h : laws_eqTermS n p0 p1 = some r), Con Tryz.prog 45 [L ga0 p0 gc1, L ga2 p1 gc3] [] [RO (L ga0 p0 gc1) p0, RO (L ga2 p1 gc3) p1] fun (_ : Unit) => ([.bool r], [], []) := (laws_eqTerm_laws_eqTermS_rec n).2

theorem laws_eqIntS_ok {n : Nat} {p0 : List Int} {p1 : List Int} {ga0 : Option Addr} {gc1 : Nat} {ga2 : Option Addr} {gc3 : Nat} {r : Bool} (h : laws_eqIntS n p0 p1 = some r) : Con Tryz.prog 15 [L ga0 p0 gc1, L ga2 p1 gc3] [] [RO (L ga0 p0 gc1) p0, RO (L ga2 p1 gc3) p1] fun (_ : Unit) => ([.bool r], [], []) := by
 unfold laws_eqIntS at h
 refine En Tryz.func15 rfl Tryz.ntmps15 fun _ fr w c => ?_
 refine P0 [] c fun _ c => S0 (P0 [] c fun _ c => I0 c h (fun h => ?_) fun h => ?_)
 refine P0 [] c fun _ c => ?_
 obtain rfl := sj h
 exact wp_ret (tr (Rt c () [] []))
 refine K0 (S0 (P0 [] c fun _ c => Bd h fun rl1 hit1 h => ?_))
 have hk1 := h
 refine LpR (fun s1  (_ : Unit) => ([(0, L ga0 p0 gc1), (1, L ga2 p1 gc3), (5, I s1)], id, [])) (fun s  (_ : Unit) => ([], id, [])) hit1 c () (c.re [] [0, 1]) (fun s1 q1 _ _ _ c h hr1 => ?_) fun s1r _ _ _ hrl c => ?_
 refine S0 (P0 [] c fun _ c => I0 c h (fun h => ?_) fun h => ?_)
 refine K0 (S0 (wp_block (Bd h fun x1 hx1 h => Bd h fun x2 hx2 h => S0 (rZ [(2, Pd.el (x1 : Int)), (3, .eq (I x1)), (6, Pd.el (x2 : Int)), (7, .eq (I x2))] [] mix c ⟨Nid c (.f 0) (kN hx1), Nld c 2 (q := x1) (atN 2), Nid c (.f 1) (kN hx2), Nld c 6 (q := x2) (atN 6), trivial⟩ fun _ _ c => I0 c h (fun h => ?_) fun h => ?_))))
 refine P0 [] c fun _ c => ?_
 obtain rfl := hr1 _ (Option.some.inj h).symm
 obtain rfl := Option.some.inj hk1
 exact wp_ret (br (tr (tr (br (tr (Rt c () [] []))))))
 refine K1 (bk (tn (P1 [] c fun _ c => Nx h () (c.re [] [0, 1]))))
 refine wp_exit (te (te (be ?_)))
 obtain rfl := hr1 _ (Option.some.inj h).symm
 exact tn ⟨_, (), rfl, c.re [] [0, 1]⟩
 subst hrl
 refine P0 [] c fun _ c => ?_
 obtain rfl := sj h
 exact wp_ret (Rt c () [] [])

theorem laws_eqPath_ok {n : Nat} {p0 : D.Path} {p1 : D.Path} {ga0 : Option Addr} {gc1 : Nat} {ga2 : Option Addr} {gc3 : Nat} {ga4 : Option Addr} {gc5 : Nat} {ga6 : Option Addr} {gc7 : Nat} {ga8 : Option Addr} {gc9 : Nat} {ga10 : Option Addr} {gc11 : Nat} {ga12 : Option Addr} {gc13 : Nat} {ga14 : Option Addr} {gc15 : Nat} {ga16 : Option Addr} {gc17 : Nat} {ga18 : Option Addr} {gc19 : Nat} {ga20 : Option Addr} {gc21 : Nat} {ga22 : Option Addr} {gc23 : Nat} {r : Bool} (h : laws_eqPath n p0 p1 = some r) : Con Tryz.prog 14 [.agg #[I p0.Pc, L ga0 p0.Regs gc1, L ga2 p0.Mem gc3, L ga4 p0.Stack gc5, I p0.In, L ga6 p0.Out gc7, I p0.Code, I p0.Steps, L ga8 p0.Cond gc9, L ga10 p0.Turns gc11], .agg #[I p1.Pc, L ga12 p1.Regs gc13, L ga14 p1.Mem gc15, L ga16 p1.Stack gc17, I p1.In, L ga18 p1.Out gc19, I p1.Code, I p1.Steps, L ga20 p1.Cond gc21, L ga22 p1.Turns gc23]] [] [RO (L ga0 p0.Regs gc1) p0.Regs, RO (L ga2 p0.Mem gc3) p0.Mem, RO (L ga4 p0.Stack gc5) p0.Stack, RO (L ga6 p0.Out gc7) p0.Out, RO (L ga8 p0.Cond gc9) p0.Cond, RO (L ga10 p0.Turns gc11) p0.Turns, RO (L ga12 p1.Regs gc13) p1.Regs, RO (L ga14 p1.Mem gc15) p1.Mem, RO (L ga16 p1.Stack gc17) p1.Stack, RO (L ga18 p1.Out gc19) p1.Out, RO (L ga20 p1.Cond gc21) p1.Cond, RO (L ga22 p1.Turns gc23) p1.Turns] fun (_ : Unit) => ([.bool r], [], []) := by
 unfold laws_eqPath at h
 refine En Tryz.func14 rfl Tryz.ntmps14 fun _ fr w c => ?_
 refine T0 (Ebx [I p0.Pc, L ga0 p0.Regs gc1, L ga2 p0.Mem gc3, L ga4 p0.Stack gc5, I p0.In, L ga6 p0.Out gc7, I p0.Code, I p0.Steps, L ga8 p0.Cond gc9, L ga10 p0.Turns gc11] c fun b1 _ _ c => ?_)
 refine Ebx [I p1.Pc, L ga12 p1.Regs gc13, L ga14 p1.Mem gc15, L ga16 p1.Stack gc17, I p1.In, L ga18 p1.Out gc19, I p1.Code, I p1.Steps, L ga20 p1.Cond gc21, L ga22 p1.Turns gc23] c fun b2 _ _ c => ?_
 refine Fp [] 1 c fun _ c => E0 (S0 (P0 [(1, 0), (3, 1)] c fun _ c => I0 c h (fun h => ?_) fun h => ?_))
 refine P0 [] c fun _ c => ?_
 obtain rfl := sj h
 exact wp_ret (tr (Rt c () [] []))
 refine K0 (S0 (T0 (Fp [(1, 0), (3, 1)] 4 c fun _ c => Bd h fun x1 hx1 h => Ca [] c (laws_eqTermS_ok hx1) ⟨.f 0, .f 6, trivial⟩ Tryz.call45 fun _ _ _ c => ?_)))
 refine Fp [] 1 c fun _ c => E0 (I0 c h (fun h => ?_) fun h => ?_)
 refine P0 [] c fun _ c => ?_
 obtain rfl := sj h
 exact wp_ret (tr (Rt c () [] []))
 refine K0 (S0 (T0 (Fp [(1, 0), (3, 1)] 4 c fun _ c => Bd h fun x2 hx2 h => Ca [] c (laws_eqTermS_ok hx2) ⟨.f 1, .f 7, trivial⟩ Tryz.call45 fun _ _ _ c => ?_)))
 refine Fp [] 1 c fun _ c => E0 (I0 c h (fun h => ?_) fun h => ?_)
 refine P0 [] c fun _ c => ?_
 obtain rfl := sj h
 exact wp_ret (tr (Rt c () [] []))
 refine K0 (S0 (T0 (Fp [(1, 0), (3, 1)] 4 c fun _ c => Bd h fun x3 hx3 h => Ca [] c (laws_eqIntS_ok hx3) ⟨.f 2, .f 8, trivial⟩ Tryz.call15 fun _ _ _ c => ?_)))
 refine Fp [] 1 c fun _ c => E0 (I0 c h (fun h => ?_) fun h => ?_)
 refine P0 [] c fun _ c => ?_
 obtain rfl := sj h
 exact wp_ret (tr (Rt c () [] []))
 refine K0 (S0 (P0 [(1, 0), (3, 1)] c fun _ c => I0 c h (fun h => ?_) fun h => ?_))
 refine P0 [] c fun _ c => ?_
 obtain rfl := sj h
 exact wp_ret (tr (Rt c () [] []))
 refine K0 (S0 (T0 (Fp [(1, 0), (3, 1)] 4 c fun _ c => ?_)))
 replace c := c.gm [BX b1 38 [I p0.Pc, L ga0 p0.Regs gc1, L ga2 p0.Mem gc3, L ga4 p0.Stack gc5, I p0.In, L ga6 p0.Out gc7, I p0.Code, I p0.Steps, L ga8 p0.Cond gc9, L ga10 p0.Turns gc11], BX b2 38 [I p1.Pc, L ga12 p1.Regs gc13, L ga14 p1.Mem gc15, L ga16 p1.Stack gc17, I p1.In, L ga18 p1.Out gc19, I p1.Code, I p1.Steps, L ga20 p1.Cond gc21, L ga22 p1.Turns gc23]]
 refine Bd h fun x4 hx4 h => Ca [] c (laws_eqTermS_ok hx4) ⟨.f 3, .f 9, trivial⟩ Tryz.call45 fun _ _ _ c => ?_
 refine Fp [] 1 c fun _ c => E0 (I0 c h (fun h => ?_) fun h => ?_)
 refine P0 [] c fun _ c => ?_
 obtain rfl := sj h
 exact wp_ret (tr (Rt c () [] []))
 refine K0 (S0 (P0 [(1, 0), (3, 1)] c fun _ c => I0 c h (fun h => ?_) fun h => ?_))
 refine P0 [] c fun _ c => ?_
 obtain rfl := sj h
 exact wp_ret (tr (Rt c () [] []))
 refine K0 (S0 (P0 [(1, 0), (3, 1)] c fun _ c => I0 c h (fun h => ?_) fun h => ?_))
 refine P0 [] c fun _ c => ?_
 obtain rfl := sj h
 exact wp_ret (tr (Rt c () [] []))
 refine K0 (S0 (T0 (Fp [(1, 0), (3, 1)] 4 c fun _ c => Bd h fun x5 hx5 h => Ca [] c (laws_eqTermS_ok hx5) ⟨.f 4, .f 10, trivial⟩ Tryz.call45 fun _ _ _ c => ?_)))
 refine Fp [] 1 c fun _ c => E0 (I0 c h (fun h => ?_) fun h => ?_)
 refine P0 [] c fun _ c => ?_
 obtain rfl := sj h
 exact wp_ret (tr (Rt c () [] []))
 refine K0 (S0 (T0 (Fp [(1, 0), (3, 1)] 4 c fun _ c => Bd h fun x6 hx6 h => Ca [] c (laws_eqIntS_ok hx6) ⟨.f 5, .f 11, trivial⟩ Tryz.call15 fun _ _ _ c => ?_)))
 refine Fp [] 1 c fun _ c => E0 (I0 c h (fun h => ?_) fun h => ?_)
 refine P0 [] c fun _ c => ?_
 obtain rfl := sj h
 exact wp_ret (tr (Rt c () [] []))
 refine K0 (P0 [] c fun _ c => ?_)
 obtain rfl := sj h
 exact wp_ret (Rt c () [] [])

set_option maxHeartbeats 4000000 in
theorem laws_FnExactHoldsPath_ok {n : Nat} {p0 : D.Program} {p1 : D.Path} {p2 : List Int} {ga0 : Option Addr} {gc1 : Nat} {ga2 : Option Addr} {gc3 : Nat} {ga4 : Option Addr} {gc5 : Nat} {ga6 : Option Addr} {gc7 : Nat} {ga8 : Option Addr} {gc9 : Nat} {ga10 : Option Addr} {gc11 : Nat} {ga12 : Option Addr} {gc13 : Nat} {ga14 : Option Addr} {gc15 : Nat} {r : Bool} (h : laws_FnExactHoldsPath n p0 p1 p2 = some r) : Con Tryz.prog 3 [.agg #[I p0.W, I p0.Mem, I p0.In, L ga0 p0.Code gc1], .agg #[I p1.Pc, L ga2 p1.Regs gc3, L ga4 p1.Mem gc5, L ga6 p1.Stack gc7, I p1.In, L ga8 p1.Out gc9, I p1.Code, I p1.Steps, L ga10 p1.Cond gc11, L ga12 p1.Turns gc13], L ga14 p2 gc15] [] [RO (L ga0 p0.Code gc1) p0.Code, RO (L ga2 p1.Regs gc3) p1.Regs, RO (L ga4 p1.Mem gc5) p1.Mem, RO (L ga6 p1.Stack gc7) p1.Stack, RO (L ga8 p1.Out gc9) p1.Out, RO (L ga10 p1.Cond gc11) p1.Cond, RO (L ga12 p1.Turns gc13) p1.Turns, RO (L ga14 p2 gc15) p2, TBf Tryz.prog] fun (_ : Unit) => ([.bool r], [], []) := by
 unfold laws_FnExactHoldsPath at h
 refine En Tryz.func3 rfl Tryz.ntmps3 fun _ fr w c => ?_
 refine T0 (Ebx [I p0.W, I p0.Mem, I p0.In, L ga0 p0.Code gc1] c fun b1 _ _ c => ?_)
 refine Ebx [I p1.Pc, L ga2 p1.Regs gc3, L ga4 p1.Mem gc5, L ga6 p1.Stack gc7, I p1.In, L ga8 p1.Out gc9, I p1.Code, I p1.Steps, L ga10 p1.Cond gc11, L ga12 p1.Turns gc13] c fun b2 _ _ c => ?_
 refine Fp [] 1 c fun _ c => E0 (S0 (P0 [] c fun _ c => I0 c h (fun h => ?_) fun h => ?_))
 refine P0 [] c fun _ c => ?_
 obtain rfl := sj h
 exact wp_ret (tr (Rt c () [] []))
 refine K0 (P0 [] c fun _ c => T0 (Fp [(0, 0)] 2 c fun _ c => Bd h fun x1 hx1 h => Ca [] c (laws_szProgram_ok hx1) ⟨.f 0, trivial⟩ Tryz.call6 fun _ _ _ c => ?_))
 refine Fp [] 1 c fun _ c => E0 (S0 (P0 [] c fun _ c => I0 c h (fun h => ?_) fun h => ?_))
 refine P0 [] c fun _ c => ?_
 obtain rfl := sj h
 exact wp_ret (tr (Rt c () [] []))
 refine K0 (T0 (Fp [(0, 1)] 2 c fun _ c => Bd h fun x2 hx2 h => Ca [] c (laws_szPath_ok hx2) ⟨.f 1, .f 2, .f 3, .f 4, .f 5, .f 6, trivial⟩ Tryz.call7 fun _ _ _ c => ?_))
 refine Fp [] 1 c fun _ c => E0 (S0 (P0 [] c fun _ c => I0 c h (fun h => ?_) fun h => ?_))
 refine P0 [] c fun _ c => ?_
 obtain rfl := sj h
 exact wp_ret (tr (Rt c () [] []))
 refine K0 (Bd h fun x3 hx3 h => Bd h fun x4 hx4 h => Bd h fun x5 hx5 h => Bd h fun x6 hx6 h => S0 (As mix c fun _ c => At 7 [4] [(2, L ga14 p2 gc15), (3, B b1 0), (4, B b2 0), (30, L ga14 p2 gc15)] c fun _ c => ?_))
 refine any_node (fuel := 6) [0, 2] (by kernel_rfl) (by simp) ⟨?_, ?_, trivial⟩
 refine op_of _ rfl rfl ?_
 refine Fp [(0, 0)] 1 c fun _ c => E0 (any_node (fuel := 5) [1, 2] (by kernel_rfl) (by simp) ⟨?_, ?_, trivial⟩)
 refine op_of _ rfl rfl ?_
 refine Ca [] c (laws_toProgram_ok hx3) ⟨.f 0, trivial⟩ Tryz.call9 fun i1 _ _ c => ?_
 refine E0 (any_node (fuel := 4) [2] (by kernel_rfl) (by simp) ⟨?_, trivial⟩)
 refine op_of _ rfl rfl ?_
 refine Fp [(0, 1)] 1 c fun _ c => E0 (any_node (fuel := 3) [3] (by kernel_rfl) (by simp) ⟨?_, trivial⟩)
 refine op_of _ rfl rfl ?_
 replace c := c.gm [BX b1 24 [I p0.W, I p0.Mem, I p0.In, L ga0 p0.Code gc1], BX b2 28 [I p1.Pc, L ga2 p1.Regs gc3, L ga4 p1.Mem gc5, L ga6 p1.Stack gc7, I p1.In, L ga8 p1.Out gc9, I p1.Code, I p1.Steps, L ga10 p1.Cond gc11, L ga12 p1.Turns gc13], sl91 (L i1.1 x3.Code i1.2) x3.Code]
 refine Cf [] c (laws_toPath_ok hx4) ⟨.f 1, .f 2, .f 3, .f 4, .f 5, .f 6, trivial⟩ Tryz.call10 fun i2 _ _ c => ?_
 refine E0 (any_node (fuel := 2) [5] (by kernel_rfl) (by simp) ⟨?_, trivial⟩)
 refine op_of _ rfl rfl ?_
 refine Ca [] c (laws_toIntS_ok hx5) ⟨.f 7, trivial⟩ Tryz.call11 fun i3 _ _ c => ?_
 refine E0 (any_node (fuel := 1) [6] (by kernel_rfl) (by simp) ⟨?_, trivial⟩)
 refine op_of _ rfl rfl ?_
 refine Ca [] c (spec_HoldsPath_ok hx6) ⟨.g 2, .f 9, .f 10, .f 11, .f 12, .f 13, .f 14, .g 3, trivial⟩ Tryz.call8 fun _ _ _ c => ?_
 refine E0 (any_node (fuel := 0) [7] (by kernel_rfl) (by simp) ⟨?_, trivial⟩)
 refine op_of _ rfl rfl ?_
 refine Fp [] 1 c fun _ c => E0 (any_leaf (by kernel_rfl) (tn ?_))
 refine T0 (Fp [(0, 0)] 1 c fun _ c => Bd h fun x7 hx7 h => Ca [] c (laws_toProgram_ok hx7) ⟨.f 0, trivial⟩ Tryz.call9 fun i4 _ _ c => ?_)
 refine Eal [I 0, I 0, I 0, L none ([] : List D.Ins) 0] c fun b3 _ _ c => ?_
 replace c := c.gm [BX b1 24 [I p0.W, I p0.Mem, I p0.In, L ga0 p0.Code gc1], BX b2 28 [I p1.Pc, L ga2 p1.Regs gc3, L ga4 p1.Mem gc5, L ga6 p1.Stack gc7, I p1.In, L ga8 p1.Out gc9, I p1.Code, I p1.Steps, L ga10 p1.Cond gc11, L ga12 p1.Turns gc13], sl91 (L i1.1 x3.Code i1.2) x3.Code, sl3 (L i3.1 x5 i3.2) x5, sl91 (L i4.1 x7.Code i4.2) x7.Code, BX b3 34 [I 0, I 0, I 0, L none ([] : List D.Ins) 0]]
 refine Ess 5 [I x7.W, I x7.Mem, I x7.In, L i4.1 x7.Code i4.2] c fun _ c => ?_
 refine E0 (T0 (Fp [(0, 1)] 1 c fun _ c => Bd h fun x8 hx8 h => Cf [] c (laws_toPath_ok hx8) ⟨.f 1, .f 2, .f 3, .f 4, .f 5, .f 6, trivial⟩ Tryz.call10 fun i5 _ _ c => ?_))
 refine Eal [I 0, L none ([] : List D.Term) 0, L none ([] : List D.Term) 0, L none ([] : List Int) 0, I 0, L none ([] : List D.Term) 0, I 0, I 0, L none ([] : List D.Term) 0, L none ([] : List Int) 0] c fun b4 _ _ c => ?_
 refine Ess 6 [I x8.Pc, L i5.1 x8.Regs i5.2.1, L i5.2.2.1 x8.Mem i5.2.2.2.1, L i5.2.2.2.2.1 x8.Stack i5.2.2.2.2.2.1, I x8.In, L i5.2.2.2.2.2.2.1 x8.Out i5.2.2.2.2.2.2.2.1, I x8.Code, I x8.Steps, L i5.2.2.2.2.2.2.2.2.1 x8.Cond i5.2.2.2.2.2.2.2.2.2.1, L i5.2.2.2.2.2.2.2.2.2.2.1 x8.Turns i5.2.2.2.2.2.2.2.2.2.2.2] c fun _ c => ?_
 refine E0 (T0 (Fp [] 1 c fun _ c => Bd h fun x9 hx9 h => Ca [] c (laws_toIntS_ok hx9) ⟨.f 7, trivial⟩ Tryz.call11 fun i6 _ _ c => ?_))
 refine Fp [] 1 c fun _ c => E0 (T0 (Fp [(0, 2), (1, 3)] 3 c fun _ c => ?_))
 replace c := c.gm [BX b1 24 [I p0.W, I p0.Mem, I p0.In, L ga0 p0.Code gc1], BX b2 28 [I p1.Pc, L ga2 p1.Regs gc3, L ga4 p1.Mem gc5, L ga6 p1.Stack gc7, I p1.In, L ga8 p1.Out gc9, I p1.Code, I p1.Steps, L ga10 p1.Cond gc11, L ga12 p1.Turns gc13], sl91 (L i1.1 x3.Code i1.2) x3.Code, sl3 (L i3.1 x5 i3.2) x5, sl91 (L i4.1 x7.Code i4.2) x7.Code, BX b3 34 [I x7.W, I x7.Mem, I x7.In, L i4.1 x7.Code i4.2], BX b4 38 [I x8.Pc, L i5.1 x8.Regs i5.2.1, L i5.2.2.1 x8.Mem i5.2.2.2.1, L i5.2.2.2.2.1 x8.Stack i5.2.2.2.2.2.1, I x8.In, L i5.2.2.2.2.2.2.1 x8.Out i5.2.2.2.2.2.2.2.1, I x8.Code, I x8.Steps, L i5.2.2.2.2.2.2.2.2.1 x8.Cond i5.2.2.2.2.2.2.2.2.2.1, L i5.2.2.2.2.2.2.2.2.2.2.1 x8.Turns i5.2.2.2.2.2.2.2.2.2.2.2], sl3 (L i6.1 x9 i6.2) x9]
 refine Bd h fun x10 hx10 h => Ca [] c (impl_HoldsPath_ok hx10) ⟨.g 4, .f 15, .f 16, .f 17, .f 18, .f 19, .f 20, .g 7, .f 8, trivial⟩ Tryz.call12 fun _ _ _ c => ?_
 refine Fp [] 1 c fun _ c => E0 (S0 (P0 [] c fun _ c => I0 c h (fun h => ?_) fun h => ?_))
 refine P0 [] c fun _ c => ?_
 obtain rfl := sj h
 exact wp_ret (tr (Rt c () [] []))
 refine K0 (S0 (Bd h fun x11 hx11 h => Bd h fun x12 hx12 h => S0 (As mix c fun _ c => any_node (fuel := 4) [0, 1] (by kernel_rfl) (by simp) ⟨?_, ?_, trivial⟩)))
 refine op_of _ rfl rfl ?_
 refine Fp [(0, 2)] 1 c fun _ c => E0 (any_node (fuel := 3) [1] (by kernel_rfl) (by simp) ⟨?_, trivial⟩)
 refine op_of _ rfl rfl ?_
 refine Fp [(0, 0)] 1 c fun _ c => E0 (any_node (fuel := 2) [2] (by kernel_rfl) (by simp) ⟨?_, trivial⟩)
 refine op_of _ rfl rfl ?_
 refine Ca [] c (laws_toProgram_ok hx11) ⟨.f 0, trivial⟩ Tryz.call9 fun i7 _ _ c => ?_
 refine E0 (any_node (fuel := 1) [3] (by kernel_rfl) (by simp) ⟨?_, trivial⟩)
 refine op_of _ rfl rfl ?_
 refine Ca [] c (laws_eqProgram_ok hx12) ⟨.g 4, .g 8, trivial⟩ Tryz.call13 fun _ _ _ c => ?_
 refine E0 (any_node (fuel := 0) [4] (by kernel_rfl) (by simp) ⟨?_, trivial⟩)
 refine op_of _ rfl rfl ?_
 refine Fp [] 1 c fun _ c => E0 (any_leaf (by kernel_rfl) (tn ?_))
 refine I0 c h (fun h => ?_) fun h => ?_
 refine P0 [] c fun _ c => ?_
 obtain rfl := sj h
 exact wp_ret (tr (Rt c () [] []))
 refine K0 (S0 (Bd h fun x13 hx13 h => Bd h fun x14 hx14 h => S0 (As mix c fun _ c => any_node (fuel := 4) [0, 1] (by kernel_rfl) (by simp) ⟨?_, ?_, trivial⟩)))
 refine op_of _ rfl rfl ?_
 refine Fp [(0, 3)] 1 c fun _ c => E0 (any_node (fuel := 3) [1] (by kernel_rfl) (by simp) ⟨?_, trivial⟩)
 refine op_of _ rfl rfl ?_
 refine Fp [(0, 1)] 1 c fun _ c => E0 (any_node (fuel := 2) [2] (by kernel_rfl) (by simp) ⟨?_, trivial⟩)
 refine op_of _ rfl rfl ?_
 refine Cf [] c (laws_toPath_ok hx13) ⟨.f 1, .f 2, .f 3, .f 4, .f 5, .f 6, trivial⟩ Tryz.call10 fun i8 _ _ c => ?_
 refine E0 (any_node (fuel := 1) [3] (by kernel_rfl) (by simp) ⟨?_, trivial⟩)
 refine op_of _ rfl rfl ?_
 refine Ca [] c (laws_eqPath_ok hx14) ⟨.f 15, .f 16, .f 17, .f 18, .f 19, .f 20, .f 21, .f 22, .f 23, .f 24, .f 25, .f 26, trivial⟩ Tryz.call14 fun _ _ _ c => ?_
 refine E0 (any_node (fuel := 0) [4] (by kernel_rfl) (by simp) ⟨?_, trivial⟩)
 refine op_of _ rfl rfl ?_
 refine Fp [] 1 c fun _ c => E0 (any_leaf (by kernel_rfl) (tn ?_))
 refine I0 c h (fun h => ?_) fun h => ?_
 refine P0 [] c fun _ c => ?_
 obtain rfl := sj h
 exact wp_ret (tr (Rt c () [] []))
 refine K0 (S0 (T0 (Fp [] 2 c fun _ c => ?_)))
 replace c := c.gm [BX b1 24 [I p0.W, I p0.Mem, I p0.In, L ga0 p0.Code gc1], BX b2 28 [I p1.Pc, L ga2 p1.Regs gc3, L ga4 p1.Mem gc5, L ga6 p1.Stack gc7, I p1.In, L ga8 p1.Out gc9, I p1.Code, I p1.Steps, L ga10 p1.Cond gc11, L ga12 p1.Turns gc13], sl91 (L i1.1 x3.Code i1.2) x3.Code, sl3 (L i3.1 x5 i3.2) x5, sl91 (L i4.1 x7.Code i4.2) x7.Code, BX b3 34 [I x7.W, I x7.Mem, I x7.In, L i4.1 x7.Code i4.2], BX b4 38 [I x8.Pc, L i5.1 x8.Regs i5.2.1, L i5.2.2.1 x8.Mem i5.2.2.2.1, L i5.2.2.2.2.1 x8.Stack i5.2.2.2.2.2.1, I x8.In, L i5.2.2.2.2.2.2.1 x8.Out i5.2.2.2.2.2.2.2.1, I x8.Code, I x8.Steps, L i5.2.2.2.2.2.2.2.2.1 x8.Cond i5.2.2.2.2.2.2.2.2.2.1, L i5.2.2.2.2.2.2.2.2.2.2.1 x8.Turns i5.2.2.2.2.2.2.2.2.2.2.2], sl3 (L i6.1 x9 i6.2) x9, sl91 (L i7.1 x11.Code i7.2) x11.Code]
 refine Bd h fun x15 hx15 h => Ca [] c (laws_toIntS_ok hx15) ⟨.f 7, trivial⟩ Tryz.call11 fun i9 _ _ c => ?_
 refine Bd h fun x16 hx16 h => Ca [] c (laws_eqIntS_ok hx16) ⟨.g 7, .g 9, trivial⟩ Tryz.call15 fun _ _ _ c => ?_
 refine Fp [] 1 c fun _ c => E0 (I0 c h (fun h => ?_) fun h => ?_)
 refine P0 [] c fun _ c => ?_
 obtain rfl := sj h
 exact wp_ret (tr (Rt c () [] []))
 refine K0 (P0 [] c fun _ c => ?_)
 obtain rfl := sj h
 exact wp_ret (Rt c () [] [])
 refine op_of _ rfl rfl ?_
 refine Fp [(0, 1)] 1 c fun _ c => E0 (any_node (fuel := 3) [0, 2] (by kernel_rfl) (by simp) ⟨?_, ?_, trivial⟩)
 refine op_of _ rfl rfl ?_
 refine Fp [(0, 3)] 1 c fun _ c => E0 (any_node (fuel := 2) [2] (by kernel_rfl) (by simp) ⟨?_, trivial⟩)
 refine op_of _ rfl rfl ?_
 refine Cf [] c (laws_toPath_ok hx13) ⟨.f 1, .f 2, .f 3, .f 4, .f 5, .f 6, trivial⟩ Tryz.call10 fun i10 _ _ c => ?_
 refine E0 (any_node (fuel := 1) [3] (by kernel_rfl) (by simp) ⟨?_, trivial⟩)
 refine op_of _ rfl rfl ?_
 refine Ca [] c (laws_eqPath_ok hx14) ⟨.f 15, .f 16, .f 17, .f 18, .f 19, .f 20, .f 21, .f 22, .f 23, .f 24, .f 25, .f 26, trivial⟩ Tryz.call14 fun _ _ _ c => ?_
 refine E0 (any_node (fuel := 0) [4] (by kernel_rfl) (by simp) ⟨?_, trivial⟩)
 refine op_of _ rfl rfl ?_
 refine Fp [] 1 c fun _ c => E0 (any_leaf (by kernel_rfl) (tn ?_))
 refine I0 c h (fun h => ?_) fun h => ?_
 refine P0 [] c fun _ c => ?_
 obtain rfl := sj h
 exact wp_ret (tr (Rt c () [] []))
 refine K0 (S0 (T0 (Fp [] 2 c fun _ c => ?_)))
 replace c := c.gm [BX b1 24 [I p0.W, I p0.Mem, I p0.In, L ga0 p0.Code gc1], BX b2 28 [I p1.Pc, L ga2 p1.Regs gc3, L ga4 p1.Mem gc5, L ga6 p1.Stack gc7, I p1.In, L ga8 p1.Out gc9, I p1.Code, I p1.Steps, L ga10 p1.Cond gc11, L ga12 p1.Turns gc13], sl91 (L i1.1 x3.Code i1.2) x3.Code, sl3 (L i3.1 x5 i3.2) x5, sl91 (L i4.1 x7.Code i4.2) x7.Code, BX b3 34 [I x7.W, I x7.Mem, I x7.In, L i4.1 x7.Code i4.2], BX b4 38 [I x8.Pc, L i5.1 x8.Regs i5.2.1, L i5.2.2.1 x8.Mem i5.2.2.2.1, L i5.2.2.2.2.1 x8.Stack i5.2.2.2.2.2.1, I x8.In, L i5.2.2.2.2.2.2.1 x8.Out i5.2.2.2.2.2.2.2.1, I x8.Code, I x8.Steps, L i5.2.2.2.2.2.2.2.2.1 x8.Cond i5.2.2.2.2.2.2.2.2.2.1, L i5.2.2.2.2.2.2.2.2.2.2.1 x8.Turns i5.2.2.2.2.2.2.2.2.2.2.2], sl3 (L i6.1 x9 i6.2) x9, sl91 (L i7.1 x11.Code i7.2) x11.Code]
 refine Bd h fun x17 hx17 h => Ca [] c (laws_toIntS_ok hx17) ⟨.f 7, trivial⟩ Tryz.call11 fun i11 _ _ c => ?_
 refine Bd h fun x18 hx18 h => Ca [] c (laws_eqIntS_ok hx18) ⟨.g 7, .g 9, trivial⟩ Tryz.call15 fun _ _ _ c => ?_
 refine Fp [] 1 c fun _ c => E0 (I0 c h (fun h => ?_) fun h => ?_)
 refine P0 [] c fun _ c => ?_
 obtain rfl := sj h
 exact wp_ret (tr (Rt c () [] []))
 refine K0 (P0 [] c fun _ c => ?_)
 obtain rfl := sj h
 exact wp_ret (Rt c () [] [])
 refine op_of _ rfl rfl ?_
 refine Cf [] c (laws_toPath_ok hx13) ⟨.f 1, .f 2, .f 3, .f 4, .f 5, .f 6, trivial⟩ Tryz.call10 fun i12 _ _ c => ?_
 refine E0 (any_node (fuel := 2) [0] (by kernel_rfl) (by simp) ⟨?_, trivial⟩)
 refine op_of _ rfl rfl ?_
 refine Fp [(0, 3)] 1 c fun _ c => E0 (any_node (fuel := 1) [3] (by kernel_rfl) (by simp) ⟨?_, trivial⟩)
 refine op_of _ rfl rfl ?_
 refine Ca [] c (laws_eqPath_ok hx14) ⟨.f 15, .f 16, .f 17, .f 18, .f 19, .f 20, .f 21, .f 22, .f 23, .f 24, .f 25, .f 26, trivial⟩ Tryz.call14 fun _ _ _ c => ?_
 refine E0 (any_node (fuel := 0) [4] (by kernel_rfl) (by simp) ⟨?_, trivial⟩)
 refine op_of _ rfl rfl ?_
 refine Fp [] 1 c fun _ c => E0 (any_leaf (by kernel_rfl) (tn ?_))
 refine I0 c h (fun h => ?_) fun h => ?_
 refine P0 [] c fun _ c => ?_
 obtain rfl := sj h
 exact wp_ret (tr (Rt c () [] []))
 refine K0 (S0 (T0 (Fp [] 2 c fun _ c => ?_)))
 replace c := c.gm [BX b1 24 [I p0.W, I p0.Mem, I p0.In, L ga0 p0.Code gc1], BX b2 28 [I p1.Pc, L ga2 p1.Regs gc3, L ga4 p1.Mem gc5, L ga6 p1.Stack gc7, I p1.In, L ga8 p1.Out gc9, I p1.Code, I p1.Steps, L ga10 p1.Cond gc11, L ga12 p1.Turns gc13], sl91 (L i1.1 x3.Code i1.2) x3.Code, sl3 (L i3.1 x5 i3.2) x5, sl91 (L i4.1 x7.Code i4.2) x7.Code, BX b3 34 [I x7.W, I x7.Mem, I x7.In, L i4.1 x7.Code i4.2], BX b4 38 [I x8.Pc, L i5.1 x8.Regs i5.2.1, L i5.2.2.1 x8.Mem i5.2.2.2.1, L i5.2.2.2.2.1 x8.Stack i5.2.2.2.2.2.1, I x8.In, L i5.2.2.2.2.2.2.1 x8.Out i5.2.2.2.2.2.2.2.1, I x8.Code, I x8.Steps, L i5.2.2.2.2.2.2.2.2.1 x8.Cond i5.2.2.2.2.2.2.2.2.2.1, L i5.2.2.2.2.2.2.2.2.2.2.1 x8.Turns i5.2.2.2.2.2.2.2.2.2.2.2], sl3 (L i6.1 x9 i6.2) x9, sl91 (L i7.1 x11.Code i7.2) x11.Code]
 refine Bd h fun x19 hx19 h => Ca [] c (laws_toIntS_ok hx19) ⟨.f 7, trivial⟩ Tryz.call11 fun i13 _ _ c => ?_
 refine Bd h fun x20 hx20 h => Ca [] c (laws_eqIntS_ok hx20) ⟨.g 7, .g 9, trivial⟩ Tryz.call15 fun _ _ _ c => ?_
 refine Fp [] 1 c fun _ c => E0 (I0 c h (fun h => ?_) fun h => ?_)
 refine P0 [] c fun _ c => ?_
 obtain rfl := sj h
 exact wp_ret (tr (Rt c () [] []))
 refine K0 (P0 [] c fun _ c => ?_)
 obtain rfl := sj h
 exact wp_ret (Rt c () [] [])
 refine op_of _ rfl rfl ?_
 refine Fp [(0, 0)] 1 c fun _ c => E0 (any_node (fuel := 3) [0, 2] (by kernel_rfl) (by simp) ⟨?_, ?_, trivial⟩)
 refine op_of _ rfl rfl ?_
 refine Fp [(0, 2)] 1 c fun _ c => E0 (any_node (fuel := 2) [2] (by kernel_rfl) (by simp) ⟨?_, trivial⟩)
 refine op_of _ rfl rfl ?_
 refine Ca [] c (laws_toProgram_ok hx11) ⟨.f 0, trivial⟩ Tryz.call9 fun i14 _ _ c => ?_
 refine E0 (any_node (fuel := 1) [3] (by kernel_rfl) (by simp) ⟨?_, trivial⟩)
 refine op_of _ rfl rfl ?_
 refine Ca [] c (laws_eqProgram_ok hx12) ⟨.g 4, .g 8, trivial⟩ Tryz.call13 fun _ _ _ c => ?_
 refine E0 (any_node (fuel := 0) [4] (by kernel_rfl) (by simp) ⟨?_, trivial⟩)
 refine op_of _ rfl rfl ?_
 refine Fp [] 1 c fun _ c => E0 (any_leaf (by kernel_rfl) (tn ?_))
 refine I0 c h (fun h => ?_) fun h => ?_
 refine P0 [] c fun _ c => ?_
 obtain rfl := sj h
 exact wp_ret (tr (Rt c () [] []))
 refine K0 (S0 (Bd h fun x21 hx21 h => Bd h fun x22 hx22 h => S0 (As mix c fun _ c => any_node (fuel := 4) [0, 1] (by kernel_rfl) (by simp) ⟨?_, ?_, trivial⟩)))
 refine op_of _ rfl rfl ?_
 refine Fp [(0, 3)] 1 c fun _ c => E0 (any_node (fuel := 3) [1] (by kernel_rfl) (by simp) ⟨?_, trivial⟩)
 refine op_of _ rfl rfl ?_
 refine Fp [(0, 1)] 1 c fun _ c => E0 (any_node (fuel := 2) [2] (by kernel_rfl) (by simp) ⟨?_, trivial⟩)
 refine op_of _ rfl rfl ?_
 refine Cf [] c (laws_toPath_ok hx21) ⟨.f 1, .f 2, .f 3, .f 4, .f 5, .f 6, trivial⟩ Tryz.call10 fun i15 _ _ c => ?_
 refine E0 (any_node (fuel := 1) [3] (by kernel_rfl) (by simp) ⟨?_, trivial⟩)
 refine op_of _ rfl rfl ?_
 refine Ca [] c (laws_eqPath_ok hx22) ⟨.f 15, .f 16, .f 17, .f 18, .f 19, .f 20, .f 21, .f 22, .f 23, .f 24, .f 25, .f 26, trivial⟩ Tryz.call14 fun _ _ _ c => ?_
 refine E0 (any_node (fuel := 0) [4] (by kernel_rfl) (by simp) ⟨?_, trivial⟩)
 refine op_of _ rfl rfl ?_
 refine Fp [] 1 c fun _ c => E0 (any_leaf (by kernel_rfl) (tn ?_))
 refine I0 c h (fun h => ?_) fun h => ?_
 refine P0 [] c fun _ c => ?_
 obtain rfl := sj h
 exact wp_ret (tr (Rt c () [] []))
 refine K0 (S0 (T0 (Fp [] 2 c fun _ c => ?_)))
 replace c := c.gm [BX b1 24 [I p0.W, I p0.Mem, I p0.In, L ga0 p0.Code gc1], BX b2 28 [I p1.Pc, L ga2 p1.Regs gc3, L ga4 p1.Mem gc5, L ga6 p1.Stack gc7, I p1.In, L ga8 p1.Out gc9, I p1.Code, I p1.Steps, L ga10 p1.Cond gc11, L ga12 p1.Turns gc13], sl91 (L i1.1 x3.Code i1.2) x3.Code, sl3 (L i3.1 x5 i3.2) x5, sl91 (L i4.1 x7.Code i4.2) x7.Code, BX b3 34 [I x7.W, I x7.Mem, I x7.In, L i4.1 x7.Code i4.2], BX b4 38 [I x8.Pc, L i5.1 x8.Regs i5.2.1, L i5.2.2.1 x8.Mem i5.2.2.2.1, L i5.2.2.2.2.1 x8.Stack i5.2.2.2.2.2.1, I x8.In, L i5.2.2.2.2.2.2.1 x8.Out i5.2.2.2.2.2.2.2.1, I x8.Code, I x8.Steps, L i5.2.2.2.2.2.2.2.2.1 x8.Cond i5.2.2.2.2.2.2.2.2.2.1, L i5.2.2.2.2.2.2.2.2.2.2.1 x8.Turns i5.2.2.2.2.2.2.2.2.2.2.2], sl3 (L i6.1 x9 i6.2) x9, sl91 (L i14.1 x11.Code i14.2) x11.Code]
 refine Bd h fun x23 hx23 h => Ca [] c (laws_toIntS_ok hx23) ⟨.f 7, trivial⟩ Tryz.call11 fun i16 _ _ c => ?_
 refine Bd h fun x24 hx24 h => Ca [] c (laws_eqIntS_ok hx24) ⟨.g 7, .g 9, trivial⟩ Tryz.call15 fun _ _ _ c => ?_
 refine Fp [] 1 c fun _ c => E0 (I0 c h (fun h => ?_) fun h => ?_)
 refine P0 [] c fun _ c => ?_
 obtain rfl := sj h
 exact wp_ret (tr (Rt c () [] []))
 refine K0 (P0 [] c fun _ c => ?_)
 obtain rfl := sj h
 exact wp_ret (Rt c () [] [])
 refine op_of _ rfl rfl ?_
 refine Fp [(0, 1)] 1 c fun _ c => E0 (any_node (fuel := 3) [0, 2] (by kernel_rfl) (by simp) ⟨?_, ?_, trivial⟩)
 refine op_of _ rfl rfl ?_
 refine Fp [(0, 3)] 1 c fun _ c => E0 (any_node (fuel := 2) [2] (by kernel_rfl) (by simp) ⟨?_, trivial⟩)
 refine op_of _ rfl rfl ?_
 refine Cf [] c (laws_toPath_ok hx21) ⟨.f 1, .f 2, .f 3, .f 4, .f 5, .f 6, trivial⟩ Tryz.call10 fun i17 _ _ c => ?_
 refine E0 (any_node (fuel := 1) [3] (by kernel_rfl) (by simp) ⟨?_, trivial⟩)
 refine op_of _ rfl rfl ?_
 refine Ca [] c (laws_eqPath_ok hx22) ⟨.f 15, .f 16, .f 17, .f 18, .f 19, .f 20, .f 21, .f 22, .f 23, .f 24, .f 25, .f 26, trivial⟩ Tryz.call14 fun _ _ _ c => ?_
 refine E0 (any_node (fuel := 0) [4] (by kernel_rfl) (by simp) ⟨?_, trivial⟩)
 refine op_of _ rfl rfl ?_
 refine Fp [] 1 c fun _ c => E0 (any_leaf (by kernel_rfl) (tn ?_))
 refine I0 c h (fun h => ?_) fun h => ?_
 refine P0 [] c fun _ c => ?_
 obtain rfl := sj h
 exact wp_ret (tr (Rt c () [] []))
 refine K0 (S0 (T0 (Fp [] 2 c fun _ c => ?_)))
 replace c := c.gm [BX b1 24 [I p0.W, I p0.Mem, I p0.In, L ga0 p0.Code gc1], BX b2 28 [I p1.Pc, L ga2 p1.Regs gc3, L ga4 p1.Mem gc5, L ga6 p1.Stack gc7, I p1.In, L ga8 p1.Out gc9, I p1.Code, I p1.Steps, L ga10 p1.Cond gc11, L ga12 p1.Turns gc13], sl91 (L i1.1 x3.Code i1.2) x3.Code, sl3 (L i3.1 x5 i3.2) x5, sl91 (L i4.1 x7.Code i4.2) x7.Code, BX b3 34 [I x7.W, I x7.Mem, I x7.In, L i4.1 x7.Code i4.2], BX b4 38 [I x8.Pc, L i5.1 x8.Regs i5.2.1, L i5.2.2.1 x8.Mem i5.2.2.2.1, L i5.2.2.2.2.1 x8.Stack i5.2.2.2.2.2.1, I x8.In, L i5.2.2.2.2.2.2.1 x8.Out i5.2.2.2.2.2.2.2.1, I x8.Code, I x8.Steps, L i5.2.2.2.2.2.2.2.2.1 x8.Cond i5.2.2.2.2.2.2.2.2.2.1, L i5.2.2.2.2.2.2.2.2.2.2.1 x8.Turns i5.2.2.2.2.2.2.2.2.2.2.2], sl3 (L i6.1 x9 i6.2) x9, sl91 (L i14.1 x11.Code i14.2) x11.Code]
 refine Bd h fun x25 hx25 h => Ca [] c (laws_toIntS_ok hx25) ⟨.f 7, trivial⟩ Tryz.call11 fun i18 _ _ c => ?_
 refine Bd h fun x26 hx26 h => Ca [] c (laws_eqIntS_ok hx26) ⟨.g 7, .g 9, trivial⟩ Tryz.call15 fun _ _ _ c => ?_
 refine Fp [] 1 c fun _ c => E0 (I0 c h (fun h => ?_) fun h => ?_)
 refine P0 [] c fun _ c => ?_
 obtain rfl := sj h
 exact wp_ret (tr (Rt c () [] []))
 refine K0 (P0 [] c fun _ c => ?_)
 obtain rfl := sj h
 exact wp_ret (Rt c () [] [])
 refine op_of _ rfl rfl ?_
 refine Cf [] c (laws_toPath_ok hx21) ⟨.f 1, .f 2, .f 3, .f 4, .f 5, .f 6, trivial⟩ Tryz.call10 fun i19 _ _ c => ?_
 refine E0 (any_node (fuel := 2) [0] (by kernel_rfl) (by simp) ⟨?_, trivial⟩)
 refine op_of _ rfl rfl ?_
 refine Fp [(0, 3)] 1 c fun _ c => E0 (any_node (fuel := 1) [3] (by kernel_rfl) (by simp) ⟨?_, trivial⟩)
 refine op_of _ rfl rfl ?_
 refine Ca [] c (laws_eqPath_ok hx22) ⟨.f 15, .f 16, .f 17, .f 18, .f 19, .f 20, .f 21, .f 22, .f 23, .f 24, .f 25, .f 26, trivial⟩ Tryz.call14 fun _ _ _ c => ?_
 refine E0 (any_node (fuel := 0) [4] (by kernel_rfl) (by simp) ⟨?_, trivial⟩)
 refine op_of _ rfl rfl ?_
 refine Fp [] 1 c fun _ c => E0 (any_leaf (by kernel_rfl) (tn ?_))
 refine I0 c h (fun h => ?_) fun h => ?_
 refine P0 [] c fun _ c => ?_
 obtain rfl := sj h
 exact wp_ret (tr (Rt c () [] []))
 refine K0 (S0 (T0 (Fp [] 2 c fun _ c => ?_)))
 replace c := c.gm [BX b1 24 [I p0.W, I p0.Mem, I p0.In, L ga0 p0.Code gc1], BX b2 28 [I p1.Pc, L ga2 p1.Regs gc3, L ga4 p1.Mem gc5, L ga6 p1.Stack gc7, I p1.In, L ga8 p1.Out gc9, I p1.Code, I p1.Steps, L ga10 p1.Cond gc11, L ga12 p1.Turns gc13], sl91 (L i1.1 x3.Code i1.2) x3.Code, sl3 (L i3.1 x5 i3.2) x5, sl91 (L i4.1 x7.Code i4.2) x7.Code, BX b3 34 [I x7.W, I x7.Mem, I x7.In, L i4.1 x7.Code i4.2], BX b4 38 [I x8.Pc, L i5.1 x8.Regs i5.2.1, L i5.2.2.1 x8.Mem i5.2.2.2.1, L i5.2.2.2.2.1 x8.Stack i5.2.2.2.2.2.1, I x8.In, L i5.2.2.2.2.2.2.1 x8.Out i5.2.2.2.2.2.2.2.1, I x8.Code, I x8.Steps, L i5.2.2.2.2.2.2.2.2.1 x8.Cond i5.2.2.2.2.2.2.2.2.2.1, L i5.2.2.2.2.2.2.2.2.2.2.1 x8.Turns i5.2.2.2.2.2.2.2.2.2.2.2], sl3 (L i6.1 x9 i6.2) x9, sl91 (L i14.1 x11.Code i14.2) x11.Code]
 refine Bd h fun x27 hx27 h => Ca [] c (laws_toIntS_ok hx27) ⟨.f 7, trivial⟩ Tryz.call11 fun i20 _ _ c => ?_
 refine Bd h fun x28 hx28 h => Ca [] c (laws_eqIntS_ok hx28) ⟨.g 7, .g 9, trivial⟩ Tryz.call15 fun _ _ _ c => ?_
 refine Fp [] 1 c fun _ c => E0 (I0 c h (fun h => ?_) fun h => ?_)
 refine P0 [] c fun _ c => ?_
 obtain rfl := sj h
 exact wp_ret (tr (Rt c () [] []))
 refine K0 (P0 [] c fun _ c => ?_)
 obtain rfl := sj h
 exact wp_ret (Rt c () [] [])
 refine op_of _ rfl rfl ?_
 refine Ca [] c (laws_toProgram_ok hx11) ⟨.f 0, trivial⟩ Tryz.call9 fun i21 _ _ c => ?_
 refine E0 (any_node (fuel := 2) [0] (by kernel_rfl) (by simp) ⟨?_, trivial⟩)
 refine op_of _ rfl rfl ?_
 refine Fp [(0, 2)] 1 c fun _ c => E0 (any_node (fuel := 1) [3] (by kernel_rfl) (by simp) ⟨?_, trivial⟩)
 refine op_of _ rfl rfl ?_
 refine Ca [] c (laws_eqProgram_ok hx12) ⟨.g 4, .g 8, trivial⟩ Tryz.call13 fun _ _ _ c => ?_
 refine E0 (any_node (fuel := 0) [4] (by kernel_rfl) (by simp) ⟨?_, trivial⟩)
 refine op_of _ rfl rfl ?_
 refine Fp [] 1 c fun _ c => E0 (any_leaf (by kernel_rfl) (tn ?_))
 refine I0 c h (fun h => ?_) fun h => ?_
 refine P0 [] c fun _ c => ?_
 obtain rfl := sj h
 exact wp_ret (tr (Rt c () [] []))
 refine K0 (S0 (Bd h fun x29 hx29 h => Bd h fun x30 hx30 h => S0 (As mix c fun _ c => any_node (fuel := 4) [0, 1] (by kernel_rfl) (by simp) ⟨?_, ?_, trivial⟩)))
 refine op_of _ rfl rfl ?_
 refine Fp [(0, 3)] 1 c fun _ c => E0 (any_node (fuel := 3) [1] (by kernel_rfl) (by simp) ⟨?_, trivial⟩)
 refine op_of _ rfl rfl ?_
 refine Fp [(0, 1)] 1 c fun _ c => E0 (any_node (fuel := 2) [2] (by kernel_rfl) (by simp) ⟨?_, trivial⟩)
 refine op_of _ rfl rfl ?_
 refine Cf [] c (laws_toPath_ok hx29) ⟨.f 1, .f 2, .f 3, .f 4, .f 5, .f 6, trivial⟩ Tryz.call10 fun i22 _ _ c => ?_
 refine E0 (any_node (fuel := 1) [3] (by kernel_rfl) (by simp) ⟨?_, trivial⟩)
 refine op_of _ rfl rfl ?_
 refine Ca [] c (laws_eqPath_ok hx30) ⟨.f 15, .f 16, .f 17, .f 18, .f 19, .f 20, .f 21, .f 22, .f 23, .f 24, .f 25, .f 26, trivial⟩ Tryz.call14 fun _ _ _ c => ?_
 refine E0 (any_node (fuel := 0) [4] (by kernel_rfl) (by simp) ⟨?_, trivial⟩)
 refine op_of _ rfl rfl ?_
 refine Fp [] 1 c fun _ c => E0 (any_leaf (by kernel_rfl) (tn ?_))
 refine I0 c h (fun h => ?_) fun h => ?_
 refine P0 [] c fun _ c => ?_
 obtain rfl := sj h
 exact wp_ret (tr (Rt c () [] []))
 refine K0 (S0 (T0 (Fp [] 2 c fun _ c => ?_)))
 replace c := c.gm [BX b1 24 [I p0.W, I p0.Mem, I p0.In, L ga0 p0.Code gc1], BX b2 28 [I p1.Pc, L ga2 p1.Regs gc3, L ga4 p1.Mem gc5, L ga6 p1.Stack gc7, I p1.In, L ga8 p1.Out gc9, I p1.Code, I p1.Steps, L ga10 p1.Cond gc11, L ga12 p1.Turns gc13], sl91 (L i1.1 x3.Code i1.2) x3.Code, sl3 (L i3.1 x5 i3.2) x5, sl91 (L i4.1 x7.Code i4.2) x7.Code, BX b3 34 [I x7.W, I x7.Mem, I x7.In, L i4.1 x7.Code i4.2], BX b4 38 [I x8.Pc, L i5.1 x8.Regs i5.2.1, L i5.2.2.1 x8.Mem i5.2.2.2.1, L i5.2.2.2.2.1 x8.Stack i5.2.2.2.2.2.1, I x8.In, L i5.2.2.2.2.2.2.1 x8.Out i5.2.2.2.2.2.2.2.1, I x8.Code, I x8.Steps, L i5.2.2.2.2.2.2.2.2.1 x8.Cond i5.2.2.2.2.2.2.2.2.2.1, L i5.2.2.2.2.2.2.2.2.2.2.1 x8.Turns i5.2.2.2.2.2.2.2.2.2.2.2], sl3 (L i6.1 x9 i6.2) x9, sl91 (L i21.1 x11.Code i21.2) x11.Code]
 refine Bd h fun x31 hx31 h => Ca [] c (laws_toIntS_ok hx31) ⟨.f 7, trivial⟩ Tryz.call11 fun i23 _ _ c => ?_
 refine Bd h fun x32 hx32 h => Ca [] c (laws_eqIntS_ok hx32) ⟨.g 7, .g 9, trivial⟩ Tryz.call15 fun _ _ _ c => ?_
 refine Fp [] 1 c fun _ c => E0 (I0 c h (fun h => ?_) fun h => ?_)
 refine P0 [] c fun _ c => ?_
 obtain rfl := sj h
 exact wp_ret (tr (Rt c () [] []))
 refine K0 (P0 [] c fun _ c => ?_)
 obtain rfl := sj h
 exact wp_ret (Rt c () [] [])
 refine op_of _ rfl rfl ?_
 refine Fp [(0, 1)] 1 c fun _ c => E0 (any_node (fuel := 3) [0, 2] (by kernel_rfl) (by simp) ⟨?_, ?_, trivial⟩)
 refine op_of _ rfl rfl ?_
 refine Fp [(0, 3)] 1 c fun _ c => E0 (any_node (fuel := 2) [2] (by kernel_rfl) (by simp) ⟨?_, trivial⟩)
 refine op_of _ rfl rfl ?_
 refine Cf [] c (laws_toPath_ok hx29) ⟨.f 1, .f 2, .f 3, .f 4, .f 5, .f 6, trivial⟩ Tryz.call10 fun i24 _ _ c => ?_
 refine E0 (any_node (fuel := 1) [3] (by kernel_rfl) (by simp) ⟨?_, trivial⟩)
 refine op_of _ rfl rfl ?_
 refine Ca [] c (laws_eqPath_ok hx30) ⟨.f 15, .f 16, .f 17, .f 18, .f 19, .f 20, .f 21, .f 22, .f 23, .f 24, .f 25, .f 26, trivial⟩ Tryz.call14 fun _ _ _ c => ?_
 refine E0 (any_node (fuel := 0) [4] (by kernel_rfl) (by simp) ⟨?_, trivial⟩)
 refine op_of _ rfl rfl ?_
 refine Fp [] 1 c fun _ c => E0 (any_leaf (by kernel_rfl) (tn ?_))
 refine I0 c h (fun h => ?_) fun h => ?_
 refine P0 [] c fun _ c => ?_
 obtain rfl := sj h
 exact wp_ret (tr (Rt c () [] []))
 refine K0 (S0 (T0 (Fp [] 2 c fun _ c => ?_)))
 replace c := c.gm [BX b1 24 [I p0.W, I p0.Mem, I p0.In, L ga0 p0.Code gc1], BX b2 28 [I p1.Pc, L ga2 p1.Regs gc3, L ga4 p1.Mem gc5, L ga6 p1.Stack gc7, I p1.In, L ga8 p1.Out gc9, I p1.Code, I p1.Steps, L ga10 p1.Cond gc11, L ga12 p1.Turns gc13], sl91 (L i1.1 x3.Code i1.2) x3.Code, sl3 (L i3.1 x5 i3.2) x5, sl91 (L i4.1 x7.Code i4.2) x7.Code, BX b3 34 [I x7.W, I x7.Mem, I x7.In, L i4.1 x7.Code i4.2], BX b4 38 [I x8.Pc, L i5.1 x8.Regs i5.2.1, L i5.2.2.1 x8.Mem i5.2.2.2.1, L i5.2.2.2.2.1 x8.Stack i5.2.2.2.2.2.1, I x8.In, L i5.2.2.2.2.2.2.1 x8.Out i5.2.2.2.2.2.2.2.1, I x8.Code, I x8.Steps, L i5.2.2.2.2.2.2.2.2.1 x8.Cond i5.2.2.2.2.2.2.2.2.2.1, L i5.2.2.2.2.2.2.2.2.2.2.1 x8.Turns i5.2.2.2.2.2.2.2.2.2.2.2], sl3 (L i6.1 x9 i6.2) x9, sl91 (L i21.1 x11.Code i21.2) x11.Code]
 refine Bd h fun x33 hx33 h => Ca [] c (laws_toIntS_ok hx33) ⟨.f 7, trivial⟩ Tryz.call11 fun i25 _ _ c => ?_
 refine Bd h fun x34 hx34 h => Ca [] c (laws_eqIntS_ok hx34) ⟨.g 7, .g 9, trivial⟩ Tryz.call15 fun _ _ _ c => ?_
 refine Fp [] 1 c fun _ c => E0 (I0 c h (fun h => ?_) fun h => ?_)
 refine P0 [] c fun _ c => ?_
 obtain rfl := sj h
 exact wp_ret (tr (Rt c () [] []))
 refine K0 (P0 [] c fun _ c => ?_)
 obtain rfl := sj h
 exact wp_ret (Rt c () [] [])
 refine op_of _ rfl rfl ?_
 refine Cf [] c (laws_toPath_ok hx29) ⟨.f 1, .f 2, .f 3, .f 4, .f 5, .f 6, trivial⟩ Tryz.call10 fun i26 _ _ c => ?_
 refine E0 (any_node (fuel := 2) [0] (by kernel_rfl) (by simp) ⟨?_, trivial⟩)
 refine op_of _ rfl rfl ?_
 refine Fp [(0, 3)] 1 c fun _ c => E0 (any_node (fuel := 1) [3] (by kernel_rfl) (by simp) ⟨?_, trivial⟩)
 refine op_of _ rfl rfl ?_
 refine Ca [] c (laws_eqPath_ok hx30) ⟨.f 15, .f 16, .f 17, .f 18, .f 19, .f 20, .f 21, .f 22, .f 23, .f 24, .f 25, .f 26, trivial⟩ Tryz.call14 fun _ _ _ c => ?_
 refine E0 (any_node (fuel := 0) [4] (by kernel_rfl) (by simp) ⟨?_, trivial⟩)
 refine op_of _ rfl rfl ?_
 refine Fp [] 1 c fun _ c => E0 (any_leaf (by kernel_rfl) (tn ?_))
 refine I0 c h (fun h => ?_) fun h => ?_
 refine P0 [] c fun _ c => ?_
 obtain rfl := sj h
 exact wp_ret (tr (Rt c () [] []))
 refine K0 (S0 (T0 (Fp [] 2 c fun _ c => ?_)))
 replace c := c.gm [BX b1 24 [I p0.W, I p0.Mem, I p0.In, L ga0 p0.Code gc1], BX b2 28 [I p1.Pc, L ga2 p1.Regs gc3, L ga4 p1.Mem gc5, L ga6 p1.Stack gc7, I p1.In, L ga8 p1.Out gc9, I p1.Code, I p1.Steps, L ga10 p1.Cond gc11, L ga12 p1.Turns gc13], sl91 (L i1.1 x3.Code i1.2) x3.Code, sl3 (L i3.1 x5 i3.2) x5, sl91 (L i4.1 x7.Code i4.2) x7.Code, BX b3 34 [I x7.W, I x7.Mem, I x7.In, L i4.1 x7.Code i4.2], BX b4 38 [I x8.Pc, L i5.1 x8.Regs i5.2.1, L i5.2.2.1 x8.Mem i5.2.2.2.1, L i5.2.2.2.2.1 x8.Stack i5.2.2.2.2.2.1, I x8.In, L i5.2.2.2.2.2.2.1 x8.Out i5.2.2.2.2.2.2.2.1, I x8.Code, I x8.Steps, L i5.2.2.2.2.2.2.2.2.1 x8.Cond i5.2.2.2.2.2.2.2.2.2.1, L i5.2.2.2.2.2.2.2.2.2.2.1 x8.Turns i5.2.2.2.2.2.2.2.2.2.2.2], sl3 (L i6.1 x9 i6.2) x9, sl91 (L i21.1 x11.Code i21.2) x11.Code]
 refine Bd h fun x35 hx35 h => Ca [] c (laws_toIntS_ok hx35) ⟨.f 7, trivial⟩ Tryz.call11 fun i27 _ _ c => ?_
 refine Bd h fun x36 hx36 h => Ca [] c (laws_eqIntS_ok hx36) ⟨.g 7, .g 9, trivial⟩ Tryz.call15 fun _ _ _ c => ?_
 refine Fp [] 1 c fun _ c => E0 (I0 c h (fun h => ?_) fun h => ?_)
 refine P0 [] c fun _ c => ?_
 obtain rfl := sj h
 exact wp_ret (tr (Rt c () [] []))
 refine K0 (P0 [] c fun _ c => ?_)
 obtain rfl := sj h
 exact wp_ret (Rt c () [] [])
 refine op_of _ rfl rfl ?_
 refine Fp [(0, 1)] 1 c fun _ c => E0 (any_node (fuel := 4) [1] (by kernel_rfl) (by simp) ⟨?_, trivial⟩)
 refine op_of _ rfl rfl ?_
 refine Ca [] c (laws_toProgram_ok hx3) ⟨.f 0, trivial⟩ Tryz.call9 fun i28 _ _ c => ?_
 refine E0 (any_node (fuel := 3) [3] (by kernel_rfl) (by simp) ⟨?_, trivial⟩)
 refine op_of _ rfl rfl ?_
 replace c := c.gm [BX b1 24 [I p0.W, I p0.Mem, I p0.In, L ga0 p0.Code gc1], BX b2 28 [I p1.Pc, L ga2 p1.Regs gc3, L ga4 p1.Mem gc5, L ga6 p1.Stack gc7, I p1.In, L ga8 p1.Out gc9, I p1.Code, I p1.Steps, L ga10 p1.Cond gc11, L ga12 p1.Turns gc13], sl91 (L i28.1 x3.Code i28.2) x3.Code]
 refine Cf [] c (laws_toPath_ok hx4) ⟨.f 1, .f 2, .f 3, .f 4, .f 5, .f 6, trivial⟩ Tryz.call10 fun i29 _ _ c => ?_
 refine E0 (any_node (fuel := 2) [5] (by kernel_rfl) (by simp) ⟨?_, trivial⟩)
 refine op_of _ rfl rfl ?_
 refine Ca [] c (laws_toIntS_ok hx5) ⟨.f 7, trivial⟩ Tryz.call11 fun i30 _ _ c => ?_
 refine E0 (any_node (fuel := 1) [6] (by kernel_rfl) (by simp) ⟨?_, trivial⟩)
 refine op_of _ rfl rfl ?_
 refine Ca [] c (spec_HoldsPath_ok hx6) ⟨.g 2, .f 9, .f 10, .f 11, .f 12, .f 13, .f 14, .g 3, trivial⟩ Tryz.call8 fun _ _ _ c => ?_
 refine E0 (any_node (fuel := 0) [7] (by kernel_rfl) (by simp) ⟨?_, trivial⟩)
 refine op_of _ rfl rfl ?_
 refine Fp [] 1 c fun _ c => E0 (any_leaf (by kernel_rfl) (tn ?_))
 refine T0 (Fp [(0, 0)] 1 c fun _ c => Bd h fun x37 hx37 h => Ca [] c (laws_toProgram_ok hx37) ⟨.f 0, trivial⟩ Tryz.call9 fun i31 _ _ c => ?_)
 refine Eal [I 0, I 0, I 0, L none ([] : List D.Ins) 0] c fun b5 _ _ c => ?_
 replace c := c.gm [BX b1 24 [I p0.W, I p0.Mem, I p0.In, L ga0 p0.Code gc1], BX b2 28 [I p1.Pc, L ga2 p1.Regs gc3, L ga4 p1.Mem gc5, L ga6 p1.Stack gc7, I p1.In, L ga8 p1.Out gc9, I p1.Code, I p1.Steps, L ga10 p1.Cond gc11, L ga12 p1.Turns gc13], sl91 (L i28.1 x3.Code i28.2) x3.Code, sl3 (L i30.1 x5 i30.2) x5, sl91 (L i31.1 x37.Code i31.2) x37.Code, BX b5 34 [I 0, I 0, I 0, L none ([] : List D.Ins) 0]]
 refine Ess 5 [I x37.W, I x37.Mem, I x37.In, L i31.1 x37.Code i31.2] c fun _ c => ?_
 refine E0 (T0 (Fp [(0, 1)] 1 c fun _ c => Bd h fun x38 hx38 h => Cf [] c (laws_toPath_ok hx38) ⟨.f 1, .f 2, .f 3, .f 4, .f 5, .f 6, trivial⟩ Tryz.call10 fun i32 _ _ c => ?_))
 refine Eal [I 0, L none ([] : List D.Term) 0, L none ([] : List D.Term) 0, L none ([] : List Int) 0, I 0, L none ([] : List D.Term) 0, I 0, I 0, L none ([] : List D.Term) 0, L none ([] : List Int) 0] c fun b6 _ _ c => ?_
 refine Ess 6 [I x38.Pc, L i32.1 x38.Regs i32.2.1, L i32.2.2.1 x38.Mem i32.2.2.2.1, L i32.2.2.2.2.1 x38.Stack i32.2.2.2.2.2.1, I x38.In, L i32.2.2.2.2.2.2.1 x38.Out i32.2.2.2.2.2.2.2.1, I x38.Code, I x38.Steps, L i32.2.2.2.2.2.2.2.2.1 x38.Cond i32.2.2.2.2.2.2.2.2.2.1, L i32.2.2.2.2.2.2.2.2.2.2.1 x38.Turns i32.2.2.2.2.2.2.2.2.2.2.2] c fun _ c => ?_
 refine E0 (T0 (Fp [] 1 c fun _ c => Bd h fun x39 hx39 h => Ca [] c (laws_toIntS_ok hx39) ⟨.f 7, trivial⟩ Tryz.call11 fun i33 _ _ c => ?_))
 refine Fp [] 1 c fun _ c => E0 (T0 (Fp [(0, 2), (1, 3)] 3 c fun _ c => ?_))
 replace c := c.gm [BX b1 24 [I p0.W, I p0.Mem, I p0.In, L ga0 p0.Code gc1], BX b2 28 [I p1.Pc, L ga2 p1.Regs gc3, L ga4 p1.Mem gc5, L ga6 p1.Stack gc7, I p1.In, L ga8 p1.Out gc9, I p1.Code, I p1.Steps, L ga10 p1.Cond gc11, L ga12 p1.Turns gc13], sl91 (L i28.1 x3.Code i28.2) x3.Code, sl3 (L i30.1 x5 i30.2) x5, sl91 (L i31.1 x37.Code i31.2) x37.Code, BX b5 34 [I x37.W, I x37.Mem, I x37.In, L i31.1 x37.Code i31.2], BX b6 38 [I x38.Pc, L i32.1 x38.Regs i32.2.1, L i32.2.2.1 x38.Mem i32.2.2.2.1, L i32.2.2.2.2.1 x38.Stack i32.2.2.2.2.2.1, I x38.In, L i32.2.2.2.2.2.2.1 x38.Out i32.2.2.2.2.2.2.2.1, I x38.Code, I x38.Steps, L i32.2.2.2.2.2.2.2.2.1 x38.Cond i32.2.2.2.2.2.2.2.2.2.1, L i32.2.2.2.2.2.2.2.2.2.2.1 x38.Turns i32.2.2.2.2.2.2.2.2.2.2.2], sl3 (L i33.1 x39 i33.2) x39]
 refine Bd h fun x40 hx40 h => Ca [] c (impl_HoldsPath_ok hx40) ⟨.g 4, .f 15, .f 16, .f 17, .f 18, .f 19, .f 20, .g 7, .f 8, trivial⟩ Tryz.call12 fun _ _ _ c => ?_
 refine Fp [] 1 c fun _ c => E0 (S0 (P0 [] c fun _ c => I0 c h (fun h => ?_) fun h => ?_))
 refine P0 [] c fun _ c => ?_
 obtain rfl := sj h
 exact wp_ret (tr (Rt c () [] []))
 refine K0 (S0 (Bd h fun x41 hx41 h => Bd h fun x42 hx42 h => S0 (As mix c fun _ c => any_node (fuel := 4) [0, 1] (by kernel_rfl) (by simp) ⟨?_, ?_, trivial⟩)))
 refine op_of _ rfl rfl ?_
 refine Fp [(0, 2)] 1 c fun _ c => E0 (any_node (fuel := 3) [1] (by kernel_rfl) (by simp) ⟨?_, trivial⟩)
 refine op_of _ rfl rfl ?_
 refine Fp [(0, 0)] 1 c fun _ c => E0 (any_node (fuel := 2) [2] (by kernel_rfl) (by simp) ⟨?_, trivial⟩)
 refine op_of _ rfl rfl ?_
 refine Ca [] c (laws_toProgram_ok hx41) ⟨.f 0, trivial⟩ Tryz.call9 fun i34 _ _ c => ?_
 refine E0 (any_node (fuel := 1) [3] (by kernel_rfl) (by simp) ⟨?_, trivial⟩)
 refine op_of _ rfl rfl ?_
 refine Ca [] c (laws_eqProgram_ok hx42) ⟨.g 4, .g 8, trivial⟩ Tryz.call13 fun _ _ _ c => ?_
 refine E0 (any_node (fuel := 0) [4] (by kernel_rfl) (by simp) ⟨?_, trivial⟩)
 refine op_of _ rfl rfl ?_
 refine Fp [] 1 c fun _ c => E0 (any_leaf (by kernel_rfl) (tn ?_))
 refine I0 c h (fun h => ?_) fun h => ?_
 refine P0 [] c fun _ c => ?_
 obtain rfl := sj h
 exact wp_ret (tr (Rt c () [] []))
 refine K0 (S0 (Bd h fun x43 hx43 h => Bd h fun x44 hx44 h => S0 (As mix c fun _ c => any_node (fuel := 4) [0, 1] (by kernel_rfl) (by simp) ⟨?_, ?_, trivial⟩)))
 refine op_of _ rfl rfl ?_
 refine Fp [(0, 3)] 1 c fun _ c => E0 (any_node (fuel := 3) [1] (by kernel_rfl) (by simp) ⟨?_, trivial⟩)
 refine op_of _ rfl rfl ?_
 refine Fp [(0, 1)] 1 c fun _ c => E0 (any_node (fuel := 2) [2] (by kernel_rfl) (by simp) ⟨?_, trivial⟩)
 refine op_of _ rfl rfl ?_
 refine Cf [] c (laws_toPath_ok hx43) ⟨.f 1, .f 2, .f 3, .f 4, .f 5, .f 6, trivial⟩ Tryz.call10 fun i35 _ _ c => ?_
 refine E0 (any_node (fuel := 1) [3] (by kernel_rfl) (by simp) ⟨?_, trivial⟩)
 refine op_of _ rfl rfl ?_
 refine Ca [] c (laws_eqPath_ok hx44) ⟨.f 15, .f 16, .f 17, .f 18, .f 19, .f 20, .f 21, .f 22, .f 23, .f 24, .f 25, .f 26, trivial⟩ Tryz.call14 fun _ _ _ c => ?_
 refine E0 (any_node (fuel := 0) [4] (by kernel_rfl) (by simp) ⟨?_, trivial⟩)
 refine op_of _ rfl rfl ?_
 refine Fp [] 1 c fun _ c => E0 (any_leaf (by kernel_rfl) (tn ?_))
 refine I0 c h (fun h => ?_) fun h => ?_
 refine P0 [] c fun _ c => ?_
 obtain rfl := sj h
 exact wp_ret (tr (Rt c () [] []))
 refine K0 (S0 (T0 (Fp [] 2 c fun _ c => ?_)))
 replace c := c.gm [BX b1 24 [I p0.W, I p0.Mem, I p0.In, L ga0 p0.Code gc1], BX b2 28 [I p1.Pc, L ga2 p1.Regs gc3, L ga4 p1.Mem gc5, L ga6 p1.Stack gc7, I p1.In, L ga8 p1.Out gc9, I p1.Code, I p1.Steps, L ga10 p1.Cond gc11, L ga12 p1.Turns gc13], sl91 (L i28.1 x3.Code i28.2) x3.Code, sl3 (L i30.1 x5 i30.2) x5, sl91 (L i31.1 x37.Code i31.2) x37.Code, BX b5 34 [I x37.W, I x37.Mem, I x37.In, L i31.1 x37.Code i31.2], BX b6 38 [I x38.Pc, L i32.1 x38.Regs i32.2.1, L i32.2.2.1 x38.Mem i32.2.2.2.1, L i32.2.2.2.2.1 x38.Stack i32.2.2.2.2.2.1, I x38.In, L i32.2.2.2.2.2.2.1 x38.Out i32.2.2.2.2.2.2.2.1, I x38.Code, I x38.Steps, L i32.2.2.2.2.2.2.2.2.1 x38.Cond i32.2.2.2.2.2.2.2.2.2.1, L i32.2.2.2.2.2.2.2.2.2.2.1 x38.Turns i32.2.2.2.2.2.2.2.2.2.2.2], sl3 (L i33.1 x39 i33.2) x39, sl91 (L i34.1 x41.Code i34.2) x41.Code]
 refine Bd h fun x45 hx45 h => Ca [] c (laws_toIntS_ok hx45) ⟨.f 7, trivial⟩ Tryz.call11 fun i36 _ _ c => ?_
 refine Bd h fun x46 hx46 h => Ca [] c (laws_eqIntS_ok hx46) ⟨.g 7, .g 9, trivial⟩ Tryz.call15 fun _ _ _ c => ?_
 refine Fp [] 1 c fun _ c => E0 (I0 c h (fun h => ?_) fun h => ?_)
 refine P0 [] c fun _ c => ?_
 obtain rfl := sj h
 exact wp_ret (tr (Rt c () [] []))
 refine K0 (P0 [] c fun _ c => ?_)
 obtain rfl := sj h
 exact wp_ret (Rt c () [] [])
 refine op_of _ rfl rfl ?_
 refine Fp [(0, 1)] 1 c fun _ c => E0 (any_node (fuel := 3) [0, 2] (by kernel_rfl) (by simp) ⟨?_, ?_, trivial⟩)
 refine op_of _ rfl rfl ?_
 refine Fp [(0, 3)] 1 c fun _ c => E0 (any_node (fuel := 2) [2] (by kernel_rfl) (by simp) ⟨?_, trivial⟩)
 refine op_of _ rfl rfl ?_
 refine Cf [] c (laws_toPath_ok hx43) ⟨.f 1, .f 2, .f 3, .f 4, .f 5, .f 6, trivial⟩ Tryz.call10 fun i37 _ _ c => ?_
 refine E0 (any_node (fuel := 1) [3] (by kernel_rfl) (by simp) ⟨?_, trivial⟩)
 refine op_of _ rfl rfl ?_
 refine Ca [] c (laws_eqPath_ok hx44) ⟨.f 15, .f 16, .f 17, .f 18, .f 19, .f 20, .f 21, .f 22, .f 23, .f 24, .f 25, .f 26, trivial⟩ Tryz.call14 fun _ _ _ c => ?_
 refine E0 (any_node (fuel := 0) [4] (by kernel_rfl) (by simp) ⟨?_, trivial⟩)
 refine op_of _ rfl rfl ?_
 refine Fp [] 1 c fun _ c => E0 (any_leaf (by kernel_rfl) (tn ?_))
 refine I0 c h (fun h => ?_) fun h => ?_
 refine P0 [] c fun _ c => ?_
 obtain rfl := sj h
 exact wp_ret (tr (Rt c () [] []))
 refine K0 (S0 (T0 (Fp [] 2 c fun _ c => ?_)))
 replace c := c.gm [BX b1 24 [I p0.W, I p0.Mem, I p0.In, L ga0 p0.Code gc1], BX b2 28 [I p1.Pc, L ga2 p1.Regs gc3, L ga4 p1.Mem gc5, L ga6 p1.Stack gc7, I p1.In, L ga8 p1.Out gc9, I p1.Code, I p1.Steps, L ga10 p1.Cond gc11, L ga12 p1.Turns gc13], sl91 (L i28.1 x3.Code i28.2) x3.Code, sl3 (L i30.1 x5 i30.2) x5, sl91 (L i31.1 x37.Code i31.2) x37.Code, BX b5 34 [I x37.W, I x37.Mem, I x37.In, L i31.1 x37.Code i31.2], BX b6 38 [I x38.Pc, L i32.1 x38.Regs i32.2.1, L i32.2.2.1 x38.Mem i32.2.2.2.1, L i32.2.2.2.2.1 x38.Stack i32.2.2.2.2.2.1, I x38.In, L i32.2.2.2.2.2.2.1 x38.Out i32.2.2.2.2.2.2.2.1, I x38.Code, I x38.Steps, L i32.2.2.2.2.2.2.2.2.1 x38.Cond i32.2.2.2.2.2.2.2.2.2.1, L i32.2.2.2.2.2.2.2.2.2.2.1 x38.Turns i32.2.2.2.2.2.2.2.2.2.2.2], sl3 (L i33.1 x39 i33.2) x39, sl91 (L i34.1 x41.Code i34.2) x41.Code]
 refine Bd h fun x47 hx47 h => Ca [] c (laws_toIntS_ok hx47) ⟨.f 7, trivial⟩ Tryz.call11 fun i38 _ _ c => ?_
 refine Bd h fun x48 hx48 h => Ca [] c (laws_eqIntS_ok hx48) ⟨.g 7, .g 9, trivial⟩ Tryz.call15 fun _ _ _ c => ?_
 refine Fp [] 1 c fun _ c => E0 (I0 c h (fun h => ?_) fun h => ?_)
 refine P0 [] c fun _ c => ?_
 obtain rfl := sj h
 exact wp_ret (tr (Rt c () [] []))
 refine K0 (P0 [] c fun _ c => ?_)
 obtain rfl := sj h
 exact wp_ret (Rt c () [] [])
 refine op_of _ rfl rfl ?_
 refine Cf [] c (laws_toPath_ok hx43) ⟨.f 1, .f 2, .f 3, .f 4, .f 5, .f 6, trivial⟩ Tryz.call10 fun i39 _ _ c => ?_
 refine E0 (any_node (fuel := 2) [0] (by kernel_rfl) (by simp) ⟨?_, trivial⟩)
 refine op_of _ rfl rfl ?_
 refine Fp [(0, 3)] 1 c fun _ c => E0 (any_node (fuel := 1) [3] (by kernel_rfl) (by simp) ⟨?_, trivial⟩)
 refine op_of _ rfl rfl ?_
 refine Ca [] c (laws_eqPath_ok hx44) ⟨.f 15, .f 16, .f 17, .f 18, .f 19, .f 20, .f 21, .f 22, .f 23, .f 24, .f 25, .f 26, trivial⟩ Tryz.call14 fun _ _ _ c => ?_
 refine E0 (any_node (fuel := 0) [4] (by kernel_rfl) (by simp) ⟨?_, trivial⟩)
 refine op_of _ rfl rfl ?_
 refine Fp [] 1 c fun _ c => E0 (any_leaf (by kernel_rfl) (tn ?_))
 refine I0 c h (fun h => ?_) fun h => ?_
 refine P0 [] c fun _ c => ?_
 obtain rfl := sj h
 exact wp_ret (tr (Rt c () [] []))
 refine K0 (S0 (T0 (Fp [] 2 c fun _ c => ?_)))
 replace c := c.gm [BX b1 24 [I p0.W, I p0.Mem, I p0.In, L ga0 p0.Code gc1], BX b2 28 [I p1.Pc, L ga2 p1.Regs gc3, L ga4 p1.Mem gc5, L ga6 p1.Stack gc7, I p1.In, L ga8 p1.Out gc9, I p1.Code, I p1.Steps, L ga10 p1.Cond gc11, L ga12 p1.Turns gc13], sl91 (L i28.1 x3.Code i28.2) x3.Code, sl3 (L i30.1 x5 i30.2) x5, sl91 (L i31.1 x37.Code i31.2) x37.Code, BX b5 34 [I x37.W, I x37.Mem, I x37.In, L i31.1 x37.Code i31.2], BX b6 38 [I x38.Pc, L i32.1 x38.Regs i32.2.1, L i32.2.2.1 x38.Mem i32.2.2.2.1, L i32.2.2.2.2.1 x38.Stack i32.2.2.2.2.2.1, I x38.In, L i32.2.2.2.2.2.2.1 x38.Out i32.2.2.2.2.2.2.2.1, I x38.Code, I x38.Steps, L i32.2.2.2.2.2.2.2.2.1 x38.Cond i32.2.2.2.2.2.2.2.2.2.1, L i32.2.2.2.2.2.2.2.2.2.2.1 x38.Turns i32.2.2.2.2.2.2.2.2.2.2.2], sl3 (L i33.1 x39 i33.2) x39, sl91 (L i34.1 x41.Code i34.2) x41.Code]
 refine Bd h fun x49 hx49 h => Ca [] c (laws_toIntS_ok hx49) ⟨.f 7, trivial⟩ Tryz.call11 fun i40 _ _ c => ?_
 refine Bd h fun x50 hx50 h => Ca [] c (laws_eqIntS_ok hx50) ⟨.g 7, .g 9, trivial⟩ Tryz.call15 fun _ _ _ c => ?_
 refine Fp [] 1 c fun _ c => E0 (I0 c h (fun h => ?_) fun h => ?_)
 refine P0 [] c fun _ c => ?_
 obtain rfl := sj h
 exact wp_ret (tr (Rt c () [] []))
 refine K0 (P0 [] c fun _ c => ?_)
 obtain rfl := sj h
 exact wp_ret (Rt c () [] [])
 refine op_of _ rfl rfl ?_
 refine Fp [(0, 0)] 1 c fun _ c => E0 (any_node (fuel := 3) [0, 2] (by kernel_rfl) (by simp) ⟨?_, ?_, trivial⟩)
 refine op_of _ rfl rfl ?_
 refine Fp [(0, 2)] 1 c fun _ c => E0 (any_node (fuel := 2) [2] (by kernel_rfl) (by simp) ⟨?_, trivial⟩)
 refine op_of _ rfl rfl ?_
 refine Ca [] c (laws_toProgram_ok hx41) ⟨.f 0, trivial⟩ Tryz.call9 fun i41 _ _ c => ?_
 refine E0 (any_node (fuel := 1) [3] (by kernel_rfl) (by simp) ⟨?_, trivial⟩)
 refine op_of _ rfl rfl ?_
 refine Ca [] c (laws_eqProgram_ok hx42) ⟨.g 4, .g 8, trivial⟩ Tryz.call13 fun _ _ _ c => ?_
 refine E0 (any_node (fuel := 0) [4] (by kernel_rfl) (by simp) ⟨?_, trivial⟩)
 refine op_of _ rfl rfl ?_
 refine Fp [] 1 c fun _ c => E0 (any_leaf (by kernel_rfl) (tn ?_))
 refine I0 c h (fun h => ?_) fun h => ?_
 refine P0 [] c fun _ c => ?_
 obtain rfl := sj h
 exact wp_ret (tr (Rt c () [] []))
 refine K0 (S0 (Bd h fun x51 hx51 h => Bd h fun x52 hx52 h => S0 (As mix c fun _ c => any_node (fuel := 4) [0, 1] (by kernel_rfl) (by simp) ⟨?_, ?_, trivial⟩)))
 refine op_of _ rfl rfl ?_
 refine Fp [(0, 3)] 1 c fun _ c => E0 (any_node (fuel := 3) [1] (by kernel_rfl) (by simp) ⟨?_, trivial⟩)
 refine op_of _ rfl rfl ?_
 refine Fp [(0, 1)] 1 c fun _ c => E0 (any_node (fuel := 2) [2] (by kernel_rfl) (by simp) ⟨?_, trivial⟩)
 refine op_of _ rfl rfl ?_
 refine Cf [] c (laws_toPath_ok hx51) ⟨.f 1, .f 2, .f 3, .f 4, .f 5, .f 6, trivial⟩ Tryz.call10 fun i42 _ _ c => ?_
 refine E0 (any_node (fuel := 1) [3] (by kernel_rfl) (by simp) ⟨?_, trivial⟩)
 refine op_of _ rfl rfl ?_
 refine Ca [] c (laws_eqPath_ok hx52) ⟨.f 15, .f 16, .f 17, .f 18, .f 19, .f 20, .f 21, .f 22, .f 23, .f 24, .f 25, .f 26, trivial⟩ Tryz.call14 fun _ _ _ c => ?_
 refine E0 (any_node (fuel := 0) [4] (by kernel_rfl) (by simp) ⟨?_, trivial⟩)
 refine op_of _ rfl rfl ?_
 refine Fp [] 1 c fun _ c => E0 (any_leaf (by kernel_rfl) (tn ?_))
 refine I0 c h (fun h => ?_) fun h => ?_
 refine P0 [] c fun _ c => ?_
 obtain rfl := sj h
 exact wp_ret (tr (Rt c () [] []))
 refine K0 (S0 (T0 (Fp [] 2 c fun _ c => ?_)))
 replace c := c.gm [BX b1 24 [I p0.W, I p0.Mem, I p0.In, L ga0 p0.Code gc1], BX b2 28 [I p1.Pc, L ga2 p1.Regs gc3, L ga4 p1.Mem gc5, L ga6 p1.Stack gc7, I p1.In, L ga8 p1.Out gc9, I p1.Code, I p1.Steps, L ga10 p1.Cond gc11, L ga12 p1.Turns gc13], sl91 (L i28.1 x3.Code i28.2) x3.Code, sl3 (L i30.1 x5 i30.2) x5, sl91 (L i31.1 x37.Code i31.2) x37.Code, BX b5 34 [I x37.W, I x37.Mem, I x37.In, L i31.1 x37.Code i31.2], BX b6 38 [I x38.Pc, L i32.1 x38.Regs i32.2.1, L i32.2.2.1 x38.Mem i32.2.2.2.1, L i32.2.2.2.2.1 x38.Stack i32.2.2.2.2.2.1, I x38.In, L i32.2.2.2.2.2.2.1 x38.Out i32.2.2.2.2.2.2.2.1, I x38.Code, I x38.Steps, L i32.2.2.2.2.2.2.2.2.1 x38.Cond i32.2.2.2.2.2.2.2.2.2.1, L i32.2.2.2.2.2.2.2.2.2.2.1 x38.Turns i32.2.2.2.2.2.2.2.2.2.2.2], sl3 (L i33.1 x39 i33.2) x39, sl91 (L i41.1 x41.Code i41.2) x41.Code]
 refine Bd h fun x53 hx53 h => Ca [] c (laws_toIntS_ok hx53) ⟨.f 7, trivial⟩ Tryz.call11 fun i43 _ _ c => ?_
 refine Bd h fun x54 hx54 h => Ca [] c (laws_eqIntS_ok hx54) ⟨.g 7, .g 9, trivial⟩ Tryz.call15 fun _ _ _ c => ?_
 refine Fp [] 1 c fun _ c => E0 (I0 c h (fun h => ?_) fun h => ?_)
 refine P0 [] c fun _ c => ?_
 obtain rfl := sj h
 exact wp_ret (tr (Rt c () [] []))
 refine K0 (P0 [] c fun _ c => ?_)
 obtain rfl := sj h
 exact wp_ret (Rt c () [] [])
 refine op_of _ rfl rfl ?_
 refine Fp [(0, 1)] 1 c fun _ c => E0 (any_node (fuel := 3) [0, 2] (by kernel_rfl) (by simp) ⟨?_, ?_, trivial⟩)
 refine op_of _ rfl rfl ?_
 refine Fp [(0, 3)] 1 c fun _ c => E0 (any_node (fuel := 2) [2] (by kernel_rfl) (by simp) ⟨?_, trivial⟩)
 refine op_of _ rfl rfl ?_
 refine Cf [] c (laws_toPath_ok hx51) ⟨.f 1, .f 2, .f 3, .f 4, .f 5, .f 6, trivial⟩ Tryz.call10 fun i44 _ _ c => ?_
 refine E0 (any_node (fuel := 1) [3] (by kernel_rfl) (by simp) ⟨?_, trivial⟩)
 refine op_of _ rfl rfl ?_
 refine Ca [] c (laws_eqPath_ok hx52) ⟨.f 15, .f 16, .f 17, .f 18, .f 19, .f 20, .f 21, .f 22, .f 23, .f 24, .f 25, .f 26, trivial⟩ Tryz.call14 fun _ _ _ c => ?_
 refine E0 (any_node (fuel := 0) [4] (by kernel_rfl) (by simp) ⟨?_, trivial⟩)
 refine op_of _ rfl rfl ?_
 refine Fp [] 1 c fun _ c => E0 (any_leaf (by kernel_rfl) (tn ?_))
 refine I0 c h (fun h => ?_) fun h => ?_
 refine P0 [] c fun _ c => ?_
 obtain rfl := sj h
 exact wp_ret (tr (Rt c () [] []))
 refine K0 (S0 (T0 (Fp [] 2 c fun _ c => ?_)))
 replace c := c.gm [BX b1 24 [I p0.W, I p0.Mem, I p0.In, L ga0 p0.Code gc1], BX b2 28 [I p1.Pc, L ga2 p1.Regs gc3, L ga4 p1.Mem gc5, L ga6 p1.Stack gc7, I p1.In, L ga8 p1.Out gc9, I p1.Code, I p1.Steps, L ga10 p1.Cond gc11, L ga12 p1.Turns gc13], sl91 (L i28.1 x3.Code i28.2) x3.Code, sl3 (L i30.1 x5 i30.2) x5, sl91 (L i31.1 x37.Code i31.2) x37.Code, BX b5 34 [I x37.W, I x37.Mem, I x37.In, L i31.1 x37.Code i31.2], BX b6 38 [I x38.Pc, L i32.1 x38.Regs i32.2.1, L i32.2.2.1 x38.Mem i32.2.2.2.1, L i32.2.2.2.2.1 x38.Stack i32.2.2.2.2.2.1, I x38.In, L i32.2.2.2.2.2.2.1 x38.Out i32.2.2.2.2.2.2.2.1, I x38.Code, I x38.Steps, L i32.2.2.2.2.2.2.2.2.1 x38.Cond i32.2.2.2.2.2.2.2.2.2.1, L i32.2.2.2.2.2.2.2.2.2.2.1 x38.Turns i32.2.2.2.2.2.2.2.2.2.2.2], sl3 (L i33.1 x39 i33.2) x39, sl91 (L i41.1 x41.Code i41.2) x41.Code]
 refine Bd h fun x55 hx55 h => Ca [] c (laws_toIntS_ok hx55) ⟨.f 7, trivial⟩ Tryz.call11 fun i45 _ _ c => ?_
 refine Bd h fun x56 hx56 h => Ca [] c (laws_eqIntS_ok hx56) ⟨.g 7, .g 9, trivial⟩ Tryz.call15 fun _ _ _ c => ?_
 refine Fp [] 1 c fun _ c => E0 (I0 c h (fun h => ?_) fun h => ?_)
 refine P0 [] c fun _ c => ?_
 obtain rfl := sj h
 exact wp_ret (tr (Rt c () [] []))
 refine K0 (P0 [] c fun _ c => ?_)
 obtain rfl := sj h
 exact wp_ret (Rt c () [] [])
 refine op_of _ rfl rfl ?_
 refine Cf [] c (laws_toPath_ok hx51) ⟨.f 1, .f 2, .f 3, .f 4, .f 5, .f 6, trivial⟩ Tryz.call10 fun i46 _ _ c => ?_
 refine E0 (any_node (fuel := 2) [0] (by kernel_rfl) (by simp) ⟨?_, trivial⟩)
 refine op_of _ rfl rfl ?_
 refine Fp [(0, 3)] 1 c fun _ c => E0 (any_node (fuel := 1) [3] (by kernel_rfl) (by simp) ⟨?_, trivial⟩)
 refine op_of _ rfl rfl ?_
 refine Ca [] c (laws_eqPath_ok hx52) ⟨.f 15, .f 16, .f 17, .f 18, .f 19, .f 20, .f 21, .f 22, .f 23, .f 24, .f 25, .f 26, trivial⟩ Tryz.call14 fun _ _ _ c => ?_
 refine E0 (any_node (fuel := 0) [4] (by kernel_rfl) (by simp) ⟨?_, trivial⟩)
 refine op_of _ rfl rfl ?_
 refine Fp [] 1 c fun _ c => E0 (any_leaf (by kernel_rfl) (tn ?_))
 refine I0 c h (fun h => ?_) fun h => ?_
 refine P0 [] c fun _ c => ?_
 obtain rfl := sj h
 exact wp_ret (tr (Rt c () [] []))
 refine K0 (S0 (T0 (Fp [] 2 c fun _ c => ?_)))
 replace c := c.gm [BX b1 24 [I p0.W, I p0.Mem, I p0.In, L ga0 p0.Code gc1], BX b2 28 [I p1.Pc, L ga2 p1.Regs gc3, L ga4 p1.Mem gc5, L ga6 p1.Stack gc7, I p1.In, L ga8 p1.Out gc9, I p1.Code, I p1.Steps, L ga10 p1.Cond gc11, L ga12 p1.Turns gc13], sl91 (L i28.1 x3.Code i28.2) x3.Code, sl3 (L i30.1 x5 i30.2) x5, sl91 (L i31.1 x37.Code i31.2) x37.Code, BX b5 34 [I x37.W, I x37.Mem, I x37.In, L i31.1 x37.Code i31.2], BX b6 38 [I x38.Pc, L i32.1 x38.Regs i32.2.1, L i32.2.2.1 x38.Mem i32.2.2.2.1, L i32.2.2.2.2.1 x38.Stack i32.2.2.2.2.2.1, I x38.In, L i32.2.2.2.2.2.2.1 x38.Out i32.2.2.2.2.2.2.2.1, I x38.Code, I x38.Steps, L i32.2.2.2.2.2.2.2.2.1 x38.Cond i32.2.2.2.2.2.2.2.2.2.1, L i32.2.2.2.2.2.2.2.2.2.2.1 x38.Turns i32.2.2.2.2.2.2.2.2.2.2.2], sl3 (L i33.1 x39 i33.2) x39, sl91 (L i41.1 x41.Code i41.2) x41.Code]
 refine Bd h fun x57 hx57 h => Ca [] c (laws_toIntS_ok hx57) ⟨.f 7, trivial⟩ Tryz.call11 fun i47 _ _ c => ?_
 refine Bd h fun x58 hx58 h => Ca [] c (laws_eqIntS_ok hx58) ⟨.g 7, .g 9, trivial⟩ Tryz.call15 fun _ _ _ c => ?_
 refine Fp [] 1 c fun _ c => E0 (I0 c h (fun h => ?_) fun h => ?_)
 refine P0 [] c fun _ c => ?_
 obtain rfl := sj h
 exact wp_ret (tr (Rt c () [] []))
 refine K0 (P0 [] c fun _ c => ?_)
 obtain rfl := sj h
 exact wp_ret (Rt c () [] [])
 refine op_of _ rfl rfl ?_
 refine Ca [] c (laws_toProgram_ok hx41) ⟨.f 0, trivial⟩ Tryz.call9 fun i48 _ _ c => ?_
 refine E0 (any_node (fuel := 2) [0] (by kernel_rfl) (by simp) ⟨?_, trivial⟩)
 refine op_of _ rfl rfl ?_
 refine Fp [(0, 2)] 1 c fun _ c => E0 (any_node (fuel := 1) [3] (by kernel_rfl) (by simp) ⟨?_, trivial⟩)
 refine op_of _ rfl rfl ?_
 refine Ca [] c (laws_eqProgram_ok hx42) ⟨.g 4, .g 8, trivial⟩ Tryz.call13 fun _ _ _ c => ?_
 refine E0 (any_node (fuel := 0) [4] (by kernel_rfl) (by simp) ⟨?_, trivial⟩)
 refine op_of _ rfl rfl ?_
 refine Fp [] 1 c fun _ c => E0 (any_leaf (by kernel_rfl) (tn ?_))
 refine I0 c h (fun h => ?_) fun h => ?_
 refine P0 [] c fun _ c => ?_
 obtain rfl := sj h
 exact wp_ret (tr (Rt c () [] []))
 refine K0 (S0 (Bd h fun x59 hx59 h => Bd h fun x60 hx60 h => S0 (As mix c fun _ c => any_node (fuel := 4) [0, 1] (by kernel_rfl) (by simp) ⟨?_, ?_, trivial⟩)))
 refine op_of _ rfl rfl ?_
 refine Fp [(0, 3)] 1 c fun _ c => E0 (any_node (fuel := 3) [1] (by kernel_rfl) (by simp) ⟨?_, trivial⟩)
 refine op_of _ rfl rfl ?_
 refine Fp [(0, 1)] 1 c fun _ c => E0 (any_node (fuel := 2) [2] (by kernel_rfl) (by simp) ⟨?_, trivial⟩)
 refine op_of _ rfl rfl ?_
 refine Cf [] c (laws_toPath_ok hx59) ⟨.f 1, .f 2, .f 3, .f 4, .f 5, .f 6, trivial⟩ Tryz.call10 fun i49 _ _ c => ?_
 refine E0 (any_node (fuel := 1) [3] (by kernel_rfl) (by simp) ⟨?_, trivial⟩)
 refine op_of _ rfl rfl ?_
 refine Ca [] c (laws_eqPath_ok hx60) ⟨.f 15, .f 16, .f 17, .f 18, .f 19, .f 20, .f 21, .f 22, .f 23, .f 24, .f 25, .f 26, trivial⟩ Tryz.call14 fun _ _ _ c => ?_
 refine E0 (any_node (fuel := 0) [4] (by kernel_rfl) (by simp) ⟨?_, trivial⟩)
 refine op_of _ rfl rfl ?_
 refine Fp [] 1 c fun _ c => E0 (any_leaf (by kernel_rfl) (tn ?_))
 refine I0 c h (fun h => ?_) fun h => ?_
 refine P0 [] c fun _ c => ?_
 obtain rfl := sj h
 exact wp_ret (tr (Rt c () [] []))
 refine K0 (S0 (T0 (Fp [] 2 c fun _ c => ?_)))
 replace c := c.gm [BX b1 24 [I p0.W, I p0.Mem, I p0.In, L ga0 p0.Code gc1], BX b2 28 [I p1.Pc, L ga2 p1.Regs gc3, L ga4 p1.Mem gc5, L ga6 p1.Stack gc7, I p1.In, L ga8 p1.Out gc9, I p1.Code, I p1.Steps, L ga10 p1.Cond gc11, L ga12 p1.Turns gc13], sl91 (L i28.1 x3.Code i28.2) x3.Code, sl3 (L i30.1 x5 i30.2) x5, sl91 (L i31.1 x37.Code i31.2) x37.Code, BX b5 34 [I x37.W, I x37.Mem, I x37.In, L i31.1 x37.Code i31.2], BX b6 38 [I x38.Pc, L i32.1 x38.Regs i32.2.1, L i32.2.2.1 x38.Mem i32.2.2.2.1, L i32.2.2.2.2.1 x38.Stack i32.2.2.2.2.2.1, I x38.In, L i32.2.2.2.2.2.2.1 x38.Out i32.2.2.2.2.2.2.2.1, I x38.Code, I x38.Steps, L i32.2.2.2.2.2.2.2.2.1 x38.Cond i32.2.2.2.2.2.2.2.2.2.1, L i32.2.2.2.2.2.2.2.2.2.2.1 x38.Turns i32.2.2.2.2.2.2.2.2.2.2.2], sl3 (L i33.1 x39 i33.2) x39, sl91 (L i48.1 x41.Code i48.2) x41.Code]
 refine Bd h fun x61 hx61 h => Ca [] c (laws_toIntS_ok hx61) ⟨.f 7, trivial⟩ Tryz.call11 fun i50 _ _ c => ?_
 refine Bd h fun x62 hx62 h => Ca [] c (laws_eqIntS_ok hx62) ⟨.g 7, .g 9, trivial⟩ Tryz.call15 fun _ _ _ c => ?_
 refine Fp [] 1 c fun _ c => E0 (I0 c h (fun h => ?_) fun h => ?_)
 refine P0 [] c fun _ c => ?_
 obtain rfl := sj h
 exact wp_ret (tr (Rt c () [] []))
 refine K0 (P0 [] c fun _ c => ?_)
 obtain rfl := sj h
 exact wp_ret (Rt c () [] [])
 refine op_of _ rfl rfl ?_
 refine Fp [(0, 1)] 1 c fun _ c => E0 (any_node (fuel := 3) [0, 2] (by kernel_rfl) (by simp) ⟨?_, ?_, trivial⟩)
 refine op_of _ rfl rfl ?_
 refine Fp [(0, 3)] 1 c fun _ c => E0 (any_node (fuel := 2) [2] (by kernel_rfl) (by simp) ⟨?_, trivial⟩)
 refine op_of _ rfl rfl ?_
 refine Cf [] c (laws_toPath_ok hx59) ⟨.f 1, .f 2, .f 3, .f 4, .f 5, .f 6, trivial⟩ Tryz.call10 fun i51 _ _ c => ?_
 refine E0 (any_node (fuel := 1) [3] (by kernel_rfl) (by simp) ⟨?_, trivial⟩)
 refine op_of _ rfl rfl ?_
 refine Ca [] c (laws_eqPath_ok hx60) ⟨.f 15, .f 16, .f 17, .f 18, .f 19, .f 20, .f 21, .f 22, .f 23, .f 24, .f 25, .f 26, trivial⟩ Tryz.call14 fun _ _ _ c => ?_
 refine E0 (any_node (fuel := 0) [4] (by kernel_rfl) (by simp) ⟨?_, trivial⟩)
 refine op_of _ rfl rfl ?_
 refine Fp [] 1 c fun _ c => E0 (any_leaf (by kernel_rfl) (tn ?_))
 refine I0 c h (fun h => ?_) fun h => ?_
 refine P0 [] c fun _ c => ?_
 obtain rfl := sj h
 exact wp_ret (tr (Rt c () [] []))
 refine K0 (S0 (T0 (Fp [] 2 c fun _ c => ?_)))
 replace c := c.gm [BX b1 24 [I p0.W, I p0.Mem, I p0.In, L ga0 p0.Code gc1], BX b2 28 [I p1.Pc, L ga2 p1.Regs gc3, L ga4 p1.Mem gc5, L ga6 p1.Stack gc7, I p1.In, L ga8 p1.Out gc9, I p1.Code, I p1.Steps, L ga10 p1.Cond gc11, L ga12 p1.Turns gc13], sl91 (L i28.1 x3.Code i28.2) x3.Code, sl3 (L i30.1 x5 i30.2) x5, sl91 (L i31.1 x37.Code i31.2) x37.Code, BX b5 34 [I x37.W, I x37.Mem, I x37.In, L i31.1 x37.Code i31.2], BX b6 38 [I x38.Pc, L i32.1 x38.Regs i32.2.1, L i32.2.2.1 x38.Mem i32.2.2.2.1, L i32.2.2.2.2.1 x38.Stack i32.2.2.2.2.2.1, I x38.In, L i32.2.2.2.2.2.2.1 x38.Out i32.2.2.2.2.2.2.2.1, I x38.Code, I x38.Steps, L i32.2.2.2.2.2.2.2.2.1 x38.Cond i32.2.2.2.2.2.2.2.2.2.1, L i32.2.2.2.2.2.2.2.2.2.2.1 x38.Turns i32.2.2.2.2.2.2.2.2.2.2.2], sl3 (L i33.1 x39 i33.2) x39, sl91 (L i48.1 x41.Code i48.2) x41.Code]
 refine Bd h fun x63 hx63 h => Ca [] c (laws_toIntS_ok hx63) ⟨.f 7, trivial⟩ Tryz.call11 fun i52 _ _ c => ?_
 refine Bd h fun x64 hx64 h => Ca [] c (laws_eqIntS_ok hx64) ⟨.g 7, .g 9, trivial⟩ Tryz.call15 fun _ _ _ c => ?_
 refine Fp [] 1 c fun _ c => E0 (I0 c h (fun h => ?_) fun h => ?_)
 refine P0 [] c fun _ c => ?_
 obtain rfl := sj h
 exact wp_ret (tr (Rt c () [] []))
 refine K0 (P0 [] c fun _ c => ?_)
 obtain rfl := sj h
 exact wp_ret (Rt c () [] [])
 refine op_of _ rfl rfl ?_
 refine Cf [] c (laws_toPath_ok hx59) ⟨.f 1, .f 2, .f 3, .f 4, .f 5, .f 6, trivial⟩ Tryz.call10 fun i53 _ _ c => ?_
 refine E0 (any_node (fuel := 2) [0] (by kernel_rfl) (by simp) ⟨?_, trivial⟩)
 refine op_of _ rfl rfl ?_
 refine Fp [(0, 3)] 1 c fun _ c => E0 (any_node (fuel := 1) [3] (by kernel_rfl) (by simp) ⟨?_, trivial⟩)
 refine op_of _ rfl rfl ?_
 refine Ca [] c (laws_eqPath_ok hx60) ⟨.f 15, .f 16, .f 17, .f 18, .f 19, .f 20, .f 21, .f 22, .f 23, .f 24, .f 25, .f 26, trivial⟩ Tryz.call14 fun _ _ _ c => ?_
 refine E0 (any_node (fuel := 0) [4] (by kernel_rfl) (by simp) ⟨?_, trivial⟩)
 refine op_of _ rfl rfl ?_
 refine Fp [] 1 c fun _ c => E0 (any_leaf (by kernel_rfl) (tn ?_))
 refine I0 c h (fun h => ?_) fun h => ?_
 refine P0 [] c fun _ c => ?_
 obtain rfl := sj h
 exact wp_ret (tr (Rt c () [] []))
 refine K0 (S0 (T0 (Fp [] 2 c fun _ c => ?_)))
 replace c := c.gm [BX b1 24 [I p0.W, I p0.Mem, I p0.In, L ga0 p0.Code gc1], BX b2 28 [I p1.Pc, L ga2 p1.Regs gc3, L ga4 p1.Mem gc5, L ga6 p1.Stack gc7, I p1.In, L ga8 p1.Out gc9, I p1.Code, I p1.Steps, L ga10 p1.Cond gc11, L ga12 p1.Turns gc13], sl91 (L i28.1 x3.Code i28.2) x3.Code, sl3 (L i30.1 x5 i30.2) x5, sl91 (L i31.1 x37.Code i31.2) x37.Code, BX b5 34 [I x37.W, I x37.Mem, I x37.In, L i31.1 x37.Code i31.2], BX b6 38 [I x38.Pc, L i32.1 x38.Regs i32.2.1, L i32.2.2.1 x38.Mem i32.2.2.2.1, L i32.2.2.2.2.1 x38.Stack i32.2.2.2.2.2.1, I x38.In, L i32.2.2.2.2.2.2.1 x38.Out i32.2.2.2.2.2.2.2.1, I x38.Code, I x38.Steps, L i32.2.2.2.2.2.2.2.2.1 x38.Cond i32.2.2.2.2.2.2.2.2.2.1, L i32.2.2.2.2.2.2.2.2.2.2.1 x38.Turns i32.2.2.2.2.2.2.2.2.2.2.2], sl3 (L i33.1 x39 i33.2) x39, sl91 (L i48.1 x41.Code i48.2) x41.Code]
 refine Bd h fun x65 hx65 h => Ca [] c (laws_toIntS_ok hx65) ⟨.f 7, trivial⟩ Tryz.call11 fun i54 _ _ c => ?_
 refine Bd h fun x66 hx66 h => Ca [] c (laws_eqIntS_ok hx66) ⟨.g 7, .g 9, trivial⟩ Tryz.call15 fun _ _ _ c => ?_
 refine Fp [] 1 c fun _ c => E0 (I0 c h (fun h => ?_) fun h => ?_)
 refine P0 [] c fun _ c => ?_
 obtain rfl := sj h
 exact wp_ret (tr (Rt c () [] []))
 refine K0 (P0 [] c fun _ c => ?_)
 obtain rfl := sj h
 exact wp_ret (Rt c () [] [])
 refine op_of _ rfl rfl ?_
 refine Fp [(0, 1)] 1 c fun _ c => E0 (any_node (fuel := 5) [0] (by kernel_rfl) (by simp) ⟨?_, trivial⟩)
 refine op_of _ rfl rfl ?_
 refine Fp [(0, 0)] 1 c fun _ c => E0 (any_node (fuel := 4) [1] (by kernel_rfl) (by simp) ⟨?_, trivial⟩)
 refine op_of _ rfl rfl ?_
 refine Ca [] c (laws_toProgram_ok hx3) ⟨.f 0, trivial⟩ Tryz.call9 fun i55 _ _ c => ?_
 refine E0 (any_node (fuel := 3) [3] (by kernel_rfl) (by simp) ⟨?_, trivial⟩)
 refine op_of _ rfl rfl ?_
 replace c := c.gm [BX b1 24 [I p0.W, I p0.Mem, I p0.In, L ga0 p0.Code gc1], BX b2 28 [I p1.Pc, L ga2 p1.Regs gc3, L ga4 p1.Mem gc5, L ga6 p1.Stack gc7, I p1.In, L ga8 p1.Out gc9, I p1.Code, I p1.Steps, L ga10 p1.Cond gc11, L ga12 p1.Turns gc13], sl91 (L i55.1 x3.Code i55.2) x3.Code]
 refine Cf [] c (laws_toPath_ok hx4) ⟨.f 1, .f 2, .f 3, .f 4, .f 5, .f 6, trivial⟩ Tryz.call10 fun i56 _ _ c => ?_
 refine E0 (any_node (fuel := 2) [5] (by kernel_rfl) (by simp) ⟨?_, trivial⟩)
 refine op_of _ rfl rfl ?_
 refine Ca [] c (laws_toIntS_ok hx5) ⟨.f 7, trivial⟩ Tryz.call11 fun i57 _ _ c => ?_
 refine E0 (any_node (fuel := 1) [6] (by kernel_rfl) (by simp) ⟨?_, trivial⟩)
 refine op_of _ rfl rfl ?_
 refine Ca [] c (spec_HoldsPath_ok hx6) ⟨.g 2, .f 9, .f 10, .f 11, .f 12, .f 13, .f 14, .g 3, trivial⟩ Tryz.call8 fun _ _ _ c => ?_
 refine E0 (any_node (fuel := 0) [7] (by kernel_rfl) (by simp) ⟨?_, trivial⟩)
 refine op_of _ rfl rfl ?_
 refine Fp [] 1 c fun _ c => E0 (any_leaf (by kernel_rfl) (tn ?_))
 refine T0 (Fp [(0, 0)] 1 c fun _ c => Bd h fun x67 hx67 h => Ca [] c (laws_toProgram_ok hx67) ⟨.f 0, trivial⟩ Tryz.call9 fun i58 _ _ c => ?_)
 refine Eal [I 0, I 0, I 0, L none ([] : List D.Ins) 0] c fun b7 _ _ c => ?_
 replace c := c.gm [BX b1 24 [I p0.W, I p0.Mem, I p0.In, L ga0 p0.Code gc1], BX b2 28 [I p1.Pc, L ga2 p1.Regs gc3, L ga4 p1.Mem gc5, L ga6 p1.Stack gc7, I p1.In, L ga8 p1.Out gc9, I p1.Code, I p1.Steps, L ga10 p1.Cond gc11, L ga12 p1.Turns gc13], sl91 (L i55.1 x3.Code i55.2) x3.Code, sl3 (L i57.1 x5 i57.2) x5, sl91 (L i58.1 x67.Code i58.2) x67.Code, BX b7 34 [I 0, I 0, I 0, L none ([] : List D.Ins) 0]]
 refine Ess 5 [I x67.W, I x67.Mem, I x67.In, L i58.1 x67.Code i58.2] c fun _ c => ?_
 refine E0 (T0 (Fp [(0, 1)] 1 c fun _ c => Bd h fun x68 hx68 h => Cf [] c (laws_toPath_ok hx68) ⟨.f 1, .f 2, .f 3, .f 4, .f 5, .f 6, trivial⟩ Tryz.call10 fun i59 _ _ c => ?_))
 refine Eal [I 0, L none ([] : List D.Term) 0, L none ([] : List D.Term) 0, L none ([] : List Int) 0, I 0, L none ([] : List D.Term) 0, I 0, I 0, L none ([] : List D.Term) 0, L none ([] : List Int) 0] c fun b8 _ _ c => ?_
 refine Ess 6 [I x68.Pc, L i59.1 x68.Regs i59.2.1, L i59.2.2.1 x68.Mem i59.2.2.2.1, L i59.2.2.2.2.1 x68.Stack i59.2.2.2.2.2.1, I x68.In, L i59.2.2.2.2.2.2.1 x68.Out i59.2.2.2.2.2.2.2.1, I x68.Code, I x68.Steps, L i59.2.2.2.2.2.2.2.2.1 x68.Cond i59.2.2.2.2.2.2.2.2.2.1, L i59.2.2.2.2.2.2.2.2.2.2.1 x68.Turns i59.2.2.2.2.2.2.2.2.2.2.2] c fun _ c => ?_
 refine E0 (T0 (Fp [] 1 c fun _ c => Bd h fun x69 hx69 h => Ca [] c (laws_toIntS_ok hx69) ⟨.f 7, trivial⟩ Tryz.call11 fun i60 _ _ c => ?_))
 refine Fp [] 1 c fun _ c => E0 (T0 (Fp [(0, 2), (1, 3)] 3 c fun _ c => ?_))
 replace c := c.gm [BX b1 24 [I p0.W, I p0.Mem, I p0.In, L ga0 p0.Code gc1], BX b2 28 [I p1.Pc, L ga2 p1.Regs gc3, L ga4 p1.Mem gc5, L ga6 p1.Stack gc7, I p1.In, L ga8 p1.Out gc9, I p1.Code, I p1.Steps, L ga10 p1.Cond gc11, L ga12 p1.Turns gc13], sl91 (L i55.1 x3.Code i55.2) x3.Code, sl3 (L i57.1 x5 i57.2) x5, sl91 (L i58.1 x67.Code i58.2) x67.Code, BX b7 34 [I x67.W, I x67.Mem, I x67.In, L i58.1 x67.Code i58.2], BX b8 38 [I x68.Pc, L i59.1 x68.Regs i59.2.1, L i59.2.2.1 x68.Mem i59.2.2.2.1, L i59.2.2.2.2.1 x68.Stack i59.2.2.2.2.2.1, I x68.In, L i59.2.2.2.2.2.2.1 x68.Out i59.2.2.2.2.2.2.2.1, I x68.Code, I x68.Steps, L i59.2.2.2.2.2.2.2.2.1 x68.Cond i59.2.2.2.2.2.2.2.2.2.1, L i59.2.2.2.2.2.2.2.2.2.2.1 x68.Turns i59.2.2.2.2.2.2.2.2.2.2.2], sl3 (L i60.1 x69 i60.2) x69]
 refine Bd h fun x70 hx70 h => Ca [] c (impl_HoldsPath_ok hx70) ⟨.g 4, .f 15, .f 16, .f 17, .f 18, .f 19, .f 20, .g 7, .f 8, trivial⟩ Tryz.call12 fun _ _ _ c => ?_
 refine Fp [] 1 c fun _ c => E0 (S0 (P0 [] c fun _ c => I0 c h (fun h => ?_) fun h => ?_))
 refine P0 [] c fun _ c => ?_
 obtain rfl := sj h
 exact wp_ret (tr (Rt c () [] []))
 refine K0 (S0 (Bd h fun x71 hx71 h => Bd h fun x72 hx72 h => S0 (As mix c fun _ c => any_node (fuel := 4) [0, 1] (by kernel_rfl) (by simp) ⟨?_, ?_, trivial⟩)))
 refine op_of _ rfl rfl ?_
 refine Fp [(0, 2)] 1 c fun _ c => E0 (any_node (fuel := 3) [1] (by kernel_rfl) (by simp) ⟨?_, trivial⟩)
 refine op_of _ rfl rfl ?_
 refine Fp [(0, 0)] 1 c fun _ c => E0 (any_node (fuel := 2) [2] (by kernel_rfl) (by simp) ⟨?_, trivial⟩)
 refine op_of _ rfl rfl ?_
 refine Ca [] c (laws_toProgram_ok hx71) ⟨.f 0, trivial⟩ Tryz.call9 fun i61 _ _ c => ?_
 refine E0 (any_node (fuel := 1) [3] (by kernel_rfl) (by simp) ⟨?_, trivial⟩)
 refine op_of _ rfl rfl ?_
 refine Ca [] c (laws_eqProgram_ok hx72) ⟨.g 4, .g 8, trivial⟩ Tryz.call13 fun _ _ _ c => ?_
 refine E0 (any_node (fuel := 0) [4] (by kernel_rfl) (by simp) ⟨?_, trivial⟩)
 refine op_of _ rfl rfl ?_
 refine Fp [] 1 c fun _ c => E0 (any_leaf (by kernel_rfl) (tn ?_))
 refine I0 c h (fun h => ?_) fun h => ?_
 refine P0 [] c fun _ c => ?_
 obtain rfl := sj h
 exact wp_ret (tr (Rt c () [] []))
 refine K0 (S0 (Bd h fun x73 hx73 h => Bd h fun x74 hx74 h => S0 (As mix c fun _ c => any_node (fuel := 4) [0, 1] (by kernel_rfl) (by simp) ⟨?_, ?_, trivial⟩)))
 refine op_of _ rfl rfl ?_
 refine Fp [(0, 3)] 1 c fun _ c => E0 (any_node (fuel := 3) [1] (by kernel_rfl) (by simp) ⟨?_, trivial⟩)
 refine op_of _ rfl rfl ?_
 refine Fp [(0, 1)] 1 c fun _ c => E0 (any_node (fuel := 2) [2] (by kernel_rfl) (by simp) ⟨?_, trivial⟩)
 refine op_of _ rfl rfl ?_
 refine Cf [] c (laws_toPath_ok hx73) ⟨.f 1, .f 2, .f 3, .f 4, .f 5, .f 6, trivial⟩ Tryz.call10 fun i62 _ _ c => ?_
 refine E0 (any_node (fuel := 1) [3] (by kernel_rfl) (by simp) ⟨?_, trivial⟩)
 refine op_of _ rfl rfl ?_
 refine Ca [] c (laws_eqPath_ok hx74) ⟨.f 15, .f 16, .f 17, .f 18, .f 19, .f 20, .f 21, .f 22, .f 23, .f 24, .f 25, .f 26, trivial⟩ Tryz.call14 fun _ _ _ c => ?_
 refine E0 (any_node (fuel := 0) [4] (by kernel_rfl) (by simp) ⟨?_, trivial⟩)
 refine op_of _ rfl rfl ?_
 refine Fp [] 1 c fun _ c => E0 (any_leaf (by kernel_rfl) (tn ?_))
 refine I0 c h (fun h => ?_) fun h => ?_
 refine P0 [] c fun _ c => ?_
 obtain rfl := sj h
 exact wp_ret (tr (Rt c () [] []))
 refine K0 (S0 (T0 (Fp [] 2 c fun _ c => ?_)))
 replace c := c.gm [BX b1 24 [I p0.W, I p0.Mem, I p0.In, L ga0 p0.Code gc1], BX b2 28 [I p1.Pc, L ga2 p1.Regs gc3, L ga4 p1.Mem gc5, L ga6 p1.Stack gc7, I p1.In, L ga8 p1.Out gc9, I p1.Code, I p1.Steps, L ga10 p1.Cond gc11, L ga12 p1.Turns gc13], sl91 (L i55.1 x3.Code i55.2) x3.Code, sl3 (L i57.1 x5 i57.2) x5, sl91 (L i58.1 x67.Code i58.2) x67.Code, BX b7 34 [I x67.W, I x67.Mem, I x67.In, L i58.1 x67.Code i58.2], BX b8 38 [I x68.Pc, L i59.1 x68.Regs i59.2.1, L i59.2.2.1 x68.Mem i59.2.2.2.1, L i59.2.2.2.2.1 x68.Stack i59.2.2.2.2.2.1, I x68.In, L i59.2.2.2.2.2.2.1 x68.Out i59.2.2.2.2.2.2.2.1, I x68.Code, I x68.Steps, L i59.2.2.2.2.2.2.2.2.1 x68.Cond i59.2.2.2.2.2.2.2.2.2.1, L i59.2.2.2.2.2.2.2.2.2.2.1 x68.Turns i59.2.2.2.2.2.2.2.2.2.2.2], sl3 (L i60.1 x69 i60.2) x69, sl91 (L i61.1 x71.Code i61.2) x71.Code]
 refine Bd h fun x75 hx75 h => Ca [] c (laws_toIntS_ok hx75) ⟨.f 7, trivial⟩ Tryz.call11 fun i63 _ _ c => ?_
 refine Bd h fun x76 hx76 h => Ca [] c (laws_eqIntS_ok hx76) ⟨.g 7, .g 9, trivial⟩ Tryz.call15 fun _ _ _ c => ?_
 refine Fp [] 1 c fun _ c => E0 (I0 c h (fun h => ?_) fun h => ?_)
 refine P0 [] c fun _ c => ?_
 obtain rfl := sj h
 exact wp_ret (tr (Rt c () [] []))
 refine K0 (P0 [] c fun _ c => ?_)
 obtain rfl := sj h
 exact wp_ret (Rt c () [] [])
 refine op_of _ rfl rfl ?_
 refine Fp [(0, 1)] 1 c fun _ c => E0 (any_node (fuel := 3) [0, 2] (by kernel_rfl) (by simp) ⟨?_, ?_, trivial⟩)
 refine op_of _ rfl rfl ?_
 refine Fp [(0, 3)] 1 c fun _ c => E0 (any_node (fuel := 2) [2] (by kernel_rfl) (by simp) ⟨?_, trivial⟩)
 refine op_of _ rfl rfl ?_
 refine Cf [] c (laws_toPath_ok hx73) ⟨.f 1, .f 2, .f 3, .f 4, .f 5, .f 6, trivial⟩ Tryz.call10 fun i64 _ _ c => ?_
 refine E0 (any_node (fuel := 1) [3] (by kernel_rfl) (by simp) ⟨?_, trivial⟩)
 refine op_of _ rfl rfl ?_
 refine Ca [] c (laws_eqPath_ok hx74) ⟨.f 15, .f 16, .f 17, .f 18, .f 19, .f 20, .f 21, .f 22, .f 23, .f 24, .f 25, .f 26, trivial⟩ Tryz.call14 fun _ _ _ c => ?_
 refine E0 (any_node (fuel := 0) [4] (by kernel_rfl) (by simp) ⟨?_, trivial⟩)
 refine op_of _ rfl rfl ?_
 refine Fp [] 1 c fun _ c => E0 (any_leaf (by kernel_rfl) (tn ?_))
 refine I0 c h (fun h => ?_) fun h => ?_
 refine P0 [] c fun _ c => ?_
 obtain rfl := sj h
 exact wp_ret (tr (Rt c () [] []))
 refine K0 (S0 (T0 (Fp [] 2 c fun _ c => ?_)))
 replace c := c.gm [BX b1 24 [I p0.W, I p0.Mem, I p0.In, L ga0 p0.Code gc1], BX b2 28 [I p1.Pc, L ga2 p1.Regs gc3, L ga4 p1.Mem gc5, L ga6 p1.Stack gc7, I p1.In, L ga8 p1.Out gc9, I p1.Code, I p1.Steps, L ga10 p1.Cond gc11, L ga12 p1.Turns gc13], sl91 (L i55.1 x3.Code i55.2) x3.Code, sl3 (L i57.1 x5 i57.2) x5, sl91 (L i58.1 x67.Code i58.2) x67.Code, BX b7 34 [I x67.W, I x67.Mem, I x67.In, L i58.1 x67.Code i58.2], BX b8 38 [I x68.Pc, L i59.1 x68.Regs i59.2.1, L i59.2.2.1 x68.Mem i59.2.2.2.1, L i59.2.2.2.2.1 x68.Stack i59.2.2.2.2.2.1, I x68.In, L i59.2.2.2.2.2.2.1 x68.Out i59.2.2.2.2.2.2.2.1, I x68.Code, I x68.Steps, L i59.2.2.2.2.2.2.2.2.1 x68.Cond i59.2.2.2.2.2.2.2.2.2.1, L i59.2.2.2.2.2.2.2.2.2.2.1 x68.Turns i59.2.2.2.2.2.2.2.2.2.2.2], sl3 (L i60.1 x69 i60.2) x69, sl91 (L i61.1 x71.Code i61.2) x71.Code]
 refine Bd h fun x77 hx77 h => Ca [] c (laws_toIntS_ok hx77) ⟨.f 7, trivial⟩ Tryz.call11 fun i65 _ _ c => ?_
 refine Bd h fun x78 hx78 h => Ca [] c (laws_eqIntS_ok hx78) ⟨.g 7, .g 9, trivial⟩ Tryz.call15 fun _ _ _ c => ?_
 refine Fp [] 1 c fun _ c => E0 (I0 c h (fun h => ?_) fun h => ?_)
 refine P0 [] c fun _ c => ?_
 obtain rfl := sj h
 exact wp_ret (tr (Rt c () [] []))
 refine K0 (P0 [] c fun _ c => ?_)
 obtain rfl := sj h
 exact wp_ret (Rt c () [] [])
 refine op_of _ rfl rfl ?_
 refine Cf [] c (laws_toPath_ok hx73) ⟨.f 1, .f 2, .f 3, .f 4, .f 5, .f 6, trivial⟩ Tryz.call10 fun i66 _ _ c => ?_
 refine E0 (any_node (fuel := 2) [0] (by kernel_rfl) (by simp) ⟨?_, trivial⟩)
 refine op_of _ rfl rfl ?_
 refine Fp [(0, 3)] 1 c fun _ c => E0 (any_node (fuel := 1) [3] (by kernel_rfl) (by simp) ⟨?_, trivial⟩)
 refine op_of _ rfl rfl ?_
 refine Ca [] c (laws_eqPath_ok hx74) ⟨.f 15, .f 16, .f 17, .f 18, .f 19, .f 20, .f 21, .f 22, .f 23, .f 24, .f 25, .f 26, trivial⟩ Tryz.call14 fun _ _ _ c => ?_
 refine E0 (any_node (fuel := 0) [4] (by kernel_rfl) (by simp) ⟨?_, trivial⟩)
 refine op_of _ rfl rfl ?_
 refine Fp [] 1 c fun _ c => E0 (any_leaf (by kernel_rfl) (tn ?_))
 refine I0 c h (fun h => ?_) fun h => ?_
 refine P0 [] c fun _ c => ?_
 obtain rfl := sj h
 exact wp_ret (tr (Rt c () [] []))
 refine K0 (S0 (T0 (Fp [] 2 c fun _ c => ?_)))
 replace c := c.gm [BX b1 24 [I p0.W, I p0.Mem, I p0.In, L ga0 p0.Code gc1], BX b2 28 [I p1.Pc, L ga2 p1.Regs gc3, L ga4 p1.Mem gc5, L ga6 p1.Stack gc7, I p1.In, L ga8 p1.Out gc9, I p1.Code, I p1.Steps, L ga10 p1.Cond gc11, L ga12 p1.Turns gc13], sl91 (L i55.1 x3.Code i55.2) x3.Code, sl3 (L i57.1 x5 i57.2) x5, sl91 (L i58.1 x67.Code i58.2) x67.Code, BX b7 34 [I x67.W, I x67.Mem, I x67.In, L i58.1 x67.Code i58.2], BX b8 38 [I x68.Pc, L i59.1 x68.Regs i59.2.1, L i59.2.2.1 x68.Mem i59.2.2.2.1, L i59.2.2.2.2.1 x68.Stack i59.2.2.2.2.2.1, I x68.In, L i59.2.2.2.2.2.2.1 x68.Out i59.2.2.2.2.2.2.2.1, I x68.Code, I x68.Steps, L i59.2.2.2.2.2.2.2.2.1 x68.Cond i59.2.2.2.2.2.2.2.2.2.1, L i59.2.2.2.2.2.2.2.2.2.2.1 x68.Turns i59.2.2.2.2.2.2.2.2.2.2.2], sl3 (L i60.1 x69 i60.2) x69, sl91 (L i61.1 x71.Code i61.2) x71.Code]
 refine Bd h fun x79 hx79 h => Ca [] c (laws_toIntS_ok hx79) ⟨.f 7, trivial⟩ Tryz.call11 fun i67 _ _ c => ?_
 refine Bd h fun x80 hx80 h => Ca [] c (laws_eqIntS_ok hx80) ⟨.g 7, .g 9, trivial⟩ Tryz.call15 fun _ _ _ c => ?_
 refine Fp [] 1 c fun _ c => E0 (I0 c h (fun h => ?_) fun h => ?_)
 refine P0 [] c fun _ c => ?_
 obtain rfl := sj h
 exact wp_ret (tr (Rt c () [] []))
 refine K0 (P0 [] c fun _ c => ?_)
 obtain rfl := sj h
 exact wp_ret (Rt c () [] [])
 refine op_of _ rfl rfl ?_
 refine Fp [(0, 0)] 1 c fun _ c => E0 (any_node (fuel := 3) [0, 2] (by kernel_rfl) (by simp) ⟨?_, ?_, trivial⟩)
 refine op_of _ rfl rfl ?_
 refine Fp [(0, 2)] 1 c fun _ c => E0 (any_node (fuel := 2) [2] (by kernel_rfl) (by simp) ⟨?_, trivial⟩)
 refine op_of _ rfl rfl ?_
 refine Ca [] c (laws_toProgram_ok hx71) ⟨.f 0, trivial⟩ Tryz.call9 fun i68 _ _ c => ?_
 refine E0 (any_node (fuel := 1) [3] (by kernel_rfl) (by simp) ⟨?_, trivial⟩)
 refine op_of _ rfl rfl ?_
 refine Ca [] c (laws_eqProgram_ok hx72) ⟨.g 4, .g 8, trivial⟩ Tryz.call13 fun _ _ _ c => ?_
 refine E0 (any_node (fuel := 0) [4] (by kernel_rfl) (by simp) ⟨?_, trivial⟩)
 refine op_of _ rfl rfl ?_
 refine Fp [] 1 c fun _ c => E0 (any_leaf (by kernel_rfl) (tn ?_))
 refine I0 c h (fun h => ?_) fun h => ?_
 refine P0 [] c fun _ c => ?_
 obtain rfl := sj h
 exact wp_ret (tr (Rt c () [] []))
 refine K0 (S0 (Bd h fun x81 hx81 h => Bd h fun x82 hx82 h => S0 (As mix c fun _ c => any_node (fuel := 4) [0, 1] (by kernel_rfl) (by simp) ⟨?_, ?_, trivial⟩)))
 refine op_of _ rfl rfl ?_
 refine Fp [(0, 3)] 1 c fun _ c => E0 (any_node (fuel := 3) [1] (by kernel_rfl) (by simp) ⟨?_, trivial⟩)
 refine op_of _ rfl rfl ?_
 refine Fp [(0, 1)] 1 c fun _ c => E0 (any_node (fuel := 2) [2] (by kernel_rfl) (by simp) ⟨?_, trivial⟩)
 refine op_of _ rfl rfl ?_
 refine Cf [] c (laws_toPath_ok hx81) ⟨.f 1, .f 2, .f 3, .f 4, .f 5, .f 6, trivial⟩ Tryz.call10 fun i69 _ _ c => ?_
 refine E0 (any_node (fuel := 1) [3] (by kernel_rfl) (by simp) ⟨?_, trivial⟩)
 refine op_of _ rfl rfl ?_
 refine Ca [] c (laws_eqPath_ok hx82) ⟨.f 15, .f 16, .f 17, .f 18, .f 19, .f 20, .f 21, .f 22, .f 23, .f 24, .f 25, .f 26, trivial⟩ Tryz.call14 fun _ _ _ c => ?_
 refine E0 (any_node (fuel := 0) [4] (by kernel_rfl) (by simp) ⟨?_, trivial⟩)
 refine op_of _ rfl rfl ?_
 refine Fp [] 1 c fun _ c => E0 (any_leaf (by kernel_rfl) (tn ?_))
 refine I0 c h (fun h => ?_) fun h => ?_
 refine P0 [] c fun _ c => ?_
 obtain rfl := sj h
 exact wp_ret (tr (Rt c () [] []))
 refine K0 (S0 (T0 (Fp [] 2 c fun _ c => ?_)))
 replace c := c.gm [BX b1 24 [I p0.W, I p0.Mem, I p0.In, L ga0 p0.Code gc1], BX b2 28 [I p1.Pc, L ga2 p1.Regs gc3, L ga4 p1.Mem gc5, L ga6 p1.Stack gc7, I p1.In, L ga8 p1.Out gc9, I p1.Code, I p1.Steps, L ga10 p1.Cond gc11, L ga12 p1.Turns gc13], sl91 (L i55.1 x3.Code i55.2) x3.Code, sl3 (L i57.1 x5 i57.2) x5, sl91 (L i58.1 x67.Code i58.2) x67.Code, BX b7 34 [I x67.W, I x67.Mem, I x67.In, L i58.1 x67.Code i58.2], BX b8 38 [I x68.Pc, L i59.1 x68.Regs i59.2.1, L i59.2.2.1 x68.Mem i59.2.2.2.1, L i59.2.2.2.2.1 x68.Stack i59.2.2.2.2.2.1, I x68.In, L i59.2.2.2.2.2.2.1 x68.Out i59.2.2.2.2.2.2.2.1, I x68.Code, I x68.Steps, L i59.2.2.2.2.2.2.2.2.1 x68.Cond i59.2.2.2.2.2.2.2.2.2.1, L i59.2.2.2.2.2.2.2.2.2.2.1 x68.Turns i59.2.2.2.2.2.2.2.2.2.2.2], sl3 (L i60.1 x69 i60.2) x69, sl91 (L i68.1 x71.Code i68.2) x71.Code]
 refine Bd h fun x83 hx83 h => Ca [] c (laws_toIntS_ok hx83) ⟨.f 7, trivial⟩ Tryz.call11 fun i70 _ _ c => ?_
 refine Bd h fun x84 hx84 h => Ca [] c (laws_eqIntS_ok hx84) ⟨.g 7, .g 9, trivial⟩ Tryz.call15 fun _ _ _ c => ?_
 refine Fp [] 1 c fun _ c => E0 (I0 c h (fun h => ?_) fun h => ?_)
 refine P0 [] c fun _ c => ?_
 obtain rfl := sj h
 exact wp_ret (tr (Rt c () [] []))
 refine K0 (P0 [] c fun _ c => ?_)
 obtain rfl := sj h
 exact wp_ret (Rt c () [] [])
 refine op_of _ rfl rfl ?_
 refine Fp [(0, 1)] 1 c fun _ c => E0 (any_node (fuel := 3) [0, 2] (by kernel_rfl) (by simp) ⟨?_, ?_, trivial⟩)
 refine op_of _ rfl rfl ?_
 refine Fp [(0, 3)] 1 c fun _ c => E0 (any_node (fuel := 2) [2] (by kernel_rfl) (by simp) ⟨?_, trivial⟩)
 refine op_of _ rfl rfl ?_
 refine Cf [] c (laws_toPath_ok hx81) ⟨.f 1, .f 2, .f 3, .f 4, .f 5, .f 6, trivial⟩ Tryz.call10 fun i71 _ _ c => ?_
 refine E0 (any_node (fuel := 1) [3] (by kernel_rfl) (by simp) ⟨?_, trivial⟩)
 refine op_of _ rfl rfl ?_
 refine Ca [] c (laws_eqPath_ok hx82) ⟨.f 15, .f 16, .f 17, .f 18, .f 19, .f 20, .f 21, .f 22, .f 23, .f 24, .f 25, .f 26, trivial⟩ Tryz.call14 fun _ _ _ c => ?_
 refine E0 (any_node (fuel := 0) [4] (by kernel_rfl) (by simp) ⟨?_, trivial⟩)
 refine op_of _ rfl rfl ?_
 refine Fp [] 1 c fun _ c => E0 (any_leaf (by kernel_rfl) (tn ?_))
 refine I0 c h (fun h => ?_) fun h => ?_
 refine P0 [] c fun _ c => ?_
 obtain rfl := sj h
 exact wp_ret (tr (Rt c () [] []))
 refine K0 (S0 (T0 (Fp [] 2 c fun _ c => ?_)))
 replace c := c.gm [BX b1 24 [I p0.W, I p0.Mem, I p0.In, L ga0 p0.Code gc1], BX b2 28 [I p1.Pc, L ga2 p1.Regs gc3, L ga4 p1.Mem gc5, L ga6 p1.Stack gc7, I p1.In, L ga8 p1.Out gc9, I p1.Code, I p1.Steps, L ga10 p1.Cond gc11, L ga12 p1.Turns gc13], sl91 (L i55.1 x3.Code i55.2) x3.Code, sl3 (L i57.1 x5 i57.2) x5, sl91 (L i58.1 x67.Code i58.2) x67.Code, BX b7 34 [I x67.W, I x67.Mem, I x67.In, L i58.1 x67.Code i58.2], BX b8 38 [I x68.Pc, L i59.1 x68.Regs i59.2.1, L i59.2.2.1 x68.Mem i59.2.2.2.1, L i59.2.2.2.2.1 x68.Stack i59.2.2.2.2.2.1, I x68.In, L i59.2.2.2.2.2.2.1 x68.Out i59.2.2.2.2.2.2.2.1, I x68.Code, I x68.Steps, L i59.2.2.2.2.2.2.2.2.1 x68.Cond i59.2.2.2.2.2.2.2.2.2.1, L i59.2.2.2.2.2.2.2.2.2.2.1 x68.Turns i59.2.2.2.2.2.2.2.2.2.2.2], sl3 (L i60.1 x69 i60.2) x69, sl91 (L i68.1 x71.Code i68.2) x71.Code]
 refine Bd h fun x85 hx85 h => Ca [] c (laws_toIntS_ok hx85) ⟨.f 7, trivial⟩ Tryz.call11 fun i72 _ _ c => ?_
 refine Bd h fun x86 hx86 h => Ca [] c (laws_eqIntS_ok hx86) ⟨.g 7, .g 9, trivial⟩ Tryz.call15 fun _ _ _ c => ?_
 refine Fp [] 1 c fun _ c => E0 (I0 c h (fun h => ?_) fun h => ?_)
 refine P0 [] c fun _ c => ?_
 obtain rfl := sj h
 exact wp_ret (tr (Rt c () [] []))
 refine K0 (P0 [] c fun _ c => ?_)
 obtain rfl := sj h
 exact wp_ret (Rt c () [] [])
 refine op_of _ rfl rfl ?_
 refine Cf [] c (laws_toPath_ok hx81) ⟨.f 1, .f 2, .f 3, .f 4, .f 5, .f 6, trivial⟩ Tryz.call10 fun i73 _ _ c => ?_
 refine E0 (any_node (fuel := 2) [0] (by kernel_rfl) (by simp) ⟨?_, trivial⟩)
 refine op_of _ rfl rfl ?_
 refine Fp [(0, 3)] 1 c fun _ c => E0 (any_node (fuel := 1) [3] (by kernel_rfl) (by simp) ⟨?_, trivial⟩)
 refine op_of _ rfl rfl ?_
 refine Ca [] c (laws_eqPath_ok hx82) ⟨.f 15, .f 16, .f 17, .f 18, .f 19, .f 20, .f 21, .f 22, .f 23, .f 24, .f 25, .f 26, trivial⟩ Tryz.call14 fun _ _ _ c => ?_
 refine E0 (any_node (fuel := 0) [4] (by kernel_rfl) (by simp) ⟨?_, trivial⟩)
 refine op_of _ rfl rfl ?_
 refine Fp [] 1 c fun _ c => E0 (any_leaf (by kernel_rfl) (tn ?_))
 refine I0 c h (fun h => ?_) fun h => ?_
 refine P0 [] c fun _ c => ?_
 obtain rfl := sj h
 exact wp_ret (tr (Rt c () [] []))
 refine K0 (S0 (T0 (Fp [] 2 c fun _ c => ?_)))
 replace c := c.gm [BX b1 24 [I p0.W, I p0.Mem, I p0.In, L ga0 p0.Code gc1], BX b2 28 [I p1.Pc, L ga2 p1.Regs gc3, L ga4 p1.Mem gc5, L ga6 p1.Stack gc7, I p1.In, L ga8 p1.Out gc9, I p1.Code, I p1.Steps, L ga10 p1.Cond gc11, L ga12 p1.Turns gc13], sl91 (L i55.1 x3.Code i55.2) x3.Code, sl3 (L i57.1 x5 i57.2) x5, sl91 (L i58.1 x67.Code i58.2) x67.Code, BX b7 34 [I x67.W, I x67.Mem, I x67.In, L i58.1 x67.Code i58.2], BX b8 38 [I x68.Pc, L i59.1 x68.Regs i59.2.1, L i59.2.2.1 x68.Mem i59.2.2.2.1, L i59.2.2.2.2.1 x68.Stack i59.2.2.2.2.2.1, I x68.In, L i59.2.2.2.2.2.2.1 x68.Out i59.2.2.2.2.2.2.2.1, I x68.Code, I x68.Steps, L i59.2.2.2.2.2.2.2.2.1 x68.Cond i59.2.2.2.2.2.2.2.2.2.1, L i59.2.2.2.2.2.2.2.2.2.2.1 x68.Turns i59.2.2.2.2.2.2.2.2.2.2.2], sl3 (L i60.1 x69 i60.2) x69, sl91 (L i68.1 x71.Code i68.2) x71.Code]
 refine Bd h fun x87 hx87 h => Ca [] c (laws_toIntS_ok hx87) ⟨.f 7, trivial⟩ Tryz.call11 fun i74 _ _ c => ?_
 refine Bd h fun x88 hx88 h => Ca [] c (laws_eqIntS_ok hx88) ⟨.g 7, .g 9, trivial⟩ Tryz.call15 fun _ _ _ c => ?_
 refine Fp [] 1 c fun _ c => E0 (I0 c h (fun h => ?_) fun h => ?_)
 refine P0 [] c fun _ c => ?_
 obtain rfl := sj h
 exact wp_ret (tr (Rt c () [] []))
 refine K0 (P0 [] c fun _ c => ?_)
 obtain rfl := sj h
 exact wp_ret (Rt c () [] [])
 refine op_of _ rfl rfl ?_
 refine Ca [] c (laws_toProgram_ok hx71) ⟨.f 0, trivial⟩ Tryz.call9 fun i75 _ _ c => ?_
 refine E0 (any_node (fuel := 2) [0] (by kernel_rfl) (by simp) ⟨?_, trivial⟩)
 refine op_of _ rfl rfl ?_
 refine Fp [(0, 2)] 1 c fun _ c => E0 (any_node (fuel := 1) [3] (by kernel_rfl) (by simp) ⟨?_, trivial⟩)
 refine op_of _ rfl rfl ?_
 refine Ca [] c (laws_eqProgram_ok hx72) ⟨.g 4, .g 8, trivial⟩ Tryz.call13 fun _ _ _ c => ?_
 refine E0 (any_node (fuel := 0) [4] (by kernel_rfl) (by simp) ⟨?_, trivial⟩)
 refine op_of _ rfl rfl ?_
 refine Fp [] 1 c fun _ c => E0 (any_leaf (by kernel_rfl) (tn ?_))
 refine I0 c h (fun h => ?_) fun h => ?_
 refine P0 [] c fun _ c => ?_
 obtain rfl := sj h
 exact wp_ret (tr (Rt c () [] []))
 refine K0 (S0 (Bd h fun x89 hx89 h => Bd h fun x90 hx90 h => S0 (As mix c fun _ c => any_node (fuel := 4) [0, 1] (by kernel_rfl) (by simp) ⟨?_, ?_, trivial⟩)))
 refine op_of _ rfl rfl ?_
 refine Fp [(0, 3)] 1 c fun _ c => E0 (any_node (fuel := 3) [1] (by kernel_rfl) (by simp) ⟨?_, trivial⟩)
 refine op_of _ rfl rfl ?_
 refine Fp [(0, 1)] 1 c fun _ c => E0 (any_node (fuel := 2) [2] (by kernel_rfl) (by simp) ⟨?_, trivial⟩)
 refine op_of _ rfl rfl ?_
 refine Cf [] c (laws_toPath_ok hx89) ⟨.f 1, .f 2, .f 3, .f 4, .f 5, .f 6, trivial⟩ Tryz.call10 fun i76 _ _ c => ?_
 refine E0 (any_node (fuel := 1) [3] (by kernel_rfl) (by simp) ⟨?_, trivial⟩)
 refine op_of _ rfl rfl ?_
 refine Ca [] c (laws_eqPath_ok hx90) ⟨.f 15, .f 16, .f 17, .f 18, .f 19, .f 20, .f 21, .f 22, .f 23, .f 24, .f 25, .f 26, trivial⟩ Tryz.call14 fun _ _ _ c => ?_
 refine E0 (any_node (fuel := 0) [4] (by kernel_rfl) (by simp) ⟨?_, trivial⟩)
 refine op_of _ rfl rfl ?_
 refine Fp [] 1 c fun _ c => E0 (any_leaf (by kernel_rfl) (tn ?_))
 refine I0 c h (fun h => ?_) fun h => ?_
 refine P0 [] c fun _ c => ?_
 obtain rfl := sj h
 exact wp_ret (tr (Rt c () [] []))
 refine K0 (S0 (T0 (Fp [] 2 c fun _ c => ?_)))
 replace c := c.gm [BX b1 24 [I p0.W, I p0.Mem, I p0.In, L ga0 p0.Code gc1], BX b2 28 [I p1.Pc, L ga2 p1.Regs gc3, L ga4 p1.Mem gc5, L ga6 p1.Stack gc7, I p1.In, L ga8 p1.Out gc9, I p1.Code, I p1.Steps, L ga10 p1.Cond gc11, L ga12 p1.Turns gc13], sl91 (L i55.1 x3.Code i55.2) x3.Code, sl3 (L i57.1 x5 i57.2) x5, sl91 (L i58.1 x67.Code i58.2) x67.Code, BX b7 34 [I x67.W, I x67.Mem, I x67.In, L i58.1 x67.Code i58.2], BX b8 38 [I x68.Pc, L i59.1 x68.Regs i59.2.1, L i59.2.2.1 x68.Mem i59.2.2.2.1, L i59.2.2.2.2.1 x68.Stack i59.2.2.2.2.2.1, I x68.In, L i59.2.2.2.2.2.2.1 x68.Out i59.2.2.2.2.2.2.2.1, I x68.Code, I x68.Steps, L i59.2.2.2.2.2.2.2.2.1 x68.Cond i59.2.2.2.2.2.2.2.2.2.1, L i59.2.2.2.2.2.2.2.2.2.2.1 x68.Turns i59.2.2.2.2.2.2.2.2.2.2.2], sl3 (L i60.1 x69 i60.2) x69, sl91 (L i75.1 x71.Code i75.2) x71.Code]
 refine Bd h fun x91 hx91 h => Ca [] c (laws_toIntS_ok hx91) ⟨.f 7, trivial⟩ Tryz.call11 fun i77 _ _ c => ?_
 refine Bd h fun x92 hx92 h => Ca [] c (laws_eqIntS_ok hx92) ⟨.g 7, .g 9, trivial⟩ Tryz.call15 fun _ _ _ c => ?_
 refine Fp [] 1 c fun _ c => E0 (I0 c h (fun h => ?_) fun h => ?_)
 refine P0 [] c fun _ c => ?_
 obtain rfl := sj h
 exact wp_ret (tr (Rt c () [] []))
 refine K0 (P0 [] c fun _ c => ?_)
 obtain rfl := sj h
 exact wp_ret (Rt c () [] [])
 refine op_of _ rfl rfl ?_
 refine Fp [(0, 1)] 1 c fun _ c => E0 (any_node (fuel := 3) [0, 2] (by kernel_rfl) (by simp) ⟨?_, ?_, trivial⟩)
 refine op_of _ rfl rfl ?_
 refine Fp [(0, 3)] 1 c fun _ c => E0 (any_node (fuel := 2) [2] (by kernel_rfl) (by simp) ⟨?_, trivial⟩)
 refine op_of _ rfl rfl ?_
 refine Cf [] c (laws_toPath_ok hx89) ⟨.f 1, .f 2, .f 3, .f 4, .f 5, .f 6, trivial⟩ Tryz.call10 fun i78 _ _ c => ?_
 refine E0 (any_node (fuel := 1) [3] (by kernel_rfl) (by simp) ⟨?_, trivial⟩)
 refine op_of _ rfl rfl ?_
 refine Ca [] c (laws_eqPath_ok hx90) ⟨.f 15, .f 16, .f 17, .f 18, .f 19, .f 20, .f 21, .f 22, .f 23, .f 24, .f 25, .f 26, trivial⟩ Tryz.call14 fun _ _ _ c => ?_
 refine E0 (any_node (fuel := 0) [4] (by kernel_rfl) (by simp) ⟨?_, trivial⟩)
 refine op_of _ rfl rfl ?_
 refine Fp [] 1 c fun _ c => E0 (any_leaf (by kernel_rfl) (tn ?_))
 refine I0 c h (fun h => ?_) fun h => ?_
 refine P0 [] c fun _ c => ?_
 obtain rfl := sj h
 exact wp_ret (tr (Rt c () [] []))
 refine K0 (S0 (T0 (Fp [] 2 c fun _ c => ?_)))
 replace c := c.gm [BX b1 24 [I p0.W, I p0.Mem, I p0.In, L ga0 p0.Code gc1], BX b2 28 [I p1.Pc, L ga2 p1.Regs gc3, L ga4 p1.Mem gc5, L ga6 p1.Stack gc7, I p1.In, L ga8 p1.Out gc9, I p1.Code, I p1.Steps, L ga10 p1.Cond gc11, L ga12 p1.Turns gc13], sl91 (L i55.1 x3.Code i55.2) x3.Code, sl3 (L i57.1 x5 i57.2) x5, sl91 (L i58.1 x67.Code i58.2) x67.Code, BX b7 34 [I x67.W, I x67.Mem, I x67.In, L i58.1 x67.Code i58.2], BX b8 38 [I x68.Pc, L i59.1 x68.Regs i59.2.1, L i59.2.2.1 x68.Mem i59.2.2.2.1, L i59.2.2.2.2.1 x68.Stack i59.2.2.2.2.2.1, I x68.In, L i59.2.2.2.2.2.2.1 x68.Out i59.2.2.2.2.2.2.2.1, I x68.Code, I x68.Steps, L i59.2.2.2.2.2.2.2.2.1 x68.Cond i59.2.2.2.2.2.2.2.2.2.1, L i59.2.2.2.2.2.2.2.2.2.2.1 x68.Turns i59.2.2.2.2.2.2.2.2.2.2.2], sl3 (L i60.1 x69 i60.2) x69, sl91 (L i75.1 x71.Code i75.2) x71.Code]
 refine Bd h fun x93 hx93 h => Ca [] c (laws_toIntS_ok hx93) ⟨.f 7, trivial⟩ Tryz.call11 fun i79 _ _ c => ?_
 refine Bd h fun x94 hx94 h => Ca [] c (laws_eqIntS_ok hx94) ⟨.g 7, .g 9, trivial⟩ Tryz.call15 fun _ _ _ c => ?_
 refine Fp [] 1 c fun _ c => E0 (I0 c h (fun h => ?_) fun h => ?_)
 refine P0 [] c fun _ c => ?_
 obtain rfl := sj h
 exact wp_ret (tr (Rt c () [] []))
 refine K0 (P0 [] c fun _ c => ?_)
 obtain rfl := sj h
 exact wp_ret (Rt c () [] [])
 refine op_of _ rfl rfl ?_
 refine Cf [] c (laws_toPath_ok hx89) ⟨.f 1, .f 2, .f 3, .f 4, .f 5, .f 6, trivial⟩ Tryz.call10 fun i80 _ _ c => ?_
 refine E0 (any_node (fuel := 2) [0] (by kernel_rfl) (by simp) ⟨?_, trivial⟩)
 refine op_of _ rfl rfl ?_
 refine Fp [(0, 3)] 1 c fun _ c => E0 (any_node (fuel := 1) [3] (by kernel_rfl) (by simp) ⟨?_, trivial⟩)
 refine op_of _ rfl rfl ?_
 refine Ca [] c (laws_eqPath_ok hx90) ⟨.f 15, .f 16, .f 17, .f 18, .f 19, .f 20, .f 21, .f 22, .f 23, .f 24, .f 25, .f 26, trivial⟩ Tryz.call14 fun _ _ _ c => ?_
 refine E0 (any_node (fuel := 0) [4] (by kernel_rfl) (by simp) ⟨?_, trivial⟩)
 refine op_of _ rfl rfl ?_
 refine Fp [] 1 c fun _ c => E0 (any_leaf (by kernel_rfl) (tn ?_))
 refine I0 c h (fun h => ?_) fun h => ?_
 refine P0 [] c fun _ c => ?_
 obtain rfl := sj h
 exact wp_ret (tr (Rt c () [] []))
 refine K0 (S0 (T0 (Fp [] 2 c fun _ c => ?_)))
 replace c := c.gm [BX b1 24 [I p0.W, I p0.Mem, I p0.In, L ga0 p0.Code gc1], BX b2 28 [I p1.Pc, L ga2 p1.Regs gc3, L ga4 p1.Mem gc5, L ga6 p1.Stack gc7, I p1.In, L ga8 p1.Out gc9, I p1.Code, I p1.Steps, L ga10 p1.Cond gc11, L ga12 p1.Turns gc13], sl91 (L i55.1 x3.Code i55.2) x3.Code, sl3 (L i57.1 x5 i57.2) x5, sl91 (L i58.1 x67.Code i58.2) x67.Code, BX b7 34 [I x67.W, I x67.Mem, I x67.In, L i58.1 x67.Code i58.2], BX b8 38 [I x68.Pc, L i59.1 x68.Regs i59.2.1, L i59.2.2.1 x68.Mem i59.2.2.2.1, L i59.2.2.2.2.1 x68.Stack i59.2.2.2.2.2.1, I x68.In, L i59.2.2.2.2.2.2.1 x68.Out i59.2.2.2.2.2.2.2.1, I x68.Code, I x68.Steps, L i59.2.2.2.2.2.2.2.2.1 x68.Cond i59.2.2.2.2.2.2.2.2.2.1, L i59.2.2.2.2.2.2.2.2.2.2.1 x68.Turns i59.2.2.2.2.2.2.2.2.2.2.2], sl3 (L i60.1 x69 i60.2) x69, sl91 (L i75.1 x71.Code i75.2) x71.Code]
 refine Bd h fun x95 hx95 h => Ca [] c (laws_toIntS_ok hx95) ⟨.f 7, trivial⟩ Tryz.call11 fun i81 _ _ c => ?_
 refine Bd h fun x96 hx96 h => Ca [] c (laws_eqIntS_ok hx96) ⟨.g 7, .g 9, trivial⟩ Tryz.call15 fun _ _ _ c => ?_
 refine Fp [] 1 c fun _ c => E0 (I0 c h (fun h => ?_) fun h => ?_)
 refine P0 [] c fun _ c => ?_
 obtain rfl := sj h
 exact wp_ret (tr (Rt c () [] []))
 refine K0 (P0 [] c fun _ c => ?_)
 obtain rfl := sj h
 exact wp_ret (Rt c () [] [])
end Go.Proofs.YtfbcccfbikeibaaGreatDoor
