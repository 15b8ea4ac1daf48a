/- The walks, printed by a program. -/
import Derived.Test.YtbljmkpofaibeaaGreatLib3
import Derived.Test.YtbljmkpofaibeaaGreatLib2
import Derived.Test.YtbljmkpofaibeaaGreatDefs
import Derived.Test.YtbljmkpofaibeaaGreatProg
import Derived.KernelRfl
import Derived.DeepKeys4
import Derived.Test.YtbljmkpofaibeaaGreatShelf
set_option linter.unusedVariables false
set_option linter.unusedSimpArgs false
set_option maxRecDepth 100000
set_option maxHeartbeats 40000000
namespace Go.Proofs.YtbljmkpofaibeaaGreat
open Go.GL Go.Maps Go.WideMaps
theorem mix : Tryz.prog.follows .mixedOrders = true := by kernel_rfl
abbrev sl141 : Value → List D.Ins → HP := SL 141
abbrev sl3 : Value → List Int → HP := SL 3
abbrev sl34 : Value → List Rw.Term → HP := SL 34
abbrev sl86 : Value → List D.Value → HP := SL 86
theorem fc34_0 {q : D.Term} {w : World} {F : Nat → Prop} {cs : List Value} (h : Rep.ok w F cs q) : cs[0]? = some (I q.Op) := fo_Term0 h
theorem fc34_1 {q : D.Term} {w : World} {F : Nat → Prop} {cs : List Value} (h : Rep.ok w F cs q) : cs[1]? = some (I q.W) := fo_Term1 h
theorem fc34_2 {q : D.Term} {w : World} {F : Nat → Prop} {cs : List Value} (h : Rep.ok w F cs q) : cs[2]? = some (I q.N) := fo_Term2 h
theorem fc86_0 {q : D.Value} {w : World} {F : Nat → Prop} {cs : List Value} (h : Rep.ok w F cs q) : cs[0]? = some (Str.val q.Name) := fo_Value0 h
theorem fc86_1 {q : D.Value} {w : World} {F : Nat → Prop} {cs : List Value} (h : Rep.ok w F cs q) : cs[1]? = some (I q.W) := fo_Value1 h
noncomputable abbrev map126 : MapT Tryz.prog 9 3 Str Int := mapSI _ 9 3 Tryz.underlying9 Tryz.underlying3 (by kernel_rfl)

theorem laws_szInsS_ok {p0 p1 ga0 gc1 r} (h : laws_szInsS p0 p1 = some r) : Con Tryz.prog 54 [L ga0 p0 gc1, I p1] [] [lR ga0 p0 gc1] fun (_ : Unit) => ([I r], [], []) := by
 unfold laws_szInsS at h
 refine En Tryz.func54 rfl Tryz.ntmps54 fun _ fr w c => ?_
 refine P0 [] c fun _ c => P0 [] c fun _ c => S0 (P0 [] c fun _ c => I0 c h (fun h => ?_) fun h => ?_)
 refine P0 [] c fun _ c => ?_
 cases h
 exact wp_ret (tr (Rt c () [] []))
 refine K0 (P0 [] c fun _ c => ?_)
 cases h
 exact wp_ret (Rt c () [] [])

theorem laws_szProgram_ok {p0 p1 ga0 gc1 r} (h : laws_szProgram p0 p1 = some r) : Con Tryz.prog 18 [gV p0 ga0 gc1, I p1] [] [lR ga0 p0.Code gc1] fun (_ : Unit) => ([I r], [], []) := by
 unfold laws_szProgram at h
 refine En Tryz.func18 rfl Tryz.ntmps18 fun _ fr w c => ?_
 refine T0 (Ebx (gC p0 ga0 gc1) c fun b1 _ _ c => ?_)
 refine Fp [] 1 c fun _ c => E0 (T0 (Fp [(1, 0)] 3 c fun _ c => Bd h fun x1 hx1 h => Cb c (laws_szInsS_ok hx1) ⟨.f 0, tt⟩ Tryz.call54 fun _ _ _ c => ?_))
 refine Fp [] 1 c fun _ c => E0 (S0 (P0 [] c fun _ c => I0 c h (fun h => ?_) fun h => ?_))
 refine P0 [] c fun _ c => ?_
 cases h
 exact wp_ret (tr (Rt c () [] []))
 refine K0 (P0 [] c fun _ c => ?_)
 obtain rfl := sj h
 exact wp_ret (Rt c () [] [])

theorem laws_szTerm_laws_szTermS_rec (n : Nat) : (∀ {p0 p1 ga0 gc1 r} (h : laws_szTerm n p0 p1 = some r), Con Tryz.prog 6 [tV p0 ga0 gc1, I p1] [] [lR ga0 p0.Kids gc1] fun (_ : Unit) => ([I r], [], [])) ∧
    (∀ {p0 p1 ga0 gc1 r} (h : laws_szTermS n p0 p1 = some r), Con Tryz.prog 36 [L ga0 p0 gc1, I p1] [] [lR ga0 p0 gc1] fun (_ : Unit) => ([I r], [], [])) := by
 induction n with
 | zero => exact ⟨by intro p0 p1 ga0 gc1 r h; simp [laws_szTerm] at h, by intro p0 p1 ga0 gc1 r h; simp [laws_szTermS] at h⟩
 | succ n ih =>
 obtain ⟨ih0, ih1⟩ := ih
 refine ⟨?_, ?_⟩
 · intro p0 p1 ga0 gc1 r h
   rw [laws_szTerm] at h
   refine En Tryz.func6 rfl Tryz.ntmps6 fun _ fr w c => ?_
   refine T0 (Ebx (tC p0 ga0 gc1) c fun b1 _ _ c => ?_)
   refine Fp [] 1 c fun _ c => E0 (P0 [(2, 0)] c fun _ c => S0 (P0 [] c fun _ c => I0 c h (fun h => ?_) fun h => ?_))
   refine P0 [] c fun _ c => ?_
   cases h
   exact wp_ret (tr (Rt c () [] []))
   refine K0 (T0 (Fp [(1, 0)] 3 c fun _ c => Bd h fun x1 hx1 h => Cb c (ih1 hx1) ⟨.f 0, tt⟩ Tryz.call36 fun _ _ _ c => ?_))
   refine Fp [] 1 c fun _ c => E0 (S0 (P0 [] c fun _ c => I0 c h (fun h => ?_) fun h => ?_))
   refine P0 [] c fun _ c => ?_
   cases h
   exact wp_ret (tr (Rt c () [] []))
   refine K0 (P0 [] c fun _ c => ?_)
   obtain rfl := sj h
   exact wp_ret (Rt c () [] [])
 · intro p0 p1 ga0 gc1 r h
   rw [laws_szTermS] at h
   refine En Tryz.func36 rfl Tryz.ntmps36 fun _ fr w c => ?_
   refine P0 [] c fun _ c => P0 [] c fun _ c => S0 (P0 [] c fun _ c => I0 c h (fun h => ?_) fun h => ?_)
   refine P0 [] c fun _ c => ?_
   cases h
   exact wp_ret (tr (Rt c () [] []))
   refine K0 (S0 (P0 [] c fun _ c => Bd h fun rl1 hit1 h => ?_))
   have hk1 := h
   refine LpR (fun s1  (_ : Unit) => ([(0, L ga0 p0 gc1), (1, I s1.1), (5, I s1.2)], id, [])) (fun s  (_ : Unit) => ([(1, I s)], id, [])) hit1 c () (c.rk [] [0]) (fun s1 q1 _ _ _ c h hr1 => ?_) fun s1r _ _ _ hrl c => ?_
   refine S0 (P0 [] c fun _ c => I0 c h (fun h => ?_) fun h => ?_)
   refine K0 (S0 (wp_block (T0 (Fp [] 2 c fun _ c => Bd h fun x1 hx1 h => Eem c (.f 0) hx1 fun _ u1 _ c => ?_))))
   obtain ⟨a1, c1, rfl, c⟩ := c.o_Term 1
   refine Fp [] 1 c fun _ c => Bd h fun x2 hx2 h => Cb c (ih0 hx2) ⟨.f 2, tt⟩ Tryz.call6 fun _ _ _ c => ?_
   refine Fp [] 1 c fun _ c => E0 (P0 [] c fun _ c => I0 c h (fun h => ?_) fun h => ?_)
   refine P0 [] c fun _ c => ?_
   obtain rfl := hr1 _ (sk h)
   obtain rfl := sj hk1
   exact wp_ret (br (tr (tr (br (tr (Rt c () [] []))))))
   refine K1 (bk (tn (P1 [] c fun _ c => Nx h () (c.rk [] [0]))))
   refine wp_exit (te (te (be ?_)))
   obtain rfl := hr1 _ (sk h)
   exact tn ⟨_, (), rfl, c.rk [] [0]⟩
   subst hrl
   refine P0 [] c fun _ c => ?_
   obtain rfl := sj h
   exact wp_ret (Rt c () [] [])
theorem laws_szTerm_ok {n : Nat} : ∀ {p0 p1 ga0 gc1 r} (h : laws_szTerm n p0 p1 = some r), Con Tryz.prog 6 [tV p0 ga0 gc1, I p1] [] [lR ga0 p0.Kids gc1] fun (_ : Unit) => ([I r], [], []) := (laws_szTerm_laws_szTermS_rec n).1
theorem laws_szTermS_ok {n : Nat} : ∀ {p0 p1 ga0 gc1 r} (h : laws_szTermS n p0 p1 = some r), Con Tryz.prog 36 [L ga0 p0 gc1, I p1] [] [lR ga0 p0 gc1] fun (_ : Unit) => ([I r], [], []) := (laws_szTerm_laws_szTermS_rec n).2

theorem laws_szIntS_ok {p0 p1 ga0 gc1 r} (h : laws_szIntS p0 p1 = some r) : Con Tryz.prog 72 [L ga0 p0 gc1, I p1] [] [lR ga0 p0 gc1] fun (_ : Unit) => ([I r], [], []) := by
 unfold laws_szIntS at h
 refine En Tryz.func72 rfl Tryz.ntmps72 fun _ fr w c => ?_
 refine P0 [] c fun _ c => P0 [] c fun _ c => S0 (P0 [] c fun _ c => I0 c h (fun h => ?_) fun h => ?_)
 refine P0 [] c fun _ c => ?_
 cases h
 exact wp_ret (tr (Rt c () [] []))
 refine K0 (P0 [] c fun _ c => ?_)
 cases h
 exact wp_ret (Rt c () [] [])

theorem laws_szPath_ok {n p0 p1 ga0 gc1 ga2 gc3 ga4 gc5 ga6 gc7 ga8 gc9 ga10 gc11 r} (h : laws_szPath n p0 p1 = some r) : Con Tryz.prog 29 [pV p0 ga0 gc1 ga2 gc3 ga4 gc5 ga6 gc7 ga8 gc9 ga10 gc11, I p1] [] [lR ga0 p0.Regs gc1, lR ga2 p0.Mem gc3, lR ga4 p0.Stack gc5, lR ga6 p0.Out gc7, lR ga8 p0.Cond gc9, lR ga10 p0.Turns gc11] fun (_ : Unit) => ([I r], [], []) := by
 unfold laws_szPath at h
 refine En Tryz.func29 rfl Tryz.ntmps29 fun _ fr w c => ?_
 refine T0 (Ebx (pC p0 ga0 gc1 ga2 gc3 ga4 gc5 ga6 gc7 ga8 gc9 ga10 gc11) c fun b1 _ _ c => ?_)
 refine Fp [] 1 c fun _ c => E0 (T0 (Fp [(1, 0)] 3 c fun _ c => Bd h fun x1 hx1 h => Cb c (laws_szTermS_ok hx1) ⟨.f 0, tt⟩ Tryz.call36 fun _ _ _ c => ?_))
 refine Fp [] 1 c fun _ c => E0 (S0 (P0 [] c fun _ c => I0 c h (fun h => ?_) fun h => ?_))
 refine P0 [] c fun _ c => ?_
 cases h
 exact wp_ret (tr (Rt c () [] []))
 refine K0 (T0 (Fp [(1, 0)] 3 c fun _ c => Bd h fun x2 hx2 h => Cb c (laws_szTermS_ok hx2) ⟨.f 1, tt⟩ Tryz.call36 fun _ _ _ c => ?_))
 refine Fp [] 1 c fun _ c => E0 (S0 (P0 [] c fun _ c => I0 c h (fun h => ?_) fun h => ?_))
 refine P0 [] c fun _ c => ?_
 cases h
 exact wp_ret (tr (Rt c () [] []))
 refine K0 (T0 (Fp [(1, 0)] 3 c fun _ c => Bd h fun x3 hx3 h => Cb c (laws_szIntS_ok hx3) ⟨.f 2, tt⟩ Tryz.call72 fun _ _ _ c => ?_))
 refine Fp [] 1 c fun _ c => E0 (S0 (P0 [] c fun _ c => I0 c h (fun h => ?_) fun h => ?_))
 refine P0 [] c fun _ c => ?_
 cases h
 exact wp_ret (tr (Rt c () [] []))
 refine K0 (T0 (Fp [(1, 0)] 3 c fun _ c => Bd h fun x4 hx4 h => Cb c (laws_szTermS_ok hx4) ⟨.f 3, tt⟩ Tryz.call36 fun _ _ _ c => ?_))
 refine Fp [] 1 c fun _ c => E0 (S0 (P0 [] c fun _ c => I0 c h (fun h => ?_) fun h => ?_))
 refine P0 [] c fun _ c => ?_
 cases h
 exact wp_ret (tr (Rt c () [] []))
 refine K0 (T0 (Fp [(1, 0)] 3 c fun _ c => ?_))
 try simp only [l1, l2, l3, l4] at c
 refine Bd h fun x5 hx5 h => Cb c (laws_szTermS_ok hx5) ⟨.f 4, tt⟩ Tryz.call36 fun _ _ _ c => ?_
 refine Fp [] 1 c fun _ c => E0 (S0 (P0 [] c fun _ c => I0 c h (fun h => ?_) fun h => ?_))
 refine P0 [] c fun _ c => ?_
 cases h
 exact wp_ret (tr (Rt c () [] []))
 refine K0 (T0 (Fp [(1, 0)] 3 c fun _ c => Bd h fun x6 hx6 h => Cb c (laws_szIntS_ok hx6) ⟨.f 5, tt⟩ Tryz.call72 fun _ _ _ c => ?_))
 refine Fp [] 1 c fun _ c => E0 (S0 (P0 [] c fun _ c => I0 c h (fun h => ?_) fun h => ?_))
 refine P0 [] c fun _ c => ?_
 cases h
 exact wp_ret (tr (Rt c () [] []))
 refine K0 (P0 [] c fun _ c => ?_)
 obtain rfl := sj h
 exact wp_ret (Rt c () [] [])

theorem laws_toIns_ok {p0 r} (h : laws_toIns p0 = some r) : Con Tryz.prog 109 [nV p0] [] [] fun (_ : Unit) => ([nV r], [], []) := by
 unfold laws_toIns at h
 refine En Tryz.func109 rfl Tryz.ntmps109 fun _ fr w c => ?_
 refine T0 (Ebx (nC p0) c fun b1 _ _ c => ?_)
 refine Eal [I 0, I 0, I 0, I 0] c fun b2 _ _ c => ?_
 refine E0 (T0 (Eal [I 0, I 0, I 0, I 0] c fun b3 _ _ c => ?_))
 refine E0 (T0 (Fp [(1, 0)] 3 c fun _ c => Esb 2 0 (I p0.Op) c fun _ c => ?_))
 refine E0 (T0 (Fp [(1, 0)] 3 c fun _ c => Esb 2 1 (I p0.A) c fun _ c => ?_))
 refine E0 (T0 (Fp [(1, 0)] 3 c fun _ c => ?_))
 try simp only [l1, l2, l3, l4] at c
 refine Esb 2 2 (I p0.B) c fun _ c => ?_
 refine E0 (T0 (Fp [(1, 0)] 3 c fun _ c => Esb 2 3 (I p0.C) c fun _ c => ?_))
 refine E0 (T0 (Fp [(0, 2)] 1 c fun _ c => Ess 1 (nC p0) c fun _ c => ?_))
 refine E0 ?_
 obtain rfl := sj h
 exact wp_ret (Rg c () [] [] (.cell (α := Agg 3) kk (.b 1) .nil))

theorem laws_toInsS_ok {n p0 ga0 gc1 r} (h : laws_toInsS n p0 = some r) : Con Tryz.prog 62 [L ga0 p0 gc1] [] [lR ga0 p0 gc1] fun (i : Oh) => ([L i.1 r i.2], [sl141 (L i.1 r i.2) r], []) := by
 unfold laws_toInsS at h
 refine En Tryz.func62 rfl Tryz.ntmps62 fun _ fr w c => ?_
 refine P0 [] c fun _ c => T0 (Fp [] 2 c fun _ c => Bd h fun x1 hx1 h => Emk 141 c hx1 fun a1 c1 _ _ c => ?_)
 refine Fp [] 1 c fun _ c => E0 (S0 (P0 [] c fun _ c => Bd h fun rl1 hit1 h => Lp (fun s1  (_ : Unit) => ([(0, L ga0 p0 gc1), (3, L a1 x1 c1), (4, I s1.1)], fun Γ => Γ.set 0 (sl141 (L a1 x1 c1) s1.2), [])) (fun  (_ : Unit) => ([(3, L a1 x1 c1)], fun Γ => Γ.set 0 (sl141 (L a1 x1 c1) rl1), [])) hit1 c () (c.rk [0] [0]) (fun s1 q1 _ _ _ c h hr1 => ?_) fun _ _ _ c => ?_))
 refine S0 (P0 [] c fun _ c => I0 c h (fun h => ?_) fun h => ?_)
 refine K0 (S0 (wp_block (T1 (Fp [] 4 c fun _ c => Bd h fun x2 hx2 h => Eel c (.f 0) hx2 fun _ _ c => ?_))))
 refine Bd h fun x3 hx3 h => Cb c (laws_toIns_ok hx3) tt Tryz.call109 fun _ _ _ c => ?_
 refine Bd h fun x4 hx4 h => Eset 0 c hx4 fun _ _ _ c => ?_
 refine E1 (bk (tn (P1 [] c fun _ c => Nx h () (c.rk [0] [0]))))
 refine wp_exit (te (te (be ?_)))
 obtain rfl := hr1 _ (sk h)
 exact tn ⟨(), c.rk [0] [0]⟩
 refine P0 [] c fun _ c => ?_
 obtain rfl := sj h
 obtain ⟨he1, c⟩ := c.relen 0
 replace c := c.eqs (v := L a1 x1 c1) (u := L a1 rl1 c1) 2 (by simp only [L, he1])
 exact wp_ret (Rt c (a1, c1) [0] [])

theorem laws_toProgram_ok {n p0 ga0 gc1 r} (h : laws_toProgram n p0 = some r) : Con Tryz.prog 21 [gV p0 ga0 gc1] [] [lR ga0 p0.Code gc1] fun (i : Oh) => ([gV r i.1 i.2], [sl141 (L i.1 r.Code i.2) r.Code], []) := by
 unfold laws_toProgram at h
 refine En Tryz.func21 rfl Tryz.ntmps21 fun _ fr w c => ?_
 refine T0 (Ebx (gC p0 ga0 gc1) c fun b1 _ _ c => ?_)
 refine Eal [I 0, I 0, I 0, L none ([] : List D.Ins) 0] c fun b2 _ _ c => ?_
 refine E0 (T0 (Eal [I 0, I 0, I 0, L none ([] : List D.Ins) 0] c fun b3 _ _ c => ?_))
 refine E0 (T0 (Fp [(1, 0)] 3 c fun _ c => Esb 2 0 (I p0.W) c fun _ c => ?_))
 refine E0 (T0 (Fp [(1, 0)] 3 c fun _ c => Esb 2 1 (I p0.Mem) c fun _ c => ?_))
 refine E0 (T0 (Fp [(1, 0)] 3 c fun _ c => ?_))
 try simp only [l1, l2, l3, l4] at c
 refine Esb 2 2 (I p0.In) c fun _ c => ?_
 refine E0 (T0 (Fp [(1, 0)] 2 c fun _ c => Bd h fun x1 hx1 h => Cb c (laws_toInsS_ok hx1) ⟨.f 0, tt⟩ Tryz.call62 fun i1 _ _ c => ?_))
 refine Fp [] 1 c fun _ c => Esb 2 3 (L i1.1 x1 i1.2) c fun _ c => ?_
 refine E0 (T0 (Fp [(0, 2)] 1 c fun _ c => Ess 1 [I p0.W, I p0.Mem, I p0.In, L i1.1 x1 i1.2] c fun _ c => ?_))
 refine E0 ?_
 cases h
 exact wp_ret (Rg c (i1.1, i1.2) [3] [] (.cell (α := Agg 3) kk (.b 1) .nil))

theorem laws_toTerm_laws_toTermS_rec (n : Nat) : (∀ {p0 ga0 gc1 r} (h : laws_toTerm n p0 = some r), Con Tryz.prog 8 [tV p0 ga0 gc1] [] [lR ga0 p0.Kids gc1] fun (i : Oh) => ([tV r i.1 i.2], [OD (ownT 34) 34 (L i.1 r.Kids i.2) r.Kids], [])) ∧
    (∀ {p0 ga0 gc1 r} (h : laws_toTermS n p0 = some r), Con Tryz.prog 42 [L ga0 p0 gc1] [] [lR ga0 p0 gc1] fun (i : Oh) => ([L i.1 r i.2], [OD (ownT 34) 34 (L i.1 r i.2) r], [])) := by
 induction n with
 | zero => exact ⟨by intro p0 ga0 gc1 r h; simp [laws_toTerm] at h, by intro p0 ga0 gc1 r h; simp [laws_toTermS] at h⟩
 | succ n ih =>
 obtain ⟨ih0, ih1⟩ := ih
 refine ⟨?_, ?_⟩
 · intro p0 ga0 gc1 r h
   rw [laws_toTerm] at h
   refine En Tryz.func8 rfl Tryz.ntmps8 fun _ fr w c => ?_
   refine T0 (Ebx (tC p0 ga0 gc1) c fun b1 _ _ c => ?_)
   refine Eal tZ c fun b2 _ _ c => ?_
   refine E0 (T0 (Eal tZ c fun b3 _ _ c => ?_))
   refine E0 (T0 (Fp [(1, 0)] 3 c fun _ c => Esb 2 0 (I p0.Op) c fun _ c => ?_))
   refine E0 (T0 (Fp [(1, 0)] 3 c fun _ c => Esb 2 1 (I p0.W) c fun _ c => ?_))
   refine E0 (T0 (Fp [(1, 0)] 3 c fun _ c => ?_))
   try simp only [l1, l2, l3, l4] at c
   refine Esb 2 2 (I p0.N) c fun _ c => ?_
   refine E0 (T0 (Fp [(1, 0)] 3 c fun _ c => Esb 2 3 (Str.val p0.Name) c fun _ c => ?_))
   refine E0 (T0 (Fp [(1, 0)] 2 c fun _ c => Bd h fun x1 hx1 h => Cb c (ih1 hx1) ⟨.f 0, tt⟩ Tryz.call42 fun i1 _ _ c => ?_))
   refine Fp [] 1 c fun _ c => Esb 2 4 (L i1.1 x1 i1.2) c fun _ c => ?_
   refine E0 (T0 (Fp [(0, 2)] 1 c fun _ c => Ess 1 [I p0.Op, I p0.W, I p0.N, Str.val p0.Name, L i1.1 x1 i1.2] c fun _ c => ?_))
   refine E0 ?_
   cases h
   exact wp_ret (Rg c (i1.1, i1.2) [3] [] (.cell (α := Agg 4) kk (.b 1) .nil))
 · intro p0 ga0 gc1 r h
   rw [laws_toTermS] at h
   refine En Tryz.func42 rfl Tryz.ntmps42 fun _ fr w c => ?_
   refine P0 [] c fun _ c => T0 (Fp [] 2 c fun _ c => Bd h fun x1 hx1 h => Emkd 34 (⟨0, 0, 0, ⟨[]⟩, ⟨none, 0, 0⟩⟩ : Rw.Term) (fun w => ownT_zero 34 w) c hx1 fun a1 c1 _ _ c => ?_)
   refine Fp [] 1 c fun _ c => E0 (S0 (P0 [] c fun _ c => Bd h fun rl1 hit1 h => Lp (fun s1  (i : List Rw.Term) => ([(0, L ga0 p0 gc1), (3, L a1 x1 c1), (4, I s1.1)], fun Γ => (Γ.set 0 (sl34 (L a1 x1 c1) (i))).set 1 (HP.all (ownT 34) (i) s1.2), [])) (fun  (i : List Rw.Term) => ([(3, L a1 x1 c1)], fun Γ => (Γ.set 0 (sl34 (L a1 x1 c1) (i))).set 1 (HP.all (ownT 34) (i) rl1), [])) hit1 c ((List.replicate (List.length x1) (⟨0, 0, 0, ⟨[]⟩, ⟨none, 0, 0⟩⟩ : Rw.Term))) (c.rk [0, 1] [0]) (fun s1 q1 i1 _ _ c h hr1 => ?_) fun k1 _ _ c => ?_))
   refine S0 (P0 [] c fun _ c => I0 c h (fun h => ?_) fun h => ?_)
   refine K0 (S0 (wp_block (T1 (Fp [] 4 c fun _ c => Bd h fun x2 hx2 h => Eem c (.f 0) hx2 fun _ u1 _ c => ?_))))
   obtain ⟨a2, c2, rfl, c⟩ := c.o_Term 1
   refine Bd h fun x3 hx3 h => Cb c (ih0 hx3) ⟨.f 2, tt⟩ Tryz.call8 fun i2 _ _ c => ?_
   replace c := c.pack (H := ownT 34 (tR x3 i2.1 i2.2) x3) [OD (ownT 34) 34 (L i2.1 x3.Kids i2.2) x3.Kids] [2] (fun A h => ownT_mk (x := x3) (Sep.sole h))
   refine Bd h fun x4 hx4 h => Esetd 0 1 2 c hx4 fun _ _ _ c => ?_
   refine E1 (bk (tn (P1 [] c fun _ c => Nx h ((List.set i1 (s1.1).toNat (tR x3 i2.1 i2.2))) (c.rk [0, 1] [0]))))
   refine wp_exit (te (te (be ?_)))
   obtain rfl := hr1 _ (sk h)
   exact tn ⟨(i1), c.rk [0, 1] [0]⟩
   refine P0 [] c fun _ c => ?_
   replace c := c.odc 0 1
   obtain rfl := sj h
   obtain ⟨he1, c⟩ := c.releno 0
   replace c := c.eqs (v := L a1 x1 c1) (u := L a1 rl1 c1) 2 (by simp only [L, he1])
   exact wp_ret (Rt c (a1, c1) [0] [])
theorem laws_toTerm_ok {n : Nat} : ∀ {p0 ga0 gc1 r} (h : laws_toTerm n p0 = some r), Con Tryz.prog 8 [tV p0 ga0 gc1] [] [lR ga0 p0.Kids gc1] fun (i : Oh) => ([tV r i.1 i.2], [OD (ownT 34) 34 (L i.1 r.Kids i.2) r.Kids], []) := (laws_toTerm_laws_toTermS_rec n).1
theorem laws_toTermS_ok {n : Nat} : ∀ {p0 ga0 gc1 r} (h : laws_toTermS n p0 = some r), Con Tryz.prog 42 [L ga0 p0 gc1] [] [lR ga0 p0 gc1] fun (i : Oh) => ([L i.1 r i.2], [OD (ownT 34) 34 (L i.1 r i.2) r], []) := (laws_toTerm_laws_toTermS_rec n).2

theorem laws_toIntS_ok {n p0 ga0 gc1 r} (h : laws_toIntS n p0 = some r) : Con Tryz.prog 80 [L ga0 p0 gc1] [] [lR ga0 p0 gc1] fun (i : Oh) => ([L i.1 r i.2], [sl3 (L i.1 r i.2) r], []) := by
 unfold laws_toIntS at h
 refine En Tryz.func80 rfl Tryz.ntmps80 fun _ fr w c => ?_
 refine P0 [] c fun _ c => T0 (Fp [] 2 c fun _ c => Bd h fun x1 hx1 h => Emk 3 c hx1 fun a1 c1 _ _ c => ?_)
 refine Fp [] 1 c fun _ c => E0 (S0 (P0 [] c fun _ c => Bd h fun rl1 hit1 h => Lp (fun s1  (_ : Unit) => ([(0, L ga0 p0 gc1), (3, L a1 x1 c1), (4, I s1.1)], fun Γ => Γ.set 0 (sl3 (L a1 x1 c1) s1.2), [])) (fun  (_ : Unit) => ([(3, L a1 x1 c1)], fun Γ => Γ.set 0 (sl3 (L a1 x1 c1) rl1), [])) hit1 c () (c.rk [0] [0]) (fun s1 q1 _ _ _ c h hr1 => ?_) fun _ _ _ c => ?_))
 refine S0 (P0 [] c fun _ c => I0 c h (fun h => ?_) fun h => ?_)
 refine K0 (S0 (wp_block (T1 (Fp [] 4 c fun _ c => Bd h fun x2 hx2 h => Eel c (.f 0) hx2 fun _ _ c => ?_))))
 refine Bd h fun x3 hx3 h => Eset 0 c hx3 fun _ _ _ c => ?_
 refine E1 (bk (tn (P1 [] c fun _ c => Nx h () (c.rk [0] [0]))))
 refine wp_exit (te (te (be ?_)))
 obtain rfl := hr1 _ (sk h)
 exact tn ⟨(), c.rk [0] [0]⟩
 refine P0 [] c fun _ c => ?_
 obtain rfl := sj h
 obtain ⟨he1, c⟩ := c.relen 0
 replace c := c.eqs (v := L a1 x1 c1) (u := L a1 rl1 c1) 2 (by simp only [L, he1])
 exact wp_ret (Rt c (a1, c1) [0] [])

theorem laws_toPath_ok {n p0 ga0 gc1 ga2 gc3 ga4 gc5 ga6 gc7 ga8 gc9 ga10 gc11 r} (h : laws_toPath n p0 = some r) : Con Tryz.prog 31 [pV p0 ga0 gc1 ga2 gc3 ga4 gc5 ga6 gc7 ga8 gc9 ga10 gc11] [] [lR ga0 p0.Regs gc1, lR ga2 p0.Mem gc3, lR ga4 p0.Stack gc5, lR ga6 p0.Out gc7, lR ga8 p0.Cond gc9, lR ga10 p0.Turns gc11] fun (i : Hp) => ([pJ r i], [OD (ownT 34) 34 (L i.1 r.Regs i.2.1) r.Regs, OD (ownT 34) 34 (L i.2.2.1 r.Mem i.2.2.2.1) r.Mem, sl3 (L i.2.2.2.2.1 r.Stack i.2.2.2.2.2.1) r.Stack, OD (ownT 34) 34 (L i.2.2.2.2.2.2.1 r.Out i.2.2.2.2.2.2.2.1) r.Out, OD (ownT 34) 34 (L i.2.2.2.2.2.2.2.2.1 r.Cond i.2.2.2.2.2.2.2.2.2.1) r.Cond, sl3 (L i.2.2.2.2.2.2.2.2.2.2.1 r.Turns i.2.2.2.2.2.2.2.2.2.2.2) r.Turns], []) := by
 unfold laws_toPath at h
 refine En Tryz.func31 rfl Tryz.ntmps31 fun _ fr w c => ?_
 refine T0 (Ebx (pC p0 ga0 gc1 ga2 gc3 ga4 gc5 ga6 gc7 ga8 gc9 ga10 gc11) c fun b1 _ _ c => ?_)
 refine Eal pZ c fun b2 _ _ c => ?_
 refine E0 (T0 (Eal pZ c fun b3 _ _ c => ?_))
 refine E0 (T0 (Fp [(1, 0)] 3 c fun _ c => Esb 2 0 (I p0.Pc) c fun _ c => ?_))
 refine E0 (T0 (Fp [(1, 0)] 2 c fun _ c => Bd h fun x1 hx1 h => Cb c (laws_toTermS_ok hx1) ⟨.f 0, tt⟩ Tryz.call42 fun i1 _ _ c => ?_))
 refine Fp [] 1 c fun _ c => ?_
 try simp only [l1, l2, l3, l4] at c
 refine Esb 2 1 (L i1.1 x1 i1.2) c fun _ c => ?_
 refine E0 (T0 (Fp [(1, 0)] 2 c fun _ c => Bd h fun x2 hx2 h => Cb c (laws_toTermS_ok hx2) ⟨.f 1, tt⟩ Tryz.call42 fun i2 _ _ c => ?_))
 refine Fp [] 1 c fun _ c => Esb 2 2 (L i2.1 x2 i2.2) c fun _ c => ?_
 refine E0 (T0 (Fp [(1, 0)] 2 c fun _ c => Bd h fun x3 hx3 h => Cb c (laws_toIntS_ok hx3) ⟨.f 2, tt⟩ Tryz.call80 fun i3 _ _ c => ?_))
 refine Fp [] 1 c fun _ c => ?_
 try simp only [l1, l2, l3, l4] at c
 refine Esb 2 3 (L i3.1 x3 i3.2) c fun _ c => ?_
 refine E0 (T0 (Fp [(1, 0)] 3 c fun _ c => Esb 2 4 (I p0.In) c fun _ c => ?_))
 refine E0 (T0 (Fp [(1, 0)] 2 c fun _ c => Bd h fun x4 hx4 h => Cb c (laws_toTermS_ok hx4) ⟨.f 3, tt⟩ Tryz.call42 fun i4 _ _ c => ?_))
 refine Fp [] 1 c fun _ c => ?_
 try simp only [l1, l2, l3, l4] at c
 refine Esb 2 5 (L i4.1 x4 i4.2) c fun _ c => ?_
 refine E0 (T0 (Fp [(1, 0)] 3 c fun _ c => Esb 2 6 (I p0.Code) c fun _ c => ?_))
 refine E0 (T0 (Fp [(1, 0)] 3 c fun _ c => Esb 2 7 (I p0.Steps) c fun _ c => ?_))
 refine E0 (T0 (Fp [(1, 0)] 2 c fun _ c => ?_))
 try simp only [l1, l2, l3, l4] at c
 refine Bd h fun x5 hx5 h => Cb c (laws_toTermS_ok hx5) ⟨.f 4, tt⟩ Tryz.call42 fun i5 _ _ c => ?_
 refine Fp [] 1 c fun _ c => Esb 2 8 (L i5.1 x5 i5.2) c fun _ c => ?_
 refine E0 (T0 (Fp [(1, 0)] 2 c fun _ c => Bd h fun x6 hx6 h => Cb c (laws_toIntS_ok hx6) ⟨.f 5, tt⟩ Tryz.call80 fun i6 _ _ c => ?_))
 refine Fp [] 1 c fun _ c => ?_
 try simp only [l1, l2, l3, l4] at c
 refine Esb 2 9 (L i6.1 x6 i6.2) c fun _ c => ?_
 refine E0 (T0 (Fp [(0, 2)] 1 c fun _ c => Ess 1 [I p0.Pc, L i1.1 x1 i1.2, L i2.1 x2 i2.2, L i3.1 x3 i3.2, I p0.In, L i4.1 x4 i4.2, I p0.Code, I p0.Steps, L i5.1 x5 i5.2, L i6.1 x6 i6.2] c fun _ c => ?_))
 refine E0 ?_
 cases h
 exact wp_ret (Rg c (i1.1, i1.2, i2.1, i2.2, i3.1, i3.2, i4.1, i4.2, i5.1, i5.2, i6.1, i6.2) [3, 4, 5, 6, 7, 8] [] (.cell (α := Agg 9) kk (.b 1) .nil))

theorem spec_l01In_ok {p0 p1 p2 r} (h : spec_l01In p0 p1 p2 = some r) : Con Tryz.prog 56 [I p0, I p1, I p2] [] [] fun (_ : Unit) => ([.bool r], [], []) := by
 unfold spec_l01In at h
 refine En Tryz.func56 rfl Tryz.ntmps56 fun _ fr w c => ?_
 refine P0 [] c fun _ c => S0 (Ry [] mix c fun _ _ c => ?_)
 cases h
 exact wp_ret (Rt c () [] [])

theorem spec_WordOk_ok {p0 p1 r} (h : spec_WordOk p0 p1 = some r) : Con Tryz.prog 104 [I p0, I p1] [] [] fun (_ : Unit) => ([.bool r], [], []) := by
 unfold spec_WordOk at h
 refine En Tryz.func104 rfl Tryz.ntmps104 fun _ fr w c => ?_
 refine P0 [] c fun _ c => Bd h fun x1 hx1 h => Bd h fun x2 hx2 h => Bd h fun x3 hx3 h => S0 (rZ [(1, .eq (.bool x1)), (5, .eq (I x2)), (7, .eq (.bool x3))] [] mix c ⟨Ncl c (kN (spec_l01In_ok hx1)) tt Tryz.call56, Nshl c (gT hx2), Ncl c (fun hg => spec_l01In_ok (iteT (gcT hg) hx3)) tt Tryz.call56, tt⟩ fun _ _ c => ?_)
 cases h
 exact wp_ret (Rt c () [] [])

theorem spec_l05Reg_ok {p0 r} (h : spec_l05Reg p0 = some r) : Con Tryz.prog 157 [I p0] [] [] fun (_ : Unit) => ([.bool r], [], []) := by
 unfold spec_l05Reg at h
 refine En Tryz.func157 rfl Tryz.ntmps157 fun _ fr w c => ?_
 refine P0 [] c fun _ c => T0 (Fp [] 1 c fun _ c => Bd h fun x1 hx1 h => Cb c (spec_l01In_ok hx1) tt Tryz.call56 fun _ _ _ c => ?_)
 refine Fp [] 1 c fun _ c => E0 ?_
 obtain rfl := sj h
 exact wp_ret (Rt c () [] [])

theorem spec_l05Ins_ok {p0 p1 p2 r} (h : spec_l05Ins p0 p1 p2 = some r) : Con Tryz.prog 105 [nV p0, I p1, I p2] [] [] fun (_ : Unit) => ([.bool r], [], []) := by
 unfold spec_l05Ins at h
 refine En Tryz.func105 rfl Tryz.ntmps105 fun _ fr w c => ?_
 refine T0 (Ebx (nC p0) c fun b1 _ _ c => ?_)
 refine Fp [] 1 c fun _ c => E0 (T0 (Fp [(1, 0)] 3 c fun _ c => Bd h fun x1 hx1 h => Cb c (spec_l01In_ok hx1) tt Tryz.call56 fun _ _ _ c => ?_))
 refine Fp [] 1 c fun _ c => E0 (S0 (P0 [(1, 0)] c fun _ c => wp_block (P0 [] c fun _ c => I0 c h (fun h => ?_) fun h => ?_)))
 refine Bd h fun x2 hx2 h => Bd h fun x3 hx3 h => S0 (rZ [(2, .eq (.bool x2)), (7, .eq (.bool x3))] [(1, 0), (6, 0), (11, 0)] mix c ⟨Ncl c (kN (spec_l05Reg_ok hx2)) tt Tryz.call157, Ncl c (fun hg => spec_WordOk_ok (iteT (gcT hg) hx3)) tt Tryz.call104, tt⟩ fun _ _ c => ?_)
 cases h
 exact wp_ret (br (tr (Rt c () [] [])))
 refine S0 (P0 [] c fun _ c => Bd h fun rl1 hit1 h => ?_)
 have hk1 := h
 refine Jr (fun s  (_ : Unit) => ([(3, B b1 0), (7, .bool x1), (13, I p0.Op), (30, .bool s)], id, [])) hit1 c (fun h => ?_) fun s1r _ _ _ hrl c => ?_
 refine I0 c h (fun h => ?_) fun h => ?_
 refine K0 (⟨_, (), (sk h), c.rk [0] []⟩)
 refine P0 [] c fun _ c => Mp (p0.Op == 7) [(30, .bool (p0.Op == 7))] [(30, .bool (p0.Op == 8))] [(30, .bool ((p0.Op == 7) || (p0.Op == 8)))] [30, 33] c fun _ c => ⟨_, (), (sk h), c.rk [0] []⟩
 subst hrl
 refine I0 c h (fun h => ?_) fun h => ?_
 refine Bd h fun x4 hx4 h => Bd h fun x5 hx5 h => S0 (rZ [(2, .eq (.bool x4)), (6, .eq (.bool x5))] [(1, 0), (5, 0), (10, 0)] mix c ⟨Ncl c (kN (spec_l05Reg_ok hx4)) tt Tryz.call157, Ncl c (fun hg => spec_l05Reg_ok (iteT (gcT hg) hx5)) tt Tryz.call157, tt⟩ fun _ _ c => ?_)
 cases h
 exact wp_ret (br (tr (Rt c () [] [])))
 refine P0 [] c fun _ c => I0 c h (fun h => ?_) fun h => ?_
 refine Bd h fun x6 hx6 h => Bd h fun x7 hx7 h => Bd h fun x8 hx8 h => S0 (rZ [(2, .eq (.bool x6)), (6, .eq (.bool x7)), (11, .eq (.bool x8))] [(1, 0), (5, 0), (10, 0)] mix c ⟨Ncl c (kN (spec_l05Reg_ok hx6)) tt Tryz.call157, Ncl c (fun hg => spec_l05Reg_ok (iteT (gcT hg) hx7)) tt Tryz.call157, Ncl c (fun hg => spec_l01In_ok (iteT (gcT hg) hx8)) tt Tryz.call56, tt⟩ fun _ _ c => ?_)
 cases h
 exact wp_ret (br (tr (Rt c () [] [])))
 refine S0 (P0 [] c fun _ c => Bd h fun rl2 hit2 h => ?_)
 have hk2 := h
 refine Jr (fun s  (_ : Unit) => ([(3, B b1 0), (7, .bool x1), (13, I p0.Op), (62, .bool s)], id, [])) hit2 c (fun h => ?_) fun s2r _ _ _ hrl c => ?_
 refine I0 c h (fun h => ?_) fun h => ?_
 refine K0 (⟨_, (), (sk h), c.rk [0] []⟩)
 refine P0 [] c fun _ c => I0 c h (fun h => ?_) fun h => ?_
 refine K0 (⟨_, (), (sk h), c.rk [0] []⟩)
 refine P0 [] c fun _ c => Mp (p0.Op == 6) [(62, .bool (p0.Op == 6))] [(62, .bool (p0.Op == 13))] [(62, .bool ((p0.Op == 6) || (p0.Op == 13)))] [62, 66] c fun _ c => ⟨_, (), (sk h), c.rk [0] []⟩
 subst hrl
 refine I0 c h (fun h => ?_) fun h => ?_
 refine Bd h fun x9 hx9 h => S0 (rZ [(2, .eq (.bool x9))] [(1, 0), (5, 0), (10, 0)] mix c ⟨Ncl c (kN (spec_l05Reg_ok hx9)) tt Tryz.call157, tt⟩ fun _ _ c => ?_)
 cases h
 exact wp_ret (br (tr (Rt c () [] [])))
 refine S0 (P0 [] c fun _ c => Mp (p0.Op == 9) [(80, .bool (p0.Op == 9))] [(80, .bool (p0.Op == 11))] [(80, .bool ((p0.Op == 9) || (p0.Op == 11)))] [80, 82] c fun _ c => I0 c h (fun h => ?_) fun h => ?_)
 refine S0 (Ry [(1, 0), (8, 0)] mix c fun _ _ c => ?_)
 cases h
 exact wp_ret (br (tr (Rt c () [] [])))
 refine P0 [] c fun _ c => I0 c h (fun h => ?_) fun h => ?_
 refine Bd h fun x10 hx10 h => S0 (rZ [(2, .eq (.bool x10))] [(1, 0), (8, 0)] mix c ⟨Ncl c (kN (spec_l05Reg_ok hx10)) tt Tryz.call157, tt⟩ fun _ _ c => ?_)
 cases h
 exact wp_ret (br (tr (Rt c () [] [])))
 refine S0 (P0 [] c fun _ c => Mp (p0.Op == 12) [(107, .bool (p0.Op == 12))] [(107, .bool (p0.Op == 14))] [(107, .bool ((p0.Op == 12) || (p0.Op == 14)))] [107, 109] c fun _ c => I0 c h (fun h => ?_) fun h => ?_)
 refine S0 (Ry [(1, 0), (5, 0), (10, 0)] mix c fun _ _ c => ?_)
 cases h
 exact wp_ret (br (tr (Rt c () [] [])))
 refine K1 (bk (tn (P0 [] c fun _ c => ?_)))
 obtain rfl := sj h
 exact wp_ret (Rt c () [] [])

theorem spec_ProgramOk_ok {n p0 ga0 gc1 r} (h : spec_ProgramOk n p0 = some r) : Con Tryz.prog 55 [gV p0 ga0 gc1] [] [lR ga0 p0.Code gc1] fun (_ : Unit) => ([.bool r], [], []) := by
 unfold spec_ProgramOk at h
 refine En Tryz.func55 rfl Tryz.ntmps55 fun _ fr w c => ?_
 refine T0 (Ebx (gC p0 ga0 gc1) c fun b1 _ _ c => ?_)
 refine Fp [] 1 c fun _ c => E0 (S0 (Bd h fun x1 hx1 h => Bd h fun x2 hx2 h => Bd h fun x3 hx3 h => Bd h fun x4 hx4 h => Bd h fun x5 hx5 h => S0 (rZ [(2, .eq (.bool x1)), (7, .eq (.bool x2)), (15, .eq (.bool x3)), (21, .eq (.bool x4)), (28, .eq (.bool x5))] [(1, 0), (6, 0), (12, 0), (14, 0), (20, 0), (26, 0)] mix c ⟨Ncl c (kN (spec_l01In_ok hx1)) tt Tryz.call56, Ncl c (fun hg => spec_l01In_ok (iteF (gcF hg) hx2)) tt Tryz.call56, Ncl c (fun hg => spec_WordOk_ok (iteF (gcF hg) hx3)) tt Tryz.call104, Ncl c (fun hg => spec_l01In_ok (iteF (gcF hg) hx4)) tt Tryz.call56, Ncl c (fun hg => spec_l01In_ok (iteF (gcF hg) hx5)) tt Tryz.call56, tt⟩ fun _ _ c => I0 c h (fun h => ?_) fun h => ?_)))
 refine P0 [] c fun _ c => ?_
 obtain rfl := sj h
 exact wp_ret (tr (Rt c () [] []))
 refine K0 (S0 (P0 [(1, 0)] c fun _ c => Bd h fun rl1 hit1 h => ?_))
 have hk1 := h
 refine LpR (fun s1  (_ : Unit) => ([(1, B b1 0), (37, L ga0 p0.Code gc1), (38, I (len p0.Code)), (39, I s1)], id, [])) (fun s  (_ : Unit) => ([], id, [])) hit1 c () (c.rk [0] [0]) (fun s1 q1 _ _ _ c h hr1 => ?_) fun s1r _ _ _ hrl c => ?_
 refine P0 [] c fun _ c => S0 (I0 c h (fun h => ?_) fun h => ?_)
 refine K0 (S0 (wp_block (T0 (Bd h fun x6 hx6 h => Eel c (.f 0) hx6 fun _ _ c => ?_))))
 refine Eal [I 0, I 0, I 0, I 0] c fun b2 _ _ c => ?_
 refine Ess 1 (nC x6) c fun _ c => ?_
 refine E0 (T0 (Fp [(0, 1), (2, 0), (4, 0)] 6 c fun _ c => Bd h fun x7 hx7 h => Cb c (spec_l05Ins_ok hx7) tt Tryz.call105 fun _ _ _ c => ?_))
 refine Fp [] 1 c fun _ c => E0 (I0 c h (fun h => ?_) fun h => ?_)
 refine P0 [] c fun _ c => ?_
 obtain rfl := hr1 _ (sk h)
 obtain rfl := sj hk1
 exact wp_ret (br (tr (tr (br (tr (Rt c () [] []))))))
 refine K1 (bk (tn (P1 [] c fun _ c => Nx h () (c.rk [0] [0]))))
 refine wp_exit (te (te (be ?_)))
 obtain rfl := hr1 _ (sk h)
 exact tn ⟨_, (), rfl, c.rk [0] [0]⟩
 subst hrl
 refine P0 [] c fun _ c => ?_
 obtain rfl := sj h
 exact wp_ret (Rt c () [] [])

theorem spec_l02Few_ok {n : Nat} : ∀ {p0 p1 ga0 gc1 gb2 r} (h : spec_l02Few n p0 p1 = some r), Con Tryz.prog 84 [tV p0 ga0 gc1, B gb2 0] [BX gb2 3 [I p1]] [lR ga0 p0.Kids gc1] fun (_ : Unit) => ([.bool r.1], [BX gb2 3 [I r.2]], []) := by
 induction n with
 | zero => intro p0 p1 ga0 gc1 gb2 r h; simp [spec_l02Few] at h
 | succ n ih =>
 intro p0 p1 ga0 gc1 gb2 r h
 rw [spec_l02Few] at h
 refine En Tryz.func84 rfl Tryz.ntmps84 fun _ fr w c => ?_
 refine T0 (Ebx (tC p0 ga0 gc1) c fun b1 _ _ c => ?_)
 refine Fp [] 1 c fun _ c => E0 (T0 (Fp [(3, 0)] 6 c fun _ c => Esb 0 0 (I (w64 (p1 - 1))) c fun _ c => ?_))
 refine E0 (S0 (P0 [] c fun _ c => Bd h fun rl1 hit1 h => Lp (fun s1  (_ : Unit) => ([(1, B gb2 0), (2, B b1 0), (5, I s1.1)], fun Γ => Γ.set 0 (BX gb2 3 [I s1.2]), [])) (fun  (_ : Unit) => ([(1, B gb2 0)], fun Γ => Γ.set 0 (BX gb2 3 [I rl1]), [])) hit1 c () (c.rk [0, 1] [0]) (fun s1 q1 _ _ _ c h hr1 => ?_) fun _ _ _ c => ?_))
 refine S0 (S0 (Ry [(2, 1), (8, 0)] mix c fun _ _ c => I0 c h (fun h => ?_) fun h => ?_))
 refine K0 (S0 (wp_block (T1 (Fp [(1, 1)] 3 c fun _ c => Bd h fun x1 hx1 h => Eem c (.f 0) hx1 fun _ u1 _ c => ?_))))
 obtain ⟨a1, c1, rfl, c⟩ := c.o_Term 1
 refine Fp [] 1 c fun _ c => Bd h fun x2 hx2 h => Ca [0] c (ih hx2) ⟨.f 2, tt⟩ Tryz.call84 fun _ _ _ c => ?_
 refine E1 (bk (tn (P1 [] c fun _ c => Nx h () (c.rk [1, 0] [0]))))
 refine wp_exit (te (te (be ?_)))
 obtain rfl := hr1 _ (sk h)
 exact tn ⟨(), c.rk [0, 1] [0]⟩
 refine P0 [(2, 0)] c fun _ c => ?_
 cases h
 exact wp_ret (Rt c () [0] [])

theorem spec_IsName_ok {n p0 r} (h : spec_IsName n p0 = some r) : Con Tryz.prog 130 [Str.val p0] [] [] fun (_ : Unit) => ([.bool r], [], []) := by
 unfold spec_IsName at h
 refine En Tryz.func130 rfl Tryz.ntmps130 fun _ fr w c => ?_
 refine P0 [] c fun _ c => S0 (P0 [] c fun _ c => Bd h fun rl1 hit1 h => ?_)
 have hk1 := h
 refine LpR (fun s1  (_ : Unit) => ([(0, Str.val p0), (3, I s1)], id, [])) (fun s  (_ : Unit) => ([(0, Str.val p0)], id, [])) hit1 c () (c.rk [] []) (fun s1 q1 _ _ _ c h hr1 => ?_) fun s1r _ _ _ hrl c => ?_
 refine S0 (P0 [] c fun _ c => I0 c h (fun h => ?_) fun h => ?_)
 refine K0 (S0 (wp_block (T0 (Fp [] 2 c fun _ c => Bd h fun x1 hx1 h => Eix (kd := .i64) c hx1 fun _ c => ?_))))
 refine Fp [] 1 c fun _ c => Bd h fun x2 hx2 h => Cb c (spec_l01In_ok hx2) tt Tryz.call56 fun _ _ _ c => ?_
 refine Fp [] 1 c fun _ c => E0 (Bd h fun x3 hx3 h => Bd h fun x4 hx4 h => S0 (rZ [(8, .eq (.int .u8 x3)), (10, .eq (.bool x4))] [] mix c ⟨Nix c (fun hg => (iteT (gcT (g' := 2) (gU 5 hg)) (iteF (gcF (g' := 5) hg) hx3))), Ncl c (fun hg => spec_l01In_ok ((iteT (gcT (g' := 2) (gU 5 hg)) (iteF (gcF (g' := 5) hg) hx4)))) tt Tryz.call56, tt⟩ fun _ _ c => I0 c h (fun h => ?_) fun h => ?_))
 refine P0 [] c fun _ c => ?_
 obtain rfl := hr1 _ (sk h)
 obtain rfl := sj hk1
 exact wp_ret (br (tr (tr (br (tr (Rt c () [] []))))))
 refine K1 (bk (tn (P1 [] c fun _ c => Nx h () (c.rk [] []))))
 refine wp_exit (te (te (be ?_)))
 obtain rfl := hr1 _ (sk h)
 exact tn ⟨_, (), rfl, c.rk [] []⟩
 subst hrl
 refine T0 (Fp [] 2 c fun _ c => Bd h fun x5 hx5 h => Cb c (spec_l01In_ok hx5) tt Tryz.call56 fun _ _ _ c => ?_)
 refine Fp [] 1 c fun _ c => E0 ?_
 obtain rfl := sj h
 exact wp_ret (Rt c () [] [])

theorem spec_l02Node_ok {n : Nat} : ∀ {p0 ga0 gc1 r} (h : spec_l02Node n p0 = some r), Con Tryz.prog 85 [tV p0 ga0 gc1] [] [lR ga0 p0.Kids gc1] fun (_ : Unit) => ([.bool r], [], []) := by
 induction n with
 | zero => intro p0 ga0 gc1 r h; simp [spec_l02Node] at h
 | succ n ih =>
 intro p0 ga0 gc1 r h
 rw [spec_l02Node] at h
 refine En Tryz.func85 rfl Tryz.ntmps85 fun _ fr w c => ?_
 refine T0 (Ebx (tC p0 ga0 gc1) c fun b1 _ _ c => ?_)
 refine Fp [] 1 c fun _ c => E0 (P0 [(1, 0)] c fun _ c => S0 (Bd h fun x1 hx1 h => S0 (rZ [(2, .eq (.bool x1))] [(1, 0), (6, 0), (10, 0), (16, 0), (20, 0), (25, 0)] mix c ⟨Ncl c (kN (spec_l01In_ok hx1)) tt Tryz.call56, tt⟩ fun _ _ c => I0 c h (fun h => ?_) fun h => ?_)))
 refine P0 [] c fun _ c => ?_
 obtain rfl := sj h
 exact wp_ret (tr (Rt c () [] []))
 refine K0 (S0 (P0 [(1, 0)] c fun _ c => Bd h fun rl1 hit1 h => ?_))
 have hk1 := h
 refine LpR (fun s1  (_ : Unit) => ([(1, B b1 0), (3, I (len p0.Kids)), (41, L ga0 p0.Kids gc1), (42, I (len p0.Kids)), (43, I s1)], id, [])) (fun s  (_ : Unit) => ([(1, B b1 0), (3, I (len p0.Kids))], id, [])) hit1 c () (c.rk [0] [0]) (fun s1 q1 _ _ _ c h hr1 => ?_) fun s1r _ _ _ hrl c => ?_
 refine P0 [] c fun _ c => S0 (I0 c h (fun h => ?_) fun h => ?_)
 refine K0 (S0 (wp_block (T0 (Bd h fun x2 hx2 h => Eem c (.f 0) hx2 fun _ u1 _ c => ?_))))
 obtain ⟨a1, c1, rfl, c⟩ := c.o_Term 1
 refine Eal tZ c fun b2 _ _ c => ?_
 refine Ess 1 (tC x2 a1 c1) c fun _ c => ?_
 refine E0 (T0 (Fp [(0, 1)] 1 c fun _ c => Bd h fun x3 hx3 h => Cb c (ih hx3) ⟨.f 2, tt⟩ Tryz.call85 fun _ _ _ c => ?_))
 refine Fp [] 1 c fun _ c => E0 (I0 c h (fun h => ?_) fun h => ?_)
 refine P0 [] c fun _ c => ?_
 obtain rfl := hr1 _ (sk h)
 obtain rfl := sj hk1
 exact wp_ret (br (tr (tr (br (tr (Rt c () [] []))))))
 refine K1 (bk (tn (P1 [] c fun _ c => Nx h () (c.rk [0] [0]))))
 refine wp_exit (te (te (be ?_)))
 obtain rfl := hr1 _ (sk h)
 exact tn ⟨_, (), rfl, c.rk [0] [0]⟩
 subst hrl
 refine T0 (Elt 3 ([0, 0, 0] : List Int) c fun a2 c2 _ _ c => ?_)
 refine Fp [] 1 c fun _ c => E0 (S0 (P0 [] c fun _ c => Bd h fun rl2 hit2 h => Lp (fun s2  (_ : Unit) => ([(1, B b1 0), (3, I (len p0.Kids)), (6, L a2 ([0, 0, 0] : List Int) c2), (7, I s2.1)], fun Γ => Γ.set 1 (sl3 (L a2 ([0, 0, 0] : List Int) c2) s2.2), [])) (fun  (_ : Unit) => ([(1, B b1 0), (3, I (len p0.Kids)), (6, L a2 ([0, 0, 0] : List Int) c2)], fun Γ => Γ.set 1 (sl3 (L a2 ([0, 0, 0] : List Int) c2) rl2), [])) hit2 c () (c.rk [0, 1] [0]) (fun s2 q2 _ _ _ c h hr2 => ?_) fun _ _ _ c => ?_))
 refine S0 (S0 (Ry [] mix c fun _ _ c => I0 c h (fun h => ?_) fun h => ?_))
 refine K0 (S0 (wp_block (T1 (Fp [(3, 0)] 5 c fun _ c => Bd h fun x4 hx4 h => Eef c (.f 0) hx4 fc34_1 fun _ _ _ c => ?_))))
 refine Bd h fun x5 hx5 h => Eset 1 c hx5 fun _ _ _ c => ?_
 refine E1 (bk (tn (P1 [] c fun _ c => Nx h () (c.rk [0, 1] [0]))))
 refine wp_exit (te (te (be ?_)))
 obtain rfl := hr2 _ (sk h)
 exact tn ⟨(), c.rk [0, 1] [0]⟩
 refine S0 (wp_block (P0 [(1, 0)] c fun _ c => I0 c h (fun h => ?_) fun h => ?_))
 refine Bd h fun x6 hx6 h => S0 (rZ [(7, .eq (.bool x6))] [(4, 0), (6, 0)] mix c ⟨Ncl c (fun hg => spec_WordOk_ok (iteT (gcT hg) hx6)) tt Tryz.call104, tt⟩ fun _ _ c => ?_)
 cases h
 exact wp_ret (br (tr (Rt c () [] [])))
 refine P0 [(1, 0)] c fun _ c => I0 c h (fun h => ?_) fun h => ?_
 refine Bd h fun x7 hx7 h => S0 (rZ [(5, .eq (.bool x7))] [(4, 0)] mix c ⟨Ncl c (fun hg => spec_IsName_ok (iteT (gcT hg) hx7)) tt Tryz.call130, tt⟩ fun _ _ c => ?_)
 cases h
 exact wp_ret (br (tr (Rt c () [] [])))
 refine T0 (Fp [(1, 0)] 2 c fun _ c => Bd h fun x8 hx8 h => Cb c (spec_l01In_ok hx8) tt Tryz.call56 fun _ _ _ c => ?_)
 refine Fp [] 1 c fun _ c => E0 (I0 c h (fun h => ?_) fun h => ?_)
 refine Bd h fun x9 hx9 h => S0 (rZ [(4, Pd.el (x9 : Int)), (5, .eq (I x9))] [(7, 0)] mix c ⟨Nid c (.g 1) (gT hx9), Nld c 4 (q := x9) (atN 4), tt⟩ fun _ _ c => ?_)
 cases h
 exact wp_ret (br (tr (Rt c () [] [])))
 refine T0 (Fp [(1, 0)] 2 c fun _ c => Bd h fun x10 hx10 h => Cb c (spec_l01In_ok hx10) tt Tryz.call56 fun _ _ _ c => ?_)
 refine Fp [] 1 c fun _ c => E0 (I0 c h (fun h => ?_) fun h => ?_)
 refine Bd h fun x11 hx11 h => Bd h fun x12 hx12 h => S0 (rZ [(4, Pd.el (x11 : Int)), (5, .eq (I x11)), (12, Pd.el (x12 : Int)), (13, .eq (I x12))] [(7, 0), (15, 0)] mix c ⟨Nid c (.g 1) (gT hx11), Nld c 4 (q := x11) (atN 4), Nid c (.g 1) (gT hx12), Nld c 12 (q := x12) (atN 12), tt⟩ fun _ _ c => ?_)
 cases h
 exact wp_ret (br (tr (Rt c () [] [])))
 refine T0 (Fp [(1, 0)] 2 c fun _ c => Bd h fun x13 hx13 h => Cb c (spec_l01In_ok hx13) tt Tryz.call56 fun _ _ _ c => ?_)
 refine Fp [] 1 c fun _ c => E0 (I0 c h (fun h => ?_) fun h => ?_)
 refine Bd h fun x14 hx14 h => Bd h fun x15 hx15 h => S0 (rZ [(4, Pd.el (x14 : Int)), (5, .eq (I x14)), (7, Pd.el (x15 : Int)), (8, .eq (I x15))] [(13, 0)] mix c ⟨Nid c (.g 1) (gT hx14), Nld c 4 (q := x14) (atN 4), Nid c (.g 1) (gT hx15), Nld c 7 (q := x15) (atN 7), tt⟩ fun _ _ c => ?_)
 cases h
 exact wp_ret (br (tr (Rt c () [] [])))
 refine P0 [(1, 0)] c fun _ c => I0 c h (fun h => ?_) fun h => ?_
 refine Bd h fun x16 hx16 h => Bd h fun x17 hx17 h => Bd h fun x18 hx18 h => S0 (rZ [(4, Pd.el (x16 : Int)), (5, .eq (I x16)), (10, Pd.el (x17 : Int)), (11, .eq (I x17)), (18, Pd.el (x18 : Int)), (19, .eq (I x18))] [(13, 0), (21, 0)] mix c ⟨Nid c (.g 1) (gT hx16), Nld c 4 (q := x16) (atN 4), Nid c (.g 1) (gT hx17), Nld c 10 (q := x17) (atN 10), Nid c (.g 1) (gT hx18), Nld c 18 (q := x18) (atN 18), tt⟩ fun _ _ c => ?_)
 cases h
 exact wp_ret (br (tr (Rt c () [] [])))
 refine P0 [(1, 0)] c fun _ c => I0 c h (fun h => ?_) fun h => ?_
 refine Bd h fun x19 hx19 h => Bd h fun x20 hx20 h => S0 (rZ [(4, Pd.el (x19 : Int)), (5, .eq (I x19)), (7, Pd.el (x20 : Int)), (8, .eq (I x20))] [(11, 0)] mix c ⟨Nid c (.g 1) (gT hx19), Nld c 4 (q := x19) (atN 4), Nid c (.g 1) (gT hx20), Nld c 7 (q := x20) (atN 7), tt⟩ fun _ _ c => ?_)
 cases h
 exact wp_ret (br (tr (Rt c () [] [])))
 refine P0 [(1, 0)] c fun _ c => I0 c h (fun h => ?_) fun h => ?_
 refine Bd h fun x21 hx21 h => Bd h fun x22 hx22 h => S0 (rZ [(5, .eq (.bool x21)), (14, Pd.el (x22 : Int)), (15, .eq (I x22))] [(4, 0), (9, 0), (11, 0)] mix c ⟨Ncl c (fun hg => spec_l01In_ok (iteT (gcT hg) hx21)) tt Tryz.call56, Nid c (.g 1) (gT hx22), Nld c 14 (q := x22) (atN 14), tt⟩ fun _ _ c => ?_)
 cases h
 exact wp_ret (br (tr (Rt c () [] [])))
 refine K1 (bk (tn (Bd h fun x23 hx23 h => Bd h fun x24 hx24 h => S0 (rZ [(2, .eq (.bool x23)), (9, Pd.el (x24 : Int)), (10, .eq (I x24))] [(1, 0), (12, 0)] mix c ⟨Ncl c (kN (spec_l01In_ok hx23)) tt Tryz.call56, Nid c (.g 1) (gT hx24), Nld c 9 (q := x24) (atN 9), tt⟩ fun _ _ c => ?_))))
 cases h
 exact wp_ret (Rt c () [] [])

theorem spec_l02Vars_ok {n : Nat} : ∀ {p0 p1 ga0 gc1 ga2 gc3 r} (h : spec_l02Vars n p0 p1 = some r), Con Tryz.prog 83 [tV p0 ga0 gc1, L ga2 p1 gc3] [] [lR ga0 p0.Kids gc1, lR ga2 p1 gc3] fun (i : Oh) => ([L i.1 r.1 i.2, .bool r.2], [], [lR i.1 r.1 i.2]) := by
 induction n with
 | zero => intro p0 p1 ga0 gc1 ga2 gc3 r h; simp [spec_l02Vars] at h
 | succ n ih =>
 intro p0 p1 ga0 gc1 ga2 gc3 r h
 rw [spec_l02Vars] at h
 refine En Tryz.func83 rfl Tryz.ntmps83 fun _ fr w c => ?_
 refine T0 (Ebx (tC p0 ga0 gc1) c fun b1 _ _ c => ?_)
 refine Fp [] 2 c fun _ c => E0 (S0 (P0 [(1, 0)] c fun _ c => I0 c h (fun h => ?_) fun h => ?_))
 refine P0 [] c fun _ c => Bd h fun rl1 hit1 h => S0 (Lp (fun s1  (_ : Unit) => ([(1, L ga2 p1 gc3), (2, B b1 0), (6, I s1)], id, [])) (fun  (_ : Unit) => ([(1, L ga2 p1 gc3), (2, B b1 0), (6, I rl1)], id, [])) hit1 c () (c.rk [0] [0, 1]) (fun s1 q1 _ _ _ c h hr1 => ?_) fun _ _ _ c => ?_)
 refine S0 (Bd h fun x1 hx1 h => S0 (rZ [(7, Pd.el (x1 : D.Value)), (8, Pd.fl (Str.val x1.Name)), (9, .eq (Str.val x1.Name))] [(11, 0)] mix c ⟨Nid c (.f 1) (gT hx1), Nfa c 7 (atN 7) fc86_0, Nlf c 8 (atN 8), tt⟩ fun _ _ c => I0 c h (fun h => ?_) fun h => ?_))
 refine K0 (wp_block (Tq (P1 [] c fun _ c => bk (tn (Nx h () (c.rk [0] [0, 1]))))))
 refine wp_exit (te (te (be ?_)))
 obtain rfl := hr1 _ (sk h)
 exact tn ⟨(), c.rk [0] [0, 1]⟩
 refine S0 (Bd h fun x2 hx2 h => S0 (rZ [(7, Pd.el (x2 : D.Value)), (8, Pd.fl (Str.val x2.Name)), (9, .eq (Str.val x2.Name))] [(11, 0)] mix c ⟨Nid c (.f 1) (gT hx2), Nfa c 7 (atN 7) fc86_0, Nlf c 8 (atN 8), tt⟩ fun _ _ c => I0 c h (fun h => ?_) fun h => ?_))
 refine Bd h fun x3 hx3 h => S0 (rZ [(3, Pd.el (x3 : D.Value)), (4, Pd.fl (I x3.W)), (5, .eq (I x3.W))] [(7, 0)] mix c ⟨Nid c (.f 1) (kN hx3), Nfa c 3 (atN 3) fc86_1, Nlf c 4 (atN 4), tt⟩ fun _ _ c => ?_)
 cases h
 exact wp_ret (tr (tr (Rg c (ga2, gc3) [] [1] (.tmp (.tmp .nil)))))
 refine K0 (T0 (Elt 86 ([] : List D.Value) c fun a1 c1 _ _ c => ?_))
 refine Fp [] 2 c fun _ c => Bd h fun x4 hx4 h => Esl 86 c (.f 1) hx4 fun u1 _ c => ?_
 obtain ⟨a2, c2, rfl⟩ := c.sl 2
 refine Bd h fun x5 hx5 h => Eap 1 c (.f 2) hx5 fun a3 c3 _ _ c => ?_
 refine Fp [] 1 c fun _ c => E0 (T0 (Fp [(2, 0), (4, 0)] 6 c fun _ c => Elt 86 ([(D.Value.mk p0.Name p0.W 0)] : List D.Value) c fun a4 c4 _ _ c => ?_))
 refine Bd h fun x6 hx6 h => Eap 1 c (.g 2) hx6 fun a5 c5 _ _ c => ?_
 refine Fp [] 1 c fun _ c => E0 (T0 (Fp [] 3 c fun _ c => ?_))
 replace c := c.gm [BX b1 34 (tC p0 ga0 gc1), sl86 (L a5 x6 c5) x6, sl86 (L a4 ([(D.Value.mk p0.Name p0.W 0)] : List D.Value) c4) ([(D.Value.mk p0.Name p0.W 0)] : List D.Value)]
 refine Bd h fun x7 hx7 h => Esl 86 c (.f 1) hx7 fun u2 _ c => ?_
 obtain ⟨a6, c6, rfl⟩ := c.sl 3
 refine Bd h fun x8 hx8 h => Eap 1 c (.f 3) hx8 fun a7 c7 _ _ c => ?_
 refine Fp [] 2 c fun _ c => E0 ?_
 replace c := c.fz 1
 cases h
 exact wp_ret (tr (Rg c (a7, c7) [] [4] (.tmp (.tmp .nil))))
 refine K0 (S0 (P0 [(1, 0)] c fun _ c => Bd h fun rl2 hit2 h => ?_))
 have hk2 := h
 refine LpR (fun s2  (i : Oh) => ([(1, L i.1 s2.1 i.2), (73, L ga0 p0.Kids gc1), (74, I (len p0.Kids)), (75, I s2.2)], id, [lR i.1 s2.1 i.2])) (fun s  (i : Oh) => ([(1, L i.1 s i.2)], id, [lR i.1 s i.2])) hit2 c (ga2, gc3) (c.rk [0] [0, 1, 1]) (fun s2 q2 i1 _ _ c h hr2 => ?_) fun s2r k1 _ _ hrl c => ?_
 refine P0 [] c fun _ c => S0 (I0 c h (fun h => ?_) fun h => ?_)
 refine K0 (S0 (wp_block (T0 (Bd h fun x9 hx9 h => Eem c (.f 0) hx9 fun _ u3 _ c => ?_))))
 obtain ⟨a8, c8, rfl, c⟩ := c.o_Term 3
 refine Eal tZ c fun b2 _ _ c => ?_
 refine Ess 1 (tC x9 a8 c8) c fun _ c => ?_
 refine E0 (T0 (Fp [(0, 1)] 2 c fun _ c => Bd h fun x10 hx10 h => Cg c (ih hx10) ⟨.f 4, .f 2, tt⟩ Tryz.call83 fun i2 _ _ c => ?_))
 refine Fp [] 5 c fun _ c => E0 (S0 (P0 [] c fun _ c => I0 c h (fun h => ?_) fun h => ?_))
 refine P0 [] c fun _ c => ?_
 obtain rfl := hr2 _ (sk h)
 obtain rfl := sj hk2
 replace c := c.nilf (α := D.Value)
 exact wp_ret (tr (br (tr (tr (br (tr (Rg c (none, 0) [] [6] (.tmp (.tmp .nil)))))))))
 refine K0 (Tq (P1 [] c fun _ c => bk (tn (P1 [] c fun _ c => Nx h (i2.1, i2.2) (c.rk [0] [0, 1, 5])))))
 refine wp_exit (te (te (be ?_)))
 obtain rfl := hr2 _ (sk h)
 exact tn ⟨_, (i1.1, i1.2), rfl, c.rk [0] [0, 1, 2]⟩
 subst hrl
 refine P0 [] c fun _ c => ?_
 cases h
 exact wp_ret (Rg c (k1.1, k1.2) [] [2] (.tmp (.tmp .nil)))

theorem spec_TermOk_ok {n p0 ga0 gc1 r} (h : spec_TermOk n p0 = some r) : Con Tryz.prog 38 [tV p0 ga0 gc1] [] [lR ga0 p0.Kids gc1] fun (_ : Unit) => ([.bool r], [], []) := by
 unfold spec_TermOk at h
 refine En Tryz.func38 rfl Tryz.ntmps38 fun _ fr w c => ?_
 refine T0 (Ebx (tC p0 ga0 gc1) c fun b1 _ _ c => ?_)
 refine Fp [] 1 c fun _ c => E0 (T0 (Eal [I 0] c fun b2 _ _ c => ?_))
 refine Esb 1 0 (I 240) c fun _ c => ?_
 refine E0 (S0 (T0 (Fp [(0, 0)] 1 c fun _ c => Bd h fun x1 hx1 h => Ca [1] c (spec_l02Few_ok hx1) ⟨.f 0, tt⟩ Tryz.call84 fun _ _ _ c => ?_)))
 refine Fp [] 1 c fun _ c => Fp [] 1 c fun _ c => ?_
 rcases ite_split (b := (!x1.1)) h with ⟨hg1, h⟩ | ⟨hg1, h⟩
 replace c := c.eqs (v := .bool (!x1.1)) (u := .bool true) 9 (by rw [hg1])
 refine Gs c fun _ c => Gs c fun _ c => Gs c fun _ c => Epk (b := true) (v := .bool true) c fun _ c => E0 (I0 c h (fun h => ?_) fun h => ?_)
 refine P0 [] c fun _ c => ?_
 obtain rfl := sj h
 exact wp_ret (tr (Rt c () [] []))
 refine K0 (T0 (Fp [(0, 0)] 1 c fun _ c => Bd h fun x2 hx2 h => Cg c (spec_l02Vars_ok hx2) ⟨.f 0, .nil, tt⟩ Tryz.call83 fun i1 _ _ c => ?_))
 refine Fp [] 5 c fun _ c => E0 (P0 [] c fun _ c => ?_)
 cases h
 exact wp_ret (Rt c () [] [])
 replace c := c.eqs (v := .bool (!x1.1)) (u := .bool false) 9 (by rw [hg1])
 refine Gt c ?_
 dsimp only [List.set]
 refine Fp [(4, 0)] 1 c fun _ c => Gt c ?_
 dsimp only [List.set]
 refine Bd h fun x3 hx3 h => Cb c (spec_l02Node_ok hx3) ⟨.f 0, tt⟩ Tryz.call85 fun _ _ _ c => ?_
 refine Gt c ?_
 dsimp only [List.set]
 refine Fp [] 1 c fun _ c => Epk (b := false) (v := .bool (!x3)) c fun _ c => E0 (I0 c h (fun h => ?_) fun h => ?_)
 refine P0 [] c fun _ c => ?_
 obtain rfl := sj h
 exact wp_ret (tr (Rt c () [] []))
 refine K0 (T0 (Fp [(0, 0)] 1 c fun _ c => ?_))
 replace c := c.gm [BX b1 34 (tC p0 ga0 gc1), BX b2 3 [I x1.2]]
 refine Bd h fun x4 hx4 h => Cg c (spec_l02Vars_ok hx4) ⟨.f 0, .nil, tt⟩ Tryz.call83 fun i2 _ _ c => ?_
 refine Fp [] 5 c fun _ c => E0 (P0 [] c fun _ c => ?_)
 cases h
 exact wp_ret (Rt c () [] [])

theorem spec_l06Terms_ok {n p0 p1 ga0 gc1 r} (h : spec_l06Terms n p0 p1 = some r) : Con Tryz.prog 106 [L ga0 p0 gc1, I p1] [] [lR ga0 p0 gc1] fun (_ : Unit) => ([.bool r], [], []) := by
 unfold spec_l06Terms at h
 refine En Tryz.func106 rfl Tryz.ntmps106 fun _ fr w c => ?_
 refine P0 [] c fun _ c => S0 (P0 [] c fun _ c => Bd h fun rl1 hit1 h => ?_)
 have hk1 := h
 refine LpR (fun s1  (_ : Unit) => ([(1, I p1), (7, L ga0 p0 gc1), (8, I (len p0)), (9, I s1)], id, [])) (fun s  (_ : Unit) => ([], id, [])) hit1 c () (c.rk [] [0]) (fun s1 q1 _ _ _ c h hr1 => ?_) fun s1r _ _ _ hrl c => ?_
 refine P0 [] c fun _ c => S0 (I0 c h (fun h => ?_) fun h => ?_)
 refine K0 (S0 (wp_block (T0 (Bd h fun x1 hx1 h => Eem c (.f 0) hx1 fun _ u1 _ c => ?_))))
 obtain ⟨a1, c1, rfl, c⟩ := c.o_Term 1
 refine Eal tZ c fun b1 _ _ c => ?_
 refine Ess 0 (tC x1 a1 c1) c fun _ c => ?_
 refine E0 (Bd h fun x2 hx2 h => S0 (rZ [(1, .eq (.bool x2))] [(0, 0), (5, 0)] mix c ⟨Ncl c (kN (spec_TermOk_ok hx2)) ⟨.f 2, tt⟩ Tryz.call38, tt⟩ fun _ _ c => I0 c h (fun h => ?_) fun h => ?_))
 refine P0 [] c fun _ c => ?_
 obtain rfl := hr1 _ (sk h)
 obtain rfl := sj hk1
 exact wp_ret (br (tr (tr (br (tr (Rt c () [] []))))))
 refine K1 (bk (tn (P1 [] c fun _ c => Nx h () (c.rk [] [0]))))
 refine wp_exit (te (te (be ?_)))
 obtain rfl := hr1 _ (sk h)
 exact tn ⟨_, (), rfl, c.rk [] [0]⟩
 subst hrl
 refine P0 [] c fun _ c => ?_
 obtain rfl := sj h
 exact wp_ret (Rt c () [] [])

theorem spec_PathOk_ok {n p0 p1 ga0 gc1 ga2 gc3 ga4 gc5 ga6 gc7 ga8 gc9 ga10 gc11 ga12 gc13 r} (h : spec_PathOk n p0 p1 = some r) : Con Tryz.prog 57 [gV p0 ga0 gc1, pV p1 ga2 gc3 ga4 gc5 ga6 gc7 ga8 gc9 ga10 gc11 ga12 gc13] [] [lR ga0 p0.Code gc1, lR ga2 p1.Regs gc3, lR ga4 p1.Mem gc5, lR ga6 p1.Stack gc7, lR ga8 p1.Out gc9, lR ga10 p1.Cond gc11, lR ga12 p1.Turns gc13] fun (_ : Unit) => ([.bool r], [], []) := by
 unfold spec_PathOk at h
 refine En Tryz.func57 rfl Tryz.ntmps57 fun _ fr w c => ?_
 refine T0 (Ebx (gC p0 ga0 gc1) c fun b1 _ _ c => ?_)
 refine Ebx (pC p1 ga2 gc3 ga4 gc5 ga6 gc7 ga8 gc9 ga10 gc11 ga12 gc13) c fun b2 _ _ c => ?_
 refine Fp [] 1 c fun _ c => E0 (S0 (Bd h fun x1 hx1 h => Bd h fun x2 hx2 h => Bd h fun x3 hx3 h => Bd h fun x4 hx4 h => Bd h fun x5 hx5 h => S0 (rZ [(1, .eq (.bool x1)), (9, .eq (.bool x2)), (37, .eq (.bool x3)), (49, .eq (.bool x4)), (55, .eq (.bool x5))] [(0, 0), (5, 1), (7, 0), (14, 1), (20, 1), (23, 0), (28, 1), (34, 1), (36, 0), (42, 1), (48, 1), (54, 1), (60, 1), (66, 1)] mix c ⟨Ncl c (kN (spec_ProgramOk_ok hx1)) ⟨.f 0, tt⟩ Tryz.call55, Ncl c (fun hg => spec_l01In_ok (iteF (gcF hg) hx2)) tt Tryz.call56, Ncl c (fun hg => spec_l01In_ok (iteF (gcF hg) hx3)) tt Tryz.call56, Ncl c (fun hg => spec_l01In_ok (iteF (gcF hg) hx4)) tt Tryz.call56, Ncl c (fun hg => spec_l01In_ok (iteF (gcF hg) hx5)) tt Tryz.call56, tt⟩ fun _ _ c => I0 c h (fun h => ?_) fun h => ?_)))
 refine P0 [] c fun _ c => ?_
 obtain rfl := sj h
 exact wp_ret (tr (Rt c () [] []))
 refine K0 (S0 (P0 [(1, 1)] c fun _ c => Bd h fun rl1 hit1 h => ?_))
 have hk1 := h
 refine LpR (fun s1  (_ : Unit) => ([(2, B b1 0), (3, B b2 0), (80, L ga6 p1.Stack gc7), (81, I (len p1.Stack)), (82, I s1)], id, [])) (fun s  (_ : Unit) => ([(2, B b1 0), (3, B b2 0)], id, [])) hit1 c () (c.rk [0, 1] (rg 7)) (fun s1 q1 _ _ _ c h hr1 => ?_) fun s1r _ _ _ hrl c => ?_
 refine P0 [] c fun _ c => S0 (I0 c h (fun h => ?_) fun h => ?_)
 refine K0 (S0 (wp_block (T0 (Bd h fun x6 hx6 h => Eel c (.f 3) hx6 fun _ _ c => ?_))))
 refine Fp [] 1 c fun _ c => E0 (T0 (Fp [(2, 0)] 4 c fun _ c => Bd h fun x7 hx7 h => Cb c (spec_l01In_ok hx7) tt Tryz.call56 fun _ _ _ c => ?_))
 refine Fp [] 1 c fun _ c => E0 (I0 c h (fun h => ?_) fun h => ?_)
 refine P0 [] c fun _ c => ?_
 obtain rfl := hr1 _ (sk h)
 obtain rfl := sj hk1
 exact wp_ret (br (tr (tr (br (tr (Rt c () [] []))))))
 refine K1 (bk (tn (P1 [] c fun _ c => Nx h () (c.rk [0, 1] (rg 7)))))
 refine wp_exit (te (te (be ?_)))
 obtain rfl := hr1 _ (sk h)
 exact tn ⟨_, (), rfl, c.rk [0, 1] (rg 7)⟩
 subst hrl
 refine S0 (P0 [(1, 1)] c fun _ c => Bd h fun rl2 hit2 h => ?_)
 have hk2 := h
 refine LpR (fun s2  (_ : Unit) => ([(2, B b1 0), (3, B b2 0), (94, L ga12 p1.Turns gc13), (95, I (len p1.Turns)), (96, I s2)], id, [])) (fun s  (_ : Unit) => ([(2, B b1 0), (3, B b2 0)], id, [])) hit2 c () (c.rk [0, 1] (rg 7)) (fun s2 q2 _ _ _ c h hr2 => ?_) fun s2r _ _ _ hrl c => ?_
 refine P0 [] c fun _ c => S0 (I0 c h (fun h => ?_) fun h => ?_)
 refine K0 (S0 (wp_block (T0 (Bd h fun x8 hx8 h => Eel c (.f 6) hx8 fun _ _ c => ?_))))
 refine Fp [] 1 c fun _ c => E0 (T0 (Fp [] 1 c fun _ c => Bd h fun x9 hx9 h => Cb c (spec_l01In_ok hx9) tt Tryz.call56 fun _ _ _ c => ?_))
 refine Fp [] 1 c fun _ c => E0 (I0 c h (fun h => ?_) fun h => ?_)
 refine P0 [] c fun _ c => ?_
 obtain rfl := hr2 _ (sk h)
 obtain rfl := sj hk2
 exact wp_ret (br (tr (tr (br (tr (Rt c () [] []))))))
 refine K1 (bk (tn (P1 [] c fun _ c => Nx h () (c.rk [0, 1] (rg 7)))))
 refine wp_exit (te (te (be ?_)))
 obtain rfl := hr2 _ (sk h)
 exact tn ⟨_, (), rfl, c.rk [0, 1] (rg 7)⟩
 subst hrl
 refine Bd h fun x10 hx10 h => Bd h fun x11 hx11 h => Bd h fun x12 hx12 h => Bd h fun x13 hx13 h => S0 (rZ [(4, .eq (.bool x10)), (10, .eq (.bool x11)), (17, .eq (.bool x12)), (22, .eq (.bool x13))] [(1, 1), (3, 0), (7, 1), (9, 0), (14, 1), (16, 0), (21, 1)] mix c ⟨Ncl c (kN (spec_l06Terms_ok hx10)) ⟨.f 1, tt⟩ Tryz.call106, Ncl c (fun hg => spec_l06Terms_ok (iteT (gcT hg) hx11)) ⟨.f 2, tt⟩ Tryz.call106, Ncl c (fun hg => spec_l06Terms_ok (iteT (gcT hg) hx12)) ⟨.f 4, tt⟩ Tryz.call106, Ncl c (fun hg => spec_l06Terms_ok (iteT (gcT hg) hx13)) ⟨.f 5, tt⟩ Tryz.call106, tt⟩ fun _ _ c => ?_)
 cases h
 exact wp_ret (Rt c () [] [])

theorem spec_l05Ints_ok {n p0 p1 ga0 gc1 ga2 gc3 r} (h : spec_l05Ints n p0 p1 = some r) : Con Tryz.prog 121 [L ga0 p0 gc1, L ga2 p1 gc3] [] [lR ga0 p0 gc1, lR ga2 p1 gc3] fun (_ : Unit) => ([.bool r], [], []) := by
 unfold spec_l05Ints at h
 refine En Tryz.func121 rfl Tryz.ntmps121 fun _ fr w c => ?_
 refine P0 [] c fun _ c => S0 (P0 [] c fun _ c => I0 c h (fun h => ?_) fun h => ?_)
 refine P0 [] c fun _ c => ?_
 obtain rfl := sj h
 exact wp_ret (tr (Rt c () [] []))
 refine K0 (S0 (P0 [] c fun _ c => Bd h fun rl1 hit1 h => ?_))
 have hk1 := h
 refine LpR (fun s1  (_ : Unit) => ([(1, L ga2 p1 gc3), (12, L ga0 p0 gc1), (13, I (len p0)), (14, I s1)], id, [])) (fun s  (_ : Unit) => ([], id, [])) hit1 c () (c.rk [] [0, 1]) (fun s1 q1 _ _ _ c h hr1 => ?_) fun s1r _ _ _ hrl c => ?_
 refine P0 [] c fun _ c => S0 (I0 c h (fun h => ?_) fun h => ?_)
 refine K0 (S0 (wp_block (T0 (Fp [] 1 c fun _ c => Bd h fun x1 hx1 h => Eel c (.f 0) hx1 fun _ _ c => ?_))))
 refine Fp [] 2 c fun _ c => E0 (T0 (Fp [] 3 c fun _ c => Bd h fun x2 hx2 h => Eel c (.f 1) hx2 fun _ _ c => ?_))
 refine Fp [] 1 c fun _ c => E0 (I0 c h (fun h => ?_) fun h => ?_)
 refine P0 [] c fun _ c => ?_
 obtain rfl := hr1 _ (sk h)
 obtain rfl := sj hk1
 exact wp_ret (br (tr (tr (br (tr (Rt c () [] []))))))
 refine K1 (bk (tn (P1 [] c fun _ c => Nx h () (c.rk [] [0, 1]))))
 refine wp_exit (te (te (be ?_)))
 obtain rfl := hr1 _ (sk h)
 exact tn ⟨_, (), rfl, c.rk [] [0, 1]⟩
 subst hrl
 refine P0 [] c fun _ c => ?_
 obtain rfl := sj h
 exact wp_ret (Rt c () [] [])

theorem spec_l07Alike_ok {n p0 p1 ga0 gc1 ga2 gc3 ga4 gc5 ga6 gc7 ga8 gc9 ga10 gc11 ga12 gc13 ga14 gc15 ga16 gc17 ga18 gc19 ga20 gc21 ga22 gc23 r} (h : spec_l07Alike n p0 p1 = some r) : Con Tryz.prog 73 [pV p0 ga0 gc1 ga2 gc3 ga4 gc5 ga6 gc7 ga8 gc9 ga10 gc11, pV p1 ga12 gc13 ga14 gc15 ga16 gc17 ga18 gc19 ga20 gc21 ga22 gc23] [] [lR ga0 p0.Regs gc1, lR ga2 p0.Mem gc3, lR ga4 p0.Stack gc5, lR ga6 p0.Out gc7, lR ga8 p0.Cond gc9, lR ga10 p0.Turns gc11, lR ga12 p1.Regs gc13, lR ga14 p1.Mem gc15, lR ga16 p1.Stack gc17, lR ga18 p1.Out gc19, lR ga20 p1.Cond gc21, lR ga22 p1.Turns gc23] fun (_ : Unit) => ([.bool r], [], []) := by
 unfold spec_l07Alike at h
 refine En Tryz.func73 rfl Tryz.ntmps73 fun _ fr w c => ?_
 refine T0 (Ebx (pC p0 ga0 gc1 ga2 gc3 ga4 gc5 ga6 gc7 ga8 gc9 ga10 gc11) c fun b1 _ _ c => ?_)
 refine Ebx (pC p1 ga12 gc13 ga14 gc15 ga16 gc17 ga18 gc19 ga20 gc21 ga22 gc23) c fun b2 _ _ c => ?_
 refine Fp [] 1 c fun _ c => E0 (Bd h fun x1 hx1 h => S0 (rZ [(10, .eq (.bool x1))] [(1, 0), (3, 1), (7, 0), (9, 1), (14, 0), (16, 1), (21, 0), (24, 1)] mix c ⟨Ncl c (fun hg => spec_l05Ints_ok (iteT (gcT hg) hx1)) ⟨.f 2, .f 8, tt⟩ Tryz.call121, tt⟩ fun _ _ c => ?_))
 cases h
 exact wp_ret (Rt c () [] [])

theorem spec_l02Sign_ok {p0 p1 r} (h : spec_l02Sign p0 p1 = some r) : Con Tryz.prog 171 [I p0, I p1] [] [] fun (_ : Unit) => ([I r], [], []) := by
 unfold spec_l02Sign at h
 refine En Tryz.func171 rfl Tryz.ntmps171 fun _ fr w c => ?_
 refine P0 [] c fun _ c => S0 (P0 [] c fun _ c => I0 c h (fun h => ?_) fun h => ?_)
 refine P0 [] c fun _ c => ?_
 cases h
 exact wp_ret (tr (Rt c () [] []))
 refine K0 (S0 (P0 [] c fun _ c => I0 c h (fun h => ?_) fun h => ?_))
 refine P0 [] c fun _ c => ?_
 obtain rfl := sj h
 exact wp_ret (tr (Rt c () [] []))
 refine K0 (P0 [] c fun _ c => ?_)
 obtain rfl := sj h
 exact wp_ret (Rt c () [] [])

theorem spec_CompareTerms_ok {n : Nat} : ∀ {p0 p1 ga0 gc1 ga2 gc3 r} (h : spec_CompareTerms n p0 p1 = some r), Con Tryz.prog 122 [tV p0 ga0 gc1, tV p1 ga2 gc3] [] [lR ga0 p0.Kids gc1, lR ga2 p1.Kids gc3] fun (_ : Unit) => ([I r], [], []) := by
 induction n with
 | zero => intro p0 p1 ga0 gc1 ga2 gc3 r h; simp [spec_CompareTerms] at h
 | succ n ih =>
 intro p0 p1 ga0 gc1 ga2 gc3 r h
 rw [spec_CompareTerms] at h
 refine En Tryz.func122 rfl Tryz.ntmps122 fun _ fr w c => ?_
 refine T0 (Ebx (tC p0 ga0 gc1) c fun b1 _ _ c => ?_)
 refine Ebx (tC p1 ga2 gc3) c fun b2 _ _ c => ?_
 refine Fp [] 1 c fun _ c => E0 (S0 (Bd h fun x1 hx1 h => Bd h fun x2 hx2 h => Bd h fun x3 hx3 h => S0 (wp_ra mix (rM 18 [(4, .eq (I x1)), (9, .eq (I x2)), (14, .eq (I x3)), (15, Pd.nw c.wd 15 (fun i : Oh => L i.1 ([x1, x2, x3] : List Int) i.2) (fun i => SL 3 (L i.1 ([x1, x2, x3] : List Int) i.2) ([x1, x2, x3] : List Int))), (16, .eq (I (len ([x1, x2, x3] : List Int))))] [(1, 0), (3, 1), (6, 0), (8, 1), (11, 0), (13, 1)] c (fun ow => ⟨np_tO ow (Ncl c (kN (spec_l02Sign_ok hx1)) tt Tryz.call171), np_tO ow (Ncl c (kN (spec_l02Sign_ok hx2)) tt Tryz.call171), np_tO ow (Ncl c (kN (spec_l02Sign_ok hx3)) tt Tryz.call171), Nlt c ([x1, x2, x3] : List Int), np_tO ow (Nln c 15 (atM 15)), tt⟩) fun ow _ _ hE hc cq => ?_))))
 obtain ⟨i1, hi1⟩ := hE.nw 15 25
 replace c := Cx.newt c hc cq [(15, 25, _, _)] ⟨hi1, tt⟩
 refine E0 (Bd h fun rl1 hit1 h => ?_)
 have hk1 := h
 refine LpR (fun s1  (_ : Unit) => ([(2, B b1 0), (3, B b2 0), (25, L i1.1 ([x1, x2, x3] : List Int) i1.2), (26, I (len ([x1, x2, x3] : List Int))), (27, I s1)], id, [])) (fun s  (_ : Unit) => ([(2, B b1 0), (3, B b2 0)], id, [])) hit1 c () (c.rk [0, 1, 2] [0, 1]) (fun s1 q1 _ _ _ c h hr1 => ?_) fun s1r _ _ _ hrl c => ?_
 refine P0 [] c fun _ c => S0 (I0 c h (fun h => ?_) fun h => ?_)
 refine K0 (S0 (wp_block (T0 (Bd h fun x4 hx4 h => Eel c (.g 2) hx4 fun _ _ c => ?_))))
 refine Fp [] 1 c fun _ c => E0 (P0 [] c fun _ c => I0 c h (fun h => ?_) fun h => ?_)
 refine P0 [] c fun _ c => ?_
 obtain rfl := hr1 _ (sk h)
 obtain rfl := sj hk1
 exact wp_ret (br (tr (tr (br (tr (Rt c () [] []))))))
 refine K1 (bk (tn (P1 [] c fun _ c => Nx h () (c.rk [0, 1, 2] [0, 1]))))
 refine wp_exit (te (te (be ?_)))
 obtain rfl := hr1 _ (sk h)
 exact tn ⟨_, (), rfl, c.rk [0, 1, 2] [0, 1]⟩
 subst hrl
 refine S0 (P0 [(1, 0), (3, 1)] c fun _ c => I0 c h (fun h => ?_) fun h => ?_)
 refine S0 (P0 [(1, 0), (3, 1)] c fun _ c => I0 c h (fun h => ?_) fun h => ?_)
 refine P0 [] c fun _ c => ?_
 cases h
 exact wp_ret (tr (tr (Rt c () [] [])))
 refine K0 (P0 [] c fun _ c => ?_)
 obtain rfl := sj h
 exact wp_ret (tr (Rt c () [] []))
 refine K0 (S0 (P0 [(1, 0)] c fun _ c => Bd h fun rl2 hit2 h => ?_))
 have hk2 := h
 refine LpR (fun s2  (_ : Unit) => ([(2, B b1 0), (3, B b2 0), (46, L ga0 p0.Kids gc1), (47, I (len p0.Kids)), (48, I s2)], id, [])) (fun s  (_ : Unit) => ([(2, B b1 0), (3, B b2 0)], id, [])) hit2 c () (c.rk [0, 1, 2] [0, 1]) (fun s2 q2 _ _ _ c h hr2 => ?_) fun s2r _ _ _ hrl c => ?_
 refine P0 [] c fun _ c => S0 (I0 c h (fun h => ?_) fun h => ?_)
 refine K0 (S0 (wp_block (T0 (Fp [] 1 c fun _ c => Bd h fun x5 hx5 h => Eem c (.f 0) hx5 fun _ u1 _ c => ?_))))
 obtain ⟨a1, c1, rfl, c⟩ := c.o_Term 2
 refine Eal tZ c fun b3 _ _ c => ?_
 refine Fp [] 1 c fun _ c => Ess 3 (tC x5 a1 c1) c fun _ c => ?_
 refine E0 (S0 (P0 [(2, 1)] c fun _ c => I0 c h (fun h => ?_) fun h => ?_))
 refine P0 [] c fun _ c => ?_
 obtain rfl := hr2 _ (sk h)
 obtain rfl := sj hk2
 exact wp_ret (tr (br (tr (tr (br (tr (Rt c () [] [])))))))
 refine K0 (Bd h fun x6 hx6 h => ?_)
 obtain ⟨ep1, u2, c⟩ := c.elp (.f 1) hx6
 obtain ⟨a2, c2, rfl, c⟩ := c.o_Term 5
 refine Bd h fun x7 hx7 h => S0 (rZ [(4, .eq (.pointer (some ep1))), (5, .eq (tV x6 a2 c2)), (6, .eq (I x7))] [(0, 2), (2, 1)] mix c ⟨Nie c 4, Nle c 4, Ncl c (kN (ih hx7)) ⟨.f 3, .f 6, tt⟩ Tryz.call122, tt⟩ fun _ _ c => P0 [] c fun _ c => I0 c h (fun h => ?_) fun h => ?_)
 refine P0 [] c fun _ c => ?_
 obtain rfl := hr2 _ (sk h)
 obtain rfl := sj hk2
 exact wp_ret (br (tr (tr (br (tr (Rt c () [] []))))))
 refine K1 (bk (tn (P1 [] c fun _ c => Nx h () (c.rk [0, 1, 2] [0, 1]))))
 refine wp_exit (te (te (be ?_)))
 obtain rfl := hr2 _ (sk h)
 exact tn ⟨_, (), rfl, c.rk [0, 1, 2] [0, 1]⟩
 subst hrl
 refine T0 (Fp [(1, 0), (4, 1)] 6 c fun _ c => Bd h fun x8 hx8 h => Cb c (spec_l02Sign_ok hx8) tt Tryz.call171 fun _ _ _ c => ?_)
 refine Fp [] 1 c fun _ c => E0 ?_
 obtain rfl := sj h
 exact wp_ret (Rt c () [] [])

theorem spec_l02Same_ok {n p0 p1 ga0 gc1 ga2 gc3 r} (h : spec_l02Same n p0 p1 = some r) : Con Tryz.prog 74 [tV p0 ga0 gc1, tV p1 ga2 gc3] [] [lR ga0 p0.Kids gc1, lR ga2 p1.Kids gc3] fun (_ : Unit) => ([.bool r], [], []) := by
 unfold spec_l02Same at h
 refine En Tryz.func74 rfl Tryz.ntmps74 fun _ fr w c => ?_
 refine T0 (Ebx (tC p0 ga0 gc1) c fun b1 _ _ c => ?_)
 refine Ebx (tC p1 ga2 gc3) c fun b2 _ _ c => ?_
 refine Fp [] 1 c fun _ c => E0 (T0 (Fp [(0, 0), (1, 1)] 2 c fun _ c => Bd h fun x1 hx1 h => Cb c (spec_CompareTerms_ok hx1) ⟨.f 0, .f 1, tt⟩ Tryz.call122 fun _ _ _ c => ?_))
 refine Fp [] 2 c fun _ c => E0 ?_
 cases h
 exact wp_ret (Rt c () [] [])

theorem spec_l02Const_ok {p0 p1 r} (h : spec_l02Const p0 p1 = some r) : Con Tryz.prog 107 [I p0, I p1] [] [] fun (_ : Unit) => ([.agg #[I r.Op, I r.W, I r.N, Str.val r.Name, L none ([] : List D.Term) 0]], [], []) := by
 unfold spec_l02Const at h
 refine En Tryz.func107 rfl Tryz.ntmps107 fun _ fr w c => ?_
 refine T0 (Eal tZ c fun b1 _ _ c => ?_)
 refine E0 (T0 (Fp [] 3 c fun _ c => Ess 0 [I 0, I p0, I p1, Str.val ⟨[]⟩, L none ([] : List D.Term) 0] c fun _ c => ?_))
 refine E0 ?_
 cases h
 exact wp_ret (Rg c () [] [] (.cell (α := Agg 4) kk (.b 0) .nil))

theorem spec_WordOf_ok {p0 p1 r} (h : spec_WordOf p0 p1 = some r) : Con Tryz.prog 211 [I p0, I p1] [] [] fun (_ : Unit) => ([I r], [], []) := by
 unfold spec_WordOf at h
 refine En Tryz.func211 rfl Tryz.ntmps211 fun _ fr w c => ?_
 refine P0 [] c fun _ c => S0 (T0 (Fp [] 1 c fun _ c => Bd h fun x1 hx1 h => Cb c (spec_l01In_ok hx1) tt Tryz.call56 fun _ _ _ c => ?_))
 refine Fp [] 1 c fun _ c => E0 (I0 c h (fun h => ?_) fun h => ?_)
 refine P0 [] c fun _ c => ?_
 cases h
 exact wp_ret (tr (Rt c () [] []))
 refine K0 (T0 (Fp [] 2 c fun _ c => Bd h fun x2 hx2 h => Eshl c hx2 fun _ c => ?_))
 refine Fp [] 3 c fun _ c => E0 ?_
 cases h
 exact wp_ret (Rt c () [] [])

theorem spec_ApplyUnary_ok {p0 p1 p2 r} (h : spec_ApplyUnary p0 p1 p2 = some r) : Con Tryz.prog 189 [I p0, I p1, I p2] [] [] fun (_ : Unit) => ([I r], [], []) := by
 unfold spec_ApplyUnary at h
 refine En Tryz.func189 rfl Tryz.ntmps189 fun _ fr w c => ?_
 refine P0 [] c fun _ c => S0 (wp_block (T0 (Fp [] 2 c fun _ c => Bd h fun x1 hx1 h => Cb c (spec_WordOk_ok hx1) tt Tryz.call104 fun _ _ _ c => ?_)))
 refine Fp [] 2 c fun _ c => E0 (I0 c h (fun h => ?_) fun h => ?_)
 refine P0 [] c fun _ c => ?_
 cases h
 exact wp_ret (br (tr (Rt c () [] [])))
 refine P0 [] c fun _ c => I0 c h (fun h => ?_) fun h => ?_
 refine T0 (Fp [] 1 c fun _ c => Bd h fun x2 hx2 h => Eshl c hx2 fun _ c => ?_)
 refine Fp [] 4 c fun _ c => E0 ?_
 cases h
 exact wp_ret (br (tr (Rt c () [] [])))
 refine P0 [] c fun _ c => I0 c h (fun h => ?_) fun h => ?_
 refine T0 (Fp [] 3 c fun _ c => Bd h fun x3 hx3 h => Cb c (spec_WordOf_ok hx3) tt Tryz.call211 fun _ _ _ c => ?_)
 refine Fp [] 1 c fun _ c => E0 ?_
 obtain rfl := sj h
 exact wp_ret (br (tr (Rt c () [] [])))
 refine K1 (bk (tn (P0 [] c fun _ c => ?_)))
 cases h
 exact wp_ret (Rt c () [] [])

theorem spec_SignedOf_ok {p0 p1 r} (h : spec_SignedOf p0 p1 = some r) : Con Tryz.prog 212 [I p0, I p1] [] [] fun (_ : Unit) => ([I r], [], []) := by
 unfold spec_SignedOf at h
 refine En Tryz.func212 rfl Tryz.ntmps212 fun _ fr w c => ?_
 refine P0 [] c fun _ c => S0 (T0 (Fp [] 2 c fun _ c => Bd h fun x1 hx1 h => Cb c (spec_WordOk_ok hx1) tt Tryz.call104 fun _ _ _ c => ?_))
 refine Fp [] 1 c fun _ c => E0 (I0 c h (fun h => ?_) fun h => ?_)
 refine P0 [] c fun _ c => ?_
 obtain rfl := sj h
 exact wp_ret (tr (Rt c () [] []))
 refine K0 (S0 (T0 (Fp [] 3 c fun _ c => Bd h fun x2 hx2 h => Eshr c hx2 fun _ c => ?_)))
 refine Fp [] 1 c fun _ c => E0 (I0 c h (fun h => ?_) fun h => ?_)
 refine T0 (Fp [] 2 c fun _ c => Bd h fun x3 hx3 h => Eshl c hx3 fun _ c => ?_)
 refine Fp [] 2 c fun _ c => E0 ?_
 cases h
 exact wp_ret (tr (Rt c () [] []))
 refine K0 (P0 [] c fun _ c => ?_)
 obtain rfl := sj h
 exact wp_ret (Rt c () [] [])

theorem spec_l01Truth_ok {p0 r} (h : spec_l01Truth p0 = some r) : Con Tryz.prog 213 [.bool p0] [] [] fun (_ : Unit) => ([I r], [], []) := by
 unfold spec_l01Truth at h
 refine En Tryz.func213 rfl Tryz.ntmps213 fun _ fr w c => ?_
 refine P0 [] c fun _ c => S0 (P0 [] c fun _ c => I0 c h (fun h => ?_) fun h => ?_)
 refine P0 [] c fun _ c => ?_
 obtain rfl := sj h
 exact wp_ret (tr (Rt c () [] []))
 refine K0 (P0 [] c fun _ c => ?_)
 obtain rfl := sj h
 exact wp_ret (Rt c () [] [])

theorem spec_ApplyBinary_ok {p0 p1 p2 p3 r} (h : spec_ApplyBinary p0 p1 p2 p3 = some r) : Con Tryz.prog 190 [I p0, I p1, I p2, I p3] [] [] fun (_ : Unit) => ([I r], [], []) := by
 unfold spec_ApplyBinary at h
 refine En Tryz.func190 rfl Tryz.ntmps190 fun _ fr w c => ?_
 refine P0 [] c fun _ c => S0 (Bd h fun x1 hx1 h => Bd h fun x2 hx2 h => S0 (rZ [(2, .eq (.bool x1)), (7, .eq (.bool x2))] [] mix c ⟨Ncl c (kN (spec_WordOk_ok hx1)) tt Tryz.call104, Ncl c (fun hg => spec_WordOk_ok (iteF (gcF hg) hx2)) tt Tryz.call104, tt⟩ fun _ _ c => I0 c h (fun h => ?_) fun h => ?_))
 refine P0 [] c fun _ c => ?_
 cases h
 exact wp_ret (tr (Rt c () [] []))
 refine K0 (S0 (P0 [] c fun _ c => wp_block (P0 [] c fun _ c => I0 c h (fun h => ?_) fun h => ?_)))
 refine T0 (Fp [] 4 c fun _ c => Bd h fun x3 hx3 h => Cb c (spec_WordOf_ok hx3) tt Tryz.call211 fun _ _ _ c => ?_)
 refine Fp [] 1 c fun _ c => E0 ?_
 obtain rfl := sj h
 exact wp_ret (br (tr (Rt c () [] [])))
 refine P0 [] c fun _ c => I0 c h (fun h => ?_) fun h => ?_
 refine T0 (Fp [] 4 c fun _ c => Bd h fun x4 hx4 h => Cb c (spec_WordOf_ok hx4) tt Tryz.call211 fun _ _ _ c => ?_)
 refine Fp [] 1 c fun _ c => E0 ?_
 obtain rfl := sj h
 exact wp_ret (br (tr (Rt c () [] [])))
 refine P0 [] c fun _ c => I0 c h (fun h => ?_) fun h => ?_
 refine T0 (Fp [] 4 c fun _ c => Bd h fun x5 hx5 h => Cb c (spec_WordOf_ok hx5) tt Tryz.call211 fun _ _ _ c => ?_)
 refine Fp [] 1 c fun _ c => E0 ?_
 obtain rfl := sj h
 exact wp_ret (br (tr (Rt c () [] [])))
 refine P0 [] c fun _ c => I0 c h (fun h => ?_) fun h => ?_
 refine S0 (P0 [] c fun _ c => I0 c h (fun h => ?_) fun h => ?_)
 refine T0 (Fp [] 1 c fun _ c => Bd h fun x6 hx6 h => Eshl c hx6 fun _ c => ?_)
 refine Fp [] 2 c fun _ c => E0 ?_
 cases h
 exact wp_ret (tr (br (tr (Rt c () [] []))))
 refine K0 (T0 (Fp [] 2 c fun _ c => Bd h fun x7 hx7 h => Equo c hx7 fun _ c => ?_))
 refine Fp [] 1 c fun _ c => E0 ?_
 obtain rfl := sj h
 exact wp_ret (br (tr (Rt c () [] [])))
 refine P0 [] c fun _ c => I0 c h (fun h => ?_) fun h => ?_
 refine S0 (P0 [] c fun _ c => I0 c h (fun h => ?_) fun h => ?_)
 refine P0 [] c fun _ c => ?_
 obtain rfl := sj h
 exact wp_ret (tr (br (tr (Rt c () [] []))))
 refine K0 (T0 (Fp [] 2 c fun _ c => Bd h fun x8 hx8 h => Erem c hx8 fun _ c => ?_))
 refine Fp [] 1 c fun _ c => E0 ?_
 obtain rfl := sj h
 exact wp_ret (br (tr (Rt c () [] [])))
 refine P0 [] c fun _ c => I0 c h (fun h => ?_) fun h => ?_
 refine P0 [] c fun _ c => ?_
 cases h
 exact wp_ret (br (tr (Rt c () [] [])))
 refine P0 [] c fun _ c => I0 c h (fun h => ?_) fun h => ?_
 refine P0 [] c fun _ c => ?_
 cases h
 exact wp_ret (br (tr (Rt c () [] [])))
 refine P0 [] c fun _ c => I0 c h (fun h => ?_) fun h => ?_
 refine P0 [] c fun _ c => ?_
 cases h
 exact wp_ret (br (tr (Rt c () [] [])))
 refine P0 [] c fun _ c => I0 c h (fun h => ?_) fun h => ?_
 refine S0 (P0 [] c fun _ c => I0 c h (fun h => ?_) fun h => ?_)
 refine P0 [] c fun _ c => ?_
 obtain rfl := sj h
 exact wp_ret (tr (br (tr (Rt c () [] []))))
 refine K0 (T0 (Fp [] 3 c fun _ c => Bd h fun x9 hx9 h => Eshl c hx9 fun _ c => ?_))
 refine Bd h fun x10 hx10 h => Cb c (spec_WordOf_ok hx10) tt Tryz.call211 fun _ _ _ c => ?_
 refine Fp [] 1 c fun _ c => E0 ?_
 obtain rfl := sj h
 exact wp_ret (br (tr (Rt c () [] [])))
 refine P0 [] c fun _ c => I0 c h (fun h => ?_) fun h => ?_
 refine S0 (P0 [] c fun _ c => I0 c h (fun h => ?_) fun h => ?_)
 refine P0 [] c fun _ c => ?_
 obtain rfl := sj h
 exact wp_ret (tr (br (tr (Rt c () [] []))))
 refine K0 (T0 (Fp [] 2 c fun _ c => Bd h fun x11 hx11 h => Eshr c hx11 fun _ c => ?_))
 refine Fp [] 1 c fun _ c => E0 ?_
 obtain rfl := sj h
 exact wp_ret (br (tr (Rt c () [] [])))
 refine P0 [] c fun _ c => I0 c h (fun h => ?_) fun h => ?_
 refine S0 (P0 [] c fun _ c => Mp (decide (p3 ≥ p1)) [(3, I (w64 (p1 - 1)))] [(3, I p3)] [(3, I (cond (decide (p3 ≥ p1)) (w64 (p1 - 1)) p3))] [3, 97, 98] c fun _ c => T0 (Fp [] 3 c fun _ c => Bd h fun x12 hx12 h => Cb c (spec_SignedOf_ok hx12) tt Tryz.call212 fun _ _ _ c => ?_))
 refine Fp [] 1 c fun _ c => Bd h fun x13 hx13 h => Eshr c hx13 fun _ c => ?_
 refine Bd h fun x14 hx14 h => Cb c (spec_WordOf_ok hx14) tt Tryz.call211 fun _ _ _ c => ?_
 refine Fp [] 1 c fun _ c => E0 ?_
 obtain rfl := sj h
 exact wp_ret (br (tr (Rt c () [] [])))
 refine P0 [] c fun _ c => I0 c h (fun h => ?_) fun h => ?_
 refine T0 (Fp [] 3 c fun _ c => Bd h fun x15 hx15 h => Cb c (spec_l01Truth_ok hx15) tt Tryz.call213 fun _ _ _ c => ?_)
 refine Fp [] 1 c fun _ c => E0 ?_
 obtain rfl := sj h
 exact wp_ret (br (tr (Rt c () [] [])))
 refine P0 [] c fun _ c => I0 c h (fun h => ?_) fun h => ?_
 refine T0 (Fp [] 3 c fun _ c => Bd h fun x16 hx16 h => Cb c (spec_l01Truth_ok hx16) tt Tryz.call213 fun _ _ _ c => ?_)
 refine Fp [] 1 c fun _ c => E0 ?_
 obtain rfl := sj h
 exact wp_ret (br (tr (Rt c () [] [])))
 refine P0 [] c fun _ c => I0 c h (fun h => ?_) fun h => ?_
 refine T0 (Fp [] 2 c fun _ c => Bd h fun x17 hx17 h => Cb c (spec_SignedOf_ok hx17) tt Tryz.call212 fun _ _ _ c => ?_)
 refine Fp [] 2 c fun _ c => Bd h fun x18 hx18 h => Cb c (spec_SignedOf_ok hx18) tt Tryz.call212 fun _ _ _ c => ?_
 refine Fp [] 1 c fun _ c => Bd h fun x19 hx19 h => Cb c (spec_l01Truth_ok hx19) tt Tryz.call213 fun _ _ _ c => ?_
 refine Fp [] 1 c fun _ c => E0 ?_
 obtain rfl := sj h
 exact wp_ret (br (tr (Rt c () [] [])))
 refine K1 (bk (tn (P0 [] c fun _ c => ?_)))
 cases h
 exact wp_ret (Rt c () [] [])

theorem spec_JoinWords_ok {p0 p1 p2 p3 r} (h : spec_JoinWords p0 p1 p2 p3 = some r) : Con Tryz.prog 191 [I p0, I p1, I p2, I p3] [] [] fun (_ : Unit) => ([I r], [], []) := by
 unfold spec_JoinWords at h
 refine En Tryz.func191 rfl Tryz.ntmps191 fun _ fr w c => ?_
 refine P0 [] c fun _ c => S0 (Bd h fun x1 hx1 h => Bd h fun x2 hx2 h => S0 (rZ [(2, .eq (.bool x1)), (7, .eq (.bool x2))] [] mix c ⟨Ncl c (kN (spec_WordOk_ok hx1)) tt Tryz.call104, Ncl c (fun hg => spec_WordOk_ok (iteF (gcF hg) hx2)) tt Tryz.call104, tt⟩ fun _ _ c => I0 c h (fun h => ?_) fun h => ?_))
 refine P0 [] c fun _ c => ?_
 cases h
 exact wp_ret (tr (Rt c () [] []))
 refine K0 (T0 (Fp [] 2 c fun _ c => Bd h fun x3 hx3 h => Eshl c hx3 fun _ c => ?_))
 refine Fp [] 3 c fun _ c => E0 ?_
 cases h
 exact wp_ret (Rt c () [] [])

theorem spec_CutWord_ok {p0 p1 p2 p3 r} (h : spec_CutWord p0 p1 p2 p3 = some r) : Con Tryz.prog 192 [I p0, I p1, I p2, I p3] [] [] fun (_ : Unit) => ([I r], [], []) := by
 unfold spec_CutWord at h
 refine En Tryz.func192 rfl Tryz.ntmps192 fun _ fr w c => ?_
 refine P0 [] c fun _ c => S0 (Bd h fun x1 hx1 h => S0 (rZ [(2, .eq (.bool x1))] [] mix c ⟨Ncl c (kN (spec_WordOk_ok hx1)) tt Tryz.call104, tt⟩ fun _ _ c => I0 c h (fun h => ?_) fun h => ?_))
 refine P0 [] c fun _ c => ?_
 cases h
 exact wp_ret (tr (Rt c () [] []))
 refine K0 (T0 (Fp [] 3 c fun _ c => Bd h fun x2 hx2 h => Eshr c hx2 fun _ c => ?_))
 refine Bd h fun x3 hx3 h => Cb c (spec_WordOf_ok hx3) tt Tryz.call211 fun _ _ _ c => ?_
 refine Fp [] 1 c fun _ c => E0 ?_
 obtain rfl := sj h
 exact wp_ret (Rt c () [] [])

theorem spec_WidenWord_ok {p0 p1 p2 p3 r} (h : spec_WidenWord p0 p1 p2 p3 = some r) : Con Tryz.prog 193 [I p0, I p1, I p2, .bool p3] [] [] fun (_ : Unit) => ([I r], [], []) := by
 unfold spec_WidenWord at h
 refine En Tryz.func193 rfl Tryz.ntmps193 fun _ fr w c => ?_
 refine P0 [] c fun _ c => S0 (Bd h fun x1 hx1 h => S0 (rZ [(2, .eq (.bool x1))] [] mix c ⟨Ncl c (kN (spec_WordOk_ok hx1)) tt Tryz.call104, tt⟩ fun _ _ c => I0 c h (fun h => ?_) fun h => ?_))
 refine P0 [] c fun _ c => ?_
 cases h
 exact wp_ret (tr (Rt c () [] []))
 refine K0 (S0 (P0 [] c fun _ c => I0 c h (fun h => ?_) fun h => ?_))
 refine T0 (Fp [] 3 c fun _ c => Bd h fun x2 hx2 h => Cb c (spec_SignedOf_ok hx2) tt Tryz.call212 fun _ _ _ c => ?_)
 refine Bd h fun x3 hx3 h => Cb c (spec_WordOf_ok hx3) tt Tryz.call211 fun _ _ _ c => ?_
 refine Fp [] 1 c fun _ c => E0 ?_
 obtain rfl := sj h
 exact wp_ret (tr (Rt c () [] []))
 refine K0 (P0 [] c fun _ c => ?_)
 obtain rfl := sj h
 exact wp_ret (Rt c () [] [])

theorem spec_l02Apply_ok {p0 p1 ga0 gc1 ga2 gc3 r} (h : spec_l02Apply p0 p1 = some r) : Con Tryz.prog 158 [tV p0 ga0 gc1, L ga2 p1 gc3] [] [lR ga0 p0.Kids gc1, lR ga2 p1 gc3] fun (_ : Unit) => ([I r], [], []) := by
 unfold spec_l02Apply at h
 refine En Tryz.func158 rfl Tryz.ntmps158 fun _ fr w c => ?_
 refine T0 (Ebx (tC p0 ga0 gc1) c fun b1 _ _ c => ?_)
 refine Fp [] 1 c fun _ c => E0 (S0 (wp_block (T0 (Fp [(1, 0)] 2 c fun _ c => Bd h fun x1 hx1 h => Cb c (spec_l01In_ok hx1) tt Tryz.call56 fun _ _ _ c => ?_))))
 refine Fp [] 1 c fun _ c => E0 (I0 c h (fun h => ?_) fun h => ?_)
 refine Bd h fun x2 hx2 h => Bd h fun x3 hx3 h => S0 (rZ [(5, Pd.el (x2 : Int)), (6, .eq (I x2)), (7, .eq (I x3))] [(1, 0), (3, 0)] mix c ⟨Nid c (.f 1) (kN hx2), Nld c 5 (q := x2) (atN 5), Ncl c (kN (spec_ApplyUnary_ok hx3)) tt Tryz.call189, tt⟩ fun _ _ c => ?_)
 obtain rfl := sj h
 exact wp_ret (br (tr (Rt c () [] [])))
 refine T0 (Fp [(1, 0)] 2 c fun _ c => Bd h fun x4 hx4 h => Cb c (spec_l01In_ok hx4) tt Tryz.call56 fun _ _ _ c => ?_)
 refine Fp [] 1 c fun _ c => E0 (I0 c h (fun h => ?_) fun h => ?_)
 refine Bd h fun x5 hx5 h => ?_
 obtain ⟨ep1, u1, c⟩ := c.elp (.f 0) hx5
 obtain ⟨a1, c1, rfl, c⟩ := c.o_Term 3
 refine Bd h fun x6 hx6 h => Bd h fun x7 hx7 h => Bd h fun x8 hx8 h => S0 (rZ [(4, .eq (.pointer (some ep1))), (6, .eq (I x5.W)), (8, Pd.el (x6 : Int)), (9, .eq (I x6)), (11, Pd.el (x7 : Int)), (12, .eq (I x7)), (13, .eq (I x8))] [(1, 0), (3, 0)] mix c ⟨Nie c 2, Nlc c 2 1, Nid c (.f 1) (kN hx6), Nld c 8 (q := x6) (atN 8), Nid c (.f 1) (kN hx7), Nld c 11 (q := x7) (atN 11), Ncl c (kN (spec_ApplyBinary_ok hx8)) tt Tryz.call190, tt⟩ fun _ _ c => ?_)
 obtain rfl := sj h
 exact wp_ret (br (tr (Rt c () [] [])))
 refine P0 [(1, 0)] c fun _ c => I0 c h (fun h => ?_) fun h => ?_
 refine S0 (T0 (Fp [] 1 c fun _ c => Bd h fun x9 hx9 h => Eel c (.f 1) hx9 fun _ _ c => ?_))
 refine Fp [] 1 c fun _ c => E0 (I0 c h (fun h => ?_) fun h => ?_)
 refine T0 (Fp [] 1 c fun _ c => Bd h fun x10 hx10 h => Eel c (.f 1) hx10 fun _ _ c => ?_)
 refine Fp [] 1 c fun _ c => E0 ?_
 obtain rfl := sj h
 exact wp_ret (tr (br (tr (Rt c () [] []))))
 refine K0 (T0 (Fp [] 1 c fun _ c => Bd h fun x11 hx11 h => Eel c (.f 1) hx11 fun _ _ c => ?_))
 refine Fp [] 1 c fun _ c => E0 ?_
 obtain rfl := sj h
 exact wp_ret (br (tr (Rt c () [] [])))
 refine P0 [(1, 0)] c fun _ c => I0 c h (fun h => ?_) fun h => ?_
 refine Bd h fun x12 hx12 h => ?_
 obtain ⟨ep2, u2, c⟩ := c.elp (.f 0) hx12
 obtain ⟨a2, c2, rfl, c⟩ := c.o_Term 3
 refine Bd h fun x13 hx13 h => Bd h fun x14 hx14 h => ?_
 obtain ⟨ep3, u3, c⟩ := c.elp (.f 0) hx14
 obtain ⟨a3, c3, rfl, c⟩ := c.o_Term 6
 refine Bd h fun x15 hx15 h => Bd h fun x16 hx16 h => S0 (rZ [(2, .eq (.pointer (some ep2))), (4, .eq (I x12.W)), (6, Pd.el (x13 : Int)), (7, .eq (I x13)), (10, .eq (.pointer (some ep3))), (12, .eq (I x14.W)), (14, Pd.el (x15 : Int)), (15, .eq (I x15)), (16, .eq (I x16))] [(1, 0), (9, 0)] mix c ⟨Nie c 2, Nlc c 2 1, Nid c (.f 1) (kN hx13), Nld c 6 (q := x13) (atN 6), Nie c 5, Nlc c 5 1, Nid c (.f 1) (kN hx15), Nld c 14 (q := x15) (atN 14), Ncl c (kN (spec_JoinWords_ok hx16)) tt Tryz.call191, tt⟩ fun _ _ c => ?_)
 obtain rfl := sj h
 exact wp_ret (br (tr (Rt c () [] [])))
 refine P0 [(1, 0)] c fun _ c => I0 c h (fun h => ?_) fun h => ?_
 refine Bd h fun x17 hx17 h => ?_
 obtain ⟨ep4, u4, c⟩ := c.elp (.f 0) hx17
 obtain ⟨a4, c4, rfl, c⟩ := c.o_Term 3
 refine Bd h fun x18 hx18 h => Bd h fun x19 hx19 h => S0 (rZ [(2, .eq (.pointer (some ep4))), (4, .eq (I x17.W)), (6, Pd.el (x18 : Int)), (7, .eq (I x18)), (12, .eq (I x19))] [(1, 0), (9, 0), (11, 0)] mix c ⟨Nie c 2, Nlc c 2 1, Nid c (.f 1) (kN hx18), Nld c 6 (q := x18) (atN 6), Ncl c (kN (spec_CutWord_ok hx19)) tt Tryz.call192, tt⟩ fun _ _ c => ?_)
 obtain rfl := sj h
 exact wp_ret (br (tr (Rt c () [] [])))
 refine K1 (bk (tn (Bd h fun x20 hx20 h => ?_)))
 obtain ⟨ep5, u5, c⟩ := c.elp (.f 0) hx20
 obtain ⟨a5, c5, rfl, c⟩ := c.o_Term 3
 refine Bd h fun x21 hx21 h => Bd h fun x22 hx22 h => S0 (rZ [(2, .eq (.pointer (some ep5))), (4, .eq (I x20.W)), (6, Pd.el (x21 : Int)), (7, .eq (I x21)), (13, .eq (I x22))] [(1, 0), (9, 0), (11, 0)] mix c ⟨Nie c 2, Nlc c 2 1, Nid c (.f 1) (kN hx21), Nld c 6 (q := x21) (atN 6), Ncl c (kN (spec_WidenWord_ok hx22)) tt Tryz.call193, tt⟩ fun _ _ c => ?_)
 obtain rfl := sj h
 exact wp_ret (Rt c () [] [])

theorem spec_l02Is_ok {p0 p1 ga0 gc1 r} (h : spec_l02Is p0 p1 = some r) : Con Tryz.prog 78 [tV p0 ga0 gc1, I p1] [] [lR ga0 p0.Kids gc1] fun (_ : Unit) => ([.bool r], [], []) := by
 unfold spec_l02Is at h
 refine En Tryz.func78 rfl Tryz.ntmps78 fun _ fr w c => ?_
 refine T0 (Ebx (tC p0 ga0 gc1) c fun b1 _ _ c => ?_)
 refine Fp [] 1 c fun _ c => E0 (S0 (Ry [(1, 0), (5, 0)] mix c fun _ _ c => ?_))
 cases h
 exact wp_ret (Rt c () [] [])

theorem spec_l02Ones_ok {p0 ga0 gc1 r} (h : spec_l02Ones p0 = some r) : Con Tryz.prog 214 [tV p0 ga0 gc1] [] [lR ga0 p0.Kids gc1] fun (_ : Unit) => ([.bool r], [], []) := by
 unfold spec_l02Ones at h
 refine En Tryz.func214 rfl Tryz.ntmps214 fun _ fr w c => ?_
 refine T0 (Ebx (tC p0 ga0 gc1) c fun b1 _ _ c => ?_)
 refine Fp [] 1 c fun _ c => E0 (Bd h fun x1 hx1 h => S0 (rZ [(8, .eq (I x1))] [(1, 0), (5, 0), (7, 0)] mix c ⟨Nshl c (gT hx1), tt⟩ fun _ _ c => ?_))
 cases h
 exact wp_ret (Rt c () [] [])

theorem spec_l02Equal_ok {p0 ga0 gc1 r} (h : spec_l02Equal p0 = some r) : Con Tryz.prog 195 [tV p0 ga0 gc1] [] [lR ga0 p0.Kids gc1] fun (i : Oh) => ([tV r.1 i.1 i.2, .bool r.2], [], [lR i.1 r.1.Kids i.2]) := by
 unfold spec_l02Equal at h
 refine En Tryz.func195 rfl Tryz.ntmps195 fun _ fr w c => ?_
 refine T0 (Ebx (tC p0 ga0 gc1) c fun b1 _ _ c => ?_)
 refine Eal tZ c fun b2 _ _ c => ?_
 refine Fp [] 1 c fun _ c => E0 (S0 (P0 [(1, 0)] c fun _ c => wp_block (S0 (P0 [] c fun _ c => Mp (p0.Op == 8) [(6, .bool (p0.Op == 8))] [(6, .bool (p0.Op == 9))] [(6, .bool ((p0.Op == 8) || (p0.Op == 9)))] [6, 8] c fun _ c => I0 c h (fun h => ?_) fun h => ?_))))
 refine T0 (Fp [(1, 0)] 2 c fun _ c => Bd h fun x1 hx1 h => Eem c (.f 0) hx1 fun _ u1 _ c => ?_)
 obtain ⟨a1, c1, rfl, c⟩ := c.o_Term 1
 refine Ess 1 (tC x1 a1 c1) c fun _ c => ?_
 refine Fp [] 1 c fun _ c => E0 ?_
 cases h
 exact wp_ret (br (tr (Rg c (a1, c1) [] [2] (.cell (α := Agg 4) kk (.b 1) (.tmp .nil)))))
 refine S0 (P0 [] c fun _ c => Bd h fun rl1 hit1 h => ?_)
 have hk1 := h
 refine Jr (fun s  (_ : Unit) => ([(1, B b1 0), (2, B b2 0), (5, I p0.Op), (13, .bool s)], id, [])) hit1 c (fun h => ?_) fun s1r _ _ _ hrl c => ?_
 refine I0 c h (fun h => ?_) fun h => ?_
 refine K0 (⟨_, (), (sk h), c.rk [0, 1] [0]⟩)
 refine P0 [] c fun _ c => I0 c h (fun h => ?_) fun h => ?_
 refine K0 (⟨_, (), (sk h), c.rk [0, 1] [0]⟩)
 refine P0 [] c fun _ c => Mp (p0.Op == 15) [(13, .bool (p0.Op == 15))] [(13, .bool (p0.Op == 16))] [(13, .bool ((p0.Op == 15) || (p0.Op == 16)))] [13, 17] c fun _ c => ⟨_, (), (sk h), c.rk [0, 1] [0]⟩
 subst hrl
 refine I0 c h (fun h => ?_) fun h => ?_
 refine T0 (Fp [(1, 0)] 2 c fun _ c => Bd h fun x2 hx2 h => Cb c (spec_l02Const_ok hx2) tt Tryz.call107 fun _ _ _ c => ?_)
 refine Ess 1 [I x2.Op, I x2.W, I x2.N, Str.val x2.Name, L none ([] : List D.Term) 0] c fun _ c => ?_
 refine Fp [] 1 c fun _ c => E0 ?_
 cases h
 replace c := c.nilf (α := D.Term)
 exact wp_ret (br (tr (Rg c (none, 0) [] [1] (.cell (α := Agg 4) kk (.b 1) (.tmp .nil)))))
 refine P0 [] c fun _ c => I0 c h (fun h => ?_) fun h => ?_
 refine T0 (Bd h fun x3 hx3 h => Cb c (spec_l02Const_ok hx3) tt Tryz.call107 fun _ _ _ c => ?_)
 refine Ess 1 [I x3.Op, I x3.W, I x3.N, Str.val x3.Name, L none ([] : List D.Term) 0] c fun _ c => ?_
 refine Fp [] 1 c fun _ c => E0 ?_
 cases h
 replace c := c.nilf (α := D.Term)
 exact wp_ret (br (tr (Rg c (none, 0) [] [1] (.cell (α := Agg 4) kk (.b 1) (.tmp .nil)))))
 refine K1 (bk (tn (T0 (Fp [(0, 0)] 1 c fun _ c => Ess 1 (tC p0 ga0 gc1) c fun _ c => ?_))))
 refine Fp [] 1 c fun _ c => E0 ?_
 cases h
 exact wp_ret (Rg c (ga0, gc1) [] [0] (.cell (α := Agg 4) kk (.b 1) (.tmp .nil)))

theorem spec_l02First_spec_l02Make_spec_l02Two_spec_l02If_spec_l02Cut_spec_l02Bit_rec (n : Nat) : (∀ {p0 ga0 gc1 r} (h : spec_l02First n p0 = some r), Con Tryz.prog 194 [tV p0 ga0 gc1] [] [lR ga0 p0.Kids gc1] fun (i : Oh) => ([tV r.1 i.1 i.2, .bool r.2], [], [lR i.1 r.1.Kids i.2])) ∧
    (∀ {p0 ga0 gc1 r} (h : spec_l02Make n p0 = some r), Con Tryz.prog 108 [tV p0 ga0 gc1] [] [lR ga0 p0.Kids gc1] fun (i : Oh) => ([tV r i.1 i.2], [], [lR i.1 r.Kids i.2])) ∧
    (∀ {p0 ga0 gc1 r} (h : spec_l02Two n p0 = some r), Con Tryz.prog 159 [tV p0 ga0 gc1] [] [lR ga0 p0.Kids gc1] fun (i : Oh) => ([tV r i.1 i.2], [], [lR i.1 r.Kids i.2])) ∧
    (∀ {p0 ga0 gc1 r} (h : spec_l02If n p0 = some r), Con Tryz.prog 160 [tV p0 ga0 gc1] [] [lR ga0 p0.Kids gc1] fun (i : Oh) => ([tV r i.1 i.2], [], [lR i.1 r.Kids i.2])) ∧
    (∀ {p0 ga0 gc1 r} (h : spec_l02Cut n p0 = some r), Con Tryz.prog 161 [tV p0 ga0 gc1] [] [lR ga0 p0.Kids gc1] fun (i : Oh) => ([tV r i.1 i.2], [], [lR i.1 r.Kids i.2])) ∧
    (∀ {p0 p1 p2 ga0 gc1 r} (h : spec_l02Bit n p0 p1 p2 = some r), Con Tryz.prog 196 [I p0, tV p1 ga0 gc1, I p2] [] [lR ga0 p1.Kids gc1] fun (i : Oh) => ([tV r i.1 i.2], [], [lR i.1 r.Kids i.2])) := by
 induction n with
 | zero => exact ⟨by intro p0 ga0 gc1 r h; simp [spec_l02First] at h, by intro p0 ga0 gc1 r h; simp [spec_l02Make] at h, by intro p0 ga0 gc1 r h; simp [spec_l02Two] at h, by intro p0 ga0 gc1 r h; simp [spec_l02If] at h, by intro p0 ga0 gc1 r h; simp [spec_l02Cut] at h, by intro p0 p1 p2 ga0 gc1 r h; simp [spec_l02Bit] at h⟩
 | succ n ih =>
 obtain ⟨ih0, ih1, ih2, ih3, ih4, ih5⟩ := ih
 refine ⟨?_, ?_, ?_, ?_, ?_, ?_⟩
 · intro p0 ga0 gc1 r h
   rw [spec_l02First] at h
   refine En Tryz.func194 rfl Tryz.ntmps194 fun _ fr w c => ?_
   refine T0 (Ebx (tC p0 ga0 gc1) c fun b1 _ _ c => ?_)
   refine Eal tZ c fun b2 _ _ c => ?_
   refine Fp [] 1 c fun _ c => E0 (T0 (Fp [(1, 0)] 2 c fun _ c => Bd h fun x1 hx1 h => Eem c (.f 0) hx1 fun _ u1 _ c => ?_))
   obtain ⟨a1, c1, rfl, c⟩ := c.o_Term 1
   refine Eal tZ c fun b3 _ _ c => ?_
   refine Ess 2 (tC x1 a1 c1) c fun _ c => ?_
   refine E0 (T0 (Fp [(1, 0)] 2 c fun _ c => ?_))
   try simp only [l1, l2, l3, l4] at c
   refine Bd h fun x2 hx2 h => Eem c (.f 0) hx2 fun _ u2 _ c => ?_
   obtain ⟨a2, c2, rfl, c⟩ := c.o_Term 3
   refine Eal tZ c fun b4 _ _ c => ?_
   refine Ess 3 (tC x2 a2 c2) c fun _ c => ?_
   refine E0 (T0 (Fp [(0, 2)] 1 c fun _ c => Bd h fun x3 hx3 h => Cb c (spec_l02Is_ok hx3) ⟨.f 2, tt⟩ Tryz.call78 fun _ _ _ c => ?_))
   refine Fp [] 1 c fun _ c => E0 (T0 (Fp [(0, 2)] 1 c fun _ c => Bd h fun x4 hx4 h => Cb c (spec_l02Ones_ok hx4) ⟨.f 2, tt⟩ Tryz.call214 fun _ _ _ c => ?_))
   refine Fp [] 1 c fun _ c => E0 (S0 (wp_block (S0 (S0 (Ry [(1, 0)] mix c fun _ _ c => Bd h fun rl1 hit1 h => ?_)))))
   have hk1 := h
   refine Jr (fun s  (_ : Unit) => ([(1, B b1 0), (2, B b2 0), (4, B b3 0), (5, B b4 0), (6, .bool x3), (7, .bool x4), (20, .bool s)], id, [])) hit1 c (fun h => ?_) fun s1r _ _ _ hrl c => ?_
   refine I0 c h (fun h => ?_) fun h => ?_
   refine K0 (⟨_, (), (sk h), c.rk (rg 4) (rg 5)⟩)
   refine S0 (Ry [(1, 0)] mix c fun _ _ c => I0 c h (fun h => ?_) fun h => ?_)
   refine K0 (⟨_, (), (sk h), c.rk (rg 4) (rg 5)⟩)
   refine Ry [(1, 0)] mix c fun _ _ c => ?_
   exact ⟨_, (), (sk h), c.rk (rg 4) (rg 5)⟩
   subst hrl
   refine I0 c h (fun h => ?_) fun h => ?_
   refine T0 (Fp [(0, 3)] 1 c fun _ c => ?_)
   replace c := c.gm [BX b1 34 (tC p0 ga0 gc1), BX b2 34 tZ, BX b3 34 (tC x1 a1 c1), BX b4 34 (tC x2 a2 c2)]
   refine Ess 1 (tC x2 a2 c2) c fun _ c => ?_
   refine Fp [] 1 c fun _ c => E0 ?_
   cases h
   exact wp_ret (br (tr (Rg c (a2, c2) [] [4] (.cell (α := Agg 4) kk (.b 1) (.tmp .nil)))))
   refine S0 (S0 (Ry [(1, 0)] mix c fun _ _ c => Bd h fun rl2 hit2 h => ?_))
   have hk2 := h
   refine Jr (fun s  (_ : Unit) => ([(1, B b1 0), (2, B b2 0), (4, B b3 0), (5, B b4 0), (7, .bool x4), (40, .bool s)], id, [])) hit2 c (fun h => ?_) fun s2r _ _ _ hrl c => ?_
   refine I0 c h (fun h => ?_) fun h => ?_
   refine K0 (⟨_, (), (sk h), c.rk (rg 4) (rg 5)⟩)
   refine S0 (Ry [(1, 0)] mix c fun _ _ c => I0 c h (fun h => ?_) fun h => ?_)
   refine K0 (⟨_, (), (sk h), c.rk (rg 4) (rg 5)⟩)
   refine Ry [(1, 0)] mix c fun _ _ c => ?_
   exact ⟨_, (), (sk h), c.rk (rg 4) (rg 5)⟩
   subst hrl
   refine I0 c h (fun h => ?_) fun h => ?_
   refine T0 (Fp [(0, 2)] 1 c fun _ c => ?_)
   replace c := c.gm [BX b1 34 (tC p0 ga0 gc1), BX b2 34 tZ, BX b3 34 (tC x1 a1 c1), BX b4 34 (tC x2 a2 c2)]
   refine Ess 1 (tC x1 a1 c1) c fun _ c => ?_
   refine Fp [] 1 c fun _ c => E0 ?_
   cases h
   exact wp_ret (br (tr (Rg c (a1, c1) [] [2] (.cell (α := Agg 4) kk (.b 1) (.tmp .nil)))))
   refine S0 (S0 (Ry [(1, 0), (5, 2)] mix c fun _ _ c => Bd h fun rl3 hit3 h => ?_))
   have hk3 := h
   refine Jr (fun s  (_ : Unit) => ([(1, B b1 0), (2, B b2 0), (4, B b3 0), (5, B b4 0), (7, .bool x4), (60, .bool s)], id, [])) hit3 c (fun h => ?_) fun s3r _ _ _ hrl c => ?_
   refine I0 c h (fun h => ?_) fun h => ?_
   refine K0 (⟨_, (), (sk h), c.rk (rg 4) (rg 5)⟩)
   refine Ry [(1, 0)] mix c fun _ _ c => ?_
   exact ⟨_, (), (sk h), c.rk (rg 4) (rg 5)⟩
   subst hrl
   refine I0 c h (fun h => ?_) fun h => ?_
   refine T0 (Fp [(0, 3)] 1 c fun _ c => ?_)
   replace c := c.gm [BX b1 34 (tC p0 ga0 gc1), BX b2 34 tZ, BX b3 34 (tC x1 a1 c1), BX b4 34 (tC x2 a2 c2)]
   refine Ess 1 (tC x2 a2 c2) c fun _ c => ?_
   refine Fp [] 1 c fun _ c => E0 ?_
   cases h
   exact wp_ret (br (tr (Rg c (a2, c2) [] [4] (.cell (α := Agg 4) kk (.b 1) (.tmp .nil)))))
   refine S0 (Ry [(1, 0)] mix c fun _ _ c => I0 c h (fun h => ?_) fun h => ?_)
   refine T0 (Fp [(1, 0), (2, 3)] 3 c fun _ c => ?_)
   replace c := c.gm [BX b1 34 (tC p0 ga0 gc1), BX b2 34 tZ, BX b3 34 (tC x1 a1 c1), BX b4 34 (tC x2 a2 c2)]
   refine Eltr 34 [(tR x2 a2 c2)] [x2] c ⟨(Ava.mk_Term x2 (.f 4)), tt⟩ fun a3 c3 _ _ c => ?_
   refine Fp [] 1 c fun _ c => ?_
   replace c := c.fzr 4 5
   refine Bd h fun x5 hx5 h => Cg c (ih1 hx5) ⟨.f 6, tt⟩ Tryz.call108 fun i1 _ _ c => ?_
   refine Ess 1 (tC x5 i1.1 i1.2) c fun _ c => ?_
   refine Fp [] 1 c fun _ c => E0 ?_
   cases h
   exact wp_ret (br (tr (Rg c (i1.1, i1.2) [] [7] (.cell (α := Agg 4) kk (.b 1) (.tmp .nil)))))
   refine S0 (Ry [(1, 0), (5, 2), (10, 2)] mix c fun _ _ c => I0 c h (fun h => ?_) fun h => ?_)
   refine T0 (Fp [(0, 3)] 1 c fun _ c => ?_)
   replace c := c.gm [BX b1 34 (tC p0 ga0 gc1), BX b2 34 tZ, BX b3 34 (tC x1 a1 c1), BX b4 34 (tC x2 a2 c2)]
   refine Ess 1 (tC x2 a2 c2) c fun _ c => ?_
   refine Fp [] 1 c fun _ c => E0 ?_
   cases h
   exact wp_ret (br (tr (Rg c (a2, c2) [] [4] (.cell (α := Agg 4) kk (.b 1) (.tmp .nil)))))
   refine S0 (Ry [(1, 0), (5, 2)] mix c fun _ _ c => I0 c h (fun h => ?_) fun h => ?_)
   refine T0 (Fp [(0, 3)] 1 c fun _ c => ?_)
   replace c := c.gm [BX b1 34 (tC p0 ga0 gc1), BX b2 34 tZ, BX b3 34 (tC x1 a1 c1), BX b4 34 (tC x2 a2 c2)]
   refine Eltr 34 [(tR x2 a2 c2)] [x2] c ⟨(Ava.mk_Term x2 (.f 4)), tt⟩ fun a4 c4 _ _ c => ?_
   refine Fp [] 1 c fun _ c => ?_
   replace c := c.fzr 4 5
   refine Bd h fun x6 hx6 h => Cg c (ih1 hx6) ⟨.f 6, tt⟩ Tryz.call108 fun i2 _ _ c => ?_
   refine Ess 1 (tC x6 i2.1 i2.2) c fun _ c => ?_
   refine Fp [] 1 c fun _ c => E0 ?_
   cases h
   exact wp_ret (br (tr (Rg c (i2.1, i2.2) [] [7] (.cell (α := Agg 4) kk (.b 1) (.tmp .nil)))))
   refine K1 (bk (tn (T0 (Fp [(0, 0)] 1 c fun _ c => ?_))))
   replace c := c.gm [BX b1 34 (tC p0 ga0 gc1), BX b2 34 tZ, BX b3 34 (tC x1 a1 c1), BX b4 34 (tC x2 a2 c2)]
   refine Ess 1 (tC p0 ga0 gc1) c fun _ c => ?_
   refine Fp [] 1 c fun _ c => E0 ?_
   cases h
   exact wp_ret (Rg c (ga0, gc1) [] [0] (.cell (α := Agg 4) kk (.b 1) (.tmp .nil)))
 · intro p0 ga0 gc1 r h
   rw [spec_l02Make] at h
   refine En Tryz.func108 rfl Tryz.ntmps108 fun _ fr w c => ?_
   refine T0 (Ebx (tC p0 ga0 gc1) c fun b1 _ _ c => ?_)
   refine Eal tZ c fun b2 _ _ c => ?_
   refine E0 (P0 [(1, 0)] c fun _ c => T0 (Elt 3 ([] : List Int) c fun a1 c1 _ _ c => ?_))
   refine Fp [] 1 c fun _ c => E0 (S0 (P0 [(1, 0)] c fun _ c => Bd h fun rl1 hit1 h => Lp (fun s1  (i : Oh) => ([(1, B b1 0), (2, B b2 0), (3, .bool s1.1), (4, L i.1 s1.2.2 i.2), (16, L ga0 p0.Kids gc1), (17, I (len p0.Kids)), (18, I s1.2.1)], fun Γ => Γ.set 2 (sl3 (L i.1 s1.2.2 i.2) s1.2.2), [])) (fun  (i : Oh) => ([(1, B b1 0), (2, B b2 0), (3, .bool rl1.1), (4, L i.1 rl1.2 i.2)], fun Γ => Γ.set 2 (sl3 (L i.1 rl1.2 i.2) rl1.2), [])) hit1 c (a1, c1) (c.rk [0, 1, 2] [0]) (fun s1 q1 i1 _ _ c h hr1 => ?_) fun k1 _ _ c => ?_))
   refine P0 [] c fun _ c => S0 (I0 c h (fun h => ?_) fun h => ?_)
   refine K0 (S0 (wp_block (T0 (Bd h fun x1 hx1 h => Eem c (.f 0) hx1 fun _ u1 _ c => ?_))))
   obtain ⟨a2, c2, rfl, c⟩ := c.o_Term 1
   refine Eal tZ c fun b3 _ _ c => ?_
   replace c := c.gm [BX b1 34 (tC p0 ga0 gc1), BX b2 34 tZ, sl3 (L i1.1 s1.2.2 i1.2) s1.2.2, BX b3 34 tZ]
   refine Ess 3 (tC x1 a2 c2) c fun _ c => ?_
   refine E0 (S0 (Ry [(3, 2)] mix c fun _ _ c => T1 (Fp [(2, 2)] 3 c fun _ c => Elt 3 ([x1.N] : List Int) c fun a3 c3 _ _ c => ?_)))
   refine Bd h fun x2 hx2 h => Eap 2 c (.g 4) hx2 fun a4 c4 _ _ c => ?_
   refine Fp [] 1 c fun _ c => E1 (bk (tn (P1 [] c fun _ c => Nx h (a4, c4) (c.rk [0, 1, 2] [0]))))
   refine wp_exit (te (te (be ?_)))
   obtain rfl := hr1 _ (sk h)
   exact tn ⟨(i1.1, i1.2), c.rk [0, 1, 2] [0]⟩
   refine S0 (P0 [] c fun _ c => I0 c h (fun h => ?_) fun h => ?_)
   refine Bd h fun x3 hx3 h => S0 (wp_ra mix (rM 5 [(4, .eq (I x3))] [(1, 0), (2, 0)] c (fun ow => ⟨np_tO ow (Ncl c (kN (spec_l02Apply_ok hx3)) ⟨.f 0, .g 2, tt⟩ Tryz.call158), tt⟩) fun _ _ _ _ _ c => Bd h fun x4 hx4 h => Cb c (spec_l02Const_ok hx4) tt Tryz.call107 fun _ _ _ c => ?_))
   refine Ess 1 [I x4.Op, I x4.W, I x4.N, Str.val x4.Name, L none ([] : List D.Term) 0] c fun _ c => ?_
   refine E0 ?_
   cases h
   replace c := c.nilf (α := D.Term)
   exact wp_ret (tr (Rg c (none, 0) [] [1] (.cell (α := Agg 4) kk (.b 1) .nil)))
   refine K0 (S0 (T0 (Fp [(1, 0)] 2 c fun _ c => Bd h fun x5 hx5 h => Cb c (spec_l01In_ok hx5) tt Tryz.call56 fun _ _ _ c => ?_)))
   refine E0 (I0 c h (fun h => ?_) fun h => ?_)
   refine T0 (Fp [(0, 0)] 1 c fun _ c => Bd h fun x6 hx6 h => Cg c (ih2 hx6) ⟨.f 0, tt⟩ Tryz.call159 fun i2 _ _ c => ?_)
   replace c := c.gm [BX b1 34 (tC p0 ga0 gc1), BX b2 34 tZ, sl3 (L k1.1 rl1.2 k1.2) rl1.2]
   refine Ess 1 (tC x6 i2.1 i2.2) c fun _ c => ?_
   refine E0 ?_
   obtain rfl := sj h
   exact wp_ret (tr (Rg c (i2.1, i2.2) [] [1] (.cell (α := Agg 4) kk (.b 1) .nil)))
   refine K0 (S0 (P0 [(1, 0)] c fun _ c => wp_block (S0 (P0 [] c fun _ c => Mp (p0.Op == 1) [(48, .bool (p0.Op == 1))] [(48, .bool (p0.Op == 2))] [(48, .bool ((p0.Op == 1) || (p0.Op == 2)))] [48, 50] c fun _ c => I0 c h (fun h => ?_) fun h => ?_))))
   refine Bd h fun x7 hx7 h => ?_
   obtain ⟨ep1, u2, c⟩ := c.elp (.f 0) hx7
   obtain ⟨a5, c5, rfl, c⟩ := c.o_Term 2
   refine S0 (rZ [(2, .eq (.pointer (some ep1))), (4, .eq (I x7.Op))] [(1, 0), (6, 0)] mix c ⟨Nie c 1, Nlc c 1 0, tt⟩ fun _ _ c => I0 c h (fun h => ?_) fun h => ?_)
   refine T0 (Fp [(1, 0)] 2 c fun _ c => Bd h fun x8 hx8 h => Eemf c (.f 0) hx8 fm_Term4 fun _ _ u3 _ c => ?_)
   obtain ⟨a6, c6, rfl⟩ := c.sl 4
   refine Bd h fun x9 hx9 h => Eem c (.f 4) hx9 fun _ u4 _ c => ?_
   obtain ⟨a7, c7, rfl, c⟩ := c.o_Term 5
   replace c := c.gm [BX b1 34 (tC p0 ga0 gc1), BX b2 34 tZ, sl3 (L k1.1 rl1.2 k1.2) rl1.2]
   refine Ess 1 (tC x9 a7 c7) c fun _ c => ?_
   refine E0 ?_
   obtain rfl := sj h
   exact wp_ret (br (tr (Rg c (a7, c7) [] [6] (.cell (α := Agg 4) kk (.b 1) .nil))))
   refine K1 (bk (tn (T0 (Fp [(0, 0)] 1 c fun _ c => Ess 1 (tC p0 ga0 gc1) c fun _ c => ?_))))
   refine E0 ?_
   obtain rfl := sj h
   exact wp_ret (Rg c (ga0, gc1) [] [0] (.cell (α := Agg 4) kk (.b 1) .nil))
   refine P0 [] c fun _ c => I0 c h (fun h => ?_) fun h => ?_
   refine T0 (Fp [(0, 0)] 1 c fun _ c => Bd h fun x10 hx10 h => Cg c (ih3 hx10) ⟨.f 0, tt⟩ Tryz.call160 fun i3 _ _ c => ?_)
   replace c := c.gm [BX b1 34 (tC p0 ga0 gc1), BX b2 34 tZ, sl3 (L k1.1 rl1.2 k1.2) rl1.2]
   refine Ess 1 (tC x10 i3.1 i3.2) c fun _ c => ?_
   refine E0 ?_
   obtain rfl := sj h
   exact wp_ret (br (tr (Rg c (i3.1, i3.2) [] [1] (.cell (α := Agg 4) kk (.b 1) .nil))))
   refine P0 [] c fun _ c => I0 c h (fun h => ?_) fun h => ?_
   refine T0 (Fp [(0, 0)] 1 c fun _ c => Bd h fun x11 hx11 h => Cg c (ih4 hx11) ⟨.f 0, tt⟩ Tryz.call161 fun i4 _ _ c => ?_)
   replace c := c.gm [BX b1 34 (tC p0 ga0 gc1), BX b2 34 tZ, sl3 (L k1.1 rl1.2 k1.2) rl1.2]
   refine Ess 1 (tC x11 i4.1 i4.2) c fun _ c => ?_
   refine E0 ?_
   obtain rfl := sj h
   exact wp_ret (br (tr (Rg c (i4.1, i4.2) [] [1] (.cell (α := Agg 4) kk (.b 1) .nil))))
   refine S0 (P0 [] c fun _ c => Mp (p0.Op == 20) [(74, .bool (p0.Op == 20))] [(74, .bool (p0.Op == 21))] [(74, .bool ((p0.Op == 20) || (p0.Op == 21)))] [74, 76] c fun _ c => I0 c h (fun h => ?_) fun h => ?_)
   refine T0 (Fp [(1, 0)] 2 c fun _ c => Bd h fun x12 hx12 h => Eem c (.f 0) hx12 fun _ u5 _ c => ?_)
   obtain ⟨a8, c8, rfl, c⟩ := c.o_Term 1
   replace c := c.gm [BX b1 34 (tC p0 ga0 gc1), BX b2 34 tZ, sl3 (L k1.1 rl1.2 k1.2) rl1.2]
   refine Eal tZ c fun b4 _ _ c => ?_
   refine Ess 3 (tC x12 a8 c8) c fun _ c => ?_
   refine E0 (S0 (P0 [(1, 2), (3, 0)] c fun _ c => I0 c h (fun h => ?_) fun h => ?_))
   refine T0 (Fp [(0, 2)] 1 c fun _ c => Ess 1 (tC x12 a8 c8) c fun _ c => ?_)
   refine E0 ?_
   obtain rfl := sj h
   exact wp_ret (tr (br (tr (Rg c (a8, c8) [] [2] (.cell (α := Agg 4) kk (.b 1) .nil)))))
   refine K0 (P0 [(1, 2), (3, 0)] c fun _ c => I0 c h (fun h => ?_) fun h => ?_)
   refine T0 (Fp [(1, 0), (3, 0), (5, 2)] 7 c fun _ c => Bd h fun x13 hx13 h => Cg c (ih1 hx13) ⟨.f 2, tt⟩ Tryz.call108 fun i5 _ _ c => ?_)
   refine Ess 1 (tC x13 i5.1 i5.2) c fun _ c => ?_
   refine E0 ?_
   obtain rfl := sj h
   exact wp_ret (br (tr (Rg c (i5.1, i5.2) [] [3] (.cell (α := Agg 4) kk (.b 1) .nil))))
   refine K1 (bk (tn (T0 (Fp [(0, 0)] 1 c fun _ c => Ess 1 (tC p0 ga0 gc1) c fun _ c => ?_))))
   refine E0 ?_
   obtain rfl := sj h
   exact wp_ret (Rg c (ga0, gc1) [] [0] (.cell (α := Agg 4) kk (.b 1) .nil))
   refine P0 [] c fun _ c => I0 c h (fun h => ?_) fun h => ?_
   refine T0 (Fp [(1, 0)] 2 c fun _ c => Bd h fun x14 hx14 h => Eem c (.f 0) hx14 fun _ u6 _ c => ?_)
   obtain ⟨a9, c9, rfl, c⟩ := c.o_Term 1
   replace c := c.gm [BX b1 34 (tC p0 ga0 gc1), BX b2 34 tZ, sl3 (L k1.1 rl1.2 k1.2) rl1.2]
   refine Eal tZ c fun b5 _ _ c => ?_
   refine Ess 3 (tC x14 a9 c9) c fun _ c => ?_
   refine E0 (T0 (Fp [(1, 0)] 2 c fun _ c => Bd h fun x15 hx15 h => Eem c (.f 0) hx15 fun _ u7 _ c => ?_))
   obtain ⟨a10, c10, rfl, c⟩ := c.o_Term 3
   refine Eal tZ c fun b6 _ _ c => ?_
   refine Ess 4 (tC x15 a10 c10) c fun _ c => ?_
   refine E0 (Bd h fun x16 hx16 h => Bd h fun x17 hx17 h => Bd h fun x18 hx18 h => S0 (rZ [(11, Pd.el (x16 : D.Term)), (12, Pd.rd (x16 : D.Term)), (15, Pd.el (x17 : D.Term)), (16, Pd.rd (x17 : D.Term)), (17, .eq (.bool x18))] [(1, 2), (5, 3), (10, 2), (14, 3), (21, 2), (23, 3), (25, 3)] mix c ⟨Nid c (.f 2) (gT hx16), Nrd c 11 (atN 11), Nid c (.f 4) (gT hx17), Nrd c 15 (atN 15), Ncd (Ψ := []) [.r 12 (fun v => RO v (x16 : D.Term)), .r 16 (fun v => RO v (x17 : D.Term))] c ⟨(atN 12), (atN 16), tt⟩ tt (fun hg _ _ ga gp => by obtain ⟨u1, _, rfl, g1, u2, _, rfl, g2, rfl⟩ := ga; obtain ⟨k1, rfl, f1⟩ := Opn.opn g1; obtain ⟨k2, rfl, f2⟩ := Opn.opn g2; exact ⟨_, (f1.join f2), spec_l02Same_ok (iteT (gcT hg) hx18)⟩) Tryz.call74, tt⟩ fun _ _ c => I0 c h (fun h => ?_) fun h => ?_))
   refine T0 (Fp [(1, 0), (3, 3), (5, 3)] 7 c fun _ c => ?_)
   try simp only [l1, l2, l3, l4] at c
   refine Bd h fun x19 hx19 h => Cg c (ih1 hx19) ⟨.f 4, tt⟩ Tryz.call108 fun i6 _ _ c => ?_
   refine Ess 1 (tC x19 i6.1 i6.2) c fun _ c => ?_
   refine E0 ?_
   obtain rfl := sj h
   exact wp_ret (br (tr (Rg c (i6.1, i6.2) [] [5] (.cell (α := Agg 4) kk (.b 1) .nil))))
   refine K1 (bk (tn (T0 (Fp [(0, 0)] 1 c fun _ c => ?_))))
   try simp only [l1, l2, l3, l4] at c
   refine Ess 1 (tC p0 ga0 gc1) c fun _ c => ?_
   refine E0 ?_
   obtain rfl := sj h
   exact wp_ret (Rg c (ga0, gc1) [] [0] (.cell (α := Agg 4) kk (.b 1) .nil))
   refine K1 (bk (tn (T0 (Fp [(0, 0)] 1 c fun _ c => Ess 1 (tC p0 ga0 gc1) c fun _ c => ?_))))
   refine E0 ?_
   obtain rfl := sj h
   exact wp_ret (Rg c (ga0, gc1) [] [0] (.cell (α := Agg 4) kk (.b 1) .nil))
 · intro p0 ga0 gc1 r h
   rw [spec_l02Two] at h
   refine En Tryz.func159 rfl Tryz.ntmps159 fun _ fr w c => ?_
   refine T0 (Ebx (tC p0 ga0 gc1) c fun b1 _ _ c => ?_)
   refine Eal tZ c fun b2 _ _ c => ?_
   refine E0 (T0 (Fp [(1, 0)] 2 c fun _ c => Bd h fun x1 hx1 h => Eem c (.f 0) hx1 fun _ u1 _ c => ?_))
   obtain ⟨a1, c1, rfl, c⟩ := c.o_Term 1
   refine Eal tZ c fun b3 _ _ c => ?_
   refine Ess 2 (tC x1 a1 c1) c fun _ c => ?_
   refine E0 (T0 (Fp [(1, 0)] 2 c fun _ c => ?_))
   try simp only [l1, l2, l3, l4] at c
   refine Bd h fun x2 hx2 h => Eem c (.f 0) hx2 fun _ u2 _ c => ?_
   obtain ⟨a2, c2, rfl, c⟩ := c.o_Term 3
   refine Eal tZ c fun b4 _ _ c => ?_
   refine Ess 3 (tC x2 a2 c2) c fun _ c => ?_
   refine E0 (Bd h fun x3 hx3 h => S0 (rZ [(11, .eq (.bool x3))] [(1, 0), (5, 0), (10, 0)] mix c ⟨Ncl c (fun hg => spec_l01In_ok (iteF (gcF hg) hx3)) tt Tryz.call56, tt⟩ fun _ _ c => S0 (Bd h fun x4 hx4 h => S0 (rZ [(9, .eq (I x4))] [(3, 0), (7, 2), (8, 3)] mix c ⟨Ncl c (fun hg => spec_CompareTerms_ok (iteT (gcT hg) hx4)) ⟨.f 2, .f 4, tt⟩ Tryz.call122, tt⟩ fun _ _ c => I0 c h (fun h => ?_) fun h => ?_))))
   refine T0 (Fp [(0, 3), (1, 2)] 2 c fun _ c => Eltr 34 [(tR x2 a2 c2), (tR x1 a1 c1)] [x2, x1] c ⟨(Ava.mk_Term x2 (.f 4)), (Ava.mk_Term x1 (.f 2)), tt⟩ fun a3 c3 _ _ c => ?_)
   refine Fp [] 1 c fun _ c => Esb 0 4 (L a3 [x2, x1] c3) c fun _ c => ?_
   refine E0 (T0 (Fp [(0, 0)] 1 c fun _ c => ?_))
   try simp only [l1, l2, l3, l4] at c
   replace c := c.fzr 4 5
   refine Bd h fun x5 hx5 h => Cg c (ih1 hx5) ⟨.f 6, tt⟩ Tryz.call108 fun i1 _ _ c => ?_
   refine Ess 1 (tC x5 i1.1 i1.2) c fun _ c => ?_
   refine E0 ?_
   obtain rfl := sj h
   exact wp_ret (tr (Rg c (i1.1, i1.2) [] [7] (.cell (α := Agg 4) kk (.b 1) .nil)))
   refine K0 (S0 (P0 [(1, 2)] c fun _ c => Bd h fun rl1 hit1 h => ?_))
   have hk1 := h
   refine Jr (fun s  (_ : Unit) => ([(1, B b1 0), (2, B b2 0), (3, B b3 0), (4, B b4 0), (5, .bool (((p0.Op == 3) || (p0.Op == 5)) || x3))], id, [])) hit1 c (fun h => ?_) fun s1r _ _ _ hrl c => ?_
   refine I0 c h (fun h => ?_) fun h => ?_
   refine T0 (Fp [(0, 0)] 1 c fun _ c => Bd h fun x6 hx6 h => Cg c (ih0 hx6) ⟨.f 0, tt⟩ Tryz.call194 fun i2 _ _ c => ?_)
   refine Fp [] 3 c fun _ c => Eal tZ c fun b5 _ _ c => ?_
   replace c := c.gm [BX b1 34 (tC p0 ga0 gc1), BX b2 34 tZ, BX b3 34 (tC x1 a1 c1), BX b4 34 (tC x2 a2 c2), BX b5 34 tZ]
   refine Ess 4 (tC x6.1 i2.1 i2.2) c fun _ c => ?_
   refine Fp [] 1 c fun _ c => E0 (P0 [] c fun _ c => I0 c h (fun h => ?_) fun h => ?_)
   refine T0 (Fp [(0, 4)] 1 c fun _ c => Ess 1 (tC x6.1 i2.1 i2.2) c fun _ c => ?_)
   refine E0 ?_
   obtain rfl := sj h
   obtain rfl := sj hk1
   exact wp_ret (tr (Rg c (i2.1, i2.2) [] [5] (.cell (α := Agg 4) kk (.b 1) .nil)))
   refine K0 (⟨_, (), (sk h), c.rk (rg 4) (rg 5)⟩)
   refine K0 (⟨_, (), (sk h), c.rk (rg 4) (rg 5)⟩)
   subst hrl
   refine S0 (T0 (Fp [(0, 3)] 1 c fun _ c => Bd h fun x7 hx7 h => Cb c (spec_l02Is_ok hx7) ⟨.f 4, tt⟩ Tryz.call78 fun _ _ _ c => ?_))
   refine E0 (Bd h fun rl2 hit2 h => ?_)
   have hk2 := h
   refine Jr (fun s  (_ : Unit) => ([(1, B b1 0), (2, B b2 0), (3, B b3 0), (4, B b4 0), (5, .bool (((p0.Op == 3) || (p0.Op == 5)) || x3))], id, [])) hit2 c (fun h => ?_) fun s2r _ _ _ hrl c => ?_
   refine I0 c h (fun h => ?_) fun h => ?_
   refine S0 (Bd h fun x8 hx8 h => S0 (rZ [(6, .eq (.bool x8))] [(1, 0), (5, 0)] mix c ⟨Ncl c (fun hg => spec_l01In_ok (iteF (gcF hg) hx8)) tt Tryz.call56, tt⟩ fun _ _ c => I0 c h (fun h => ?_) fun h => ?_))
   refine T0 (Fp [(0, 2)] 1 c fun _ c => Ess 1 (tC x1 a1 c1) c fun _ c => ?_)
   refine E0 ?_
   obtain rfl := sj h
   obtain rfl := sj hk2
   exact wp_ret (tr (tr (Rg c (a1, c1) [] [2] (.cell (α := Agg 4) kk (.b 1) .nil))))
   refine K0 (P0 [(1, 0)] c fun _ c => I0 c h (fun h => ?_) fun h => ?_)
   refine T0 (Bd h fun x9 hx9 h => Cb c (spec_l02Const_ok hx9) tt Tryz.call107 fun _ _ _ c => ?_)
   replace c := c.gm [BX b1 34 (tC p0 ga0 gc1), BX b2 34 tZ, BX b3 34 (tC x1 a1 c1), BX b4 34 (tC x2 a2 c2)]
   refine Ess 1 [I x9.Op, I x9.W, I x9.N, Str.val x9.Name, L none ([] : List D.Term) 0] c fun _ c => ?_
   refine E0 ?_
   obtain rfl := sj h
   obtain rfl := sj hk2
   replace c := c.nilf (α := D.Term)
   exact wp_ret (tr (Rg c (none, 0) [] [5] (.cell (α := Agg 4) kk (.b 1) .nil)))
   refine K0 (⟨_, (), (sk h), c.rk (rg 4) (rg 5)⟩)
   refine K0 (⟨_, (), (sk h), c.rk (rg 4) (rg 5)⟩)
   subst hrl
   refine S0 (T0 (Fp [(0, 2), (1, 3)] 2 c fun _ c => Bd h fun x10 hx10 h => Cb c (spec_l02Same_ok hx10) ⟨.f 2, .f 4, tt⟩ Tryz.call74 fun _ _ _ c => ?_))
   refine E0 (Bd h fun rl3 hit3 h => ?_)
   have hk3 := h
   refine Jr (fun s  (_ : Unit) => ([(1, B b1 0), (2, B b2 0), (3, B b3 0), (4, B b4 0), (5, .bool (((p0.Op == 3) || (p0.Op == 5)) || x3))], id, [])) hit3 c (fun h => ?_) fun s3r _ _ _ hrl c => ?_
   refine I0 c h (fun h => ?_) fun h => ?_
   refine T0 (Fp [(0, 0)] 1 c fun _ c => ?_)
   replace c := c.gm [BX b1 34 (tC p0 ga0 gc1), BX b2 34 tZ, BX b3 34 (tC x1 a1 c1), BX b4 34 (tC x2 a2 c2)]
   refine Bd h fun x11 hx11 h => Cg c (spec_l02Equal_ok hx11) ⟨.f 0, tt⟩ Tryz.call195 fun i3 _ _ c => ?_
   refine Fp [] 3 c fun _ c => Eal tZ c fun b6 _ _ c => ?_
   refine Ess 4 (tC x11.1 i3.1 i3.2) c fun _ c => ?_
   refine Fp [] 1 c fun _ c => E0 (P0 [] c fun _ c => I0 c h (fun h => ?_) fun h => ?_)
   refine T0 (Fp [(0, 4)] 1 c fun _ c => Ess 1 (tC x11.1 i3.1 i3.2) c fun _ c => ?_)
   refine E0 ?_
   obtain rfl := sj h
   obtain rfl := sj hk3
   exact wp_ret (tr (Rg c (i3.1, i3.2) [] [5] (.cell (α := Agg 4) kk (.b 1) .nil)))
   refine K0 (⟨_, (), (sk h), c.rk (rg 4) (rg 5)⟩)
   refine K0 (⟨_, (), (sk h), c.rk (rg 4) (rg 5)⟩)
   subst hrl
   refine S0 (Bd h fun x12 hx12 h => S0 (rZ [(16, Pd.el (x12 : D.Term)), (17, Pd.fl (I x12.Op)), (18, .eq (I x12.Op))] [(3, 2), (8, 3), (10, 0), (15, 3)] mix c ⟨Nid c (.f 4) (gT hx12), Nfa c 16 (atN 16) fc34_0, Nlf c 17 (atN 17), tt⟩ fun _ _ c => I0 c h (fun h => ?_) fun h => ?_))
   refine Bd h fun x13 hx13 h => ?_
   obtain ⟨ep1, u3, c⟩ := c.elp (.f 4) hx13
   obtain ⟨a4, c4, rfl, c⟩ := c.o_Term 6
   refine Bd h fun x14 hx14 h => S0 (rZ [(8, .eq (.pointer (some ep1))), (10, .eq (I x13.N)), (11, .eq (I x14))] [(1, 0), (3, 0), (5, 2), (7, 3)] mix c ⟨Nie c 5, Nlc c 5 2, Ncl c (kN (spec_ApplyBinary_ok hx14)) tt Tryz.call190, tt⟩ fun _ _ c => Bd h fun x15 hx15 h => Bd h fun x16 hx16 h => ?_)
   obtain ⟨ep2, u4, c⟩ := c.elp (.f 4) hx16
   obtain ⟨a5, c5, rfl, c⟩ := c.o_Term 9
   refine S0 (wp_ra mix (rM 13 [(7, .eq (.agg #[I x15.Op, I x15.W, I x15.N, Str.val x15.Name, L none ([] : List D.Term) 0])), (10, .eq (.pointer (some ep2))), (11, .eq (tV x16 a5 c5)), (12, Pd.nw c.wd 12 (fun i : Oh => L i.1 [(D.Term.mk x15.Op x15.W x15.N x15.Name ([] : List D.Term)), x16] i.2) (fun i => sl34 (L i.1 [(D.Term.mk x15.Op x15.W x15.N x15.Name ([] : List D.Term)), x16] i.2) [(Rw.Term.mk x15.Op x15.W x15.N x15.Name ⟨none, List.length ([] : List D.Term), 0⟩), (tR x16 a5 c5)]))] [(1, 0), (3, 0), (5, 0), (9, 3)] c (fun ow => ⟨np_tO ow (Ncl c (kN (spec_l02Const_ok hx15)) tt Tryz.call107), np_tO ow (Nie c 8), np_tO ow (Nle c 8), Nlt c [(Rw.Term.mk x15.Op x15.W x15.N x15.Name ⟨none, List.length ([] : List D.Term), 0⟩), (tR x16 a5 c5)], tt⟩) fun ow _ _ hE hc cq => ?_))
   obtain ⟨i4, hi4⟩ := hE.nw 12 130
   replace c := Cx.newt c hc cq [(12, 130, _, _)] ⟨hi4, tt⟩
   replace c := c.csl [(Rw.Term.mk x15.Op x15.W x15.N x15.Name ⟨none, List.length ([] : List D.Term), 0⟩), (tR x16 a5 c5)] [(D.Term.mk x15.Op x15.W x15.N x15.Name ([] : List D.Term)), x16] ⟨(Ava.mk_Term (D.Term.mk x15.Op x15.W x15.N x15.Name ([] : List D.Term)) (.nil)), (Ava.mk_Term x16 (.f 10)), tt⟩
   refine Fp [] 1 c fun _ c => ?_
   replace c := c.gm [BX b1 34 (tC p0 ga0 gc1), BX b2 34 tZ, BX b3 34 (tC x1 a1 c1), BX b4 34 (tC x2 a2 c2), sl34 (L i4.1 [(D.Term.mk x15.Op x15.W x15.N x15.Name ([] : List D.Term)), x16] i4.2) [(Rw.Term.mk x15.Op x15.W x15.N x15.Name ⟨none, List.length ([] : List D.Term), 0⟩), (tR x16 a5 c5)]]
   replace c := c.fzr 4 11
   refine Bd h fun x17 hx17 h => Cg c (ih1 hx17) ⟨.f 12, tt⟩ Tryz.call108 fun i5 _ _ c => ?_
   refine Ess 1 (tC x17 i5.1 i5.2) c fun _ c => ?_
   refine E0 ?_
   obtain rfl := sj h
   exact wp_ret (tr (Rg c (i5.1, i5.2) [] [13] (.cell (α := Agg 4) kk (.b 1) .nil)))
   refine K0 (T0 (Fp [(0, 0)] 1 c fun _ c => ?_))
   replace c := c.gm [BX b1 34 (tC p0 ga0 gc1), BX b2 34 tZ, BX b3 34 (tC x1 a1 c1), BX b4 34 (tC x2 a2 c2)]
   refine Ess 1 (tC p0 ga0 gc1) c fun _ c => ?_
   refine E0 ?_
   obtain rfl := sj h
   exact wp_ret (Rg c (ga0, gc1) [] [0] (.cell (α := Agg 4) kk (.b 1) .nil))
 · intro p0 ga0 gc1 r h
   rw [spec_l02If] at h
   refine En Tryz.func160 rfl Tryz.ntmps160 fun _ fr w c => ?_
   refine T0 (Ebx (tC p0 ga0 gc1) c fun b1 _ _ c => ?_)
   refine Eal tZ c fun b2 _ _ c => ?_
   refine E0 (T0 (Fp [(1, 0)] 2 c fun _ c => Bd h fun x1 hx1 h => Eem c (.f 0) hx1 fun _ u1 _ c => ?_))
   obtain ⟨a1, c1, rfl, c⟩ := c.o_Term 1
   refine Eal tZ c fun b3 _ _ c => ?_
   refine Ess 2 (tC x1 a1 c1) c fun _ c => ?_
   refine E0 (T0 (Fp [(1, 0)] 2 c fun _ c => ?_))
   try simp only [l1, l2, l3, l4] at c
   refine Bd h fun x2 hx2 h => Eem c (.f 0) hx2 fun _ u2 _ c => ?_
   obtain ⟨a2, c2, rfl, c⟩ := c.o_Term 3
   refine Eal tZ c fun b4 _ _ c => ?_
   refine Ess 3 (tC x2 a2 c2) c fun _ c => ?_
   refine E0 (T0 (Fp [(1, 0)] 2 c fun _ c => Bd h fun x3 hx3 h => Eem c (.f 0) hx3 fun _ u3 _ c => ?_))
   obtain ⟨a3, c3, rfl, c⟩ := c.o_Term 5
   refine Eal tZ c fun b5 _ _ c => ?_
   try simp only [l1, l2, l3, l4] at c
   refine Ess 4 (tC x3 a3 c3) c fun _ c => ?_
   refine E0 (S0 (wp_block (T0 (Fp [(0, 2)] 1 c fun _ c => Bd h fun x4 hx4 h => Cb c (spec_l02Is_ok hx4) ⟨.f 2, tt⟩ Tryz.call78 fun _ _ _ c => ?_))))
   refine Fp [] 1 c fun _ c => E0 (I0 c h (fun h => ?_) fun h => ?_)
   refine T0 (Fp [(0, 3)] 1 c fun _ c => Ess 1 (tC x2 a2 c2) c fun _ c => ?_)
   refine E0 ?_
   obtain rfl := sj h
   exact wp_ret (br (tr (Rg c (a2, c2) [] [4] (.cell (α := Agg 4) kk (.b 1) .nil))))
   refine T0 (Fp [(0, 2)] 1 c fun _ c => Bd h fun x5 hx5 h => Cb c (spec_l02Is_ok hx5) ⟨.f 2, tt⟩ Tryz.call78 fun _ _ _ c => ?_)
   refine Fp [] 1 c fun _ c => E0 (I0 c h (fun h => ?_) fun h => ?_)
   refine T0 (Fp [(0, 4)] 1 c fun _ c => Ess 1 (tC x3 a3 c3) c fun _ c => ?_)
   refine E0 ?_
   obtain rfl := sj h
   exact wp_ret (br (tr (Rg c (a3, c3) [] [6] (.cell (α := Agg 4) kk (.b 1) .nil))))
   refine T0 (Fp [(0, 3), (1, 4)] 2 c fun _ c => Bd h fun x6 hx6 h => Cb c (spec_l02Same_ok hx6) ⟨.f 4, .f 6, tt⟩ Tryz.call74 fun _ _ _ c => ?_)
   refine Fp [] 1 c fun _ c => E0 (I0 c h (fun h => ?_) fun h => ?_)
   refine T0 (Fp [(0, 3)] 1 c fun _ c => Ess 1 (tC x2 a2 c2) c fun _ c => ?_)
   refine E0 ?_
   obtain rfl := sj h
   exact wp_ret (br (tr (Rg c (a2, c2) [] [4] (.cell (α := Agg 4) kk (.b 1) .nil))))
   refine P0 [(1, 2)] c fun _ c => I0 c h (fun h => ?_) fun h => ?_
   refine Bd h fun x7 hx7 h => ?_
   obtain ⟨ep1, u4, c⟩ := c.elp (.f 2) hx7
   obtain ⟨a4, c4, rfl, c⟩ := c.o_Term 8
   refine S0 (wp_ra mix (rM 9 [(4, .eq (.pointer (some ep1))), (5, .eq (tV x7 a4 c4)), (8, Pd.nw c.wd 8 (fun i : Oh => L i.1 [x7, x3, x2] i.2) (fun i => sl34 (L i.1 [x7, x3, x2] i.2) [(tR x7 a4 c4), (tR x3 a3 c3), (tR x2 a2 c2)]))] [(1, 0), (3, 2), (6, 4), (7, 3)] c (fun ow => ⟨np_tO ow (Nie c 7), np_tO ow (Nle c 7), Nlt c [(tR x7 a4 c4), (tR x3 a3 c3), (tR x2 a2 c2)], tt⟩) fun ow _ _ hE hc cq => ?_))
   obtain ⟨i1, hi1⟩ := hE.nw 8 43
   replace c := Cx.newt c hc cq [(8, 43, _, _)] ⟨hi1, tt⟩
   replace c := c.csl [(tR x7 a4 c4), (tR x3 a3 c3), (tR x2 a2 c2)] [x7, x3, x2] ⟨(Ava.mk_Term x7 (.f 9)), (Ava.mk_Term x3 (.f 6)), (Ava.mk_Term x2 (.f 4)), tt⟩
   refine Fp [] 1 c fun _ c => ?_
   try simp only [l1, l2, l3, l4] at c
   replace c := c.fzr 5 10
   refine Bd h fun x8 hx8 h => Cg c (ih1 hx8) ⟨.f 11, tt⟩ Tryz.call108 fun i2 _ _ c => ?_
   refine Ess 1 (tC x8 i2.1 i2.2) c fun _ c => ?_
   refine E0 ?_
   obtain rfl := sj h
   exact wp_ret (br (tr (Rg c (i2.1, i2.2) [] [12] (.cell (α := Agg 4) kk (.b 1) .nil))))
   refine Bd h fun x9 hx9 h => Bd h fun x10 hx10 h => S0 (rZ [(5, .eq (.bool x9)), (9, .eq (.bool x10))] [(1, 0), (4, 3), (8, 4)] mix c ⟨Ncl c (fun hg => spec_l02Is_ok (iteT (gcT hg) hx9)) ⟨.f 4, tt⟩ Tryz.call78, Ncl c (fun hg => spec_l02Is_ok (iteT (gcT hg) hx10)) ⟨.f 6, tt⟩ Tryz.call78, tt⟩ fun _ _ c => I0 c h (fun h => ?_) fun h => ?_)
   refine T0 (Fp [(0, 2)] 1 c fun _ c => Ess 1 (tC x1 a1 c1) c fun _ c => ?_)
   refine E0 ?_
   obtain rfl := sj h
   exact wp_ret (br (tr (Rg c (a1, c1) [] [2] (.cell (α := Agg 4) kk (.b 1) .nil))))
   refine Bd h fun x11 hx11 h => Bd h fun x12 hx12 h => S0 (rZ [(5, .eq (.bool x11)), (9, .eq (.bool x12))] [(1, 0), (4, 3), (8, 4)] mix c ⟨Ncl c (fun hg => spec_l02Is_ok (iteT (gcT hg) hx11)) ⟨.f 4, tt⟩ Tryz.call78, Ncl c (fun hg => spec_l02Is_ok (iteT (gcT hg) hx12)) ⟨.f 6, tt⟩ Tryz.call78, tt⟩ fun _ _ c => I0 c h (fun h => ?_) fun h => ?_)
   refine T0 (Fp [(0, 2)] 1 c fun _ c => Eltr 34 [(tR x1 a1 c1)] [x1] c ⟨(Ava.mk_Term x1 (.f 2)), tt⟩ fun a5 c5 _ _ c => ?_)
   refine Fp [] 1 c fun _ c => ?_
   replace c := c.gm [BX b1 34 (tC p0 ga0 gc1), BX b2 34 tZ, BX b3 34 (tC x1 a1 c1), BX b4 34 (tC x2 a2 c2), BX b5 34 (tC x3 a3 c3), sl34 (L a5 [x1] c5) [(tR x1 a1 c1)]]
   replace c := c.fzr 5 7
   refine Bd h fun x13 hx13 h => Cg c (ih1 hx13) ⟨.f 8, tt⟩ Tryz.call108 fun i3 _ _ c => ?_
   refine Ess 1 (tC x13 i3.1 i3.2) c fun _ c => ?_
   refine E0 ?_
   obtain rfl := sj h
   exact wp_ret (br (tr (Rg c (i3.1, i3.2) [] [9] (.cell (α := Agg 4) kk (.b 1) .nil))))
   refine K1 (bk (tn (T0 (Fp [(0, 0)] 1 c fun _ c => Ess 1 (tC p0 ga0 gc1) c fun _ c => ?_))))
   refine E0 ?_
   obtain rfl := sj h
   exact wp_ret (Rg c (ga0, gc1) [] [0] (.cell (α := Agg 4) kk (.b 1) .nil))
 · intro p0 ga0 gc1 r h
   rw [spec_l02Cut] at h
   refine En Tryz.func161 rfl Tryz.ntmps161 fun _ fr w c => ?_
   refine T0 (Ebx (tC p0 ga0 gc1) c fun b1 _ _ c => ?_)
   refine Eal tZ c fun b2 _ _ c => ?_
   refine E0 (T0 (Fp [(1, 0)] 2 c fun _ c => Bd h fun x1 hx1 h => Eem c (.f 0) hx1 fun _ u1 _ c => ?_))
   obtain ⟨a1, c1, rfl, c⟩ := c.o_Term 1
   refine Eal tZ c fun b3 _ _ c => ?_
   refine Ess 2 (tC x1 a1 c1) c fun _ c => ?_
   refine E0 (S0 (wp_block (P0 [(1, 0), (3, 2)] c fun _ c => I0 c h (fun h => ?_) fun h => ?_)))
   refine T0 (Fp [(0, 2)] 1 c fun _ c => ?_)
   try simp only [l1, l2, l3, l4] at c
   refine Ess 1 (tC x1 a1 c1) c fun _ c => ?_
   refine E0 ?_
   obtain rfl := sj h
   exact wp_ret (br (tr (Rg c (a1, c1) [] [2] (.cell (α := Agg 4) kk (.b 1) .nil))))
   refine P0 [(1, 2)] c fun _ c => I0 c h (fun h => ?_) fun h => ?_
   refine Bd h fun x2 hx2 h => ?_
   obtain ⟨ep1, u2, c⟩ := c.elp (.f 2) hx2
   obtain ⟨a2, c2, rfl, c⟩ := c.o_Term 4
   refine S0 (wp_ra mix (rM 11 [(4, .eq (.pointer (some ep1))), (5, .eq (tV x2 a2 c2))] [(1, 0), (3, 2), (7, 0), (9, 2)] c (fun ow => ⟨np_tO ow (Nie c 3), np_tO ow (Nle c 3), tt⟩) fun _ _ _ _ _ c => ?_))
   try simp only [l1, l2, l3, l4] at c
   refine Bd h fun x3 hx3 h => Cg c (ih5 hx3) ⟨.f 5, tt⟩ Tryz.call196 fun i1 _ _ c => ?_
   refine Ess 1 (tC x3 i1.1 i1.2) c fun _ c => ?_
   refine E0 ?_
   obtain rfl := sj h
   exact wp_ret (br (tr (Rg c (i1.1, i1.2) [] [6] (.cell (α := Agg 4) kk (.b 1) .nil))))
   refine Bd h fun x4 hx4 h => S0 (rZ [(11, Pd.el (x4 : D.Term)), (12, Pd.fl (I x4.W)), (13, .eq (I x4.W))] [(1, 2), (5, 0), (7, 0), (10, 2)] mix c ⟨Nid c (.f 2) (gT hx4), Nfa c 11 (atN 11) fc34_1, Nlf c 12 (atN 12), tt⟩ fun _ _ c => I0 c h (fun h => ?_) fun h => ?_)
   refine Bd h fun x5 hx5 h => ?_
   obtain ⟨ep2, u3, c⟩ := c.elp (.f 2) hx5
   obtain ⟨a3, c3, rfl, c⟩ := c.o_Term 4
   refine S0 (wp_ra mix (rM 8 [(4, .eq (.pointer (some ep2))), (5, .eq (tV x5 a3 c3))] [(1, 0), (3, 2), (7, 0)] c (fun ow => ⟨np_tO ow (Nie c 3), np_tO ow (Nle c 3), tt⟩) fun _ _ _ _ _ c => ?_))
   try simp only [l1, l2, l3, l4] at c
   refine Bd h fun x6 hx6 h => Cg c (ih5 hx6) ⟨.f 5, tt⟩ Tryz.call196 fun i2 _ _ c => ?_
   refine Ess 1 (tC x6 i2.1 i2.2) c fun _ c => ?_
   refine E0 ?_
   obtain rfl := sj h
   exact wp_ret (br (tr (Rg c (i2.1, i2.2) [] [6] (.cell (α := Agg 4) kk (.b 1) .nil))))
   refine Bd h fun x7 hx7 h => S0 (rZ [(8, Pd.el (x7 : D.Term)), (9, Pd.fl (I x7.W)), (10, .eq (I x7.W))] [(1, 2), (5, 0), (7, 2)] mix c ⟨Nid c (.f 2) (gT hx7), Nfa c 8 (atN 8) fc34_1, Nlf c 9 (atN 9), tt⟩ fun _ _ c => I0 c h (fun h => ?_) fun h => ?_)
   refine Bd h fun x8 hx8 h => ?_
   obtain ⟨ep3, u4, c⟩ := c.elp (.f 2) hx8
   obtain ⟨a4, c4, rfl, c⟩ := c.o_Term 4
   refine Bd h fun x9 hx9 h => ?_
   obtain ⟨ep4, u5, c⟩ := c.elp (.f 2) hx9
   obtain ⟨a5, c5, rfl, c⟩ := c.o_Term 7
   refine S0 (wp_ra mix (rM 14 [(4, .eq (.pointer (some ep3))), (5, .eq (tV x8 a4 c4)), (10, .eq (.pointer (some ep4))), (12, .eq (I x9.W))] [(1, 0), (3, 2), (7, 0), (9, 2)] c (fun ow => ⟨np_tO ow (Nie c 3), np_tO ow (Nle c 3), np_tO ow (Nie c 6), np_tO ow (Nlc c 6 1), tt⟩) fun _ _ _ _ _ c => ?_))
   try simp only [l1, l2, l3, l4] at c
   refine Bd h fun x10 hx10 h => Cg c (ih5 hx10) ⟨.f 5, tt⟩ Tryz.call196 fun i3 _ _ c => ?_
   refine Ess 1 (tC x10 i3.1 i3.2) c fun _ c => ?_
   refine E0 ?_
   obtain rfl := sj h
   exact wp_ret (br (tr (Rg c (i3.1, i3.2) [] [9] (.cell (α := Agg 4) kk (.b 1) .nil))))
   refine Bd h fun x11 hx11 h => Bd h fun x12 hx12 h => S0 (rZ [(2, .eq (.bool x11)), (11, Pd.el (x12 : D.Term)), (12, Pd.fl (I x12.W)), (13, .eq (I x12.W))] [(1, 2), (5, 0), (7, 0), (10, 2)] mix c ⟨Ncl c (kN (spec_l01In_ok hx11)) tt Tryz.call56, Nid c (.f 2) (gT hx12), Nfa c 11 (atN 11) fc34_1, Nlf c 12 (atN 12), tt⟩ fun _ _ c => I0 c h (fun h => ?_) fun h => ?_)
   refine Bd h fun x13 hx13 h => ?_
   obtain ⟨ep5, u6, c⟩ := c.elp (.f 2) hx13
   obtain ⟨a6, c6, rfl, c⟩ := c.o_Term 4
   refine S0 (wp_ra mix (rM 8 [(4, .eq (.pointer (some ep5))), (5, .eq (tV x13 a6 c6))] [(1, 0), (3, 2), (7, 0)] c (fun ow => ⟨np_tO ow (Nie c 3), np_tO ow (Nle c 3), tt⟩) fun _ _ _ _ _ c => ?_))
   try simp only [l1, l2, l3, l4] at c
   refine Bd h fun x14 hx14 h => Cg c (ih5 hx14) ⟨.f 5, tt⟩ Tryz.call196 fun i4 _ _ c => ?_
   refine Ess 1 (tC x14 i4.1 i4.2) c fun _ c => ?_
   refine E0 ?_
   obtain rfl := sj h
   exact wp_ret (br (tr (Rg c (i4.1, i4.2) [] [6] (.cell (α := Agg 4) kk (.b 1) .nil))))
   refine K1 (bk (tn (T0 (Fp [(0, 0)] 1 c fun _ c => ?_))))
   try simp only [l1, l2, l3, l4] at c
   refine Ess 1 (tC p0 ga0 gc1) c fun _ c => ?_
   refine E0 ?_
   obtain rfl := sj h
   exact wp_ret (Rg c (ga0, gc1) [] [0] (.cell (α := Agg 4) kk (.b 1) .nil))
 · intro p0 p1 p2 ga0 gc1 r h
   rw [spec_l02Bit] at h
   refine En Tryz.func196 rfl Tryz.ntmps196 fun _ fr w c => ?_
   refine T0 (Ebx (tC p1 ga0 gc1) c fun b1 _ _ c => ?_)
   refine Eal tZ c fun b2 _ _ c => ?_
   refine E0 (T0 (Fp [(2, 0)] 3 c fun _ c => Eltr 34 [(tR p1 ga0 gc1)] [p1] c ⟨(Ava.mk_Term p1 (.f 0)), tt⟩ fun a1 c1 _ _ c => ?_))
   refine Fp [] 1 c fun _ c => ?_
   replace c := c.fzr 2 1
   refine Bd h fun x1 hx1 h => Cg c (ih1 hx1) ⟨.f 2, tt⟩ Tryz.call108 fun i1 _ _ c => ?_
   refine Ess 1 (tC x1 i1.1 i1.2) c fun _ c => ?_
   refine E0 ?_
   obtain rfl := sj h
   exact wp_ret (Rg c (i1.1, i1.2) [] [3] (.cell (α := Agg 4) kk (.b 1) .nil))
theorem spec_l02First_ok {n : Nat} : ∀ {p0 ga0 gc1 r} (h : spec_l02First n p0 = some r), Con Tryz.prog 194 [tV p0 ga0 gc1] [] [lR ga0 p0.Kids gc1] fun (i : Oh) => ([tV r.1 i.1 i.2, .bool r.2], [], [lR i.1 r.1.Kids i.2]) := (spec_l02First_spec_l02Make_spec_l02Two_spec_l02If_spec_l02Cut_spec_l02Bit_rec n).1
theorem spec_l02Make_ok {n : Nat} : ∀ {p0 ga0 gc1 r} (h : spec_l02Make n p0 = some r), Con Tryz.prog 108 [tV p0 ga0 gc1] [] [lR ga0 p0.Kids gc1] fun (i : Oh) => ([tV r i.1 i.2], [], [lR i.1 r.Kids i.2]) := (spec_l02First_spec_l02Make_spec_l02Two_spec_l02If_spec_l02Cut_spec_l02Bit_rec n).2.1
theorem spec_l02Two_ok {n : Nat} : ∀ {p0 ga0 gc1 r} (h : spec_l02Two n p0 = some r), Con Tryz.prog 159 [tV p0 ga0 gc1] [] [lR ga0 p0.Kids gc1] fun (i : Oh) => ([tV r i.1 i.2], [], [lR i.1 r.Kids i.2]) := (spec_l02First_spec_l02Make_spec_l02Two_spec_l02If_spec_l02Cut_spec_l02Bit_rec n).2.2.1
theorem spec_l02If_ok {n : Nat} : ∀ {p0 ga0 gc1 r} (h : spec_l02If n p0 = some r), Con Tryz.prog 160 [tV p0 ga0 gc1] [] [lR ga0 p0.Kids gc1] fun (i : Oh) => ([tV r i.1 i.2], [], [lR i.1 r.Kids i.2]) := (spec_l02First_spec_l02Make_spec_l02Two_spec_l02If_spec_l02Cut_spec_l02Bit_rec n).2.2.2.1
theorem spec_l02Cut_ok {n : Nat} : ∀ {p0 ga0 gc1 r} (h : spec_l02Cut n p0 = some r), Con Tryz.prog 161 [tV p0 ga0 gc1] [] [lR ga0 p0.Kids gc1] fun (i : Oh) => ([tV r i.1 i.2], [], [lR i.1 r.Kids i.2]) := (spec_l02First_spec_l02Make_spec_l02Two_spec_l02If_spec_l02Cut_spec_l02Bit_rec n).2.2.2.2.1
theorem spec_l02Bit_ok {n : Nat} : ∀ {p0 p1 p2 ga0 gc1 r} (h : spec_l02Bit n p0 p1 p2 = some r), Con Tryz.prog 196 [I p0, tV p1 ga0 gc1, I p2] [] [lR ga0 p1.Kids gc1] fun (i : Oh) => ([tV r i.1 i.2], [], [lR i.1 r.Kids i.2]) := (spec_l02First_spec_l02Make_spec_l02Two_spec_l02If_spec_l02Cut_spec_l02Bit_rec n).2.2.2.2.2

theorem spec_l02Copy_ok {n : Nat} : ∀ {p0 ga0 gc1 r} (h : spec_l02Copy n p0 = some r), Con Tryz.prog 61 [tV p0 ga0 gc1] [] [lR ga0 p0.Kids gc1] fun (i : Oh) => ([tV r i.1 i.2], [], [lR i.1 r.Kids i.2]) := by
 induction n with
 | zero => intro p0 ga0 gc1 r h; simp [spec_l02Copy] at h
 | succ n ih =>
 intro p0 ga0 gc1 r h
 rw [spec_l02Copy] at h
 refine En Tryz.func61 rfl Tryz.ntmps61 fun _ fr w c => ?_
 refine T0 (Ebx (tC p0 ga0 gc1) c fun b1 _ _ c => ?_)
 refine Eal tZ c fun b2 _ _ c => ?_
 refine E0 (T0 (Eltr 34 ([] : List Rw.Term) ([] : List D.Term) c tt fun a1 c1 _ _ c => ?_))
 refine Fp [] 1 c fun _ c => E0 (S0 (P0 [(1, 0)] c fun _ c => Bd h fun rl1 hit1 h => Lp (fun s1  (i : List Rw.Term × Oh) => ([(1, B b1 0), (2, B b2 0), (3, L i.2.1 s1.2 i.2.2), (8, L ga0 p0.Kids gc1), (9, I (len p0.Kids)), (10, I s1.1)], fun Γ => Γ.set 2 (sl34 (L i.2.1 s1.2 i.2.2) (i.1)), [CS (i.1) s1.2])) (fun  (i : List Rw.Term × Oh) => ([(1, B b1 0), (2, B b2 0), (3, L i.2.1 rl1 i.2.2)], fun Γ => Γ.set 2 (sl34 (L i.2.1 rl1 i.2.2) (i.1)), [CS (i.1) rl1])) hit1 c (([] : List Rw.Term), a1, c1) (c.rk [0, 1, 2] [0, 1, 1]) (fun s1 q1 i1 _ _ c h hr1 => ?_) fun k1 _ _ c => ?_))
 refine P0 [] c fun _ c => S0 (I0 c h (fun h => ?_) fun h => ?_)
 refine K0 (S0 (wp_block (T0 (Bd h fun x1 hx1 h => Eem c (.f 0) hx1 fun _ u1 _ c => ?_))))
 obtain ⟨a2, c2, rfl, c⟩ := c.o_Term 3
 refine Eal tZ c fun b3 _ _ c => ?_
 replace c := c.gm [BX b1 34 (tC p0 ga0 gc1), BX b2 34 tZ, sl34 (L i1.2.1 s1.2 i1.2.2) i1.1, BX b3 34 tZ]
 refine Ess 3 (tC x1 a2 c2) c fun _ c => ?_
 refine E0 (T1 (Fp [(1, 2)] 2 c fun _ c => Bd h fun x2 hx2 h => Cg c (ih hx2) ⟨.f 4, tt⟩ Tryz.call61 fun i2 _ _ c => ?_))
 refine Eltr 34 [(tR x2 i2.1 i2.2)] [x2] c ⟨(Ava.mk_Term x2 (.f 5)), tt⟩ fun a3 c3 _ _ c => ?_
 replace c := c.fzr 4 6
 refine Bd h fun x3 hx3 h => Eapr 2 2 c (.f 7) hx3 fun rm1 a4 c4 _ _ c => ?_
 refine Fp [] 1 c fun _ c => E1 (bk (tn (P1 [] c fun _ c => Nx h ((i1.1 ++ rm1), a4, c4) (c.rk [0, 1, 2] [0, 1, 8]))))
 refine wp_exit (te (te (be ?_)))
 obtain rfl := hr1 _ (sk h)
 exact tn ⟨(i1.1, i1.2.1, i1.2.2), c.rk [0, 1, 2] [0, 1, 2]⟩
 refine T0 (Fp [] 2 c fun _ c => Esb 0 4 (L k1.2.1 rl1 k1.2.2) c fun _ c => ?_)
 refine E0 (T0 (Fp [(0, 0)] 1 c fun _ c => Ess 1 [I p0.Op, I p0.W, I p0.N, Str.val p0.Name, L k1.2.1 rl1 k1.2.2] c fun _ c => ?_))
 refine E0 ?_
 replace c := c.fzr 2 2
 cases h
 exact wp_ret (Rg c (k1.2.1, k1.2.2) [] [3] (.cell (α := Agg 4) kk (.b 1) .nil))

theorem spec_MakeTerm_ok {n p0 p1 p2 p3 ga0 gc1 r} (h : spec_MakeTerm n p0 p1 p2 p3 = some r) : Con Tryz.prog 60 [I p0, I p1, I p2, L ga0 p3 gc1] [] [lR ga0 p3 gc1] fun (i : Oh) => ([tV r.1 i.1 i.2, .bool r.2], [], [lR i.1 r.1.Kids i.2]) := by
 unfold spec_MakeTerm at h
 refine En Tryz.func60 rfl Tryz.ntmps60 fun _ fr w c => ?_
 refine T0 (Eal tZ c fun b1 _ _ c => ?_)
 refine Fp [] 1 c fun _ c => E0 (T0 (Fp [] 5 c fun _ c => Eal tZ c fun b2 _ _ c => ?_))
 refine Ess 1 [I p0, I p1, I p2, Str.val ⟨[]⟩, L ga0 p3 gc1] c fun _ c => ?_
 refine E0 (S0 (T0 (Fp [(0, 1)] 1 c fun _ c => Bd h fun x1 hx1 h => Cb c (spec_TermOk_ok hx1) ⟨.f 0, tt⟩ Tryz.call38 fun _ _ _ c => ?_)))
 refine Fp [] 1 c fun _ c => E0 (I0 c h (fun h => ?_) fun h => ?_)
 refine T0 (Fp [] 1 c fun _ c => Ess 0 tZ c fun _ c => ?_)
 refine Fp [] 1 c fun _ c => E0 ?_
 cases h
 replace c := c.nilf (α := D.Term)
 exact wp_ret (tr (Rg c (none, 0) [] [1] (.cell (α := Agg 4) kk (.b 0) (.tmp .nil))))
 refine K0 (T0 (Fp [(0, 1)] 1 c fun _ c => Bd h fun x2 hx2 h => Cg c (spec_l02Make_ok hx2) ⟨.f 0, tt⟩ Tryz.call108 fun i1 _ _ c => ?_))
 try simp only [l1, l2, l3, l4] at c
 refine Bd h fun x3 hx3 h => Cg c (spec_l02Copy_ok hx3) ⟨.f 1, tt⟩ Tryz.call61 fun i2 _ _ c => ?_
 refine Ess 0 (tC x3 i2.1 i2.2) c fun _ c => ?_
 refine Fp [] 1 c fun _ c => E0 ?_
 cases h
 exact wp_ret (Rg c (i2.1, i2.2) [] [2] (.cell (α := Agg 4) kk (.b 0) (.tmp .nil)))

theorem spec_AllOf_ok {n p0 ga0 gc1 r} (h : spec_AllOf n p0 = some r) : Con Tryz.prog 75 [L ga0 p0 gc1] [] [lR ga0 p0 gc1] fun (i : Oh) => ([tV r.1 i.1 i.2, .bool r.2], [], [lR i.1 r.1.Kids i.2]) := by
 unfold spec_AllOf at h
 refine En Tryz.func75 rfl Tryz.ntmps75 fun _ fr w c => ?_
 refine T0 (Eal tZ c fun b1 _ _ c => ?_)
 refine Fp [] 1 c fun _ c => E0 (S0 (P0 [] c fun _ c => Bd h fun rl1 hit1 h => ?_))
 have hk1 := h
 refine LpR (fun s1  (_ : Unit) => ([(0, L ga0 p0 gc1), (2, B b1 0), (11, L ga0 p0 gc1), (12, I (len p0)), (13, I s1)], id, [])) (fun s  (_ : Unit) => ([(0, L ga0 p0 gc1), (2, B b1 0)], id, [])) hit1 c () (c.rk [0] [0]) (fun s1 q1 _ _ _ c h hr1 => ?_) fun s1r _ _ _ hrl c => ?_
 refine P0 [] c fun _ c => S0 (I0 c h (fun h => ?_) fun h => ?_)
 refine K0 (S0 (wp_block (T0 (Bd h fun x1 hx1 h => Eem c (.f 0) hx1 fun _ u1 _ c => ?_))))
 obtain ⟨a1, c1, rfl, c⟩ := c.o_Term 1
 refine Eal tZ c fun b2 _ _ c => ?_
 refine Ess 1 (tC x1 a1 c1) c fun _ c => ?_
 refine E0 (Bd h fun x2 hx2 h => S0 (rZ [(1, .eq (.bool x2))] [(0, 1), (5, 1)] mix c ⟨Ncl c (kN (spec_TermOk_ok hx2)) ⟨.f 2, tt⟩ Tryz.call38, tt⟩ fun _ _ c => I0 c h (fun h => ?_) fun h => ?_))
 refine T0 (Fp [] 1 c fun _ c => Ess 0 tZ c fun _ c => ?_)
 refine Fp [] 1 c fun _ c => E0 ?_
 obtain rfl := hr1 _ (sk h)
 obtain rfl := sj hk1
 replace c := c.nilf (α := D.Term)
 exact wp_ret (br (tr (tr (br (tr (Rg c (none, 0) [] [3] (.cell (α := Agg 4) kk (.b 0) (.tmp .nil))))))))
 refine K1 (bk (tn (P1 [] c fun _ c => Nx h () (c.rk [0] [0]))))
 refine wp_exit (te (te (be ?_)))
 obtain rfl := hr1 _ (sk h)
 exact tn ⟨_, (), rfl, c.rk [0] [0]⟩
 subst hrl
 refine T0 (Bd h fun x3 hx3 h => Cb c (spec_l02Const_ok hx3) tt Tryz.call107 fun _ _ _ c => ?_)
 refine Eal tZ c fun b3 _ _ c => ?_
 refine Ess 1 [I x3.Op, I x3.W, I x3.N, Str.val x3.Name, L none ([] : List D.Term) 0] c fun _ c => ?_
 refine E0 (S0 (P0 [] c fun _ c => ?_))
 replace c := c.nilf (α := D.Term)
 refine Bd h fun rl2 hit2 h => ?_
 have hk2 := h
 refine LpR (fun s2  (i : Oh) => ([(2, B b1 0), (6, B b3 0), (28, L ga0 p0 gc1), (29, I (len p0)), (30, I s2.1)], fun Γ => Γ.set 1 (BX b3 34 [I s2.2.1, I s2.2.2.1, I s2.2.2.2.1, Str.val s2.2.2.2.2.1, L i.1 s2.2.2.2.2.2 i.2]), [lR i.1 s2.2.2.2.2.2 i.2])) (fun s  (i : Oh) => ([(2, B b1 0), (6, B b3 0)], fun Γ => Γ.set 1 (BX b3 34 [I s.1, I s.2.1, I s.2.2.1, Str.val s.2.2.2.1, L i.1 s.2.2.2.2 i.2]), [lR i.1 s.2.2.2.2 i.2])) hit2 c (none, 0) (c.rk [0, 1] [0, 1, 1]) (fun s2 q2 i1 _ _ c h hr2 => ?_) fun s2r k1 _ _ hrl c => ?_
 refine P0 [] c fun _ c => S0 (I0 c h (fun h => ?_) fun h => ?_)
 refine K0 (S0 (wp_block (T0 (Bd h fun x4 hx4 h => Eem c (.f 0) hx4 fun _ u2 _ c => ?_))))
 obtain ⟨a2, c2, rfl, c⟩ := c.o_Term 3
 replace c := c.gm [BX b1 34 tZ, BX b3 34 [I s2.2.1, I s2.2.2.1, I s2.2.2.2.1, Str.val s2.2.2.2.2.1, L i1.1 s2.2.2.2.2.2 i1.2]]
 refine Eal tZ c fun b4 _ _ c => ?_
 refine Ess 2 (tC x4 a2 c2) c fun _ c => ?_
 refine E0 (T0 (Fp [(0, 1), (1, 2)] 2 c fun _ c => Eltr 34 [(Rw.Term.mk s2.2.1 s2.2.2.1 s2.2.2.2.1 s2.2.2.2.2.1 ⟨i1.1, List.length s2.2.2.2.2.2, i1.2⟩), (tR x4 a2 c2)] [(D.Term.mk s2.2.1 s2.2.2.1 s2.2.2.2.1 s2.2.2.2.2.1 s2.2.2.2.2.2), x4] c ⟨(Ava.mk_Term (D.Term.mk s2.2.1 s2.2.2.1 s2.2.2.2.1 s2.2.2.2.2.1 s2.2.2.2.2.2) (.f 2)), (Ava.mk_Term x4 (.f 4)), tt⟩ fun a3 c3 _ _ c => ?_))
 replace c := c.fzr 3 5
 refine Bd h fun x5 hx5 h => Cg c (spec_MakeTerm_ok hx5) ⟨.f 6, tt⟩ Tryz.call60 fun i2 _ _ c => ?_
 refine Fp [] 3 c fun _ c => Eal tZ c fun b5 _ _ c => ?_
 replace c := c.gm [BX b1 34 tZ, BX b3 34 [I s2.2.1, I s2.2.2.1, I s2.2.2.2.1, Str.val s2.2.2.2.2.1, L i1.1 s2.2.2.2.2.2 i1.2], BX b4 34 (tC x4 a2 c2), BX b5 34 tZ]
 refine Ess 3 (tC x5.1 i2.1 i2.2) c fun _ c => ?_
 refine Fp [] 1 c fun _ c => E0 (S0 (P0 [] c fun _ c => I0 c h (fun h => ?_) fun h => ?_))
 refine T0 (Fp [] 1 c fun _ c => Ess 0 tZ c fun _ c => ?_)
 refine Fp [] 1 c fun _ c => E0 ?_
 obtain rfl := hr2 _ (sk h)
 obtain rfl := sj hk2
 replace c := c.nilf (α := D.Term)
 exact wp_ret (tr (br (tr (tr (br (tr (Rg c (none, 0) [] [8] (.cell (α := Agg 4) kk (.b 0) (.tmp .nil)))))))))
 refine K0 (T1 (Fp [(0, 3)] 1 c fun _ c => Ess 1 (tC x5.1 i2.1 i2.2) c fun _ c => ?_))
 refine E1 (bk (tn (P1 [] c fun _ c => Nx h (i2.1, i2.2) (c.rk [0, 1] [0, 1, 7]))))
 refine wp_exit (te (te (be ?_)))
 obtain rfl := hr2 _ (sk h)
 exact tn ⟨_, (i1.1, i1.2), rfl, c.rk [0, 1] [0, 1, 2]⟩
 subst hrl
 refine T0 (Fp [(0, 1)] 1 c fun _ c => Ess 0 [I s2r.1, I s2r.2.1, I s2r.2.2.1, Str.val s2r.2.2.2.1, L k1.1 s2r.2.2.2.2 k1.2] c fun _ c => ?_)
 refine Fp [] 1 c fun _ c => E0 ?_
 cases h
 exact wp_ret (Rg c (k1.1, k1.2) [] [2] (.cell (α := Agg 4) kk (.b 0) (.tmp .nil)))

theorem spec_l06Maker_l06Make_ok {n p0 p1 p2 p3 gb0 ga1 gc2 r} (h : spec_l06Maker_l06Make n p0 p1 p2 p3 = some r) : Con Tryz.prog 76 [B gb0 0, I p1, I p2, L ga1 p3 gc2] [BX gb0 113 [.bool p0.bad]] [lR ga1 p3 gc2] fun (i : Oh) => ([tV r.1 i.1 i.2], [BX gb0 113 [.bool r.2.bad]], [lR i.1 r.1.Kids i.2]) := by
 unfold spec_l06Maker_l06Make at h
 refine En Tryz.func76 rfl Tryz.ntmps76 fun _ fr w c => ?_
 refine T0 (Eal tZ c fun b1 _ _ c => ?_)
 refine E0 (T0 (Fp [] 3 c fun _ c => Bd h fun x1 hx1 h => Cg c (spec_MakeTerm_ok hx1) ⟨.f 0, tt⟩ Tryz.call60 fun i1 _ _ c => ?_))
 refine Fp [] 3 c fun _ c => Eal tZ c fun b2 _ _ c => ?_
 refine Ess 2 (tC x1.1 i1.1 i1.2) c fun _ c => ?_
 refine Fp [] 1 c fun _ c => E0 (S0 (P0 [] c fun _ c => I0 c h (fun h => ?_) fun h => ?_))
 refine T1 (Fp [] 3 c fun _ c => Esb 0 0 (.bool true) c fun _ c => ?_)
 refine E0 (T0 (Fp [(0, 2)] 1 c fun _ c => ?_))
 try simp only [l1, l2, l3, l4] at c
 refine Ess 1 (tC x1.1 i1.1 i1.2) c fun _ c => ?_
 refine E0 ?_
 cases h
 exact wp_ret (Rg c (i1.1, i1.2) [0] [1] (.cell (α := Agg 4) kk (.b 1) .nil))
 refine K0 (T0 (Fp [(0, 2)] 1 c fun _ c => Ess 1 (tC x1.1 i1.1 i1.2) c fun _ c => ?_))
 refine E0 ?_
 cases h
 exact wp_ret (Rg c (i1.1, i1.2) [0] [1] (.cell (α := Agg 4) kk (.b 1) .nil))

theorem spec_l02CopyAll_ok {n p0 ga0 gc1 r} (h : spec_l02CopyAll n p0 = some r) : Con Tryz.prog 123 [L ga0 p0 gc1] [] [lR ga0 p0 gc1] fun (i : Oh) => ([L i.1 r i.2], [], [lR i.1 r i.2]) := by
 unfold spec_l02CopyAll at h
 refine En Tryz.func123 rfl Tryz.ntmps123 fun _ fr w c => ?_
 refine P0 [] c fun _ c => T0 (Eltr 34 ([] : List Rw.Term) ([] : List D.Term) c tt fun a1 c1 _ _ c => ?_)
 refine Fp [] 1 c fun _ c => E0 (S0 (P0 [] c fun _ c => Bd h fun rl1 hit1 h => Lp (fun s1  (i : List Rw.Term × Oh) => ([(3, L i.2.1 s1.2 i.2.2), (7, L ga0 p0 gc1), (8, I (len p0)), (9, I s1.1)], fun Γ => Γ.set 0 (sl34 (L i.2.1 s1.2 i.2.2) (i.1)), [CS (i.1) s1.2])) (fun  (i : List Rw.Term × Oh) => ([(3, L i.2.1 rl1 i.2.2)], fun Γ => Γ.set 0 (sl34 (L i.2.1 rl1 i.2.2) (i.1)), [CS (i.1) rl1])) hit1 c (([] : List Rw.Term), a1, c1) (c.rk [0] [0, 1, 1]) (fun s1 q1 i1 _ _ c h hr1 => ?_) fun k1 _ _ c => ?_))
 refine P0 [] c fun _ c => S0 (I0 c h (fun h => ?_) fun h => ?_)
 refine K0 (S0 (wp_block (T0 (Bd h fun x1 hx1 h => Eem c (.f 0) hx1 fun _ u1 _ c => ?_))))
 obtain ⟨a2, c2, rfl, c⟩ := c.o_Term 3
 refine Eal tZ c fun b1 _ _ c => ?_
 refine Ess 1 (tC x1 a2 c2) c fun _ c => ?_
 refine E0 (T1 (Fp [(1, 0)] 2 c fun _ c => Bd h fun x2 hx2 h => Cg c (spec_l02Copy_ok hx2) ⟨.f 4, tt⟩ Tryz.call61 fun i2 _ _ c => ?_))
 replace c := c.gm [sl34 (L i1.2.1 s1.2 i1.2.2) i1.1, BX b1 34 (tC x1 a2 c2)]
 refine Eltr 34 [(tR x2 i2.1 i2.2)] [x2] c ⟨(Ava.mk_Term x2 (.f 5)), tt⟩ fun a3 c3 _ _ c => ?_
 replace c := c.fzr 2 6
 refine Bd h fun x3 hx3 h => Eapr 0 2 c (.f 7) hx3 fun rm1 a4 c4 _ _ c => ?_
 refine Fp [] 1 c fun _ c => E1 (bk (tn (P1 [] c fun _ c => Nx h ((i1.1 ++ rm1), a4, c4) (c.rk [0] [0, 1, 8]))))
 refine wp_exit (te (te (be ?_)))
 obtain rfl := hr1 _ (sk h)
 exact tn ⟨(i1.1, i1.2.1, i1.2.2), c.rk [0] [0, 1, 2]⟩
 refine P0 [] c fun _ c => ?_
 replace c := c.fzr 0 2
 obtain rfl := sj h
 exact wp_ret (Rt c (k1.2.1, k1.2.2) [] [3])

theorem spec_l06Copy_ok {n p0 ga0 gc1 ga2 gc3 ga4 gc5 ga6 gc7 ga8 gc9 ga10 gc11 r} (h : spec_l06Copy n p0 = some r) : Con Tryz.prog 77 [pV p0 ga0 gc1 ga2 gc3 ga4 gc5 ga6 gc7 ga8 gc9 ga10 gc11] [] [lR ga0 p0.Regs gc1, lR ga2 p0.Mem gc3, lR ga4 p0.Stack gc5, lR ga6 p0.Out gc7, lR ga8 p0.Cond gc9, lR ga10 p0.Turns gc11] fun (i : Hp) => ([pJ r i], [], (pF r i)) := by
 unfold spec_l06Copy at h
 refine En Tryz.func77 rfl Tryz.ntmps77 fun _ fr w c => ?_
 refine T0 (Ebx (pC p0 ga0 gc1 ga2 gc3 ga4 gc5 ga6 gc7 ga8 gc9 ga10 gc11) c fun b1 _ _ c => ?_)
 refine Eal pZ c fun b2 _ _ c => ?_
 refine E0 (T0 (Fp [(1, 0)] 2 c fun _ c => Bd h fun x1 hx1 h => Cg c (spec_l02CopyAll_ok hx1) ⟨.f 0, tt⟩ Tryz.call123 fun i1 _ _ c => ?_))
 refine Fp [] 1 c fun _ c => Esb 0 1 (L i1.1 x1 i1.2) c fun _ c => ?_
 refine E0 (T0 (Fp [(1, 0)] 2 c fun _ c => Bd h fun x2 hx2 h => Cg c (spec_l02CopyAll_ok hx2) ⟨.f 1, tt⟩ Tryz.call123 fun i2 _ _ c => ?_))
 refine Fp [] 1 c fun _ c => ?_
 try simp only [l1, l2, l3, l4] at c
 refine Esb 0 2 (L i2.1 x2 i2.2) c fun _ c => ?_
 refine E0 (T0 (Elt 3 ([] : List Int) c fun a1 c1 _ _ c => ?_))
 refine Fp [(2, 0)] 2 c fun _ c => Bd h fun x3 hx3 h => Eap 2 c (.f 2) hx3 fun a2 c2 _ _ c => ?_
 refine Fp [] 1 c fun _ c => Esb 0 3 (L a2 x3 c2) c fun _ c => ?_
 refine E0 (T0 (Fp [(1, 0)] 2 c fun _ c => Bd h fun x4 hx4 h => Cg c (spec_l02CopyAll_ok hx4) ⟨.f 3, tt⟩ Tryz.call123 fun i3 _ _ c => ?_))
 refine Fp [] 1 c fun _ c => ?_
 try simp only [l1, l2, l3, l4] at c
 refine Esb 0 5 (L i3.1 x4 i3.2) c fun _ c => ?_
 refine E0 (T0 (Fp [(1, 0)] 2 c fun _ c => Bd h fun x5 hx5 h => Cg c (spec_l02CopyAll_ok hx5) ⟨.f 4, tt⟩ Tryz.call123 fun i4 _ _ c => ?_))
 refine Fp [] 1 c fun _ c => Esb 0 8 (L i4.1 x5 i4.2) c fun _ c => ?_
 refine E0 (T0 (Elt 3 ([] : List Int) c fun a3 c3 _ _ c => ?_))
 refine Fp [(2, 0)] 2 c fun _ c => Bd h fun x6 hx6 h => Eap 3 c (.f 5) hx6 fun a4 c4 _ _ c => ?_
 refine Fp [] 1 c fun _ c => ?_
 try simp only [l1, l2, l3, l4] at c
 refine Esb 0 9 (L a4 x6 c4) c fun _ c => ?_
 refine E0 (T0 (Fp [(0, 0)] 1 c fun _ c => Ess 1 [I p0.Pc, L i1.1 x1 i1.2, L i2.1 x2 i2.2, L a2 x3 c2, I p0.In, L i3.1 x4 i3.2, I p0.Code, I p0.Steps, L i4.1 x5 i4.2, L a4 x6 c4] c fun _ c => ?_))
 refine E0 ?_
 replace c := c.fz 2
 replace c := c.fz 2
 cases h
 exact wp_ret (Rg c (i1.1, i1.2, i2.1, i2.2, a2, c2, i3.1, i3.2, i4.1, i4.2, a4, c4) [] [6, 7, 10, 8, 9, 11] (.cell (α := Agg 9) kk (.b 1) .nil))

theorem spec_l06Maker_l07Either_ok {n p0 p1 p2 p3 gb0 ga1 gc2 ga3 gc4 ga5 gc6 r} (h : spec_l06Maker_l07Either n p0 p1 p2 p3 = some r) : Con Tryz.prog 79 [B gb0 0, tV p1 ga1 gc2, L ga3 p2 gc4, L ga5 p3 gc6] [BX gb0 113 [.bool p0.bad]] [lR ga1 p1.Kids gc2, lR ga3 p2 gc4, lR ga5 p3 gc6] fun (i : Oh) => ([L i.1 r.1 i.2], [BX gb0 113 [.bool r.2.bad]], [lR i.1 r.1 i.2]) := by
 unfold spec_l06Maker_l07Either at h
 refine En Tryz.func79 rfl Tryz.ntmps79 fun _ fr w c => ?_
 refine T0 (Ebx (tC p1 ga1 gc2) c fun b1 _ _ c => ?_)
 refine Fp [] 1 c fun _ c => E0 (T0 (Eltr 34 ([] : List Rw.Term) ([] : List D.Term) c tt fun a1 c1 _ _ c => ?_))
 refine Fp [] 1 c fun _ c => E0 (S0 (P0 [] c fun _ c => Bd h fun rl1 hit1 h => Lp (fun s1  (i : List Rw.Term × Oh) => ([(0, B gb0 0), (3, L ga5 p3 gc6), (5, B b1 0), (9, L i.2.1 s1.2.2 i.2.2), (13, L ga3 p2 gc4), (14, I (len p2)), (15, I s1.1)], fun Γ => (Γ.set 0 (BX gb0 113 [.bool s1.2.1])).set 2 (sl34 (L i.2.1 s1.2.2 i.2.2) (i.1)), [CS (i.1) s1.2.2])) (fun  (i : List Rw.Term × Oh) => ([(9, L i.2.1 rl1.2 i.2.2)], fun Γ => (Γ.set 0 (BX gb0 113 [.bool rl1.1])).set 2 (sl34 (L i.2.1 rl1.2 i.2.2) (i.1)), [CS (i.1) rl1.2])) hit1 c (([] : List Rw.Term), a1, c1) (c.rk [0, 1, 2] [0, 1, 2, 3, 3]) (fun s1 q1 i1 _ _ c h hr1 => ?_) fun k1 _ _ c => ?_))
 refine P0 [] c fun _ c => S0 (I0 c h (fun h => ?_) fun h => ?_)
 refine K0 (S0 (wp_block (T0 (Fp [] 1 c fun _ c => Bd h fun x1 hx1 h => Eem c (.f 1) hx1 fun _ u1 _ c => ?_))))
 obtain ⟨a2, c2, rfl, c⟩ := c.o_Term 5
 refine Eal tZ c fun b2 _ _ c => ?_
 refine Fp [] 1 c fun _ c => Ess 3 (tC x1 a2 c2) c fun _ c => ?_
 refine E0 (S0 (Bd h fun x2 hx2 h => ?_))
 obtain ⟨ep1, u2, c⟩ := c.elp (.f 2) hx2
 obtain ⟨a3, c3, rfl, c⟩ := c.o_Term 8
 refine Bd h fun x3 hx3 h => S0 (rZ [(3, .eq (.pointer (some ep1))), (4, .eq (tV x2 a3 c3)), (5, .eq (.bool x3))] [(0, 2), (11, 0)] mix c ⟨Nie c 7, Nle c 7, Ncl c (kN (spec_l02Same_ok hx3)) ⟨.f 6, .f 9, tt⟩ Tryz.call74, tt⟩ fun _ _ c => I0 c h (fun h => ?_) fun h => ?_)
 refine Bd h fun x4 hx4 h => ?_
 obtain ⟨ep2, u3, c⟩ := c.elp (.f 2) hx4
 obtain ⟨a4, c4, rfl, c⟩ := c.o_Term 11
 refine wp_ra mix (rM 10 [(7, .eq (.pointer (some ep2))), (8, .eq (tV x4 a4 c4)), (9, Pd.nw c.wd 9 (fun i : Oh => L i.1 [p1, x1, x4] i.2) (fun i => sl34 (L i.1 [p1, x1, x4] i.2) [(tR p1 ga1 gc2), (tR x1 a2 c2), (tR x4 a4 c4)]))] [(2, 2), (3, 1), (4, 2)] c (fun ow => ⟨np_tO ow (Nie c 10), np_tO ow (Nle c 10), Nlt c [(tR p1 ga1 gc2), (tR x1 a2 c2), (tR x4 a4 c4)], tt⟩) fun ow _ _ hE hc cq => ?_)
 obtain ⟨i2, hi2⟩ := hE.nw 9 43
 replace c := Cx.newt c hc cq [(9, 43, _, _)] ⟨hi2, tt⟩
 replace c := c.csl [(tR p1 ga1 gc2), (tR x1 a2 c2), (tR x4 a4 c4)] [p1, x1, x4] ⟨(Ava.mk_Term p1 (.f 0)), (Ava.mk_Term x1 (.f 6)), (Ava.mk_Term x4 (.f 12)), tt⟩
 replace c := c.gm [BX gb0 113 [.bool s1.2.1], BX b1 34 (tC p1 ga1 gc2), sl34 (L i1.2.1 s1.2.2 i1.2.2) i1.1, BX b2 34 (tC x1 a2 c2), sl34 (L i2.1 [p1, x1, x4] i2.2) [(tR p1 ga1 gc2), (tR x1 a2 c2), (tR x4 a4 c4)]]
 replace c := c.fzr 4 13
 refine Bd h fun x5 hx5 h => Cf [0] c (spec_l06Maker_l06Make_ok hx5) ⟨.f 14, tt⟩ Tryz.call76 fun i3 _ _ c => ?_
 refine Ess 2 (tC x5.1 i3.1 i3.2) c fun _ c => ?_
 refine E0 (T1 (Fp [(1, 1)] 2 c fun _ c => Eltr 34 [(tR x5.1 i3.1 i3.2)] [x5.1] c ⟨(Ava.mk_Term x5.1 (.f 15)), tt⟩ fun a5 c5 _ _ c => ?_))
 replace c := c.fzr 4 16
 refine Bd h fun x6 hx6 h => Eapr 1 4 c (.f 17) hx6 fun rm1 a6 c6 _ _ c => ?_
 refine Fp [] 1 c fun _ c => E1 (bk (tn (P1 [] c fun _ c => Nx h ((i1.1 ++ rm1), a6, c6) (c.rk [3, 0, 1] [0, 1, 2, 3, 18]))))
 refine K0 (T1 (Fp [(1, 2)] 2 c fun _ c => ?_))
 replace c := c.gm [BX gb0 113 [.bool s1.2.1], BX b1 34 (tC p1 ga1 gc2), sl34 (L i1.2.1 s1.2.2 i1.2.2) i1.1, BX b2 34 (tC x1 a2 c2)]
 refine Eltr 34 [(tR x1 a2 c2)] [x1] c ⟨(Ava.mk_Term x1 (.f 6)), tt⟩ fun a7 c7 _ _ c => ?_
 replace c := c.fzr 4 10
 refine Bd h fun x7 hx7 h => Eapr 2 4 c (.f 11) hx7 fun rm2 a8 c8 _ _ c => ?_
 refine Fp [] 1 c fun _ c => E1 (bk (tn (P1 [] c fun _ c => Nx h ((i1.1 ++ rm2), a8, c8) (c.rk [0, 1, 2] [0, 1, 2, 3, 12]))))
 refine wp_exit (te (te (be ?_)))
 obtain rfl := hr1 _ (sk h)
 exact tn ⟨(i1.1, i1.2.1, i1.2.2), c.rk [0, 1, 2] (rg 5)⟩
 refine P0 [] c fun _ c => ?_
 replace c := c.fzr 2 4
 cases h
 exact wp_ret (Rt c (k1.2.1, k1.2.2) [0] [5])

theorem spec_MergePaths_ok {n p0 p1 p2 ga0 gc1 ga2 gc3 ga4 gc5 ga6 gc7 ga8 gc9 ga10 gc11 ga12 gc13 ga14 gc15 ga16 gc17 ga18 gc19 ga20 gc21 ga22 gc23 ga24 gc25 r} (h : spec_MergePaths n p0 p1 p2 = some r) : Con Tryz.prog 30 [gV p0 ga0 gc1, pV p1 ga2 gc3 ga4 gc5 ga6 gc7 ga8 gc9 ga10 gc11 ga12 gc13, pV p2 ga14 gc15 ga16 gc17 ga18 gc19 ga20 gc21 ga22 gc23 ga24 gc25] [] [lR ga0 p0.Code gc1, lR ga2 p1.Regs gc3, lR ga4 p1.Mem gc5, lR ga6 p1.Stack gc7, lR ga8 p1.Out gc9, lR ga10 p1.Cond gc11, lR ga12 p1.Turns gc13, lR ga14 p2.Regs gc15, lR ga16 p2.Mem gc17, lR ga18 p2.Stack gc19, lR ga20 p2.Out gc21, lR ga22 p2.Cond gc23, lR ga24 p2.Turns gc25] fun (i : Hp) => ([pJ r.1 i, .bool r.2], [], (pF r.1 i)) := by
 unfold spec_MergePaths at h
 refine En Tryz.func30 rfl Tryz.ntmps30 fun _ fr w c => ?_
 refine T0 (Ebx (gC p0 ga0 gc1) c fun b1 _ _ c => ?_)
 refine Ebx (pC p1 ga2 gc3 ga4 gc5 ga6 gc7 ga8 gc9 ga10 gc11 ga12 gc13) c fun b2 _ _ c => ?_
 refine Ebx (pC p2 ga14 gc15 ga16 gc17 ga18 gc19 ga20 gc21 ga22 gc23 ga24 gc25) c fun b3 _ _ c => ?_
 refine Eal pZ c fun b4 _ _ c => ?_
 refine Fp [] 1 c fun _ c => E0 (S0 (Bd h fun x1 hx1 h => Bd h fun x2 hx2 h => Bd h fun x3 hx3 h => S0 (rZ [(2, .eq (.bool x1)), (7, .eq (.bool x2)), (13, .eq (.bool x3))] [(0, 0), (1, 1), (5, 0), (6, 2), (11, 1), (12, 2), (18, 1), (20, 2)] mix c ⟨Ncl c (kN (spec_PathOk_ok hx1)) ⟨.f 0, .f 1, .f 2, .f 3, .f 4, .f 5, .f 6, tt⟩ Tryz.call57, Ncl c (fun hg => spec_PathOk_ok (iteF (gcF hg) hx2)) ⟨.f 0, .f 7, .f 8, .f 9, .f 10, .f 11, .f 12, tt⟩ Tryz.call57, Ncl c (fun hg => spec_l07Alike_ok (iteF (gcF hg) hx3)) ⟨.f 1, .f 2, .f 3, .f 4, .f 5, .f 6, .f 7, .f 8, .f 9, .f 10, .f 11, .f 12, tt⟩ Tryz.call73, tt⟩ fun _ _ c => I0 c h (fun h => ?_) fun h => ?_)))
 refine T0 (Fp [] 1 c fun _ c => Ess 3 pZ c fun _ c => ?_)
 refine Fp [] 1 c fun _ c => E0 ?_
 cases h
 replace c := c.nilf (α := D.Term)
 replace c := c.nilf (α := D.Term)
 replace c := c.nilf (α := Int)
 replace c := c.nilf (α := D.Term)
 replace c := c.nilf (α := D.Term)
 replace c := c.nilf (α := Int)
 exact wp_ret (tr (Rg c (none, 0, none, 0, none, 0, none, 0, none, 0, none, 0) [] [13, 14, 15, 16, 17, 18] (.cell (α := Agg 9) kk (.b 3) (.tmp .nil))))
 refine K0 (P0 [] c fun _ c => Bd h fun rl1 hit1 h => S0 (Lp (fun s1  (_ : Unit) => ([(3, B b1 0), (4, B b2 0), (5, B b3 0), (6, B b4 0), (8, I s1)], id, [])) (fun  (_ : Unit) => ([(3, B b1 0), (4, B b2 0), (5, B b3 0), (6, B b4 0), (8, I rl1)], id, [])) hit1 c () (c.rk (rg 4) (rg 13)) (fun s1 q1 _ _ _ c h hr1 => ?_) fun _ _ _ c => ?_))
 refine S0 (Bd h fun x4 hx4 h => Bd h fun x5 hx5 h => Bd h fun x6 hx6 h => S0 (rZ [(16, Pd.el (x4 : D.Term)), (17, Pd.rd (x4 : D.Term)), (21, Pd.el (x5 : D.Term)), (22, Pd.rd (x5 : D.Term)), (23, .eq (.bool x6))] [(2, 1), (8, 2), (14, 1), (19, 2)] mix c ⟨Nid c (.f 5) (gT hx4), Nrd c 16 (atN 16), Nid c (.f 11) (gT hx5), Nrd c 21 (atN 21), Ncd (Ψ := []) [.r 17 (fun v => RO v (x4 : D.Term)), .r 22 (fun v => RO v (x5 : D.Term))] c ⟨(atN 17), (atN 22), tt⟩ tt (fun hg _ _ ga gp => by obtain ⟨u1, _, rfl, g1, u2, _, rfl, g2, rfl⟩ := ga; obtain ⟨k1, rfl, f1⟩ := Opn.opn g1; obtain ⟨k2, rfl, f2⟩ := Opn.opn g2; exact ⟨_, (f1.join f2), spec_l02Same_ok (iteT (gcT hg) hx6)⟩) Tryz.call74, tt⟩ fun _ _ c => I0 c h (fun h => ?_) fun h => ?_))
 refine K0 (wp_block (Tq (P1 [] c fun _ c => bk (tn (Nx h () (c.rk (rg 4) (rg 13)))))))
 refine wp_exit (te (te (be ?_)))
 obtain rfl := hr1 _ (sk h)
 exact tn ⟨(), c.rk (rg 4) (rg 13)⟩
 refine T0 (Fp [(1, 1)] 3 c fun _ c => Bd h fun x7 hx7 h => Esl 34 c (.f 5) hx7 fun u1 _ c => ?_)
 obtain ⟨a1, c1, rfl⟩ := c.sl 13
 refine Bd h fun x8 hx8 h => Cg c (spec_AllOf_ok hx8) ⟨.f 13, tt⟩ Tryz.call75 fun i1 _ _ c => ?_
 refine Fp [] 3 c fun _ c => ?_
 replace c := c.gm [BX b1 53 (gC p0 ga0 gc1), BX b2 66 (pC p1 ga2 gc3 ga4 gc5 ga6 gc7 ga8 gc9 ga10 gc11 ga12 gc13), BX b3 66 (pC p2 ga14 gc15 ga16 gc17 ga18 gc19 ga20 gc21 ga22 gc23 ga24 gc25), BX b4 66 pZ]
 refine Eal tZ c fun b5 _ _ c => ?_
 refine Ess 4 (tC x8.1 i1.1 i1.2) c fun _ c => ?_
 refine Fp [] 1 c fun _ c => E0 (T0 (Fp [(1, 2)] 3 c fun _ c => Bd h fun x9 hx9 h => Esl 34 c (.f 11) hx9 fun u2 _ c => ?_))
 obtain ⟨a2, c2, rfl⟩ := c.sl 15
 refine Bd h fun x10 hx10 h => Cg c (spec_AllOf_ok hx10) ⟨.f 15, tt⟩ Tryz.call75 fun i2 _ _ c => ?_
 refine Fp [] 3 c fun _ c => Eal tZ c fun b6 _ _ c => ?_
 try simp only [l1, l2, l3, l4] at c
 refine Ess 5 (tC x10.1 i2.1 i2.2) c fun _ c => ?_
 refine Fp [] 1 c fun _ c => E0 (S0 (S0 (Ry [] mix c fun _ _ c => I0 c h (fun h => ?_) fun h => ?_)))
 refine T0 (Fp [] 1 c fun _ c => Ess 3 pZ c fun _ c => ?_)
 refine Fp [] 1 c fun _ c => E0 ?_
 cases h
 replace c := c.nilf (α := D.Term)
 replace c := c.nilf (α := D.Term)
 replace c := c.nilf (α := Int)
 replace c := c.nilf (α := D.Term)
 replace c := c.nilf (α := D.Term)
 replace c := c.nilf (α := Int)
 exact wp_ret (tr (Rg c (none, 0, none, 0, none, 0, none, 0, none, 0, none, 0) [] [17, 18, 19, 20, 21, 22] (.cell (α := Agg 9) kk (.b 3) (.tmp .nil))))
 refine K0 (T0 (Fp [] 1 c fun _ c => Ebx [.bool false] c fun b7 _ _ c => ?_))
 refine Fp [] 1 c fun _ c => E0 (T0 (Fp [(1, 4), (2, 5)] 3 c fun _ c => Eltr 34 [(tR x8.1 i1.1 i1.2), (tR x10.1 i2.1 i2.2)] [x8.1, x10.1] c ⟨(Ava.mk_Term x8.1 (.f 14)), (Ava.mk_Term x10.1 (.f 16)), tt⟩ fun a3 c3 _ _ c => ?_))
 try simp only [l1, l2, l3, l4] at c
 replace c := c.fzr 7 17
 refine Bd h fun x11 hx11 h => Cf [6] c (spec_l06Maker_l06Make_ok hx11) ⟨.f 18, tt⟩ Tryz.call76 fun i3 _ _ c => ?_
 refine Eal tZ c fun b8 _ _ c => ?_
 refine Ess 7 (tC x11.1 i3.1 i3.2) c fun _ c => ?_
 refine E0 (T0 (Fp [(0, 1)] 1 c fun _ c => ?_))
 replace c := c.gm [BX b1 53 (gC p0 ga0 gc1), BX b2 66 (pC p1 ga2 gc3 ga4 gc5 ga6 gc7 ga8 gc9 ga10 gc11 ga12 gc13), BX b3 66 (pC p2 ga14 gc15 ga16 gc17 ga18 gc19 ga20 gc21 ga22 gc23 ga24 gc25), BX b4 66 pZ, BX b5 34 (tC x8.1 i1.1 i1.2), BX b6 34 (tC x10.1 i2.1 i2.2), BX b7 113 [.bool x11.2.bad], BX b8 34 (tC x11.1 i3.1 i3.2)]
 refine Bd h fun x12 hx12 h => Cg c (spec_l06Copy_ok hx12) ⟨.f 1, .f 2, .f 3, .f 4, .f 5, .f 6, tt⟩ Tryz.call77 fun i4 _ _ c => ?_
 refine Eal pZ c fun b9 _ _ c => ?_
 try simp only [l1, l2, l3, l4] at c
 refine Ess 8 (pM x12 i4) c fun _ c => ?_
 refine E0 (T0 (Eltr 34 ([] : List Rw.Term) ([] : List D.Term) c tt fun a4 c4 _ _ c => ?_))
 refine Fp [(2, 1)] 3 c fun _ c => ?_
 try simp only [l1, l2, l3, l4] at c
 refine Bd h fun x13 hx13 h => Esl 34 c (.f 5) hx13 fun u3 _ c => ?_
 obtain ⟨a5, c5, rfl⟩ := c.sl 27
 refine Bd h fun x14 hx14 h => Eapr 9 26 c (.f 27) hx14 fun rm1 a6 c6 _ _ c => ?_
 refine Fp [] 1 c fun _ c => Esb 8 8 (L a6 x14 c6) c fun _ c => ?_
 refine E0 (S0 (T0 (Fp [(0, 7)] 1 c fun _ c => ?_)))
 try simp only [l1, l2, l3, l4] at c
 refine Bd h fun x15 hx15 h => Cb c (spec_l02Is_ok hx15) ⟨.f 19, tt⟩ Tryz.call78 fun _ _ _ c => ?_
 refine Fp [] 1 c fun _ c => E0 (Bd h fun rl2 hit2 h => ?_)
 have hk2 := h
 refine Jr (fun s  (i : List Rw.Term × Oh) => ([(3, B b1 0), (4, B b2 0), (5, B b3 0), (6, B b4 0), (9, B b5 0), (13, B b7 0), (15, B b9 0)], fun Γ => (Γ.set 8 (BX b9 66 [I x12.Pc, L i4.1 x12.Regs i4.2.1, L i4.2.2.1 x12.Mem i4.2.2.2.1, L i4.2.2.2.2.1 x12.Stack i4.2.2.2.2.2.1, I x12.In, L i4.2.2.2.2.2.2.1 x12.Out i4.2.2.2.2.2.2.2.1, I x12.Code, I x12.Steps, L i.2.1 s i.2.2, L i4.2.2.2.2.2.2.2.2.2.2.1 x12.Turns i4.2.2.2.2.2.2.2.2.2.2.2])).set 9 (sl34 (L i.2.1 s i.2.2) (i.1)), [CS (i.1) s])) hit2 c (fun h => ?_) fun s2r k1 _ _ hrl c => ?_
 refine I0 c h (fun h => ?_) fun h => ?_
 refine T1 (Fp [(1, 8), (2, 7)] 3 c fun _ c => Eltr 34 [(tR x11.1 i3.1 i3.2)] [x11.1] c ⟨(Ava.mk_Term x11.1 (.f 19)), tt⟩ fun a7 c7 _ _ c => ?_)
 try simp only [l1, l2, l3, l4] at c
 replace c := c.fzr 10 29
 refine Bd h fun x16 hx16 h => Eapr 9 28 c (.f 30) hx16 fun rm2 a8 c8 _ _ c => ?_
 refine Fp [] 1 c fun _ c => Esb 8 8 (L a8 x16 c8) c fun _ c => ?_
 refine E0 (⟨_, (((([] : List Rw.Term) ++ rm1) ++ rm2), a8, c8), (sk h), c.rk (rg 10) [0, 1, 2, 3, 4, 5, 6, 7, 8, 9, 10, 11, 12, 13, 14, 15, 16, 17, 18, 19, 20, 21, 22, 23, 24, 25, 26, 27, 28, 31]⟩)
 refine K0 (⟨_, ((([] : List Rw.Term) ++ rm1), a6, c6), (sk h), c.rk (rg 10) [0, 1, 2, 3, 4, 5, 6, 7, 8, 9, 10, 11, 12, 13, 14, 15, 16, 17, 18, 19, 20, 21, 22, 23, 24, 25, 26, 27, 28, 28]⟩)
 subst hrl
 try simp only [l3, l4, l5, l6] at c
 refine T0 (Fp [(1, 4), (3, 1), (5, 2)] 6 c fun _ c => Bd h fun x17 hx17 h => Cf [6] c (spec_l06Maker_l07Either_ok hx17) ⟨.f 14, .f 1, .f 7, tt⟩ Tryz.call79 fun i5 _ _ c => ?_)
 refine Fp [] 1 c fun _ c => ?_
 replace c := c.gm [BX b1 53 (gC p0 ga0 gc1), BX b2 66 (pC p1 ga2 gc3 ga4 gc5 ga6 gc7 ga8 gc9 ga10 gc11 ga12 gc13), BX b3 66 (pC p2 ga14 gc15 ga16 gc17 ga18 gc19 ga20 gc21 ga22 gc23 ga24 gc25), BX b4 66 pZ, BX b5 34 (tC x8.1 i1.1 i1.2), BX b6 34 (tC x10.1 i2.1 i2.2), BX b8 34 (tC x11.1 i3.1 i3.2), BX b9 66 [I x12.Pc, L i4.1 x12.Regs i4.2.1, L i4.2.2.1 x12.Mem i4.2.2.2.1, L i4.2.2.2.2.1 x12.Stack i4.2.2.2.2.2.1, I x12.In, L i4.2.2.2.2.2.2.1 x12.Out i4.2.2.2.2.2.2.2.1, I x12.Code, I x12.Steps, L k1.2.1 s2r k1.2.2, L i4.2.2.2.2.2.2.2.2.2.2.1 x12.Turns i4.2.2.2.2.2.2.2.2.2.2.2], sl34 (L k1.2.1 s2r k1.2.2) k1.1, BX b7 113 [.bool x17.2.bad]]
 refine Esb 7 1 (L i5.1 x17.1 i5.2) c fun _ c => ?_
 refine E0 (T0 (Fp [(1, 4), (3, 1), (5, 2)] 6 c fun _ c => Bd h fun x18 hx18 h => Cf [9] c (spec_l06Maker_l07Either_ok hx18) ⟨.f 14, .f 2, .f 8, tt⟩ Tryz.call79 fun i6 _ _ c => ?_))
 refine Fp [] 1 c fun _ c => ?_
 replace c := c.gm [BX b1 53 (gC p0 ga0 gc1), BX b2 66 (pC p1 ga2 gc3 ga4 gc5 ga6 gc7 ga8 gc9 ga10 gc11 ga12 gc13), BX b3 66 (pC p2 ga14 gc15 ga16 gc17 ga18 gc19 ga20 gc21 ga22 gc23 ga24 gc25), BX b4 66 pZ, BX b5 34 (tC x8.1 i1.1 i1.2), BX b6 34 (tC x10.1 i2.1 i2.2), BX b8 34 (tC x11.1 i3.1 i3.2), BX b9 66 [I x12.Pc, L i5.1 x17.1 i5.2, L i4.2.2.1 x12.Mem i4.2.2.2.1, L i4.2.2.2.2.1 x12.Stack i4.2.2.2.2.2.1, I x12.In, L i4.2.2.2.2.2.2.1 x12.Out i4.2.2.2.2.2.2.2.1, I x12.Code, I x12.Steps, L k1.2.1 s2r k1.2.2, L i4.2.2.2.2.2.2.2.2.2.2.1 x12.Turns i4.2.2.2.2.2.2.2.2.2.2.2], sl34 (L k1.2.1 s2r k1.2.2) k1.1, BX b7 113 [.bool x18.2.bad]]
 refine Esb 7 2 (L i6.1 x18.1 i6.2) c fun _ c => ?_
 refine E0 (T0 (Fp [(1, 4), (3, 1), (5, 2)] 6 c fun _ c => Bd h fun x19 hx19 h => Cf [9] c (spec_l06Maker_l07Either_ok hx19) ⟨.f 14, .f 4, .f 10, tt⟩ Tryz.call79 fun i7 _ _ c => ?_))
 refine Fp [] 1 c fun _ c => ?_
 replace c := c.gm [BX b1 53 (gC p0 ga0 gc1), BX b2 66 (pC p1 ga2 gc3 ga4 gc5 ga6 gc7 ga8 gc9 ga10 gc11 ga12 gc13), BX b3 66 (pC p2 ga14 gc15 ga16 gc17 ga18 gc19 ga20 gc21 ga22 gc23 ga24 gc25), BX b4 66 pZ, BX b5 34 (tC x8.1 i1.1 i1.2), BX b6 34 (tC x10.1 i2.1 i2.2), BX b8 34 (tC x11.1 i3.1 i3.2), BX b9 66 [I x12.Pc, L i5.1 x17.1 i5.2, L i6.1 x18.1 i6.2, L i4.2.2.2.2.1 x12.Stack i4.2.2.2.2.2.1, I x12.In, L i4.2.2.2.2.2.2.1 x12.Out i4.2.2.2.2.2.2.2.1, I x12.Code, I x12.Steps, L k1.2.1 s2r k1.2.2, L i4.2.2.2.2.2.2.2.2.2.2.1 x12.Turns i4.2.2.2.2.2.2.2.2.2.2.2], sl34 (L k1.2.1 s2r k1.2.2) k1.1, BX b7 113 [.bool x19.2.bad]]
 refine Esb 7 5 (L i7.1 x19.1 i7.2) c fun _ c => ?_
 refine E0 (S0 (P0 [(1, 2), (3, 7)] c fun _ c => Bd h fun rl3 hit3 h => ?_))
 have hk3 := h
 refine Jr (fun s  (_ : Unit) => ([(3, B b1 0), (4, B b2 0), (5, B b3 0), (6, B b4 0), (13, B b7 0), (15, B b9 0)], fun Γ => Γ.set 7 (BX b9 66 [I x12.Pc, L i5.1 x17.1 i5.2, L i6.1 x18.1 i6.2, L i4.2.2.2.2.1 x12.Stack i4.2.2.2.2.2.1, I x12.In, L i7.1 x19.1 i7.2, I x12.Code, I s, L k1.2.1 s2r k1.2.2, L i4.2.2.2.2.2.2.2.2.2.2.1 x12.Turns i4.2.2.2.2.2.2.2.2.2.2.2]), [])) hit3 c (fun h => ?_) fun s3r _ _ _ hrl c => ?_
 refine I0 c h (fun h => ?_) fun h => ?_
 refine T1 (Fp [(1, 2)] 3 c fun _ c => Esb 7 7 (I p2.Steps) c fun _ c => ?_)
 refine E0 (⟨_, (), (sk h), c.rk (rg 10) (rg 33)⟩)
 refine K0 (⟨_, (), (sk h), c.rk (rg 10) (rg 33)⟩)
 subst hrl
 try simp only [l3, l4, l5, l6] at c
 refine P0 [] c fun _ c => Bd h fun rl4 hit4 h => S0 (Lp (fun s4  (_ : Unit) => ([(3, B b1 0), (4, B b2 0), (5, B b3 0), (6, B b4 0), (13, B b7 0), (15, B b9 0), (16, I s4)], id, [])) (fun  (_ : Unit) => ([(3, B b1 0), (6, B b4 0), (13, B b7 0), (15, B b9 0), (16, I rl4)], id, [])) hit4 c () (c.rk (rg 10) (rg 33)) (fun s4 q4 _ _ _ c h hr4 => ?_) fun _ _ _ c => ?_)
 refine S0 (Bd h fun x20 hx20 h => Bd h fun x21 hx21 h => S0 (rZ [(16, Pd.el (x20 : Int)), (17, .eq (I x20)), (21, Pd.el (x21 : Int)), (22, .eq (I x21))] [(2, 1), (8, 2), (14, 1), (19, 2)] mix c ⟨Nid c (.f 6) (gT hx20), Nld c 16 (q := x20) (atN 16), Nid c (.f 12) (gT hx21), Nld c 21 (q := x21) (atN 21), tt⟩ fun _ _ c => I0 c h (fun h => ?_) fun h => ?_))
 refine K0 (wp_block (Tq (P1 [] c fun _ c => bk (tn (Nx h () (c.rk (rg 10) (rg 33)))))))
 refine wp_exit (te (te (be ?_)))
 obtain rfl := hr4 _ (sk h)
 exact tn ⟨(), c.rk (rg 10) (rg 33)⟩
 refine T0 (Fp [(1, 7)] 3 c fun _ c => Bd h fun x22 hx22 h => Esl 3 c (.f 25) hx22 fun u4 _ c => ?_)
 obtain ⟨a9, c9, rfl⟩ := c.sl 33
 refine Fp [] 1 c fun _ c => Esb 7 9 (L a9 x22 c9) c fun _ c => ?_
 refine E0 (S0 (Bd h fun x23 hx23 h => S0 (rZ [(7, .eq (.bool x23))] [(3, 8), (5, 0), (6, 7)] mix c ⟨Ncl c (fun hg => spec_PathOk_ok (iteF (gcF hg) hx23)) ⟨.f 0, .f 30, .f 31, .f 22, .f 32, .gr 8 29, .f 33, tt⟩ Tryz.call57, tt⟩ fun _ _ c => I0 c h (fun h => ?_) fun h => ?_)))
 refine T0 (Fp [] 1 c fun _ c => ?_)
 replace c := c.gm [BX b1 53 (gC p0 ga0 gc1), BX b2 66 (pC p1 ga2 gc3 ga4 gc5 ga6 gc7 ga8 gc9 ga10 gc11 ga12 gc13), BX b3 66 (pC p2 ga14 gc15 ga16 gc17 ga18 gc19 ga20 gc21 ga22 gc23 ga24 gc25), BX b4 66 pZ, BX b5 34 (tC x8.1 i1.1 i1.2), BX b6 34 (tC x10.1 i2.1 i2.2), BX b8 34 (tC x11.1 i3.1 i3.2), BX b9 66 [I x12.Pc, L i5.1 x17.1 i5.2, L i6.1 x18.1 i6.2, L i4.2.2.2.2.1 x12.Stack i4.2.2.2.2.2.1, I x12.In, L i7.1 x19.1 i7.2, I x12.Code, I s3r, L k1.2.1 s2r k1.2.2, L a9 x22 c9], sl34 (L k1.2.1 s2r k1.2.2) k1.1, BX b7 113 [.bool x19.2.bad]]
 refine Ess 3 pZ c fun _ c => ?_
 refine Fp [] 1 c fun _ c => E0 ?_
 cases h
 replace c := c.nilf (α := D.Term)
 replace c := c.nilf (α := D.Term)
 replace c := c.nilf (α := Int)
 replace c := c.nilf (α := D.Term)
 replace c := c.nilf (α := D.Term)
 replace c := c.nilf (α := Int)
 exact wp_ret (tr (Rg c (none, 0, none, 0, none, 0, none, 0, none, 0, none, 0) [] [34, 35, 36, 37, 38, 39] (.cell (α := Agg 9) kk (.b 3) (.tmp .nil))))
 refine K0 (T0 (Fp [(0, 7)] 1 c fun _ c => ?_))
 replace c := c.gm [BX b1 53 (gC p0 ga0 gc1), BX b2 66 (pC p1 ga2 gc3 ga4 gc5 ga6 gc7 ga8 gc9 ga10 gc11 ga12 gc13), BX b3 66 (pC p2 ga14 gc15 ga16 gc17 ga18 gc19 ga20 gc21 ga22 gc23 ga24 gc25), BX b4 66 pZ, BX b5 34 (tC x8.1 i1.1 i1.2), BX b6 34 (tC x10.1 i2.1 i2.2), BX b8 34 (tC x11.1 i3.1 i3.2), BX b9 66 [I x12.Pc, L i5.1 x17.1 i5.2, L i6.1 x18.1 i6.2, L i4.2.2.2.2.1 x12.Stack i4.2.2.2.2.2.1, I x12.In, L i7.1 x19.1 i7.2, I x12.Code, I s3r, L k1.2.1 s2r k1.2.2, L a9 x22 c9], sl34 (L k1.2.1 s2r k1.2.2) k1.1, BX b7 113 [.bool x19.2.bad]]
 replace c := c.fzr 8 29
 refine Bd h fun x24 hx24 h => Cg c (spec_l06Copy_ok hx24) ⟨.f 30, .f 31, .f 22, .f 32, .f 34, .f 33, tt⟩ Tryz.call77 fun i8 _ _ c => ?_
 refine Ess 3 (pM x24 i8) c fun _ c => ?_
 refine Fp [] 1 c fun _ c => E0 ?_
 cases h
 exact wp_ret (Rg c (i8.1, i8.2.1, i8.2.2.1, i8.2.2.2.1, i8.2.2.2.2.1, i8.2.2.2.2.2.1, i8.2.2.2.2.2.2.1, i8.2.2.2.2.2.2.2.1, i8.2.2.2.2.2.2.2.2.1, i8.2.2.2.2.2.2.2.2.2.1, i8.2.2.2.2.2.2.2.2.2.2.1, i8.2.2.2.2.2.2.2.2.2.2.2) [] [35, 36, 37, 38, 39, 40] (.cell (α := Agg 9) kk (.b 3) (.tmp .nil)))

theorem impl_shapeOk_ok {p0 p1 r} (h : impl_shapeOk p0 p1 = some r) : Con Tryz.prog 110 [I p0, I p1] [] [] fun (_ : Unit) => ([.bool r], [], []) := by
 unfold impl_shapeOk at h
 refine En Tryz.func110 rfl Tryz.ntmps110 fun _ fr w c => ?_
 refine P0 [] c fun _ c => S0 (Ry [] mix c fun _ _ c => ?_)
 cases h
 exact wp_ret (Rt c () [] [])

theorem impl_isWidth_ok {p0 r} (h : impl_isWidth p0 = some r) : Con Tryz.prog 140 [I p0] [] [] fun (_ : Unit) => ([.bool r], [], []) := by
 unfold impl_isWidth at h
 refine En Tryz.func140 rfl Tryz.ntmps140 fun _ fr w c => ?_
 refine P0 [] c fun _ c => S0 (Ry [] mix c fun _ _ c => ?_)
 cases h
 exact wp_ret (Rt c () [] [])

theorem impl_WordOk_ok {p0 p1 r} (h : impl_WordOk p0 p1 = some r) : Con Tryz.prog 111 [I p0, I p1] [] [] fun (_ : Unit) => ([.bool r], [], []) := by
 unfold impl_WordOk at h
 refine En Tryz.func111 rfl Tryz.ntmps111 fun _ fr w c => ?_
 refine P0 [] c fun _ c => Bd h fun x1 hx1 h => Bd h fun x2 hx2 h => S0 (rZ [(1, .eq (.bool x1)), (10, .eq (I x2))] [] mix c ⟨Ncl c (kN (impl_isWidth_ok hx1)) tt Tryz.call140, Nshl c (gT hx2), tt⟩ fun _ _ c => ?_)
 cases h
 exact wp_ret (Rt c () [] [])

theorem impl_isReg_ok {p0 r} (h : impl_isReg p0 = some r) : Con Tryz.prog 162 [I p0] [] [] fun (_ : Unit) => ([.bool r], [], []) := by
 unfold impl_isReg at h
 refine En Tryz.func162 rfl Tryz.ntmps162 fun _ fr w c => ?_
 refine P0 [] c fun _ c => S0 (Ry [] mix c fun _ _ c => ?_)
 cases h
 exact wp_ret (Rt c () [] [])

theorem impl_isTwoWords_ok {p0 r} (h : impl_isTwoWords p0 = some r) : Con Tryz.prog 92 [I p0] [] [] fun (_ : Unit) => ([.bool r], [], []) := by
 unfold impl_isTwoWords at h
 refine En Tryz.func92 rfl Tryz.ntmps92 fun _ fr w c => ?_
 refine P0 [] c fun _ c => S0 (Ry [] mix c fun _ _ c => ?_)
 cases h
 exact wp_ret (Rt c () [] [])

theorem impl_insOk_ok {p0 p1 p2 r} (h : impl_insOk p0 p1 p2 = some r) : Con Tryz.prog 112 [nV p0, I p1, I p2] [] [] fun (_ : Unit) => ([.bool r], [], []) := by
 unfold impl_insOk at h
 refine En Tryz.func112 rfl Tryz.ntmps112 fun _ fr w c => ?_
 refine T0 (Ebx (nC p0) c fun b1 _ _ c => ?_)
 refine Fp [] 1 c fun _ c => E0 (S0 (Ry [(1, 0), (5, 0)] mix c fun _ _ c => S0 (P0 [(1, 0)] c fun _ c => I0 c h (fun h => ?_) fun h => ?_)))
 refine Bd h fun x1 hx1 h => Bd h fun x2 hx2 h => Bd h fun x3 hx3 h => S0 (rZ [(2, .eq (.bool x1)), (6, .eq (.bool x2)), (11, .eq (.bool x3))] [(1, 0), (5, 0), (10, 0)] mix c ⟨Ncl c (kN (impl_isReg_ok hx1)) tt Tryz.call162, Ncl c (fun hg => impl_isReg_ok (iteT (gcT hg) hx2)) tt Tryz.call162, Ncl c (fun hg => impl_isTwoWords_ok (iteT (gcT hg) hx3)) tt Tryz.call92, tt⟩ fun _ _ c => ?_)
 cases h
 exact wp_ret (tr (Rt c () [] []))
 refine K0 (S0 (P0 [(1, 0)] c fun _ c => I0 c h (fun h => ?_) fun h => ?_))
 refine P0 [] c fun _ c => ?_
 obtain rfl := sj h
 exact wp_ret (tr (Rt c () [] []))
 refine K0 (S0 (P0 [(1, 0)] c fun _ c => wp_block (P0 [] c fun _ c => I0 c h (fun h => ?_) fun h => ?_)))
 refine Bd h fun x4 hx4 h => Bd h fun x5 hx5 h => S0 (rZ [(2, .eq (.bool x4)), (7, .eq (.bool x5))] [(1, 0), (6, 0)] mix c ⟨Ncl c (kN (impl_isReg_ok hx4)) tt Tryz.call162, Ncl c (fun hg => impl_WordOk_ok (iteT (gcT hg) hx5)) tt Tryz.call111, tt⟩ fun _ _ c => ?_)
 cases h
 exact wp_ret (br (tr (Rt c () [] [])))
 refine S0 (P0 [] c fun _ c => Bd h fun rl1 hit1 h => ?_)
 have hk1 := h
 refine Jr (fun s  (_ : Unit) => ([(3, B b1 0), (7, .bool ((decide (p0.B ≥ 0)) && (decide (p0.B ≤ p2)))), (37, I p0.Op), (49, .bool s)], id, [])) hit1 c (fun h => ?_) fun s1r _ _ _ hrl c => ?_
 refine I0 c h (fun h => ?_) fun h => ?_
 refine K0 (⟨_, (), (sk h), c.rk [0] []⟩)
 refine P0 [] c fun _ c => Mp (p0.Op == 7) [(49, .bool (p0.Op == 7))] [(49, .bool (p0.Op == 8))] [(49, .bool ((p0.Op == 7) || (p0.Op == 8)))] [49, 52] c fun _ c => ⟨_, (), (sk h), c.rk [0] []⟩
 subst hrl
 refine I0 c h (fun h => ?_) fun h => ?_
 refine Bd h fun x6 hx6 h => Bd h fun x7 hx7 h => S0 (rZ [(2, .eq (.bool x6)), (6, .eq (.bool x7))] [(1, 0), (5, 0)] mix c ⟨Ncl c (kN (impl_isReg_ok hx6)) tt Tryz.call162, Ncl c (fun hg => impl_isReg_ok (iteT (gcT hg) hx7)) tt Tryz.call162, tt⟩ fun _ _ c => ?_)
 cases h
 exact wp_ret (br (tr (Rt c () [] [])))
 refine S0 (P0 [] c fun _ c => Bd h fun rl2 hit2 h => ?_)
 have hk2 := h
 refine Jr (fun s  (_ : Unit) => ([(3, B b1 0), (7, .bool ((decide (p0.B ≥ 0)) && (decide (p0.B ≤ p2)))), (37, I p0.Op), (61, .bool s)], id, [])) hit2 c (fun h => ?_) fun s2r _ _ _ hrl c => ?_
 refine I0 c h (fun h => ?_) fun h => ?_
 refine K0 (⟨_, (), (sk h), c.rk [0] []⟩)
 refine P0 [] c fun _ c => I0 c h (fun h => ?_) fun h => ?_
 refine K0 (⟨_, (), (sk h), c.rk [0] []⟩)
 refine P0 [] c fun _ c => Mp (p0.Op == 6) [(61, .bool (p0.Op == 6))] [(61, .bool (p0.Op == 13))] [(61, .bool ((p0.Op == 6) || (p0.Op == 13)))] [61, 65] c fun _ c => ⟨_, (), (sk h), c.rk [0] []⟩
 subst hrl
 refine I0 c h (fun h => ?_) fun h => ?_
 refine Bd h fun x8 hx8 h => S0 (rZ [(2, .eq (.bool x8))] [(1, 0), (5, 0)] mix c ⟨Ncl c (kN (impl_isReg_ok hx8)) tt Tryz.call162, tt⟩ fun _ _ c => ?_)
 cases h
 exact wp_ret (br (tr (Rt c () [] [])))
 refine S0 (P0 [] c fun _ c => Mp (p0.Op == 9) [(74, .bool (p0.Op == 9))] [(74, .bool (p0.Op == 11))] [(74, .bool ((p0.Op == 9) || (p0.Op == 11)))] [74, 76] c fun _ c => I0 c h (fun h => ?_) fun h => ?_)
 refine S0 (Ry [(1, 0)] mix c fun _ _ c => ?_)
 cases h
 exact wp_ret (br (tr (Rt c () [] [])))
 refine P0 [] c fun _ c => I0 c h (fun h => ?_) fun h => ?_
 refine Bd h fun x9 hx9 h => S0 (rZ [(2, .eq (.bool x9))] [(1, 0)] mix c ⟨Ncl c (kN (impl_isReg_ok hx9)) tt Tryz.call162, tt⟩ fun _ _ c => ?_)
 cases h
 exact wp_ret (br (tr (Rt c () [] [])))
 refine S0 (P0 [] c fun _ c => Mp (p0.Op == 12) [(91, .bool (p0.Op == 12))] [(91, .bool (p0.Op == 14))] [(91, .bool ((p0.Op == 12) || (p0.Op == 14)))] [91, 93] c fun _ c => I0 c h (fun h => ?_) fun h => ?_)
 refine S0 (Ry [(1, 0), (5, 0)] mix c fun _ _ c => ?_)
 cases h
 exact wp_ret (br (tr (Rt c () [] [])))
 refine K1 (bk (tn (P0 [] c fun _ c => ?_)))
 obtain rfl := sj h
 exact wp_ret (Rt c () [] [])

theorem impl_ProgramOk_ok {n p0 ga0 gc1 r} (h : impl_ProgramOk n p0 = some r) : Con Tryz.prog 63 [gV p0 ga0 gc1] [] [lR ga0 p0.Code gc1] fun (_ : Unit) => ([.bool r], [], []) := by
 unfold impl_ProgramOk at h
 refine En Tryz.func63 rfl Tryz.ntmps63 fun _ fr w c => ?_
 refine T0 (Ebx (gC p0 ga0 gc1) c fun b1 _ _ c => ?_)
 refine Fp [] 1 c fun _ c => E0 (S0 (Bd h fun x1 hx1 h => Bd h fun x2 hx2 h => S0 (rZ [(5, .eq (.bool x1)), (22, .eq (.bool x2))] [(1, 0), (3, 0), (9, 0), (14, 0), (19, 0), (21, 0)] mix c ⟨Ncl c (kN (impl_shapeOk_ok hx1)) tt Tryz.call110, Ncl c (fun hg => impl_WordOk_ok (iteF (gcF hg) hx2)) tt Tryz.call111, tt⟩ fun _ _ c => I0 c h (fun h => ?_) fun h => ?_)))
 refine P0 [] c fun _ c => ?_
 obtain rfl := sj h
 exact wp_ret (tr (Rt c () [] []))
 refine K0 (S0 (S0 (Ry [(1, 0), (5, 0)] mix c fun _ _ c => I0 c h (fun h => ?_) fun h => ?_)))
 refine P0 [] c fun _ c => ?_
 obtain rfl := sj h
 exact wp_ret (tr (Rt c () [] []))
 refine K0 (S0 (P0 [(1, 0)] c fun _ c => Bd h fun rl1 hit1 h => ?_))
 have hk1 := h
 refine LpR (fun s1  (_ : Unit) => ([(1, B b1 0), (39, L ga0 p0.Code gc1), (40, I (len p0.Code)), (41, I s1)], id, [])) (fun s  (_ : Unit) => ([], id, [])) hit1 c () (c.rk [0] [0]) (fun s1 q1 _ _ _ c h hr1 => ?_) fun s1r _ _ _ hrl c => ?_
 refine P0 [] c fun _ c => S0 (I0 c h (fun h => ?_) fun h => ?_)
 refine K0 (S0 (wp_block (T0 (Bd h fun x3 hx3 h => Eel c (.f 0) hx3 fun _ _ c => ?_))))
 refine Eal [I 0, I 0, I 0, I 0] c fun b2 _ _ c => ?_
 refine Ess 1 (nC x3) c fun _ c => ?_
 refine E0 (T0 (Fp [(0, 1), (2, 0), (4, 0)] 6 c fun _ c => Bd h fun x4 hx4 h => Cb c (impl_insOk_ok hx4) tt Tryz.call112 fun _ _ _ c => ?_))
 refine Fp [] 1 c fun _ c => E0 (I0 c h (fun h => ?_) fun h => ?_)
 refine P0 [] c fun _ c => ?_
 obtain rfl := hr1 _ (sk h)
 obtain rfl := sj hk1
 exact wp_ret (br (tr (tr (br (tr (Rt c () [] []))))))
 refine K1 (bk (tn (P1 [] c fun _ c => Nx h () (c.rk [0] [0]))))
 refine wp_exit (te (te (be ?_)))
 obtain rfl := hr1 _ (sk h)
 exact tn ⟨_, (), rfl, c.rk [0] [0]⟩
 subst hrl
 refine P0 [] c fun _ c => ?_
 obtain rfl := sj h
 exact wp_ret (Rt c () [] [])

theorem impl_isPlace_ok {p0 p1 ga0 gc1 r} (h : impl_isPlace p0 p1 = some r) : Con Tryz.prog 113 [gV p0 ga0 gc1, I p1] [] [lR ga0 p0.Code gc1] fun (_ : Unit) => ([.bool r], [], []) := by
 unfold impl_isPlace at h
 refine En Tryz.func113 rfl Tryz.ntmps113 fun _ fr w c => ?_
 refine T0 (Ebx (gC p0 ga0 gc1) c fun b1 _ _ c => ?_)
 refine Fp [] 1 c fun _ c => E0 (S0 (Ry [(5, 0)] mix c fun _ _ c => ?_))
 cases h
 exact wp_ret (Rt c () [] [])

theorem impl_fuelOk_ok {p0 r} (h : impl_fuelOk p0 = some r) : Con Tryz.prog 114 [I p0] [] [] fun (_ : Unit) => ([.bool r], [], []) := by
 unfold impl_fuelOk at h
 refine En Tryz.func114 rfl Tryz.ntmps114 fun _ fr w c => ?_
 refine P0 [] c fun _ c => S0 (Ry [] mix c fun _ _ c => ?_)
 cases h
 exact wp_ret (Rt c () [] [])

theorem impl_turnsOk_ok {n p0 ga0 gc1 r} (h : impl_turnsOk n p0 = some r) : Con Tryz.prog 115 [L ga0 p0 gc1] [] [lR ga0 p0 gc1] fun (_ : Unit) => ([.bool r], [], []) := by
 unfold impl_turnsOk at h
 refine En Tryz.func115 rfl Tryz.ntmps115 fun _ fr w c => ?_
 refine P0 [] c fun _ c => S0 (P0 [] c fun _ c => Bd h fun rl1 hit1 h => ?_)
 have hk1 := h
 refine LpR (fun s1  (_ : Unit) => ([(5, L ga0 p0 gc1), (6, I (len p0)), (7, I s1)], id, [])) (fun s  (_ : Unit) => ([], id, [])) hit1 c () (c.rk [] [0]) (fun s1 q1 _ _ _ c h hr1 => ?_) fun s1r _ _ _ hrl c => ?_
 refine P0 [] c fun _ c => S0 (I0 c h (fun h => ?_) fun h => ?_)
 refine K0 (S0 (wp_block (T0 (Bd h fun x1 hx1 h => Eel c (.f 0) hx1 fun _ _ c => ?_))))
 refine Fp [] 1 c fun _ c => E0 (S0 (Ry [] mix c fun _ _ c => I0 c h (fun h => ?_) fun h => ?_))
 refine P0 [] c fun _ c => ?_
 obtain rfl := hr1 _ (sk h)
 obtain rfl := sj hk1
 exact wp_ret (br (tr (tr (br (tr (Rt c () [] []))))))
 refine K1 (bk (tn (P1 [] c fun _ c => Nx h () (c.rk [] [0]))))
 refine wp_exit (te (te (be ?_)))
 obtain rfl := hr1 _ (sk h)
 exact tn ⟨_, (), rfl, c.rk [] [0]⟩
 subst hrl
 refine P0 [] c fun _ c => ?_
 obtain rfl := sj h
 exact wp_ret (Rt c () [] [])

theorem impl_kidCount_ok {p0 r} (h : impl_kidCount p0 = some r) : Con Tryz.prog 141 [I p0] [] [] fun (_ : Unit) => ([I r], [], []) := by
 unfold impl_kidCount at h
 refine En Tryz.func141 rfl Tryz.ntmps141 fun _ fr w c => ?_
 refine P0 [] c fun _ c => S0 (wp_block (S0 (Ry [] mix c fun _ _ c => I0 c h (fun h => ?_) fun h => ?_)))
 refine P0 [] c fun _ c => ?_
 obtain rfl := sj h
 exact wp_ret (br (tr (Rt c () [] [])))
 refine S0 (Ry [] mix c fun _ _ c => I0 c h (fun h => ?_) fun h => ?_)
 refine P0 [] c fun _ c => ?_
 obtain rfl := sj h
 exact wp_ret (br (tr (Rt c () [] [])))
 refine S0 (Ry [] mix c fun _ _ c => I0 c h (fun h => ?_) fun h => ?_)
 refine P0 [] c fun _ c => ?_
 obtain rfl := sj h
 exact wp_ret (br (tr (Rt c () [] [])))
 refine P0 [] c fun _ c => I0 c h (fun h => ?_) fun h => ?_
 refine P0 [] c fun _ c => ?_
 obtain rfl := sj h
 exact wp_ret (br (tr (Rt c () [] [])))
 refine K1 (bk (tn (P0 [] c fun _ c => ?_)))
 cases h
 exact wp_ret (Rt c () [] [])

theorem impl_widthsFit_ok {p0 ga0 gc1 r} (h : impl_widthsFit p0 = some r) : Con Tryz.prog 142 [tV p0 ga0 gc1] [] [lR ga0 p0.Kids gc1] fun (_ : Unit) => ([.bool r], [], []) := by
 unfold impl_widthsFit at h
 refine En Tryz.func142 rfl Tryz.ntmps142 fun _ fr w c => ?_
 refine T0 (Ebx (tC p0 ga0 gc1) c fun b1 _ _ c => ?_)
 refine Fp [] 1 c fun _ c => E0 (P0 [(1, 0)] c fun _ c => S0 (wp_block (S0 (Ry [(1, 0), (5, 0)] mix c fun _ _ c => I0 c h (fun h => ?_) fun h => ?_))))
 refine P0 [] c fun _ c => ?_
 obtain rfl := sj h
 exact wp_ret (br (tr (Rt c () [] [])))
 refine S0 (Ry [(1, 0), (5, 0)] mix c fun _ _ c => I0 c h (fun h => ?_) fun h => ?_)
 refine Bd h fun x1 hx1 h => ?_
 obtain ⟨ep1, u1, c⟩ := c.elp (.f 0) hx1
 obtain ⟨a1, c1, rfl, c⟩ := c.o_Term 2
 refine S0 (rZ [(1, .eq (.pointer (some ep1))), (3, .eq (I x1.W))] [(5, 0)] mix c ⟨Nie c 1, Nlc c 1 1, tt⟩ fun _ _ c => ?_)
 cases h
 exact wp_ret (br (tr (Rt c () [] [])))
 refine S0 (Ry [(1, 0), (5, 0)] mix c fun _ _ c => I0 c h (fun h => ?_) fun h => ?_)
 refine Bd h fun x2 hx2 h => ?_
 obtain ⟨ep2, u2, c⟩ := c.elp (.f 0) hx2
 obtain ⟨a2, c2, rfl, c⟩ := c.o_Term 2
 refine Bd h fun x3 hx3 h => S0 (rZ [(1, .eq (.pointer (some ep2))), (3, .eq (I x2.W)), (9, Pd.el (x3 : D.Term)), (10, Pd.fl (I x3.W)), (11, .eq (I x3.W))] [(5, 0), (13, 0)] mix c ⟨Nie c 1, Nlc c 1 1, Nid c (.f 0) (gT hx3), Nfa c 9 (atN 9) fc34_1, Nlf c 10 (atN 10), tt⟩ fun _ _ c => ?_)
 cases h
 exact wp_ret (br (tr (Rt c () [] [])))
 refine S0 (Ry [(1, 0), (5, 0)] mix c fun _ _ c => I0 c h (fun h => ?_) fun h => ?_)
 refine Bd h fun x4 hx4 h => ?_
 obtain ⟨ep3, u3, c⟩ := c.elp (.f 0) hx4
 obtain ⟨a3, c3, rfl, c⟩ := c.o_Term 2
 refine Bd h fun x5 hx5 h => ?_
 obtain ⟨ep4, u4, c⟩ := c.elp (.f 0) hx5
 obtain ⟨a4, c4, rfl, c⟩ := c.o_Term 5
 refine S0 (rZ [(1, .eq (.pointer (some ep3))), (3, .eq (I x4.W)), (5, .eq (.pointer (some ep4))), (7, .eq (I x5.W))] [(11, 0)] mix c ⟨Nie c 1, Nlc c 1 1, Nie c 4, Nlc c 4 1, tt⟩ fun _ _ c => ?_)
 cases h
 exact wp_ret (br (tr (Rt c () [] [])))
 refine P0 [(1, 0)] c fun _ c => I0 c h (fun h => ?_) fun h => ?_
 refine Bd h fun x6 hx6 h => ?_
 obtain ⟨ep5, u5, c⟩ := c.elp (.f 0) hx6
 obtain ⟨a5, c5, rfl, c⟩ := c.o_Term 2
 refine Bd h fun x7 hx7 h => Bd h fun x8 hx8 h => S0 (rZ [(1, .eq (.pointer (some ep5))), (3, .eq (I x6.W)), (7, Pd.el (x7 : D.Term)), (8, Pd.fl (I x7.W)), (9, .eq (I x7.W)), (16, Pd.el (x8 : D.Term)), (17, Pd.fl (I x8.W)), (18, .eq (I x8.W))] [(11, 0), (20, 0)] mix c ⟨Nie c 1, Nlc c 1 1, Nid c (.f 0) (gT hx7), Nfa c 7 (atN 7) fc34_1, Nlf c 8 (atN 8), Nid c (.f 0) (gT hx8), Nfa c 16 (atN 16) fc34_1, Nlf c 17 (atN 17), tt⟩ fun _ _ c => ?_)
 cases h
 exact wp_ret (br (tr (Rt c () [] [])))
 refine P0 [(1, 0)] c fun _ c => I0 c h (fun h => ?_) fun h => ?_
 refine Bd h fun x9 hx9 h => ?_
 obtain ⟨ep6, u6, c⟩ := c.elp (.f 0) hx9
 obtain ⟨a6, c6, rfl, c⟩ := c.o_Term 2
 refine Bd h fun x10 hx10 h => ?_
 obtain ⟨ep7, u7, c⟩ := c.elp (.f 0) hx10
 obtain ⟨a7, c7, rfl, c⟩ := c.o_Term 5
 refine S0 (rZ [(1, .eq (.pointer (some ep6))), (3, .eq (I x9.W)), (5, .eq (.pointer (some ep7))), (7, .eq (I x10.W))] [(10, 0)] mix c ⟨Nie c 1, Nlc c 1 1, Nie c 4, Nlc c 4 1, tt⟩ fun _ _ c => ?_)
 cases h
 exact wp_ret (br (tr (Rt c () [] [])))
 refine P0 [(1, 0)] c fun _ c => I0 c h (fun h => ?_) fun h => ?_
 refine Bd h fun x11 hx11 h => S0 (rZ [(7, Pd.el (x11 : D.Term)), (8, Pd.fl (I x11.W)), (9, .eq (I x11.W))] [(1, 0), (5, 0), (11, 0)] mix c ⟨Nid c (.f 0) (gT hx11), Nfa c 7 (atN 7) fc34_1, Nlf c 8 (atN 8), tt⟩ fun _ _ c => ?_)
 cases h
 exact wp_ret (br (tr (Rt c () [] [])))
 refine K1 (bk (tn (Bd h fun x12 hx12 h => ?_)))
 obtain ⟨ep8, u8, c⟩ := c.elp (.f 0) hx12
 obtain ⟨a8, c8, rfl, c⟩ := c.o_Term 2
 refine S0 (rZ [(1, .eq (.pointer (some ep8))), (3, .eq (I x12.W))] [(5, 0)] mix c ⟨Nie c 1, Nlc c 1 1, tt⟩ fun _ _ c => ?_)
 cases h
 exact wp_ret (Rt c () [] [])

theorem impl_IsName_ok {n p0 r} (h : impl_IsName n p0 = some r) : Con Tryz.prog 176 [Str.val p0] [] [] fun (_ : Unit) => ([.bool r], [], []) := by
 unfold impl_IsName at h
 refine En Tryz.func176 rfl Tryz.ntmps176 fun _ fr w c => ?_
 refine P0 [] c fun _ c => S0 (S0 (Ry [] mix c fun _ _ c => I0 c h (fun h => ?_) fun h => ?_))
 refine P0 [] c fun _ c => ?_
 obtain rfl := sj h
 exact wp_ret (tr (Rt c () [] []))
 refine K0 (S0 (P0 [] c fun _ c => Bd h fun rl1 hit1 h => ?_))
 have hk1 := h
 refine LpR (fun s1  (_ : Unit) => ([(0, Str.val p0), (3, I s1)], id, [])) (fun s  (_ : Unit) => ([], id, [])) hit1 c () (c.rk [] []) (fun s1 q1 _ _ _ c h hr1 => ?_) fun s1r _ _ _ hrl c => ?_
 refine S0 (P0 [] c fun _ c => I0 c h (fun h => ?_) fun h => ?_)
 refine K0 (S0 (wp_block (Bd h fun x1 hx1 h => Bd h fun x2 hx2 h => S0 (rZ [(2, .eq (.int .u8 x1)), (7, .eq (.int .u8 x2))] [] mix c ⟨Nix c (kN hx1), Nix c (gT hx2), tt⟩ fun _ _ c => Bd h fun x3 hx3 h => Bd h fun x4 hx4 h => S0 (rZ [(2, .eq (.int .u8 x3)), (7, .eq (.int .u8 x4))] [] mix c ⟨Nix c (kN hx3), Nix c (gT hx4), tt⟩ fun _ _ c => S0 (Ry [] mix c fun _ _ c => I0 c h (fun h => ?_) fun h => ?_))))))
 refine P0 [] c fun _ c => ?_
 obtain rfl := hr1 _ (sk h)
 obtain rfl := sj hk1
 exact wp_ret (br (tr (tr (br (tr (Rt c () [] []))))))
 refine K1 (bk (tn (P1 [] c fun _ c => Nx h () (c.rk [] []))))
 refine wp_exit (te (te (be ?_)))
 obtain rfl := hr1 _ (sk h)
 exact tn ⟨_, (), rfl, c.rk [] []⟩
 subst hrl
 refine P0 [] c fun _ c => ?_
 obtain rfl := sj h
 exact wp_ret (Rt c () [] [])

theorem impl_termCheck_variable_ok {n p0 p1 gb0 gu1 ga2 gc3 r} (h : impl_termCheck_variable n p0 p1 = some r) : Con Tryz.prog 143 [B gb0 0, tV p1 ga2 gc3] [BX gb0 128 [I p0.count, gu1], OM map126 (gu1) p0.widths] [lR ga2 p1.Kids gc3] fun (i : Value) => ([.bool r.1], [BX gb0 128 [I r.2.count, i], OM map126 (i) r.2.widths], []) := by
 unfold impl_termCheck_variable at h
 refine En Tryz.func143 rfl Tryz.ntmps143 fun _ fr w c => ?_
 refine T0 (Ebx (tC p1 ga2 gc3) c fun b1 _ _ c => ?_)
 refine Fp [] 1 c fun _ c => E0 (S0 (T0 (Fp [(1, 1)] 2 c fun _ c => Bd h fun x1 hx1 h => Cb c (impl_IsName_ok hx1) tt Tryz.call176 fun _ _ _ c => ?_)))
 refine Fp [] 1 c fun _ c => E0 (I0 c h (fun h => ?_) fun h => ?_)
 refine P0 [] c fun _ c => ?_
 cases h
 exact wp_ret (tr (Rt c (gu1) [0, 1] []))
 refine K0 (S0 (T0 (Fp [(3, 0)] 4 c fun _ c => Enm 1 c fun _ c => ?_)))
 refine E0 (If c (b := (Option.isNone p0.widths)) (fun hb => ?_) fun hb => ?_)
 replace h := iteT hb h
 obtain rfl := c.nom 1 hb
 replace c := c.dp [1]
 refine T1 (Fp [] 1 c fun _ c => Emm map126 c fun b2 _ _ c => ?_)
 refine Fp [] 2 c fun _ c => Esb 0 1 (.map (some b2)) c fun _ c => ?_
 refine E0 (S0 (Bd h fun x2 hx2 h => S0 (rZ [(6, .eq (.tuple #[I x2.1, .bool x2.2]))] [(3, 0), (5, 1)] mix c ⟨Nmg2 2 c (kN hx2), tt⟩ fun _ _ c => P0 [] c fun _ c => I0 c h (fun h => ?_) fun h => ?_)))
 refine P0 [(2, 1)] c fun _ c => ?_
 replace c := c.om 2
 cases h
 exact wp_ret (tr (Rt c (.map (some b2)) [0, 2] []))
 refine K0 (S0 (wp_ra mix (rM 8 [] [(3, 0), (5, 1), (7, 1)] c (fun ow => tt) fun _ _ _ _ _ c => Bd h fun x3 hx3 h => Emp 2 c hx3 fun _ c => ?_)))
 refine E0 (P0 [] c fun _ c => ?_)
 replace c := c.om 2
 cases h
 exact wp_ret (Rt c (.map (some b2)) [0, 2] [])
 replace h := iteF hb h
 obtain ⟨b3, rfl, c⟩ := c.som 1 hb
 refine K0 (S0 (Bd h fun x4 hx4 h => S0 (rZ [(6, .eq (.tuple #[I x4.1, .bool x4.2]))] [(3, 0), (5, 1)] mix c ⟨Nmg2 1 c (kN hx4), tt⟩ fun _ _ c => P0 [] c fun _ c => I0 c h (fun h => ?_) fun h => ?_)))
 refine P0 [(2, 1)] c fun _ c => ?_
 replace c := c.om 1
 cases h
 exact wp_ret (tr (Rt c (.map (some b3)) [0, 1] []))
 refine K0 (S0 (wp_ra mix (rM 8 [] [(3, 0), (5, 1), (7, 1)] c (fun ow => tt) fun _ _ _ _ _ c => Bd h fun x5 hx5 h => Emp 1 c hx5 fun _ c => ?_)))
 refine E0 (P0 [] c fun _ c => ?_)
 replace c := c.om 1
 cases h
 exact wp_ret (Rt c (.map (some b3)) [0, 1] [])

theorem impl_termCheck_node_ok {n : Nat} : ∀ {p0 p1 gb0 gu1 ga2 gc3 r} (h : impl_termCheck_node n p0 p1 = some r), Con Tryz.prog 91 [B gb0 0, tV p1 ga2 gc3] [BX gb0 128 [I p0.count, gu1], OM map126 (gu1) p0.widths] [lR ga2 p1.Kids gc3] fun (i : Value) => ([.bool r.1], [BX gb0 128 [I r.2.count, i], OM map126 (i) r.2.widths], []) := by
 induction n with
 | zero => intro p0 p1 gb0 gu1 ga2 gc3 r h; simp [impl_termCheck_node] at h
 | succ n ih =>
 intro p0 p1 gb0 gu1 ga2 gc3 r h
 rw [impl_termCheck_node] at h
 refine En Tryz.func91 rfl Tryz.ntmps91 fun _ fr w c => ?_
 refine T0 (Ebx (tC p1 ga2 gc3) c fun b1 _ _ c => ?_)
 refine Fp [] 1 c fun _ c => E0 (T0 (Fp [(3, 0)] 7 c fun _ c => Esb 0 0 (I (w64 (p0.count + 1))) c fun _ c => ?_))
 refine E0 (S0 (Bd h fun x1 hx1 h => Bd h fun x2 hx2 h => S0 (rZ [(8, .eq (.bool x1)), (17, .eq (I x2))] [(3, 0), (7, 1), (13, 1), (16, 1)] mix c ⟨Ncl c (fun hg => impl_isWidth_ok (iteF (gcF hg) hx1)) tt Tryz.call140, Ncl c (fun hg => impl_kidCount_ok (iteF (gcF hg) hx2)) tt Tryz.call141, tt⟩ fun _ _ c => I0 c h (fun h => ?_) fun h => ?_)))
 refine P0 [] c fun _ c => ?_
 cases h
 exact wp_ret (tr (Rt c (gu1) [0, 1] []))
 refine K0 (S0 (P0 [(1, 1)] c fun _ c => Bd h fun rl1 hit1 h => ?_))
 have hk1 := h
 refine LpR (fun s1  (_ : Unit) => ([(0, B gb0 0), (3, B b1 0), (36, I (len p1.Kids)), (37, I s1)], id, [])) (fun s  (_ : Unit) => ([(0, B gb0 0), (3, B b1 0)], id, [])) hit1 c () (c.rk [0, 1, 2] [0]) (fun s1 q1 _ _ _ c h hr1 => ?_) fun s1r _ _ _ hrl c => ?_
 refine P0 [] c fun _ c => S0 (I0 c h (fun h => ?_) fun h => ?_)
 refine K0 (S0 (wp_block (P0 [] c fun _ c => T0 (Fp [(1, 1)] 3 c fun _ c => Bd h fun x3 hx3 h => Eef c (.f 0) hx3 fc34_1 fun _ _ _ c => ?_))))
 refine Bd h fun x4 hx4 h => Cb c (impl_isWidth_ok hx4) tt Tryz.call140 fun _ _ _ c => ?_
 refine Fp [] 1 c fun _ c => E0 (I0 c h (fun h => ?_) fun h => ?_)
 refine P0 [] c fun _ c => ?_
 obtain rfl := hr1 _ (sk h)
 obtain rfl := sj hk1
 exact wp_ret (br (tr (tr (br (tr (Rt c (gu1) [0, 1] []))))))
 refine K1 (bk (tn (P1 [] c fun _ c => Nx h () (c.rk [0, 1, 2] [0]))))
 refine wp_exit (te (te (be ?_)))
 obtain rfl := hr1 _ (sk h)
 exact tn ⟨_, (), rfl, c.rk [0, 1, 2] [0]⟩
 subst hrl
 refine S0 (T0 (Fp [(0, 1)] 1 c fun _ c => Bd h fun x5 hx5 h => Cb c (impl_widthsFit_ok hx5) ⟨.f 0, tt⟩ Tryz.call142 fun _ _ _ c => ?_))
 refine Fp [] 1 c fun _ c => E0 (I0 c h (fun h => ?_) fun h => ?_)
 refine P0 [] c fun _ c => ?_
 cases h
 exact wp_ret (tr (Rt c (gu1) [0, 1] []))
 refine K0 (S0 (Bd h fun x6 hx6 h => S0 (rZ [(8, .eq (.bool x6))] [(1, 1), (5, 1), (7, 1)] mix c ⟨Ncl c (fun hg => impl_WordOk_ok (iteT (gcT hg) hx6)) tt Tryz.call111, tt⟩ fun _ _ c => I0 c h (fun h => ?_) fun h => ?_)))
 refine P0 [] c fun _ c => ?_
 cases h
 exact wp_ret (tr (Rt c (gu1) [0, 1] []))
 refine K0 (S0 (S0 (Ry [(1, 1), (5, 1), (10, 1)] mix c fun _ _ c => I0 c h (fun h => ?_) fun h => ?_)))
 refine P0 [] c fun _ c => ?_
 cases h
 exact wp_ret (tr (Rt c (gu1) [0, 1] []))
 refine K0 (S0 (P0 [(1, 1)] c fun _ c => I0 c h (fun h => ?_) fun h => ?_))
 refine P0 [(1, 1)] c fun _ c => I0 c h (fun h => ?_) fun h => ?_
 refine P0 [] c fun _ c => ?_
 cases h
 exact wp_ret (tr (Rt c (gu1) [0, 1] []))
 refine K0 (S0 (P0 [(1, 1)] c fun _ c => Bd h fun rl2 hit2 h => ?_))
 have hk2 := h
 refine LpR (fun s2  (i : Value) => ([(0, B gb0 0), (3, B b1 0), (88, I (len p1.Kids)), (89, I s2.1)], fun Γ => (Γ.set 0 (BX gb0 128 [I s2.2.1, i])).set 1 (OM map126 (i) s2.2.2), [])) (fun s  (i : Value) => ([], fun Γ => (Γ.set 0 (BX gb0 128 [I s.1, i])).set 1 (OM map126 (i) s.2), [])) hit2 c (gu1) (c.rk [0, 1, 2] [0]) (fun s2 q2 i1 _ _ c h hr2 => ?_) fun s2r k1 _ _ hrl c => ?_
 refine P0 [] c fun _ c => S0 (I0 c h (fun h => ?_) fun h => ?_)
 refine K0 (S0 (wp_block (P0 [] c fun _ c => T0 (Fp [(2, 1)] 4 c fun _ c => Bd h fun x7 hx7 h => Eem c (.f 0) hx7 fun _ u1 _ c => ?_))))
 obtain ⟨a1, c1, rfl, c⟩ := c.o_Term 1
 refine Bd h fun x8 hx8 h => Ca [0, 1] c (ih hx8) ⟨.f 2, tt⟩ Tryz.call91 fun i2 _ _ c => ?_
 refine Fp [] 1 c fun _ c => E0 (I0 c h (fun h => ?_) fun h => ?_)
 refine P0 [] c fun _ c => ?_
 obtain rfl := hr2 _ (sk h)
 obtain rfl := sj hk2
 exact wp_ret (br (tr (tr (br (tr (Rt c (i2) [1, 2] []))))))
 refine K1 (bk (tn (P1 [] c fun _ c => Nx h (i2) (c.rk [1, 2, 0] [0]))))
 refine wp_exit (te (te (be ?_)))
 obtain rfl := hr2 _ (sk h)
 exact tn ⟨_, (i1), rfl, c.rk [0, 1, 2] [0]⟩
 subst hrl
 refine P0 [] c fun _ c => ?_
 cases h
 exact wp_ret (Rt c (k1) [0, 1] [])
 refine T0 (Fp [(1, 1)] 2 c fun _ c => Bd h fun x9 hx9 h => Ca [0, 1] c (impl_termCheck_variable_ok hx9) ⟨.f 0, tt⟩ Tryz.call143 fun i3 _ _ c => ?_)
 refine Fp [] 1 c fun _ c => E0 (I0 c h (fun h => ?_) fun h => ?_)
 refine P0 [] c fun _ c => ?_
 cases h
 exact wp_ret (tr (Rt c (i3) [1, 2] []))
 refine K0 (S0 (P0 [(1, 0)] c fun _ c => Bd h fun rl3 hit3 h => ?_))
 have hk3 := h
 refine LpR (fun s3  (i : Value) => ([(0, B gb0 0), (3, B b1 0), (88, I (len p1.Kids)), (89, I s3.1)], fun Γ => (Γ.set 1 (BX gb0 128 [I s3.2.1, i])).set 2 (OM map126 (i) s3.2.2), [])) (fun s  (i : Value) => ([], fun Γ => (Γ.set 1 (BX gb0 128 [I s.1, i])).set 2 (OM map126 (i) s.2), [])) hit3 c (i3) (c.rk [0, 1, 2] [0]) (fun s3 q3 i4 _ _ c h hr3 => ?_) fun s3r k2 _ _ hrl c => ?_
 refine P0 [] c fun _ c => S0 (I0 c h (fun h => ?_) fun h => ?_)
 refine K0 (S0 (wp_block (P0 [] c fun _ c => T0 (Fp [(2, 0)] 4 c fun _ c => Bd h fun x10 hx10 h => Eem c (.f 0) hx10 fun _ u2 _ c => ?_))))
 obtain ⟨a2, c2, rfl, c⟩ := c.o_Term 1
 replace c := c.gm [BX b1 34 (tC p1 ga2 gc3), BX gb0 128 [I s3.2.1, i4], OM map126 (i4) s3.2.2]
 refine Bd h fun x11 hx11 h => Ca [1, 2] c (ih hx11) ⟨.f 2, tt⟩ Tryz.call91 fun i5 _ _ c => ?_
 refine Fp [] 1 c fun _ c => E0 (I0 c h (fun h => ?_) fun h => ?_)
 refine P0 [] c fun _ c => ?_
 obtain rfl := hr3 _ (sk h)
 obtain rfl := sj hk3
 exact wp_ret (br (tr (tr (br (tr (Rt c (i5) [1, 2] []))))))
 refine K1 (bk (tn (P1 [] c fun _ c => Nx h (i5) (c.rk [0, 1, 2] [0]))))
 refine wp_exit (te (te (be ?_)))
 obtain rfl := hr3 _ (sk h)
 exact tn ⟨_, (i4), rfl, c.rk [0, 1, 2] [0]⟩
 subst hrl
 refine P0 [] c fun _ c => ?_
 cases h
 exact wp_ret (Rt c (k2) [1, 2] [])

theorem impl_TermOk_ok {n p0 ga0 gc1 r} (h : impl_TermOk n p0 = some r) : Con Tryz.prog 43 [tV p0 ga0 gc1] [] [lR ga0 p0.Kids gc1] fun (_ : Unit) => ([.bool r], [], []) := by
 unfold impl_TermOk at h
 refine En Tryz.func43 rfl Tryz.ntmps43 fun _ fr w c => ?_
 refine T0 (Ebx (tC p0 ga0 gc1) c fun b1 _ _ c => ?_)
 refine Fp [] 1 c fun _ c => E0 (T0 (Eal [I 0, .map none] c fun b2 _ _ c => ?_))
 refine E0 (T0 (Fp [(0, 0)] 1 c fun _ c => ?_))
 replace c := c.nilm map126
 refine Bd h fun x1 hx1 h => Ca [1, 2] c (impl_termCheck_node_ok hx1) ⟨.f 0, tt⟩ Tryz.call91 fun i1 _ _ c => ?_
 refine Fp [] 1 c fun _ c => E0 ?_
 cases h
 exact wp_ret (Rt c () [] [])

theorem impl_termsOk_ok {n p0 p1 ga0 gc1 r} (h : impl_termsOk n p0 p1 = some r) : Con Tryz.prog 116 [I p0, L ga0 p1 gc1] [] [lR ga0 p1 gc1] fun (_ : Unit) => ([.bool r], [], []) := by
 unfold impl_termsOk at h
 refine En Tryz.func116 rfl Tryz.ntmps116 fun _ fr w c => ?_
 refine P0 [] c fun _ c => S0 (P0 [] c fun _ c => Bd h fun rl1 hit1 h => ?_)
 have hk1 := h
 refine LpR (fun s1  (_ : Unit) => ([(0, I p0), (1, L ga0 p1 gc1), (7, I (len p1)), (8, I s1)], id, [])) (fun s  (_ : Unit) => ([], id, [])) hit1 c () (c.rk [] [0]) (fun s1 q1 _ _ _ c h hr1 => ?_) fun s1r _ _ _ hrl c => ?_
 refine P0 [] c fun _ c => S0 (I0 c h (fun h => ?_) fun h => ?_)
 refine K0 (S0 (wp_block (P0 [] c fun _ c => Bd h fun x1 hx1 h => ?_)))
 obtain ⟨ep1, u1, c⟩ := c.elp (.f 0) hx1
 obtain ⟨a1, c1, rfl, c⟩ := c.o_Term 2
 refine Bd h fun x2 hx2 h => Bd h fun x3 hx3 h => S0 (rZ [(2, .eq (.pointer (some ep1))), (4, .eq (I x1.W)), (10, Pd.el (x2 : D.Term)), (11, Pd.rd (x2 : D.Term)), (12, .eq (.bool x3))] [] mix c ⟨Nie c 1, Nlc c 1 1, Nid c (.f 0) (gF hx2), Nrd c 10 (atN 10), Ncd (Ψ := []) [.r 11 (fun v => RO v (x2 : D.Term))] c ⟨(atN 11), tt⟩ tt (fun hg _ _ ga gp => by obtain ⟨u1, _, rfl, g1, rfl⟩ := ga; obtain ⟨k1, rfl, f1⟩ := Opn.opn g1; exact ⟨_, f1, impl_TermOk_ok (iteF (gcF hg) hx3)⟩) Tryz.call43, tt⟩ fun _ _ c => I0 c h (fun h => ?_) fun h => ?_)
 refine P0 [] c fun _ c => ?_
 obtain rfl := hr1 _ (sk h)
 obtain rfl := sj hk1
 exact wp_ret (br (tr (tr (br (tr (Rt c () [] []))))))
 refine K1 (bk (tn (P1 [] c fun _ c => Nx h () (c.rk [] [0]))))
 refine wp_exit (te (te (be ?_)))
 obtain rfl := hr1 _ (sk h)
 exact tn ⟨_, (), rfl, c.rk [] [0]⟩
 subst hrl
 refine P0 [] c fun _ c => ?_
 obtain rfl := sj h
 exact wp_ret (Rt c () [] [])

theorem impl_PathOk_ok {n p0 p1 ga0 gc1 ga2 gc3 ga4 gc5 ga6 gc7 ga8 gc9 ga10 gc11 ga12 gc13 r} (h : impl_PathOk n p0 p1 = some r) : Con Tryz.prog 64 [gV p0 ga0 gc1, pV p1 ga2 gc3 ga4 gc5 ga6 gc7 ga8 gc9 ga10 gc11 ga12 gc13] [] [lR ga0 p0.Code gc1, lR ga2 p1.Regs gc3, lR ga4 p1.Mem gc5, lR ga6 p1.Stack gc7, lR ga8 p1.Out gc9, lR ga10 p1.Cond gc11, lR ga12 p1.Turns gc13] fun (_ : Unit) => ([.bool r], [], []) := by
 unfold impl_PathOk at h
 refine En Tryz.func64 rfl Tryz.ntmps64 fun _ fr w c => ?_
 refine T0 (Ebx (gC p0 ga0 gc1) c fun b1 _ _ c => ?_)
 refine Ebx (pC p1 ga2 gc3 ga4 gc5 ga6 gc7 ga8 gc9 ga10 gc11 ga12 gc13) c fun b2 _ _ c => ?_
 refine Fp [] 1 c fun _ c => E0 (S0 (Bd h fun x1 hx1 h => Bd h fun x2 hx2 h => S0 (rZ [(1, .eq (.bool x1)), (7, .eq (.bool x2))] [(0, 0), (4, 0), (6, 1), (12, 1), (18, 1), (21, 0)] mix c ⟨Ncl c (kN (impl_ProgramOk_ok hx1)) ⟨.f 0, tt⟩ Tryz.call63, Ncl c (fun hg => impl_isPlace_ok (iteF (gcF hg) hx2)) ⟨.f 0, tt⟩ Tryz.call113, tt⟩ fun _ _ c => I0 c h (fun h => ?_) fun h => ?_)))
 refine P0 [] c fun _ c => ?_
 obtain rfl := sj h
 exact wp_ret (tr (Rt c () [] []))
 refine K0 (S0 (S0 (Ry [(1, 1), (6, 1), (11, 1), (13, 0), (18, 1)] mix c fun _ _ c => I0 c h (fun h => ?_) fun h => ?_)))
 refine P0 [] c fun _ c => ?_
 obtain rfl := sj h
 exact wp_ret (tr (Rt c () [] []))
 refine K0 (S0 (P0 [(1, 1)] c fun _ c => Bd h fun rl1 hit1 h => ?_))
 have hk1 := h
 refine LpR (fun s1  (_ : Unit) => ([(2, B b1 0), (3, B b2 0), (54, L ga6 p1.Stack gc7), (55, I (len p1.Stack)), (56, I s1)], id, [])) (fun s  (_ : Unit) => ([(2, B b1 0), (3, B b2 0)], id, [])) hit1 c () (c.rk [0, 1] (rg 7)) (fun s1 q1 _ _ _ c h hr1 => ?_) fun s1r _ _ _ hrl c => ?_
 refine P0 [] c fun _ c => S0 (I0 c h (fun h => ?_) fun h => ?_)
 refine K0 (S0 (wp_block (T0 (Bd h fun x3 hx3 h => Eel c (.f 3) hx3 fun _ _ c => ?_))))
 refine Fp [] 1 c fun _ c => E0 (T0 (Fp [(0, 0)] 2 c fun _ c => Bd h fun x4 hx4 h => Cb c (impl_isPlace_ok hx4) ⟨.f 0, tt⟩ Tryz.call113 fun _ _ _ c => ?_))
 refine Fp [] 1 c fun _ c => E0 (I0 c h (fun h => ?_) fun h => ?_)
 refine P0 [] c fun _ c => ?_
 obtain rfl := hr1 _ (sk h)
 obtain rfl := sj hk1
 exact wp_ret (br (tr (tr (br (tr (Rt c () [] []))))))
 refine K1 (bk (tn (P1 [] c fun _ c => Nx h () (c.rk [0, 1] (rg 7)))))
 refine wp_exit (te (te (be ?_)))
 obtain rfl := hr1 _ (sk h)
 exact tn ⟨_, (), rfl, c.rk [0, 1] (rg 7)⟩
 subst hrl
 refine S0 (Bd h fun x5 hx5 h => S0 (rZ [(11, .eq (.bool x5))] [(1, 1), (5, 1), (10, 1)] mix c ⟨Ncl c (fun hg => impl_fuelOk_ok (iteF (gcF hg) hx5)) tt Tryz.call114, tt⟩ fun _ _ c => I0 c h (fun h => ?_) fun h => ?_))
 refine P0 [] c fun _ c => ?_
 obtain rfl := sj h
 exact wp_ret (tr (Rt c () [] []))
 refine K0 (S0 (Bd h fun x6 hx6 h => S0 (rZ [(13, .eq (.bool x6))] [(1, 1), (6, 1), (12, 1)] mix c ⟨Ncl c (fun hg => impl_turnsOk_ok (iteF (gcF hg) hx6)) ⟨.f 6, tt⟩ Tryz.call115, tt⟩ fun _ _ c => I0 c h (fun h => ?_) fun h => ?_)))
 refine P0 [] c fun _ c => ?_
 obtain rfl := sj h
 exact wp_ret (tr (Rt c () [] []))
 refine K0 (Bd h fun x7 hx7 h => Bd h fun x8 hx8 h => Bd h fun x9 hx9 h => Bd h fun x10 hx10 h => S0 (rZ [(4, .eq (.bool x7)), (10, .eq (.bool x8)), (17, .eq (.bool x9)), (22, .eq (.bool x10))] [(1, 0), (3, 1), (7, 0), (9, 1), (14, 0), (16, 1), (21, 1)] mix c ⟨Ncl c (kN (impl_termsOk_ok hx7)) ⟨.f 1, tt⟩ Tryz.call116, Ncl c (fun hg => impl_termsOk_ok (iteT (gcT hg) hx8)) ⟨.f 2, tt⟩ Tryz.call116, Ncl c (fun hg => impl_termsOk_ok (iteT (gcT hg) hx9)) ⟨.f 4, tt⟩ Tryz.call116, Ncl c (fun hg => impl_termsOk_ok (iteT (gcT hg) hx10)) ⟨.f 5, tt⟩ Tryz.call116, tt⟩ fun _ _ c => ?_))
 cases h
 exact wp_ret (Rt c () [] [])

theorem slices_Equal___int_int__ok {n p0 p1 ga0 gc1 ga2 gc3 r} (h : slices_Equal___int_int_ n p0 p1 = some r) : Con Tryz.prog 172 [L ga0 p0 gc1, L ga2 p1 gc3] [] [lR ga0 p0 gc1, lR ga2 p1 gc3] fun (_ : Unit) => ([.bool r], [], []) := by
 unfold slices_Equal___int_int_ at h
 refine En Tryz.func172 rfl Tryz.ntmps172 fun _ fr w c => ?_
 refine P0 [] c fun _ c => S0 (P0 [] c fun _ c => I0 c h (fun h => ?_) fun h => ?_)
 refine P0 [] c fun _ c => ?_
 obtain rfl := sj h
 exact wp_ret (tr (Rt c () [] []))
 refine K0 (S0 (P0 [] c fun _ c => Bd h fun rl1 hit1 h => ?_))
 have hk1 := h
 refine LpR (fun s1  (_ : Unit) => ([(0, L ga0 p0 gc1), (1, L ga2 p1 gc3), (12, I (len p0)), (13, I s1)], id, [])) (fun s  (_ : Unit) => ([], id, [])) hit1 c () (c.rk [] [0, 1]) (fun s1 q1 _ _ _ c h hr1 => ?_) fun s1r _ _ _ hrl c => ?_
 refine P0 [] c fun _ c => S0 (I0 c h (fun h => ?_) fun h => ?_)
 refine K0 (S0 (wp_block (P0 [] c fun _ c => Bd h fun x1 hx1 h => Bd h fun x2 hx2 h => S0 (rZ [(2, Pd.el (x1 : Int)), (3, .eq (I x1)), (6, Pd.el (x2 : Int)), (7, .eq (I x2))] [] mix c ⟨Nid c (.f 0) (kN hx1), Nld c 2 (q := x1) (atN 2), Nid c (.f 1) (kN hx2), Nld c 6 (q := x2) (atN 6), tt⟩ fun _ _ c => I0 c h (fun h => ?_) fun h => ?_))))
 refine P0 [] c fun _ c => ?_
 obtain rfl := hr1 _ (sk h)
 obtain rfl := sj hk1
 exact wp_ret (br (tr (tr (br (tr (Rt c () [] []))))))
 refine K1 (bk (tn (P1 [] c fun _ c => Nx h () (c.rk [] [0, 1]))))
 refine wp_exit (te (te (be ?_)))
 obtain rfl := hr1 _ (sk h)
 exact tn ⟨_, (), rfl, c.rk [] [0, 1]⟩
 subst hrl
 refine P0 [] c fun _ c => ?_
 obtain rfl := sj h
 exact wp_ret (Rt c () [] [])

theorem impl_sameShape_ok {n p0 p1 ga0 gc1 ga2 gc3 ga4 gc5 ga6 gc7 ga8 gc9 ga10 gc11 ga12 gc13 ga14 gc15 ga16 gc17 ga18 gc19 ga20 gc21 ga22 gc23 r} (h : impl_sameShape n p0 p1 = some r) : Con Tryz.prog 124 [pV p0 ga0 gc1 ga2 gc3 ga4 gc5 ga6 gc7 ga8 gc9 ga10 gc11, pV p1 ga12 gc13 ga14 gc15 ga16 gc17 ga18 gc19 ga20 gc21 ga22 gc23] [] [lR ga0 p0.Regs gc1, lR ga2 p0.Mem gc3, lR ga4 p0.Stack gc5, lR ga6 p0.Out gc7, lR ga8 p0.Cond gc9, lR ga10 p0.Turns gc11, lR ga12 p1.Regs gc13, lR ga14 p1.Mem gc15, lR ga16 p1.Stack gc17, lR ga18 p1.Out gc19, lR ga20 p1.Cond gc21, lR ga22 p1.Turns gc23] fun (_ : Unit) => ([.bool r], [], []) := by
 unfold impl_sameShape at h
 refine En Tryz.func124 rfl Tryz.ntmps124 fun _ fr w c => ?_
 refine T0 (Ebx (pC p0 ga0 gc1 ga2 gc3 ga4 gc5 ga6 gc7 ga8 gc9 ga10 gc11) c fun b1 _ _ c => ?_)
 refine Ebx (pC p1 ga12 gc13 ga14 gc15 ga16 gc17 ga18 gc19 ga20 gc21 ga22 gc23) c fun b2 _ _ c => ?_
 refine Fp [] 1 c fun _ c => E0 (Bd h fun x1 hx1 h => S0 (rZ [(10, .eq (.bool x1))] [(1, 0), (3, 1), (7, 0), (9, 1), (14, 0), (16, 1), (21, 0), (23, 1), (28, 0), (31, 1)] mix c ⟨Ncl c (fun hg => slices_Equal___int_int__ok (iteT (gcT hg) hx1)) ⟨.f 2, .f 8, tt⟩ Tryz.call172, tt⟩ fun _ _ c => ?_))
 cases h
 exact wp_ret (Rt c () [] [])

theorem cmp_isNaN_int__ok {p0 r} (h : cmp_isNaN_int_ p0 = some r) : Con Tryz.prog 223 [I p0] [] [] fun (_ : Unit) => ([.bool r], [], []) := by
 unfold cmp_isNaN_int_ at h
 refine En Tryz.func223 rfl Tryz.ntmps223 fun _ fr w c => ?_
 refine P0 [] c fun _ c => P0 [] c fun _ c => ?_
 cases h
 exact wp_ret (Rt c () [] [])

theorem cmp_Compare_int__ok {p0 p1 r} (h : cmp_Compare_int_ p0 p1 = some r) : Con Tryz.prog 219 [I p0, I p1] [] [] fun (_ : Unit) => ([I r], [], []) := by
 unfold cmp_Compare_int_ at h
 refine En Tryz.func219 rfl Tryz.ntmps219 fun _ fr w c => ?_
 refine P0 [] c fun _ c => T0 (Fp [] 1 c fun _ c => Bd h fun x1 hx1 h => Cb c (cmp_isNaN_int__ok hx1) tt Tryz.call223 fun _ _ _ c => ?_)
 refine Fp [] 1 c fun _ c => E0 (T0 (Fp [] 1 c fun _ c => Bd h fun x2 hx2 h => Cb c (cmp_isNaN_int__ok hx2) tt Tryz.call223 fun _ _ _ c => ?_))
 refine Fp [] 1 c fun _ c => E0 (S0 (P0 [] c fun _ c => I0 c h (fun h => ?_) fun h => ?_))
 refine S0 (P0 [] c fun _ c => I0 c h (fun h => ?_) fun h => ?_)
 refine P0 [] c fun _ c => ?_
 obtain rfl := sj h
 exact wp_ret (tr (tr (Rt c () [] [])))
 refine K0 (P0 [] c fun _ c => ?_)
 cases h
 exact wp_ret (tr (Rt c () [] []))
 refine K0 (S0 (P0 [] c fun _ c => I0 c h (fun h => ?_) fun h => ?_))
 refine P0 [] c fun _ c => ?_
 obtain rfl := sj h
 exact wp_ret (tr (Rt c () [] []))
 refine K0 (S0 (P0 [] c fun _ c => I0 c h (fun h => ?_) fun h => ?_))
 refine P0 [] c fun _ c => ?_
 cases h
 exact wp_ret (tr (Rt c () [] []))
 refine K0 (S0 (P0 [] c fun _ c => I0 c h (fun h => ?_) fun h => ?_))
 refine P0 [] c fun _ c => ?_
 obtain rfl := sj h
 exact wp_ret (tr (Rt c () [] []))
 refine K0 (P0 [] c fun _ c => ?_)
 obtain rfl := sj h
 exact wp_ret (Rt c () [] [])

theorem strings_Compare_ok {p0 p1 r} (h : strings_Compare p0 p1 = some r) : Con Tryz.prog 220 [Str.val p0, Str.val p1] [] [] fun (_ : Unit) => ([I r], [], []) := by
 unfold strings_Compare at h
 obtain rfl := sj h
 refine Con.lib fun w F hF => ?_
 refine (Tryz.strings_Compare ⟨p0.bytes.toArray⟩ ⟨p1.bytes.toArray⟩ w).mono ?_
 rintro e w' ⟨rfl, rfl⟩
 exact ⟨by simp, Chg.refl _ _⟩

theorem impl_CompareTerms_ok {n : Nat} : ∀ {p0 p1 ga0 gc1 ga2 gc3 r} (h : impl_CompareTerms n p0 p1 = some r), Con Tryz.prog 204 [tV p0 ga0 gc1, tV p1 ga2 gc3] [] [lR ga0 p0.Kids gc1, lR ga2 p1.Kids gc3] fun (_ : Unit) => ([I r], [], []) := by
 induction n with
 | zero => intro p0 p1 ga0 gc1 ga2 gc3 r h; simp [impl_CompareTerms] at h
 | succ n ih =>
 intro p0 p1 ga0 gc1 ga2 gc3 r h
 rw [impl_CompareTerms] at h
 refine En Tryz.func204 rfl Tryz.ntmps204 fun _ fr w c => ?_
 refine T0 (Ebx (tC p0 ga0 gc1) c fun b1 _ _ c => ?_)
 refine Ebx (tC p1 ga2 gc3) c fun b2 _ _ c => ?_
 refine Fp [] 1 c fun _ c => E0 (S0 (T0 (Fp [(1, 0), (3, 1)] 4 c fun _ c => Bd h fun x1 hx1 h => Cb c (cmp_Compare_int__ok hx1) tt Tryz.call219 fun _ _ _ c => ?_)))
 refine Fp [] 1 c fun _ c => E0 (P0 [] c fun _ c => I0 c h (fun h => ?_) fun h => ?_)
 refine P0 [] c fun _ c => ?_
 obtain rfl := sj h
 exact wp_ret (tr (Rt c () [] []))
 refine K0 (S0 (T0 (Fp [(1, 0), (3, 1)] 4 c fun _ c => Bd h fun x2 hx2 h => Cb c (cmp_Compare_int__ok hx2) tt Tryz.call219 fun _ _ _ c => ?_)))
 refine Fp [] 1 c fun _ c => E0 (P0 [] c fun _ c => I0 c h (fun h => ?_) fun h => ?_)
 refine P0 [] c fun _ c => ?_
 obtain rfl := sj h
 exact wp_ret (tr (Rt c () [] []))
 refine K0 (S0 (T0 (Fp [(1, 0), (3, 1)] 4 c fun _ c => Bd h fun x3 hx3 h => Cb c (cmp_Compare_int__ok hx3) tt Tryz.call219 fun _ _ _ c => ?_)))
 refine Fp [] 1 c fun _ c => E0 (P0 [] c fun _ c => I0 c h (fun h => ?_) fun h => ?_)
 refine P0 [] c fun _ c => ?_
 obtain rfl := sj h
 exact wp_ret (tr (Rt c () [] []))
 refine K0 (S0 (T0 (Fp [(1, 0), (3, 1)] 4 c fun _ c => ?_)))
 try simp only [l1, l2, l3, l4] at c
 refine Bd h fun x4 hx4 h => Cb c (strings_Compare_ok hx4) tt Tryz.call220 fun _ _ _ c => ?_
 refine Fp [] 1 c fun _ c => E0 (P0 [] c fun _ c => I0 c h (fun h => ?_) fun h => ?_)
 refine P0 [] c fun _ c => ?_
 obtain rfl := sj h
 exact wp_ret (tr (Rt c () [] []))
 refine K0 (S0 (P0 [] c fun _ c => Bd h fun rl1 hit1 h => ?_))
 have hk1 := h
 refine LpR (fun s1  (_ : Unit) => ([(2, B b1 0), (3, B b2 0), (9, I s1)], id, [])) (fun s  (_ : Unit) => ([(2, B b1 0), (3, B b2 0)], id, [])) hit1 c () (c.rk [0, 1] [0, 1]) (fun s1 q1 _ _ _ c h hr1 => ?_) fun s1r _ _ _ hrl c => ?_
 refine S0 (S0 (Ry [(2, 0), (8, 1)] mix c fun _ _ c => I0 c h (fun h => ?_) fun h => ?_))
 refine K0 (S0 (wp_block (Bd h fun x5 hx5 h => ?_)))
 obtain ⟨ep1, u1, c⟩ := c.elp (.f 0) hx5
 obtain ⟨a1, c1, rfl, c⟩ := c.o_Term 3
 refine Bd h fun x6 hx6 h => ?_
 obtain ⟨ep2, u2, c⟩ := c.elp (.f 1) hx6
 obtain ⟨a2, c2, rfl, c⟩ := c.o_Term 6
 refine Bd h fun x7 hx7 h => S0 (rZ [(3, .eq (.pointer (some ep1))), (4, .eq (tV x5 a1 c1)), (8, .eq (.pointer (some ep2))), (9, .eq (tV x6 a2 c2)), (10, .eq (I x7))] [(1, 0), (6, 1)] mix c ⟨Nie c 2, Nle c 2, Nie c 5, Nle c 5, Ncl c (kN (ih hx7)) ⟨.f 4, .f 7, tt⟩ Tryz.call204, tt⟩ fun _ _ c => P0 [] c fun _ c => I0 c h (fun h => ?_) fun h => ?_)
 refine P0 [] c fun _ c => ?_
 obtain rfl := hr1 _ (sk h)
 obtain rfl := sj hk1
 exact wp_ret (br (tr (tr (br (tr (Rt c () [] []))))))
 refine K1 (bk (tn (P1 [] c fun _ c => Nx h () (c.rk [0, 1] [0, 1]))))
 refine wp_exit (te (te (be ?_)))
 obtain rfl := hr1 _ (sk h)
 exact tn ⟨_, (), rfl, c.rk [0, 1] [0, 1]⟩
 subst hrl
 refine T0 (Fp [(1, 0), (4, 1)] 6 c fun _ c => Bd h fun x8 hx8 h => Cb c (cmp_Compare_int__ok hx8) tt Tryz.call219 fun _ _ _ c => ?_)
 refine Fp [] 1 c fun _ c => E0 ?_
 obtain rfl := sj h
 exact wp_ret (Rt c () [] [])

theorem impl_sameTerm_ok {n p0 p1 ga0 gc1 ga2 gc3 r} (h : impl_sameTerm n p0 p1 = some r) : Con Tryz.prog 173 [tV p0 ga0 gc1, tV p1 ga2 gc3] [] [lR ga0 p0.Kids gc1, lR ga2 p1.Kids gc3] fun (_ : Unit) => ([.bool r], [], []) := by
 unfold impl_sameTerm at h
 refine En Tryz.func173 rfl Tryz.ntmps173 fun _ fr w c => ?_
 refine T0 (Ebx (tC p0 ga0 gc1) c fun b1 _ _ c => ?_)
 refine Ebx (tC p1 ga2 gc3) c fun b2 _ _ c => ?_
 refine Fp [] 1 c fun _ c => E0 (T0 (Fp [(0, 0), (1, 1)] 2 c fun _ c => Bd h fun x1 hx1 h => Cb c (impl_CompareTerms_ok hx1) ⟨.f 0, .f 1, tt⟩ Tryz.call204 fun _ _ _ c => ?_))
 refine Fp [] 2 c fun _ c => E0 ?_
 cases h
 exact wp_ret (Rt c () [] [])

theorem impl_commonTerms_ok {n p0 p1 ga0 gc1 ga2 gc3 r} (h : impl_commonTerms n p0 p1 = some r) : Con Tryz.prog 125 [L ga0 p0 gc1, L ga2 p1 gc3] [] [lR ga0 p0 gc1, lR ga2 p1 gc3] fun (_ : Unit) => ([I r], [], []) := by
 unfold impl_commonTerms at h
 refine En Tryz.func125 rfl Tryz.ntmps125 fun _ fr w c => ?_
 refine P0 [] c fun _ c => P0 [] c fun _ c => Bd h fun rl1 hit1 h => S0 (Lp (fun s1  (_ : Unit) => ([(0, L ga0 p0 gc1), (1, L ga2 p1 gc3), (5, I s1)], id, [])) (fun  (_ : Unit) => ([(5, I rl1)], id, [])) hit1 c () (c.rk [] [0, 1]) (fun s1 q1 _ _ _ c h hr1 => ?_) fun _ _ _ c => ?_)
 refine S0 (Bd h fun x1 hx1 h => Bd h fun x2 hx2 h => Bd h fun x3 hx3 h => S0 (rZ [(13, Pd.el (x1 : D.Term)), (14, Pd.rd (x1 : D.Term)), (17, Pd.el (x2 : D.Term)), (18, Pd.rd (x2 : D.Term)), (19, .eq (.bool x3))] [] mix c ⟨Nid c (.f 0) (gT hx1), Nrd c 13 (atN 13), Nid c (.f 1) (gT hx2), Nrd c 17 (atN 17), Ncd (Ψ := []) [.r 14 (fun v => RO v (x1 : D.Term)), .r 18 (fun v => RO v (x2 : D.Term))] c ⟨(atN 14), (atN 18), tt⟩ tt (fun hg _ _ ga gp => by obtain ⟨u1, _, rfl, g1, u2, _, rfl, g2, rfl⟩ := ga; obtain ⟨k1, rfl, f1⟩ := Opn.opn g1; obtain ⟨k2, rfl, f2⟩ := Opn.opn g2; exact ⟨_, (f1.join f2), impl_sameTerm_ok (iteT (gcT hg) hx3)⟩) Tryz.call173, tt⟩ fun _ _ c => I0 c h (fun h => ?_) fun h => ?_))
 refine K0 (wp_block (Tq (P1 [] c fun _ c => bk (tn (Nx h () (c.rk [] [0, 1]))))))
 refine wp_exit (te (te (be ?_)))
 obtain rfl := hr1 _ (sk h)
 exact tn ⟨(), c.rk [] [0, 1]⟩
 refine P0 [] c fun _ c => ?_
 obtain rfl := sj h
 exact wp_ret (Rt c () [] [])

theorem impl_ConstTerm_ok {p0 p1 r} (h : impl_ConstTerm p0 p1 = some r) : Con Tryz.prog 117 [I p0, I p1] [] [] fun (_ : Unit) => ([.agg #[I r.Op, I r.W, I r.N, Str.val r.Name, L none ([] : List D.Term) 0]], [], []) := by
 unfold impl_ConstTerm at h
 refine En Tryz.func117 rfl Tryz.ntmps117 fun _ fr w c => ?_
 refine T0 (Eal tZ c fun b1 _ _ c => ?_)
 refine E0 (S0 (T0 (Fp [] 2 c fun _ c => Bd h fun x1 hx1 h => Cb c (impl_WordOk_ok hx1) tt Tryz.call111 fun _ _ _ c => ?_)))
 refine Fp [] 1 c fun _ c => E0 (I0 c h (fun h => ?_) fun h => ?_)
 refine T0 (Fp [] 1 c fun _ c => Ess 0 tZ c fun _ c => ?_)
 refine E0 ?_
 cases h
 exact wp_ret (tr (Rg c () [] [] (.cell (α := Agg 4) kk (.b 0) .nil)))
 refine K0 (T0 (Fp [] 3 c fun _ c => Ess 0 [I 0, I p0, I p1, Str.val ⟨[]⟩, L none ([] : List D.Term) 0] c fun _ c => ?_))
 refine E0 ?_
 cases h
 exact wp_ret (Rg c () [] [] (.cell (α := Agg 4) kk (.b 0) .nil))

theorem impl_isConst_ok {p0 ga0 gc1 r} (h : impl_isConst p0 = some r) : Con Tryz.prog 163 [tV p0 ga0 gc1] [] [lR ga0 p0.Kids gc1] fun (_ : Unit) => ([.bool r], [], []) := by
 unfold impl_isConst at h
 refine En Tryz.func163 rfl Tryz.ntmps163 fun _ fr w c => ?_
 refine T0 (Ebx (tC p0 ga0 gc1) c fun b1 _ _ c => ?_)
 refine Fp [] 1 c fun _ c => E0 (P0 [(1, 0)] c fun _ c => ?_)
 cases h
 exact wp_ret (Rt c () [] [])

theorem impl_WordOf_ok {p0 p1 r} (h : impl_WordOf p0 p1 = some r) : Con Tryz.prog 215 [I p0, I p1] [] [] fun (_ : Unit) => ([I r], [], []) := by
 unfold impl_WordOf at h
 refine En Tryz.func215 rfl Tryz.ntmps215 fun _ fr w c => ?_
 refine P0 [] c fun _ c => S0 (T0 (Fp [] 1 c fun _ c => Bd h fun x1 hx1 h => Cb c (impl_isWidth_ok hx1) tt Tryz.call140 fun _ _ _ c => ?_))
 refine Fp [] 1 c fun _ c => E0 (I0 c h (fun h => ?_) fun h => ?_)
 refine P0 [] c fun _ c => ?_
 cases h
 exact wp_ret (tr (Rt c () [] []))
 refine K0 (T0 (Fp [] 3 c fun _ c => Bd h fun x2 hx2 h => Eshl c hx2 fun _ c => ?_))
 refine Fp [] 3 c fun _ c => E0 ?_
 cases h
 exact wp_ret (Rt c () [] [])

theorem impl_ApplyUnary_ok {p0 p1 p2 r} (h : impl_ApplyUnary p0 p1 p2 = some r) : Con Tryz.prog 197 [I p0, I p1, I p2] [] [] fun (_ : Unit) => ([I r], [], []) := by
 unfold impl_ApplyUnary at h
 refine En Tryz.func197 rfl Tryz.ntmps197 fun _ fr w c => ?_
 refine P0 [] c fun _ c => S0 (T0 (Fp [] 2 c fun _ c => Bd h fun x1 hx1 h => Cb c (impl_WordOk_ok hx1) tt Tryz.call111 fun _ _ _ c => ?_))
 refine Fp [] 1 c fun _ c => E0 (I0 c h (fun h => ?_) fun h => ?_)
 refine P0 [] c fun _ c => ?_
 cases h
 exact wp_ret (tr (Rt c () [] []))
 refine K0 (S0 (P0 [] c fun _ c => wp_block (P0 [] c fun _ c => I0 c h (fun h => ?_) fun h => ?_)))
 refine T0 (Fp [] 2 c fun _ c => Bd h fun x2 hx2 h => Eshl c hx2 fun _ c => ?_)
 refine Fp [] 4 c fun _ c => E0 ?_
 cases h
 exact wp_ret (br (tr (Rt c () [] [])))
 refine P0 [] c fun _ c => I0 c h (fun h => ?_) fun h => ?_
 refine T0 (Fp [] 3 c fun _ c => Bd h fun x3 hx3 h => Cb c (impl_WordOf_ok hx3) tt Tryz.call215 fun _ _ _ c => ?_)
 refine Fp [] 1 c fun _ c => E0 ?_
 obtain rfl := sj h
 exact wp_ret (br (tr (Rt c () [] [])))
 refine K1 (bk (tn (P0 [] c fun _ c => ?_)))
 cases h
 exact wp_ret (Rt c () [] [])

theorem impl_CutWord_ok {p0 p1 p2 p3 r} (h : impl_CutWord p0 p1 p2 p3 = some r) : Con Tryz.prog 198 [I p0, I p1, I p2, I p3] [] [] fun (_ : Unit) => ([I r], [], []) := by
 unfold impl_CutWord at h
 refine En Tryz.func198 rfl Tryz.ntmps198 fun _ fr w c => ?_
 refine P0 [] c fun _ c => S0 (Bd h fun x1 hx1 h => S0 (rZ [(2, .eq (.bool x1))] [] mix c ⟨Ncl c (kN (impl_WordOk_ok hx1)) tt Tryz.call111, tt⟩ fun _ _ c => I0 c h (fun h => ?_) fun h => ?_))
 refine P0 [] c fun _ c => ?_
 cases h
 exact wp_ret (tr (Rt c () [] []))
 refine K0 (T0 (Fp [] 3 c fun _ c => Bd h fun x2 hx2 h => Eshr c hx2 fun _ c => ?_))
 refine Fp [] 2 c fun _ c => Bd h fun x3 hx3 h => Eshl c hx3 fun _ c => ?_
 refine Fp [] 3 c fun _ c => E0 ?_
 cases h
 exact wp_ret (Rt c () [] [])

theorem impl_SignedOf_ok {p0 p1 r} (h : impl_SignedOf p0 p1 = some r) : Con Tryz.prog 216 [I p0, I p1] [] [] fun (_ : Unit) => ([I r], [], []) := by
 unfold impl_SignedOf at h
 refine En Tryz.func216 rfl Tryz.ntmps216 fun _ fr w c => ?_
 refine P0 [] c fun _ c => S0 (T0 (Fp [] 2 c fun _ c => Bd h fun x1 hx1 h => Cb c (impl_WordOk_ok hx1) tt Tryz.call111 fun _ _ _ c => ?_))
 refine Fp [] 1 c fun _ c => E0 (I0 c h (fun h => ?_) fun h => ?_)
 refine P0 [] c fun _ c => ?_
 obtain rfl := sj h
 exact wp_ret (tr (Rt c () [] []))
 refine K0 (S0 (T0 (Fp [] 4 c fun _ c => Bd h fun x2 hx2 h => Eshr c hx2 fun _ c => ?_)))
 refine Fp [] 1 c fun _ c => E0 (I0 c h (fun h => ?_) fun h => ?_)
 refine P0 [] c fun _ c => ?_
 obtain rfl := sj h
 exact wp_ret (tr (Rt c () [] []))
 refine K0 (T0 (Fp [] 3 c fun _ c => Bd h fun x3 hx3 h => Eshl c hx3 fun _ c => ?_))
 refine Fp [] 2 c fun _ c => E0 ?_
 cases h
 exact wp_ret (Rt c () [] [])

theorem impl_WidenWord_ok {p0 p1 p2 p3 r} (h : impl_WidenWord p0 p1 p2 p3 = some r) : Con Tryz.prog 199 [I p0, I p1, I p2, .bool p3] [] [] fun (_ : Unit) => ([I r], [], []) := by
 unfold impl_WidenWord at h
 refine En Tryz.func199 rfl Tryz.ntmps199 fun _ fr w c => ?_
 refine P0 [] c fun _ c => S0 (Bd h fun x1 hx1 h => Bd h fun x2 hx2 h => S0 (rZ [(2, .eq (.bool x1)), (6, .eq (.bool x2))] [] mix c ⟨Ncl c (kN (impl_WordOk_ok hx1)) tt Tryz.call111, Ncl c (fun hg => impl_isWidth_ok (iteF (gcF hg) hx2)) tt Tryz.call140, tt⟩ fun _ _ c => I0 c h (fun h => ?_) fun h => ?_))
 refine P0 [] c fun _ c => ?_
 cases h
 exact wp_ret (tr (Rt c () [] []))
 refine K0 (S0 (P0 [] c fun _ c => I0 c h (fun h => ?_) fun h => ?_))
 refine T0 (Fp [] 3 c fun _ c => Bd h fun x3 hx3 h => Cb c (impl_SignedOf_ok hx3) tt Tryz.call216 fun _ _ _ c => ?_)
 refine Bd h fun x4 hx4 h => Cb c (impl_WordOf_ok hx4) tt Tryz.call215 fun _ _ _ c => ?_
 refine Fp [] 1 c fun _ c => E0 ?_
 obtain rfl := sj h
 exact wp_ret (tr (Rt c () [] []))
 refine K0 (P0 [] c fun _ c => ?_)
 obtain rfl := sj h
 exact wp_ret (Rt c () [] [])

theorem impl_JoinWords_ok {p0 p1 p2 p3 r} (h : impl_JoinWords p0 p1 p2 p3 = some r) : Con Tryz.prog 200 [I p0, I p1, I p2, I p3] [] [] fun (_ : Unit) => ([I r], [], []) := by
 unfold impl_JoinWords at h
 refine En Tryz.func200 rfl Tryz.ntmps200 fun _ fr w c => ?_
 refine P0 [] c fun _ c => S0 (Bd h fun x1 hx1 h => Bd h fun x2 hx2 h => S0 (rZ [(2, .eq (.bool x1)), (7, .eq (.bool x2))] [] mix c ⟨Ncl c (kN (impl_WordOk_ok hx1)) tt Tryz.call111, Ncl c (fun hg => impl_WordOk_ok (iteF (gcF hg) hx2)) tt Tryz.call111, tt⟩ fun _ _ c => I0 c h (fun h => ?_) fun h => ?_))
 refine P0 [] c fun _ c => ?_
 cases h
 exact wp_ret (tr (Rt c () [] []))
 refine K0 (T0 (Fp [] 3 c fun _ c => Bd h fun x3 hx3 h => Eshl c hx3 fun _ c => ?_))
 refine Fp [] 3 c fun _ c => E0 ?_
 cases h
 exact wp_ret (Rt c () [] [])

theorem impl_shiftWord_ok {p0 p1 p2 p3 r} (h : impl_shiftWord p0 p1 p2 p3 = some r) : Con Tryz.prog 217 [I p0, I p1, I p2, I p3] [] [] fun (_ : Unit) => ([I r], [], []) := by
 unfold impl_shiftWord at h
 refine En Tryz.func217 rfl Tryz.ntmps217 fun _ fr w c => ?_
 refine P0 [] c fun _ c => S0 (P0 [] c fun _ c => I0 c h (fun h => ?_) fun h => ?_)
 refine T0 (Fp [] 3 c fun _ c => Bd h fun x1 hx1 h => Cb c (impl_SignedOf_ok hx1) tt Tryz.call216 fun _ _ _ c => ?_)
 refine Fp [] 5 c fun _ c => Bd h fun x2 hx2 h => Eshr c hx2 fun _ c => ?_
 refine Bd h fun x3 hx3 h => Cb c (impl_WordOf_ok hx3) tt Tryz.call215 fun _ _ _ c => ?_
 refine Fp [] 1 c fun _ c => E0 ?_
 obtain rfl := sj h
 exact wp_ret (tr (Rt c () [] []))
 refine K0 (S0 (P0 [] c fun _ c => I0 c h (fun h => ?_) fun h => ?_))
 refine P0 [] c fun _ c => ?_
 obtain rfl := sj h
 exact wp_ret (tr (Rt c () [] []))
 refine K0 (S0 (P0 [] c fun _ c => I0 c h (fun h => ?_) fun h => ?_))
 refine T0 (Fp [] 4 c fun _ c => Bd h fun x4 hx4 h => Eshl c hx4 fun _ c => ?_)
 refine Bd h fun x5 hx5 h => Cb c (impl_WordOf_ok hx5) tt Tryz.call215 fun _ _ _ c => ?_
 refine Fp [] 1 c fun _ c => E0 ?_
 obtain rfl := sj h
 exact wp_ret (tr (Rt c () [] []))
 refine K0 (T0 (Fp [] 3 c fun _ c => Bd h fun x6 hx6 h => Eshr c hx6 fun _ c => ?_))
 refine Fp [] 1 c fun _ c => E0 ?_
 obtain rfl := sj h
 exact wp_ret (Rt c () [] [])

theorem impl_boolWord_ok {p0 r} (h : impl_boolWord p0 = some r) : Con Tryz.prog 218 [.bool p0] [] [] fun (_ : Unit) => ([I r], [], []) := by
 unfold impl_boolWord at h
 refine En Tryz.func218 rfl Tryz.ntmps218 fun _ fr w c => ?_
 refine P0 [] c fun _ c => S0 (P0 [] c fun _ c => I0 c h (fun h => ?_) fun h => ?_)
 refine P0 [] c fun _ c => ?_
 obtain rfl := sj h
 exact wp_ret (tr (Rt c () [] []))
 refine K0 (P0 [] c fun _ c => ?_)
 obtain rfl := sj h
 exact wp_ret (Rt c () [] [])

theorem impl_ApplyBinary_ok {p0 p1 p2 p3 r} (h : impl_ApplyBinary p0 p1 p2 p3 = some r) : Con Tryz.prog 201 [I p0, I p1, I p2, I p3] [] [] fun (_ : Unit) => ([I r], [], []) := by
 unfold impl_ApplyBinary at h
 refine En Tryz.func201 rfl Tryz.ntmps201 fun _ fr w c => ?_
 refine P0 [] c fun _ c => S0 (Bd h fun x1 hx1 h => Bd h fun x2 hx2 h => S0 (rZ [(2, .eq (.bool x1)), (7, .eq (.bool x2))] [] mix c ⟨Ncl c (kN (impl_WordOk_ok hx1)) tt Tryz.call111, Ncl c (fun hg => impl_WordOk_ok (iteF (gcF hg) hx2)) tt Tryz.call111, tt⟩ fun _ _ c => I0 c h (fun h => ?_) fun h => ?_))
 refine P0 [] c fun _ c => ?_
 cases h
 exact wp_ret (tr (Rt c () [] []))
 refine K0 (S0 (P0 [] c fun _ c => wp_block (P0 [] c fun _ c => I0 c h (fun h => ?_) fun h => ?_)))
 refine T0 (Fp [] 4 c fun _ c => Bd h fun x3 hx3 h => Cb c (impl_WordOf_ok hx3) tt Tryz.call215 fun _ _ _ c => ?_)
 refine Fp [] 1 c fun _ c => E0 ?_
 obtain rfl := sj h
 exact wp_ret (br (tr (Rt c () [] [])))
 refine P0 [] c fun _ c => I0 c h (fun h => ?_) fun h => ?_
 refine T0 (Fp [] 4 c fun _ c => Bd h fun x4 hx4 h => Cb c (impl_WordOf_ok hx4) tt Tryz.call215 fun _ _ _ c => ?_)
 refine Fp [] 1 c fun _ c => E0 ?_
 obtain rfl := sj h
 exact wp_ret (br (tr (Rt c () [] [])))
 refine P0 [] c fun _ c => I0 c h (fun h => ?_) fun h => ?_
 refine T0 (Fp [] 4 c fun _ c => Bd h fun x5 hx5 h => Cb c (impl_WordOf_ok hx5) tt Tryz.call215 fun _ _ _ c => ?_)
 refine Fp [] 1 c fun _ c => E0 ?_
 obtain rfl := sj h
 exact wp_ret (br (tr (Rt c () [] [])))
 refine P0 [] c fun _ c => I0 c h (fun h => ?_) fun h => ?_
 refine S0 (P0 [] c fun _ c => I0 c h (fun h => ?_) fun h => ?_)
 refine T0 (Fp [] 2 c fun _ c => Bd h fun x6 hx6 h => Eshl c hx6 fun _ c => ?_)
 refine Fp [] 2 c fun _ c => E0 ?_
 cases h
 exact wp_ret (tr (br (tr (Rt c () [] []))))
 refine K0 (T0 (Fp [] 2 c fun _ c => Bd h fun x7 hx7 h => Equo c hx7 fun _ c => ?_))
 refine Fp [] 1 c fun _ c => E0 ?_
 obtain rfl := sj h
 exact wp_ret (br (tr (Rt c () [] [])))
 refine P0 [] c fun _ c => I0 c h (fun h => ?_) fun h => ?_
 refine S0 (P0 [] c fun _ c => I0 c h (fun h => ?_) fun h => ?_)
 refine P0 [] c fun _ c => ?_
 obtain rfl := sj h
 exact wp_ret (tr (br (tr (Rt c () [] []))))
 refine K0 (T0 (Fp [] 2 c fun _ c => Bd h fun x8 hx8 h => Erem c hx8 fun _ c => ?_))
 refine Fp [] 1 c fun _ c => E0 ?_
 obtain rfl := sj h
 exact wp_ret (br (tr (Rt c () [] [])))
 refine P0 [] c fun _ c => I0 c h (fun h => ?_) fun h => ?_
 refine P0 [] c fun _ c => ?_
 cases h
 exact wp_ret (br (tr (Rt c () [] [])))
 refine P0 [] c fun _ c => I0 c h (fun h => ?_) fun h => ?_
 refine P0 [] c fun _ c => ?_
 cases h
 exact wp_ret (br (tr (Rt c () [] [])))
 refine P0 [] c fun _ c => I0 c h (fun h => ?_) fun h => ?_
 refine P0 [] c fun _ c => ?_
 cases h
 exact wp_ret (br (tr (Rt c () [] [])))
 refine S0 (P0 [] c fun _ c => Bd h fun rl1 hit1 h => ?_)
 have hk1 := h
 refine Jr (fun s  (_ : Unit) => ([(0, I p0), (1, I p1), (2, I p2), (3, I p3), (19, I p0), (75, .bool s)], id, [])) hit1 c (fun h => ?_) fun s1r _ _ _ hrl c => ?_
 refine I0 c h (fun h => ?_) fun h => ?_
 refine K0 (⟨_, (), (sk h), c.rk [] []⟩)
 refine P0 [] c fun _ c => Mp (p0 == 12) [(75, .bool (p0 == 12))] [(75, .bool (p0 == 13))] [(75, .bool ((p0 == 12) || (p0 == 13)))] [75, 78] c fun _ c => ⟨_, (), (sk h), c.rk [] []⟩
 subst hrl
 refine I0 c h (fun h => ?_) fun h => ?_
 refine T0 (Fp [] 4 c fun _ c => Bd h fun x9 hx9 h => Cb c (impl_shiftWord_ok hx9) tt Tryz.call217 fun _ _ _ c => ?_)
 refine Fp [] 1 c fun _ c => E0 ?_
 obtain rfl := sj h
 exact wp_ret (br (tr (Rt c () [] [])))
 refine P0 [] c fun _ c => I0 c h (fun h => ?_) fun h => ?_
 refine T0 (Fp [] 3 c fun _ c => Bd h fun x10 hx10 h => Cb c (impl_boolWord_ok hx10) tt Tryz.call218 fun _ _ _ c => ?_)
 refine Fp [] 1 c fun _ c => E0 ?_
 obtain rfl := sj h
 exact wp_ret (br (tr (Rt c () [] [])))
 refine P0 [] c fun _ c => I0 c h (fun h => ?_) fun h => ?_
 refine T0 (Fp [] 3 c fun _ c => Bd h fun x11 hx11 h => Cb c (impl_boolWord_ok hx11) tt Tryz.call218 fun _ _ _ c => ?_)
 refine Fp [] 1 c fun _ c => E0 ?_
 obtain rfl := sj h
 exact wp_ret (br (tr (Rt c () [] [])))
 refine P0 [] c fun _ c => I0 c h (fun h => ?_) fun h => ?_
 refine T0 (Fp [] 2 c fun _ c => Bd h fun x12 hx12 h => Cb c (impl_SignedOf_ok hx12) tt Tryz.call216 fun _ _ _ c => ?_)
 refine Fp [] 2 c fun _ c => Bd h fun x13 hx13 h => Cb c (impl_SignedOf_ok hx13) tt Tryz.call216 fun _ _ _ c => ?_
 refine Fp [] 1 c fun _ c => Bd h fun x14 hx14 h => Cb c (impl_boolWord_ok hx14) tt Tryz.call218 fun _ _ _ c => ?_
 refine Fp [] 1 c fun _ c => E0 ?_
 obtain rfl := sj h
 exact wp_ret (br (tr (Rt c () [] [])))
 refine K1 (bk (tn (P0 [] c fun _ c => ?_)))
 cases h
 exact wp_ret (Rt c () [] [])

theorem impl_evalNode_ok {n : Nat} : ∀ {p0 p1 ga0 gc1 gu2 r} (h : impl_evalNode n p0 p1 = some r), Con Tryz.prog 164 [tV p0 ga0 gc1, gu2] [] [lR ga0 p0.Kids gc1, MO map126 (gu2) p1] fun (_ : Unit) => ([I r], [], []) := by
 induction n with
 | zero => intro p0 p1 ga0 gc1 gu2 r h; simp [impl_evalNode] at h
 | succ n ih =>
 intro p0 p1 ga0 gc1 gu2 r h
 rw [impl_evalNode] at h
 refine En Tryz.func164 rfl Tryz.ntmps164 fun _ fr w c => ?_
 refine T0 (Ebx (tC p0 ga0 gc1) c fun b1 _ _ c => ?_)
 refine Fp [] 1 c fun _ c => E0 (S0 (P0 [(1, 0)] c fun _ c => wp_block (P0 [] c fun _ c => I0 c h (fun h => ?_) fun h => ?_)))
 refine P0 [(1, 0)] c fun _ c => ?_
 cases h
 exact wp_ret (br (tr (Rt c () [] [])))
 refine P0 [] c fun _ c => I0 c h (fun h => ?_) fun h => ?_
 refine T0 (Fp [(2, 0)] 3 c fun _ c => Bd h fun x1 hx1 h => Erg c (.f 1) hx1 fun _ c => ?_)
 refine Fp [] 1 c fun _ c => E0 ?_
 obtain rfl := sj h
 exact wp_ret (br (tr (Rt c () [] [])))
 refine P0 [] c fun _ c => I0 c h (fun h => ?_) fun h => ?_
 refine S0 (T0 (Fp [(1, 0)] 2 c fun _ c => Bd h fun x2 hx2 h => Eem c (.f 0) hx2 fun _ u1 _ c => ?_))
 obtain ⟨a1, c1, rfl, c⟩ := c.o_Term 2
 refine Fp [] 1 c fun _ c => Bd h fun x3 hx3 h => Cb c (ih hx3) ⟨.f 3, .f 1, tt⟩ Tryz.call164 fun _ _ _ c => ?_
 refine Fp [] 1 c fun _ c => E0 (I0 c h (fun h => ?_) fun h => ?_)
 refine T0 (Fp [(1, 0)] 2 c fun _ c => Bd h fun x4 hx4 h => Eem c (.f 0) hx4 fun _ u2 _ c => ?_)
 obtain ⟨a2, c2, rfl, c⟩ := c.o_Term 4
 refine Fp [] 1 c fun _ c => Bd h fun x5 hx5 h => Cb c (ih hx5) ⟨.f 5, .f 1, tt⟩ Tryz.call164 fun _ _ _ c => ?_
 refine Fp [] 1 c fun _ c => E0 ?_
 obtain rfl := sj h
 exact wp_ret (tr (br (tr (Rt c () [] []))))
 refine K0 (T0 (Fp [(1, 0)] 2 c fun _ c => Bd h fun x6 hx6 h => Eem c (.f 0) hx6 fun _ u3 _ c => ?_))
 obtain ⟨a3, c3, rfl, c⟩ := c.o_Term 4
 refine Fp [] 1 c fun _ c => Bd h fun x7 hx7 h => Cb c (ih hx7) ⟨.f 5, .f 1, tt⟩ Tryz.call164 fun _ _ _ c => ?_
 refine Fp [] 1 c fun _ c => E0 ?_
 obtain rfl := sj h
 exact wp_ret (br (tr (Rt c () [] [])))
 refine K1 (bk (tn (T0 (Fp [(1, 0)] 2 c fun _ c => Bd h fun x8 hx8 h => Eem c (.f 0) hx8 fun _ u4 _ c => ?_))))
 obtain ⟨a4, c4, rfl, c⟩ := c.o_Term 2
 refine Fp [] 1 c fun _ c => Bd h fun x9 hx9 h => Cb c (ih hx9) ⟨.f 3, .f 1, tt⟩ Tryz.call164 fun _ _ _ c => ?_
 refine Fp [] 1 c fun _ c => E0 (T0 (Fp [(1, 0)] 2 c fun _ c => Bd h fun x10 hx10 h => Eef c (.f 0) hx10 fc34_1 fun _ _ _ c => ?_))
 refine Fp [] 1 c fun _ c => E0 (S0 (P0 [(1, 0)] c fun _ c => wp_block (S0 (P0 [] c fun _ c => Mp (p0.Op == 1) [(54, .bool (p0.Op == 1))] [(54, .bool (p0.Op == 2))] [(54, .bool ((p0.Op == 1) || (p0.Op == 2)))] [54, 56] c fun _ c => I0 c h (fun h => ?_) fun h => ?_))))
 refine T0 (Fp [(1, 0)] 4 c fun _ c => Bd h fun x11 hx11 h => Cb c (impl_ApplyUnary_ok hx11) tt Tryz.call197 fun _ _ _ c => ?_)
 refine Fp [] 1 c fun _ c => E0 ?_
 obtain rfl := sj h
 exact wp_ret (br (tr (Rt c () [] [])))
 refine P0 [] c fun _ c => I0 c h (fun h => ?_) fun h => ?_
 refine T0 (Fp [(3, 0), (5, 0)] 6 c fun _ c => Bd h fun x12 hx12 h => Cb c (impl_CutWord_ok hx12) tt Tryz.call198 fun _ _ _ c => ?_)
 refine Fp [] 1 c fun _ c => E0 ?_
 obtain rfl := sj h
 exact wp_ret (br (tr (Rt c () [] [])))
 refine S0 (P0 [] c fun _ c => Mp (p0.Op == 20) [(71, .bool (p0.Op == 20))] [(71, .bool (p0.Op == 21))] [(71, .bool ((p0.Op == 20) || (p0.Op == 21)))] [71, 73] c fun _ c => I0 c h (fun h => ?_) fun h => ?_)
 refine T0 (Fp [(3, 0), (5, 0)] 7 c fun _ c => Bd h fun x13 hx13 h => Cb c (impl_WidenWord_ok hx13) tt Tryz.call199 fun _ _ _ c => ?_)
 refine Fp [] 1 c fun _ c => E0 ?_
 obtain rfl := sj h
 exact wp_ret (br (tr (Rt c () [] [])))
 refine K1 (bk (tn (T0 (Fp [(1, 0)] 2 c fun _ c => Bd h fun x14 hx14 h => Eem c (.f 0) hx14 fun _ u5 _ c => ?_))))
 obtain ⟨a5, c5, rfl, c⟩ := c.o_Term 4
 refine Fp [] 1 c fun _ c => Bd h fun x15 hx15 h => Cb c (ih hx15) ⟨.f 5, .f 1, tt⟩ Tryz.call164 fun _ _ _ c => ?_
 refine Fp [] 1 c fun _ c => E0 (S0 (P0 [(1, 0)] c fun _ c => I0 c h (fun h => ?_) fun h => ?_))
 refine T0 (Fp [(3, 0)] 4 c fun _ c => ?_)
 try simp only [l1, l2, l3, l4] at c
 refine Bd h fun x16 hx16 h => Eef c (.f 0) hx16 fc34_1 fun _ _ _ c => ?_
 refine Fp [] 1 c fun _ c => Bd h fun x17 hx17 h => Cb c (impl_JoinWords_ok hx17) tt Tryz.call200 fun _ _ _ c => ?_
 refine Fp [] 1 c fun _ c => E0 ?_
 obtain rfl := sj h
 exact wp_ret (tr (Rt c () [] []))
 refine K0 (T0 (Fp [(1, 0)] 5 c fun _ c => ?_))
 try simp only [l1, l2, l3, l4] at c
 refine Bd h fun x18 hx18 h => Cb c (impl_ApplyBinary_ok hx18) tt Tryz.call201 fun _ _ _ c => ?_
 refine Fp [] 1 c fun _ c => E0 ?_
 obtain rfl := sj h
 exact wp_ret (Rt c () [] [])

theorem impl_reduceUnary_ok {p0 ga0 gc1 r} (h : impl_reduceUnary p0 = some r) : Con Tryz.prog 165 [tV p0 ga0 gc1] [] [lR ga0 p0.Kids gc1] fun (i : Oh) => ([tV r i.1 i.2], [], [lR i.1 r.Kids i.2]) := by
 unfold impl_reduceUnary at h
 refine En Tryz.func165 rfl Tryz.ntmps165 fun _ fr w c => ?_
 refine T0 (Ebx (tC p0 ga0 gc1) c fun b1 _ _ c => ?_)
 refine Eal tZ c fun b2 _ _ c => ?_
 refine E0 (T0 (Fp [(1, 0)] 2 c fun _ c => Bd h fun x1 hx1 h => Eem c (.f 0) hx1 fun _ u1 _ c => ?_))
 obtain ⟨a1, c1, rfl, c⟩ := c.o_Term 1
 refine Eal tZ c fun b3 _ _ c => ?_
 refine Ess 2 (tC x1 a1 c1) c fun _ c => ?_
 refine E0 (S0 (P0 [(1, 2), (3, 0)] c fun _ c => I0 c h (fun h => ?_) fun h => ?_))
 refine T0 (Fp [(1, 2)] 2 c fun _ c => ?_)
 try simp only [l1, l2, l3, l4] at c
 refine Bd h fun x2 hx2 h => Eem c (.f 2) hx2 fun _ u2 _ c => ?_
 obtain ⟨a2, c2, rfl, c⟩ := c.o_Term 3
 refine Ess 1 (tC x2 a2 c2) c fun _ c => ?_
 refine E0 ?_
 obtain rfl := sj h
 exact wp_ret (tr (Rg c (a2, c2) [] [4] (.cell (α := Agg 4) kk (.b 1) .nil)))
 refine K0 (T0 (Fp [(0, 0)] 1 c fun _ c => ?_))
 try simp only [l1, l2, l3, l4] at c
 refine Ess 1 (tC p0 ga0 gc1) c fun _ c => ?_
 refine E0 ?_
 obtain rfl := sj h
 exact wp_ret (Rg c (ga0, gc1) [] [0] (.cell (α := Agg 4) kk (.b 1) .nil))

theorem impl_constIs_ok {p0 p1 ga0 gc1 r} (h : impl_constIs p0 p1 = some r) : Con Tryz.prog 127 [tV p0 ga0 gc1, I p1] [] [lR ga0 p0.Kids gc1] fun (_ : Unit) => ([.bool r], [], []) := by
 unfold impl_constIs at h
 refine En Tryz.func127 rfl Tryz.ntmps127 fun _ fr w c => ?_
 refine T0 (Ebx (tC p0 ga0 gc1) c fun b1 _ _ c => ?_)
 refine Fp [] 1 c fun _ c => E0 (S0 (Ry [(1, 0), (5, 0)] mix c fun _ _ c => ?_))
 cases h
 exact wp_ret (Rt c () [] [])

theorem impl_swapsKids_ok {p0 r} (h : impl_swapsKids p0 = some r) : Con Tryz.prog 203 [I p0] [] [] fun (_ : Unit) => ([.bool r], [], []) := by
 unfold impl_swapsKids at h
 refine En Tryz.func203 rfl Tryz.ntmps203 fun _ fr w c => ?_
 refine P0 [] c fun _ c => S0 (P0 [] c fun _ c => wp_block (S0 (P0 [] c fun _ c => I0 c h (fun h => ?_) fun h => ?_)))
 refine K0 (I0 c h (fun h => ?_) fun h => ?_)
 refine P0 [] c fun _ c => ?_
 obtain rfl := sj h
 exact wp_ret (br (tr (Rt c () [] [])))
 refine K1 (bk (tn (P0 [] c fun _ c => ?_)))
 obtain rfl := sj h
 exact wp_ret (Rt c () [] [])
 refine P0 [] c fun _ c => I0 c h (fun h => ?_) fun h => ?_
 refine K0 (I0 c h (fun h => ?_) fun h => ?_)
 refine P0 [] c fun _ c => ?_
 obtain rfl := sj h
 exact wp_ret (br (tr (Rt c () [] [])))
 refine K1 (bk (tn (P0 [] c fun _ c => ?_)))
 obtain rfl := sj h
 exact wp_ret (Rt c () [] [])
 refine P0 [] c fun _ c => I0 c h (fun h => ?_) fun h => ?_
 refine K0 (I0 c h (fun h => ?_) fun h => ?_)
 refine P0 [] c fun _ c => ?_
 obtain rfl := sj h
 exact wp_ret (br (tr (Rt c () [] [])))
 refine K1 (bk (tn (P0 [] c fun _ c => ?_)))
 obtain rfl := sj h
 exact wp_ret (Rt c () [] [])
 refine P0 [] c fun _ c => I0 c h (fun h => ?_) fun h => ?_
 refine K0 (I0 c h (fun h => ?_) fun h => ?_)
 refine P0 [] c fun _ c => ?_
 obtain rfl := sj h
 exact wp_ret (br (tr (Rt c () [] [])))
 refine K1 (bk (tn (P0 [] c fun _ c => ?_)))
 obtain rfl := sj h
 exact wp_ret (Rt c () [] [])
 refine P0 [] c fun _ c => Mp (p0 == 10) [(4, .bool (p0 == 10))] [(4, .bool (p0 == 14))] [(4, .bool ((p0 == 10) || (p0 == 14)))] [4, 10] c fun _ c => I0 c h (fun h => ?_) fun h => ?_
 refine P0 [] c fun _ c => ?_
 obtain rfl := sj h
 exact wp_ret (br (tr (Rt c () [] [])))
 refine K1 (bk (tn (P0 [] c fun _ c => ?_)))
 obtain rfl := sj h
 exact wp_ret (Rt c () [] [])

theorem impl_onesOf_ok {p0 r} (h : impl_onesOf p0 = some r) : Con Tryz.prog 221 [I p0] [] [] fun (_ : Unit) => ([I r], [], []) := by
 unfold impl_onesOf at h
 refine En Tryz.func221 rfl Tryz.ntmps221 fun _ fr w c => ?_
 refine P0 [] c fun _ c => T0 (Fp [] 2 c fun _ c => Bd h fun x1 hx1 h => Eshl c hx1 fun _ c => ?_)
 refine Fp [] 2 c fun _ c => E0 ?_
 cases h
 exact wp_ret (Rt c () [] [])
end Go.Proofs.YtbljmkpofaibeaaGreat
