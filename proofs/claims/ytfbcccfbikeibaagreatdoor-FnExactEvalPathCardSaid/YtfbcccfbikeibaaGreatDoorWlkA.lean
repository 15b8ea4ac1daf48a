/- The walks, printed by a program. -/
import Derived.Test.YtfbcccfbikeibaaGreatDoorLib3
import Derived.Test.YtfbcccfbikeibaaGreatDoorLib2
import Derived.Test.YtfbcccfbikeibaaGreatDoorDefs
import Derived.Test.YtfbcccfbikeibaaGreatDoorProg
import Derived.KernelRfl
import Derived.DeepKeys4
import Derived.Test.YtfbcccfbikeibaaGreatDoorShelf
import Derived.Lib.Strings
set_option linter.unusedVariables false
set_option maxRecDepth 100000
namespace Go.Proofs.YtfbcccfbikeibaaGreatDoor
open Go.GL Go.Maps Go.WideMaps
abbrev I (x : Int) : Value := .int .i64 x
abbrev L {α : Type} (a : Option Addr) (l : List α) (c : Nat) : Value := .slice a (List.length l) c
abbrev B (b n : Nat) : Value := .pointer (some ⟨b, n, none⟩)
theorem mix : Tryz.prog.follows .mixedOrders = true := by kernel_rfl
abbrev sl3 : Value → List Int → HP := SL 3
abbrev sl5 : Value → List Byt → HP := SL 5
abbrev sl75 : Value → List Rw.Term → HP := SL 75
abbrev sl89 : Value → List D.Value → HP := SL 89
abbrev sl91 : Value → List D.Ins → HP := SL 91
theorem fc75_1 {q : D.Term} {w : World} {F : Nat → Prop} {cs : List Value} (h : Rep.ok w F cs q) : cs[1]? = some (I q.W) := fo_Term1 h
theorem fc89_0 {q : D.Value} {w : World} {F : Nat → Prop} {cs : List Value} (h : Rep.ok w F cs q) : cs[0]? = some (Str.val q.Name) := fo_Value0 h
theorem fc89_1 {q : D.Value} {w : World} {F : Nat → Prop} {cs : List Value} (h : Rep.ok w F cs q) : cs[1]? = some (I q.W) := fo_Value1 h
theorem fc89_2 {q : D.Value} {w : World} {F : Nat → Prop} {cs : List Value} (h : Rep.ok w F cs q) : cs[2]? = some (I q.N) := fo_Value2 h
noncomputable abbrev map102 : MapT Tryz.prog 9 3 Str Int := mapSI _ 9 3 Tryz.underlying9 Tryz.underlying3 (by kernel_rfl)

theorem laws_szInsS_ok {p0 : List D.Ins} {p1 : Int} {ga0 : Option Addr} {gc1 : Nat} {r : Int} (h : laws_szInsS p0 p1 = some r) : Con Tryz.prog 31 [L ga0 p0 gc1, I p1] [] [RO (L ga0 p0 gc1) p0] fun (_ : Unit) => ([I r], [], []) := by
 unfold laws_szInsS at h
 refine En Tryz.func31 rfl Tryz.ntmps31 fun _ fr w c => ?_
 refine P0 [] c fun _ c => P0 [] c fun _ c => S0 (P0 [] c fun _ c => I0 c h (fun h => ?_) fun h => ?_)
 refine P0 [] c fun _ c => ?_
 cases h
 exact wp_ret (tr (Rt c () [] []))
 refine K0 (P0 [] c fun _ c => ?_)
 cases h
 exact wp_ret (Rt c () [] [])

theorem laws_szProgram_ok {p0 : D.Program} {p1 : Int} {ga0 : Option Addr} {gc1 : Nat} {r : Int} (h : laws_szProgram p0 p1 = some r) : Con Tryz.prog 6 [.agg #[I p0.W, I p0.Mem, I p0.In, L ga0 p0.Code gc1], I p1] [] [RO (L ga0 p0.Code gc1) p0.Code] fun (_ : Unit) => ([I r], [], []) := by
 unfold laws_szProgram at h
 refine En Tryz.func6 rfl Tryz.ntmps6 fun _ fr w c => ?_
 refine T0 (Ebx [I p0.W, I p0.Mem, I p0.In, L ga0 p0.Code gc1] c fun b1 _ _ c => ?_)
 refine Fp [] 1 c fun _ c => E0 (T0 (Fp [(1, 0)] 3 c fun _ c => Bd h fun x1 hx1 h => Ca [] c (laws_szInsS_ok hx1) ⟨.f 0, trivial⟩ Tryz.call31 fun _ _ _ c => ?_))
 refine Fp [] 1 c fun _ c => E0 (S0 (P0 [] c fun _ c => I0 c h (fun h => ?_) fun h => ?_))
 refine P0 [] c fun _ c => ?_
 cases h
 exact wp_ret (tr (Rt c () [] []))
 refine K0 (P0 [] c fun _ c => ?_)
 obtain rfl := sj h
 exact wp_ret (Rt c () [] [])

theorem laws_szTerm_laws_szTermS_rec (n : Nat) : (∀ {p0 : D.Term} {p1 : Int} {ga0 : Option Addr} {gc1 : Nat} {r : Int} (h : laws_szTerm n p0 p1 = some r), Con Tryz.prog 50 [.agg #[I p0.Op, I p0.W, I p0.N, Str.val p0.Name, L ga0 p0.Kids gc1], I p1] [] [RO (L ga0 p0.Kids gc1) p0.Kids] fun (_ : Unit) => ([I r], [], [])) ∧
    (∀ {p0 : List D.Term} {p1 : Int} {ga0 : Option Addr} {gc1 : Nat} {r : Int} (h : laws_szTermS n p0 p1 = some r), Con Tryz.prog 32 [L ga0 p0 gc1, I p1] [] [RO (L ga0 p0 gc1) p0] fun (_ : Unit) => ([I r], [], [])) := by
 induction n with
 | zero => exact ⟨by intro p0 p1 ga0 gc1 r h; simp [laws_szTerm] at h, by intro p0 p1 ga0 gc1 r h; simp [laws_szTermS] at h⟩
 | succ n ih =>
 obtain ⟨ih0, ih1⟩ := ih
 refine ⟨?_, ?_⟩
 · intro p0 p1 ga0 gc1 r h
   rw [laws_szTerm] at h
   refine En Tryz.func50 rfl Tryz.ntmps50 fun _ fr w c => ?_
   refine T0 (Ebx [I p0.Op, I p0.W, I p0.N, Str.val p0.Name, L ga0 p0.Kids gc1] c fun b1 _ _ c => ?_)
   refine Fp [] 1 c fun _ c => E0 (P0 [(2, 0)] c fun _ c => S0 (P0 [] c fun _ c => I0 c h (fun h => ?_) fun h => ?_))
   refine P0 [] c fun _ c => ?_
   cases h
   exact wp_ret (tr (Rt c () [] []))
   refine K0 (T0 (Fp [(1, 0)] 3 c fun _ c => Bd h fun x1 hx1 h => Ca [] c (ih1 hx1) ⟨.f 0, trivial⟩ Tryz.call32 fun _ _ _ c => ?_))
   refine Fp [] 1 c fun _ c => E0 (S0 (P0 [] c fun _ c => I0 c h (fun h => ?_) fun h => ?_))
   refine P0 [] c fun _ c => ?_
   cases h
   exact wp_ret (tr (Rt c () [] []))
   refine K0 (P0 [] c fun _ c => ?_)
   obtain rfl := sj h
   exact wp_ret (Rt c () [] [])
 · intro p0 p1 ga0 gc1 r h
   rw [laws_szTermS] at h
   refine En Tryz.func32 rfl Tryz.ntmps32 fun _ fr w c => ?_
   refine P0 [] c fun _ c => P0 [] c fun _ c => S0 (P0 [] c fun _ c => I0 c h (fun h => ?_) fun h => ?_)
   refine P0 [] c fun _ c => ?_
   cases h
   exact wp_ret (tr (Rt c () [] []))
   refine K0 (S0 (P0 [] c fun _ c => Bd h fun rl1 hit1 h => ?_))
   have hk1 := h
   refine LpR (fun s1  (_ : Unit) => ([(0, L ga0 p0 gc1), (1, I s1.1), (5, I s1.2)], id, [])) (fun s  (_ : Unit) => ([(1, I s)], id, [])) hit1 c () (c.re [] [0]) (fun s1 q1 _ _ _ c h hr1 => ?_) fun s1r _ _ _ hrl c => ?_
   refine S0 (P0 [] c fun _ c => I0 c h (fun h => ?_) fun h => ?_)
   refine K0 (S0 (wp_block (T0 (Fp [] 2 c fun _ c => Bd h fun x1 hx1 h => Eem c (.f 0) hx1 fun _ u1 _ c => ?_))))
   obtain ⟨a1, c1, rfl, c⟩ := c.o_Term 1
   refine Fp [] 1 c fun _ c => Bd h fun x2 hx2 h => Ca [] c (ih0 hx2) ⟨.f 2, trivial⟩ Tryz.call50 fun _ _ _ c => ?_
   refine Fp [] 1 c fun _ c => E0 (P0 [] c fun _ c => I0 c h (fun h => ?_) fun h => ?_)
   refine P0 [] c fun _ c => ?_
   obtain rfl := hr1 _ (Option.some.inj h).symm
   obtain rfl := Option.some.inj hk1
   exact wp_ret (br (tr (tr (br (tr (Rt c () [] []))))))
   refine K1 (bk (tn (P1 [] c fun _ c => Nx h () (c.re [] [0]))))
   refine wp_exit (te (te (be ?_)))
   obtain rfl := hr1 _ (Option.some.inj h).symm
   exact tn ⟨_, (), rfl, c.re [] [0]⟩
   subst hrl
   refine P0 [] c fun _ c => ?_
   obtain rfl := sj h
   exact wp_ret (Rt c () [] [])
theorem laws_szTerm_ok {n : Nat} : ∀ {p0 : D.Term} {p1 : Int} {ga0 : Option Addr} {gc1 : Nat} {r : Int} (h : laws_szTerm n p0 p1 = some r), Con Tryz.prog 50 [.agg #[I p0.Op, I p0.W, I p0.N, Str.val p0.Name, L ga0 p0.Kids gc1], I p1] [] [RO (L ga0 p0.Kids gc1) p0.Kids] fun (_ : Unit) => ([I r], [], []) := (laws_szTerm_laws_szTermS_rec n).1
theorem laws_szTermS_ok {n : Nat} : ∀ {p0 : List D.Term} {p1 : Int} {ga0 : Option Addr} {gc1 : Nat} {r : Int} (h : laws_szTermS n p0 p1 = some r), Con Tryz.prog 32 [L ga0 p0 gc1, I p1] [] [RO (L ga0 p0 gc1) p0] fun (_ : Unit) => ([I r], [], []) := (laws_szTerm_laws_szTermS_rec n).2

theorem laws_szIntS_ok {p0 : List Int} {p1 : Int} {ga0 : Option Addr} {gc1 : Nat} {r : Int} (h : laws_szIntS p0 p1 = some r) : Con Tryz.prog 33 [L ga0 p0 gc1, I p1] [] [RO (L ga0 p0 gc1) p0] fun (_ : Unit) => ([I r], [], []) := by
 unfold laws_szIntS at h
 refine En Tryz.func33 rfl Tryz.ntmps33 fun _ fr w c => ?_
 refine P0 [] c fun _ c => P0 [] c fun _ c => S0 (P0 [] c fun _ c => I0 c h (fun h => ?_) fun h => ?_)
 refine P0 [] c fun _ c => ?_
 cases h
 exact wp_ret (tr (Rt c () [] []))
 refine K0 (P0 [] c fun _ c => ?_)
 cases h
 exact wp_ret (Rt c () [] [])

theorem laws_szPath_ok {n : Nat} {p0 : D.Path} {p1 : Int} {ga0 : Option Addr} {gc1 : Nat} {ga2 : Option Addr} {gc3 : Nat} {ga4 : Option Addr} {gc5 : Nat} {ga6 : Option Addr} {gc7 : Nat} {ga8 : Option Addr} {gc9 : Nat} {ga10 : Option Addr} {gc11 : Nat} {r : Int} (h : laws_szPath n p0 p1 = some r) : Con Tryz.prog 7 [.agg #[I p0.Pc, L ga0 p0.Regs gc1, L ga2 p0.Mem gc3, L ga4 p0.Stack gc5, I p0.In, L ga6 p0.Out gc7, I p0.Code, I p0.Steps, L ga8 p0.Cond gc9, L ga10 p0.Turns gc11], I p1] [] [RO (L ga0 p0.Regs gc1) p0.Regs, RO (L ga2 p0.Mem gc3) p0.Mem, RO (L ga4 p0.Stack gc5) p0.Stack, RO (L ga6 p0.Out gc7) p0.Out, RO (L ga8 p0.Cond gc9) p0.Cond, RO (L ga10 p0.Turns gc11) p0.Turns] fun (_ : Unit) => ([I r], [], []) := by
 unfold laws_szPath at h
 refine En Tryz.func7 rfl Tryz.ntmps7 fun _ fr w c => ?_
 refine T0 (Ebx [I p0.Pc, L ga0 p0.Regs gc1, L ga2 p0.Mem gc3, L ga4 p0.Stack gc5, I p0.In, L ga6 p0.Out gc7, I p0.Code, I p0.Steps, L ga8 p0.Cond gc9, L ga10 p0.Turns gc11] c fun b1 _ _ c => ?_)
 refine Fp [] 1 c fun _ c => E0 (T0 (Fp [(1, 0)] 3 c fun _ c => Bd h fun x1 hx1 h => Ca [] c (laws_szTermS_ok hx1) ⟨.f 0, trivial⟩ Tryz.call32 fun _ _ _ c => ?_))
 refine Fp [] 1 c fun _ c => E0 (S0 (P0 [] c fun _ c => I0 c h (fun h => ?_) fun h => ?_))
 refine P0 [] c fun _ c => ?_
 cases h
 exact wp_ret (tr (Rt c () [] []))
 refine K0 (T0 (Fp [(1, 0)] 3 c fun _ c => Bd h fun x2 hx2 h => Ca [] c (laws_szTermS_ok hx2) ⟨.f 1, trivial⟩ Tryz.call32 fun _ _ _ c => ?_))
 refine Fp [] 1 c fun _ c => E0 (S0 (P0 [] c fun _ c => I0 c h (fun h => ?_) fun h => ?_))
 refine P0 [] c fun _ c => ?_
 cases h
 exact wp_ret (tr (Rt c () [] []))
 refine K0 (T0 (Fp [(1, 0)] 3 c fun _ c => Bd h fun x3 hx3 h => Ca [] c (laws_szIntS_ok hx3) ⟨.f 2, trivial⟩ Tryz.call33 fun _ _ _ c => ?_))
 refine Fp [] 1 c fun _ c => E0 (S0 (P0 [] c fun _ c => I0 c h (fun h => ?_) fun h => ?_))
 refine P0 [] c fun _ c => ?_
 cases h
 exact wp_ret (tr (Rt c () [] []))
 refine K0 (T0 (Fp [(1, 0)] 3 c fun _ c => Bd h fun x4 hx4 h => Ca [] c (laws_szTermS_ok hx4) ⟨.f 3, trivial⟩ Tryz.call32 fun _ _ _ c => ?_))
 refine Fp [] 1 c fun _ c => E0 (S0 (P0 [] c fun _ c => I0 c h (fun h => ?_) fun h => ?_))
 refine P0 [] c fun _ c => ?_
 cases h
 exact wp_ret (tr (Rt c () [] []))
 refine K0 (T0 (Fp [(1, 0)] 3 c fun _ c => ?_))
 replace c := c.gm [BX b1 28 [I p0.Pc, L ga0 p0.Regs gc1, L ga2 p0.Mem gc3, L ga4 p0.Stack gc5, I p0.In, L ga6 p0.Out gc7, I p0.Code, I p0.Steps, L ga8 p0.Cond gc9, L ga10 p0.Turns gc11]]
 refine Bd h fun x5 hx5 h => Ca [] c (laws_szTermS_ok hx5) ⟨.f 4, trivial⟩ Tryz.call32 fun _ _ _ c => ?_
 refine Fp [] 1 c fun _ c => E0 (S0 (P0 [] c fun _ c => I0 c h (fun h => ?_) fun h => ?_))
 refine P0 [] c fun _ c => ?_
 cases h
 exact wp_ret (tr (Rt c () [] []))
 refine K0 (T0 (Fp [(1, 0)] 3 c fun _ c => Bd h fun x6 hx6 h => Ca [] c (laws_szIntS_ok hx6) ⟨.f 5, trivial⟩ Tryz.call33 fun _ _ _ c => ?_))
 refine Fp [] 1 c fun _ c => E0 (S0 (P0 [] c fun _ c => I0 c h (fun h => ?_) fun h => ?_))
 refine P0 [] c fun _ c => ?_
 cases h
 exact wp_ret (tr (Rt c () [] []))
 refine K0 (P0 [] c fun _ c => ?_)
 obtain rfl := sj h
 exact wp_ret (Rt c () [] [])

theorem laws_toIns_ok {p0 : D.Ins} {r : D.Ins} (h : laws_toIns p0 = some r) : Con Tryz.prog 57 [.agg #[I p0.Op, I p0.A, I p0.B, I p0.C]] [] [] fun (_ : Unit) => ([.agg #[I r.Op, I r.A, I r.B, I r.C]], [], []) := by
 unfold laws_toIns at h
 refine En Tryz.func57 rfl Tryz.ntmps57 fun _ fr w c => ?_
 refine T0 (Ebx [I p0.Op, I p0.A, I p0.B, I p0.C] c fun b1 _ _ c => ?_)
 refine Eal [I 0, I 0, I 0, I 0] c fun b2 _ _ c => ?_
 refine E0 (T0 (Eal [I 0, I 0, I 0, I 0] c fun b3 _ _ c => ?_))
 refine E0 (T0 (Fp [(1, 0)] 3 c fun _ c => Esb 2 0 (I p0.Op) c fun _ c => ?_))
 refine E0 (T0 (Fp [(1, 0)] 3 c fun _ c => Esb 2 1 (I p0.A) c fun _ c => ?_))
 refine E0 (T0 (Fp [(1, 0)] 3 c fun _ c => ?_))
 replace c := c.gm [BX b1 93 [I p0.Op, I p0.A, I p0.B, I p0.C], BX b2 91 [I 0, I 0, I 0, I 0], BX b3 91 [I p0.Op, I p0.A, I 0, I 0]]
 refine Esb 2 2 (I p0.B) c fun _ c => ?_
 refine E0 (T0 (Fp [(1, 0)] 3 c fun _ c => Esb 2 3 (I p0.C) c fun _ c => ?_))
 refine E0 (T0 (Fp [(0, 2)] 1 c fun _ c => Ess 1 [I p0.Op, I p0.A, I p0.B, I p0.C] c fun _ c => ?_))
 refine E0 ?_
 obtain rfl := sj h
 exact wp_ret (Rg c () [] [] (.cell (α := Agg 3) ⟨by kernel_rfl, by kernel_rfl⟩ (.b 1) .nil))

theorem laws_toInsS_ok {n : Nat} {p0 : List D.Ins} {ga0 : Option Addr} {gc1 : Nat} {r : (List D.Ins)} (h : laws_toInsS n p0 = some r) : Con Tryz.prog 38 [L ga0 p0 gc1] [] [RO (L ga0 p0 gc1) p0] fun (i : Option Addr × Nat) => ([L i.1 r i.2], [sl91 (L i.1 r i.2) r], []) := by
 unfold laws_toInsS at h
 refine En Tryz.func38 rfl Tryz.ntmps38 fun _ fr w c => ?_
 refine P0 [] c fun _ c => T0 (Fp [] 2 c fun _ c => Bd h fun x1 hx1 h => Emk 91 c hx1 fun a1 c1 _ _ c => ?_)
 refine Fp [] 1 c fun _ c => E0 (S0 (P0 [] c fun _ c => Bd h fun rl1 hit1 h => Lp (fun s1  (_ : Unit) => ([(0, L ga0 p0 gc1), (3, L a1 x1 c1), (4, I s1.1)], fun Γ => Γ.set 0 (sl91 (L a1 x1 c1) s1.2), [])) (fun  (_ : Unit) => ([(3, L a1 x1 c1)], fun Γ => Γ.set 0 (sl91 (L a1 x1 c1) rl1), [])) hit1 c () (c.re [0] [0]) (fun s1 q1 _ _ _ c h hr1 => ?_) fun _ _ _ c => ?_))
 refine S0 (P0 [] c fun _ c => I0 c h (fun h => ?_) fun h => ?_)
 refine K0 (S0 (wp_block (T1 (Fp [] 4 c fun _ c => Bd h fun x2 hx2 h => Eel c (.f 0) hx2 fun _ _ c => ?_))))
 refine Bd h fun x3 hx3 h => Ca [] c (laws_toIns_ok hx3) trivial Tryz.call57 fun _ _ _ c => ?_
 refine Bd h fun x4 hx4 h => Eset 0 c hx4 fun _ _ _ c => ?_
 refine E1 (bk (tn (P1 [] c fun _ c => Nx h () (c.re [0] [0]))))
 refine wp_exit (te (te (be ?_)))
 obtain rfl := hr1 _ (Option.some.inj h).symm
 exact tn ⟨(), c.re [0] [0]⟩
 refine P0 [] c fun _ c => ?_
 obtain rfl := sj h
 obtain ⟨he1, c⟩ := c.relen 0
 replace c := c.eqs (v := L a1 x1 c1) (u := L a1 rl1 c1) 2 (by simp only [L, he1])
 exact wp_ret (Rt c (a1, c1) [0] [])

theorem laws_toProgram_ok {n : Nat} {p0 : D.Program} {ga0 : Option Addr} {gc1 : Nat} {r : D.Program} (h : laws_toProgram n p0 = some r) : Con Tryz.prog 9 [.agg #[I p0.W, I p0.Mem, I p0.In, L ga0 p0.Code gc1]] [] [RO (L ga0 p0.Code gc1) p0.Code] fun (i : Option Addr × Nat) => ([.agg #[I r.W, I r.Mem, I r.In, L i.1 r.Code i.2]], [sl91 (L i.1 r.Code i.2) r.Code], []) := by
 unfold laws_toProgram at h
 refine En Tryz.func9 rfl Tryz.ntmps9 fun _ fr w c => ?_
 refine T0 (Ebx [I p0.W, I p0.Mem, I p0.In, L ga0 p0.Code gc1] c fun b1 _ _ c => ?_)
 refine Eal [I 0, I 0, I 0, L none ([] : List D.Ins) 0] c fun b2 _ _ c => ?_
 refine E0 (T0 (Eal [I 0, I 0, I 0, L none ([] : List D.Ins) 0] c fun b3 _ _ c => ?_))
 refine E0 (T0 (Fp [(1, 0)] 3 c fun _ c => Esb 2 0 (I p0.W) c fun _ c => ?_))
 refine E0 (T0 (Fp [(1, 0)] 3 c fun _ c => Esb 2 1 (I p0.Mem) c fun _ c => ?_))
 refine E0 (T0 (Fp [(1, 0)] 3 c fun _ c => ?_))
 replace c := c.gm [BX b1 24 [I p0.W, I p0.Mem, I p0.In, L ga0 p0.Code gc1], BX b2 34 [I 0, I 0, I 0, L none ([] : List D.Ins) 0], BX b3 34 [I p0.W, I p0.Mem, I 0, L none ([] : List D.Ins) 0]]
 refine Esb 2 2 (I p0.In) c fun _ c => ?_
 refine E0 (T0 (Fp [(1, 0)] 2 c fun _ c => Bd h fun x1 hx1 h => Ca [] c (laws_toInsS_ok hx1) ⟨.f 0, trivial⟩ Tryz.call38 fun i1 _ _ c => ?_))
 refine Fp [] 1 c fun _ c => Esb 2 3 (L i1.1 x1 i1.2) c fun _ c => ?_
 refine E0 (T0 (Fp [(0, 2)] 1 c fun _ c => Ess 1 [I p0.W, I p0.Mem, I p0.In, L i1.1 x1 i1.2] c fun _ c => ?_))
 refine E0 ?_
 cases h
 exact wp_ret (Rg c (i1.1, i1.2) [3] [] (.cell (α := Agg 3) ⟨by kernel_rfl, by kernel_rfl⟩ (.b 1) .nil))

theorem laws_toTerm_laws_toTermS_rec (n : Nat) : (∀ {p0 : D.Term} {ga0 : Option Addr} {gc1 : Nat} {r : D.Term} (h : laws_toTerm n p0 = some r), Con Tryz.prog 58 [.agg #[I p0.Op, I p0.W, I p0.N, Str.val p0.Name, L ga0 p0.Kids gc1]] [] [RO (L ga0 p0.Kids gc1) p0.Kids] fun (i : Option Addr × Nat) => ([.agg #[I r.Op, I r.W, I r.N, Str.val r.Name, L i.1 r.Kids i.2]], [OD (ownT 75) 75 (L i.1 r.Kids i.2) r.Kids], [])) ∧
    (∀ {p0 : List D.Term} {ga0 : Option Addr} {gc1 : Nat} {r : (List D.Term)} (h : laws_toTermS n p0 = some r), Con Tryz.prog 39 [L ga0 p0 gc1] [] [RO (L ga0 p0 gc1) p0] fun (i : Option Addr × Nat) => ([L i.1 r i.2], [OD (ownT 75) 75 (L i.1 r i.2) r], [])) := by
 induction n with
 | zero => exact ⟨by intro p0 ga0 gc1 r h; simp [laws_toTerm] at h, by intro p0 ga0 gc1 r h; simp [laws_toTermS] at h⟩
 | succ n ih =>
 obtain ⟨ih0, ih1⟩ := ih
 refine ⟨?_, ?_⟩
 · intro p0 ga0 gc1 r h
   rw [laws_toTerm] at h
   refine En Tryz.func58 rfl Tryz.ntmps58 fun _ fr w c => ?_
   refine T0 (Ebx [I p0.Op, I p0.W, I p0.N, Str.val p0.Name, L ga0 p0.Kids gc1] c fun b1 _ _ c => ?_)
   refine Eal [I 0, I 0, I 0, Str.val ⟨[]⟩, L none ([] : List D.Term) 0] c fun b2 _ _ c => ?_
   refine E0 (T0 (Eal [I 0, I 0, I 0, Str.val ⟨[]⟩, L none ([] : List D.Term) 0] c fun b3 _ _ c => ?_))
   refine E0 (T0 (Fp [(1, 0)] 3 c fun _ c => Esb 2 0 (I p0.Op) c fun _ c => ?_))
   refine E0 (T0 (Fp [(1, 0)] 3 c fun _ c => Esb 2 1 (I p0.W) c fun _ c => ?_))
   refine E0 (T0 (Fp [(1, 0)] 3 c fun _ c => ?_))
   replace c := c.gm [BX b1 82 [I p0.Op, I p0.W, I p0.N, Str.val p0.Name, L ga0 p0.Kids gc1], BX b2 75 [I 0, I 0, I 0, Str.val ⟨[]⟩, L none ([] : List D.Term) 0], BX b3 75 [I p0.Op, I p0.W, I 0, Str.val ⟨[]⟩, L none ([] : List D.Term) 0]]
   refine Esb 2 2 (I p0.N) c fun _ c => ?_
   refine E0 (T0 (Fp [(1, 0)] 3 c fun _ c => Esb 2 3 (Str.val p0.Name) c fun _ c => ?_))
   refine E0 (T0 (Fp [(1, 0)] 2 c fun _ c => Bd h fun x1 hx1 h => Ca [] c (ih1 hx1) ⟨.f 0, trivial⟩ Tryz.call39 fun i1 _ _ c => ?_))
   refine Fp [] 1 c fun _ c => Esb 2 4 (L i1.1 x1 i1.2) c fun _ c => ?_
   refine E0 (T0 (Fp [(0, 2)] 1 c fun _ c => Ess 1 [I p0.Op, I p0.W, I p0.N, Str.val p0.Name, L i1.1 x1 i1.2] c fun _ c => ?_))
   refine E0 ?_
   cases h
   exact wp_ret (Rg c (i1.1, i1.2) [3] [] (.cell (α := Agg 4) ⟨by kernel_rfl, by kernel_rfl⟩ (.b 1) .nil))
 · intro p0 ga0 gc1 r h
   rw [laws_toTermS] at h
   refine En Tryz.func39 rfl Tryz.ntmps39 fun _ fr w c => ?_
   refine P0 [] c fun _ c => T0 (Fp [] 2 c fun _ c => Bd h fun x1 hx1 h => Emkd 75 (⟨0, 0, 0, ⟨[]⟩, ⟨none, 0, 0⟩⟩ : Rw.Term) (fun w => ownT_zero 75 w) c hx1 fun a1 c1 _ _ c => ?_)
   refine Fp [] 1 c fun _ c => E0 (S0 (P0 [] c fun _ c => Bd h fun rl1 hit1 h => Lp (fun s1  (i : List Rw.Term) => ([(0, L ga0 p0 gc1), (3, L a1 x1 c1), (4, I s1.1)], fun Γ => (Γ.set 0 (sl75 (L a1 x1 c1) (i))).set 1 (HP.all (ownT 75) (i) s1.2), [])) (fun  (i : List Rw.Term) => ([(3, L a1 x1 c1)], fun Γ => (Γ.set 0 (sl75 (L a1 x1 c1) (i))).set 1 (HP.all (ownT 75) (i) rl1), [])) hit1 c ((List.replicate (List.length x1) (⟨0, 0, 0, ⟨[]⟩, ⟨none, 0, 0⟩⟩ : Rw.Term))) (c.re [0, 1] [0]) (fun s1 q1 i1 _ _ c h hr1 => ?_) fun k1 _ _ c => ?_))
   refine S0 (P0 [] c fun _ c => I0 c h (fun h => ?_) fun h => ?_)
   refine K0 (S0 (wp_block (T1 (Fp [] 4 c fun _ c => Bd h fun x2 hx2 h => Eem c (.f 0) hx2 fun _ u1 _ c => ?_))))
   obtain ⟨a2, c2, rfl, c⟩ := c.o_Term 1
   refine Bd h fun x3 hx3 h => Ca [] c (ih0 hx3) ⟨.f 2, trivial⟩ Tryz.call58 fun i2 _ _ c => ?_
   replace c := c.pack (H := ownT 75 (Rw.Term.mk x3.Op x3.W x3.N x3.Name ⟨i2.1, List.length x3.Kids, i2.2⟩) x3) [OD (ownT 75) 75 (L i2.1 x3.Kids i2.2) x3.Kids] [2] (fun A h => ownT_mk (x := x3) (Sep.sole h))
   refine Bd h fun x4 hx4 h => Esetd 0 1 2 c hx4 fun _ _ _ c => ?_
   refine E1 (bk (tn (P1 [] c fun _ c => Nx h ((List.set i1 (s1.1).toNat (Rw.Term.mk x3.Op x3.W x3.N x3.Name ⟨i2.1, List.length x3.Kids, i2.2⟩))) (c.re [0, 1] [0]))))
   refine wp_exit (te (te (be ?_)))
   obtain rfl := hr1 _ (Option.some.inj h).symm
   exact tn ⟨(i1), c.re [0, 1] [0]⟩
   refine P0 [] c fun _ c => ?_
   replace c := c.odc 0 1
   obtain rfl := sj h
   obtain ⟨he1, c⟩ := c.releno 0
   replace c := c.eqs (v := L a1 x1 c1) (u := L a1 rl1 c1) 2 (by simp only [L, he1])
   exact wp_ret (Rt c (a1, c1) [0] [])
theorem laws_toTerm_ok {n : Nat} : ∀ {p0 : D.Term} {ga0 : Option Addr} {gc1 : Nat} {r : D.Term} (h : laws_toTerm n p0 = some r), Con Tryz.prog 58 [.agg #[I p0.Op, I p0.W, I p0.N, Str.val p0.Name, L ga0 p0.Kids gc1]] [] [RO (L ga0 p0.Kids gc1) p0.Kids] fun (i : Option Addr × Nat) => ([.agg #[I r.Op, I r.W, I r.N, Str.val r.Name, L i.1 r.Kids i.2]], [OD (ownT 75) 75 (L i.1 r.Kids i.2) r.Kids], []) := (laws_toTerm_laws_toTermS_rec n).1
theorem laws_toTermS_ok {n : Nat} : ∀ {p0 : List D.Term} {ga0 : Option Addr} {gc1 : Nat} {r : (List D.Term)} (h : laws_toTermS n p0 = some r), Con Tryz.prog 39 [L ga0 p0 gc1] [] [RO (L ga0 p0 gc1) p0] fun (i : Option Addr × Nat) => ([L i.1 r i.2], [OD (ownT 75) 75 (L i.1 r i.2) r], []) := (laws_toTerm_laws_toTermS_rec n).2

theorem laws_toIntS_ok {n : Nat} {p0 : List Int} {ga0 : Option Addr} {gc1 : Nat} {r : (List Int)} (h : laws_toIntS n p0 = some r) : Con Tryz.prog 11 [L ga0 p0 gc1] [] [RO (L ga0 p0 gc1) p0] fun (i : Option Addr × Nat) => ([L i.1 r i.2], [sl3 (L i.1 r i.2) r], []) := by
 unfold laws_toIntS at h
 refine En Tryz.func11 rfl Tryz.ntmps11 fun _ fr w c => ?_
 refine P0 [] c fun _ c => T0 (Fp [] 2 c fun _ c => Bd h fun x1 hx1 h => Emk 3 c hx1 fun a1 c1 _ _ c => ?_)
 refine Fp [] 1 c fun _ c => E0 (S0 (P0 [] c fun _ c => Bd h fun rl1 hit1 h => Lp (fun s1  (_ : Unit) => ([(0, L ga0 p0 gc1), (3, L a1 x1 c1), (4, I s1.1)], fun Γ => Γ.set 0 (sl3 (L a1 x1 c1) s1.2), [])) (fun  (_ : Unit) => ([(3, L a1 x1 c1)], fun Γ => Γ.set 0 (sl3 (L a1 x1 c1) rl1), [])) hit1 c () (c.re [0] [0]) (fun s1 q1 _ _ _ c h hr1 => ?_) fun _ _ _ c => ?_))
 refine S0 (P0 [] c fun _ c => I0 c h (fun h => ?_) fun h => ?_)
 refine K0 (S0 (wp_block (T1 (Fp [] 4 c fun _ c => Bd h fun x2 hx2 h => Eel c (.f 0) hx2 fun _ _ c => ?_))))
 refine Bd h fun x3 hx3 h => Eset 0 c hx3 fun _ _ _ c => ?_
 refine E1 (bk (tn (P1 [] c fun _ c => Nx h () (c.re [0] [0]))))
 refine wp_exit (te (te (be ?_)))
 obtain rfl := hr1 _ (Option.some.inj h).symm
 exact tn ⟨(), c.re [0] [0]⟩
 refine P0 [] c fun _ c => ?_
 obtain rfl := sj h
 obtain ⟨he1, c⟩ := c.relen 0
 replace c := c.eqs (v := L a1 x1 c1) (u := L a1 rl1 c1) 2 (by simp only [L, he1])
 exact wp_ret (Rt c (a1, c1) [0] [])

theorem laws_toPath_ok {n : Nat} {p0 : D.Path} {ga0 : Option Addr} {gc1 : Nat} {ga2 : Option Addr} {gc3 : Nat} {ga4 : Option Addr} {gc5 : Nat} {ga6 : Option Addr} {gc7 : Nat} {ga8 : Option Addr} {gc9 : Nat} {ga10 : Option Addr} {gc11 : Nat} {r : D.Path} (h : laws_toPath n p0 = some r) : Con Tryz.prog 10 [.agg #[I p0.Pc, L ga0 p0.Regs gc1, L ga2 p0.Mem gc3, L ga4 p0.Stack gc5, I p0.In, L ga6 p0.Out gc7, I p0.Code, I p0.Steps, L ga8 p0.Cond gc9, L ga10 p0.Turns gc11]] [] [RO (L ga0 p0.Regs gc1) p0.Regs, RO (L ga2 p0.Mem gc3) p0.Mem, RO (L ga4 p0.Stack gc5) p0.Stack, RO (L ga6 p0.Out gc7) p0.Out, RO (L ga8 p0.Cond gc9) p0.Cond, RO (L ga10 p0.Turns gc11) p0.Turns] fun (i : Option Addr × Nat × Option Addr × Nat × Option Addr × Nat × Option Addr × Nat × Option Addr × Nat × Option Addr × Nat) => ([.agg #[I r.Pc, L i.1 r.Regs i.2.1, L i.2.2.1 r.Mem i.2.2.2.1, L i.2.2.2.2.1 r.Stack i.2.2.2.2.2.1, I r.In, L i.2.2.2.2.2.2.1 r.Out i.2.2.2.2.2.2.2.1, I r.Code, I r.Steps, L i.2.2.2.2.2.2.2.2.1 r.Cond i.2.2.2.2.2.2.2.2.2.1, L i.2.2.2.2.2.2.2.2.2.2.1 r.Turns i.2.2.2.2.2.2.2.2.2.2.2]], [OD (ownT 75) 75 (L i.1 r.Regs i.2.1) r.Regs, OD (ownT 75) 75 (L i.2.2.1 r.Mem i.2.2.2.1) r.Mem, sl3 (L i.2.2.2.2.1 r.Stack i.2.2.2.2.2.1) r.Stack, OD (ownT 75) 75 (L i.2.2.2.2.2.2.1 r.Out i.2.2.2.2.2.2.2.1) r.Out, OD (ownT 75) 75 (L i.2.2.2.2.2.2.2.2.1 r.Cond i.2.2.2.2.2.2.2.2.2.1) r.Cond, sl3 (L i.2.2.2.2.2.2.2.2.2.2.1 r.Turns i.2.2.2.2.2.2.2.2.2.2.2) r.Turns], []) := by
 unfold laws_toPath at h
 refine En Tryz.func10 rfl Tryz.ntmps10 fun _ fr w c => ?_
 refine T0 (Ebx [I p0.Pc, L ga0 p0.Regs gc1, L ga2 p0.Mem gc3, L ga4 p0.Stack gc5, I p0.In, L ga6 p0.Out gc7, I p0.Code, I p0.Steps, L ga8 p0.Cond gc9, L ga10 p0.Turns gc11] c fun b1 _ _ c => ?_)
 refine Eal [I 0, L none ([] : List D.Term) 0, L none ([] : List D.Term) 0, L none ([] : List Int) 0, I 0, L none ([] : List D.Term) 0, I 0, I 0, L none ([] : List D.Term) 0, L none ([] : List Int) 0] c fun b2 _ _ c => ?_
 refine E0 (T0 (Eal [I 0, L none ([] : List D.Term) 0, L none ([] : List D.Term) 0, L none ([] : List Int) 0, I 0, L none ([] : List D.Term) 0, I 0, I 0, L none ([] : List D.Term) 0, L none ([] : List Int) 0] c fun b3 _ _ c => ?_))
 refine E0 (T0 (Fp [(1, 0)] 3 c fun _ c => Esb 2 0 (I p0.Pc) c fun _ c => ?_))
 refine E0 (T0 (Fp [(1, 0)] 2 c fun _ c => Bd h fun x1 hx1 h => Ca [] c (laws_toTermS_ok hx1) ⟨.f 0, trivial⟩ Tryz.call39 fun i1 _ _ c => ?_))
 refine Fp [] 1 c fun _ c => ?_
 replace c := c.gm [BX b1 28 [I p0.Pc, L ga0 p0.Regs gc1, L ga2 p0.Mem gc3, L ga4 p0.Stack gc5, I p0.In, L ga6 p0.Out gc7, I p0.Code, I p0.Steps, L ga8 p0.Cond gc9, L ga10 p0.Turns gc11], BX b2 38 [I 0, L none ([] : List D.Term) 0, L none ([] : List D.Term) 0, L none ([] : List Int) 0, I 0, L none ([] : List D.Term) 0, I 0, I 0, L none ([] : List D.Term) 0, L none ([] : List Int) 0], BX b3 38 [I p0.Pc, L none ([] : List D.Term) 0, L none ([] : List D.Term) 0, L none ([] : List Int) 0, I 0, L none ([] : List D.Term) 0, I 0, I 0, L none ([] : List D.Term) 0, L none ([] : List Int) 0], OD (ownT 75) 75 (L i1.1 x1 i1.2) x1]
 refine Esb 2 1 (L i1.1 x1 i1.2) c fun _ c => ?_
 refine E0 (T0 (Fp [(1, 0)] 2 c fun _ c => Bd h fun x2 hx2 h => Ca [] c (laws_toTermS_ok hx2) ⟨.f 1, trivial⟩ Tryz.call39 fun i2 _ _ c => ?_))
 refine Fp [] 1 c fun _ c => Esb 2 2 (L i2.1 x2 i2.2) c fun _ c => ?_
 refine E0 (T0 (Fp [(1, 0)] 2 c fun _ c => Bd h fun x3 hx3 h => Ca [] c (laws_toIntS_ok hx3) ⟨.f 2, trivial⟩ Tryz.call11 fun i3 _ _ c => ?_))
 refine Fp [] 1 c fun _ c => ?_
 replace c := c.gm [BX b1 28 [I p0.Pc, L ga0 p0.Regs gc1, L ga2 p0.Mem gc3, L ga4 p0.Stack gc5, I p0.In, L ga6 p0.Out gc7, I p0.Code, I p0.Steps, L ga8 p0.Cond gc9, L ga10 p0.Turns gc11], BX b2 38 [I 0, L none ([] : List D.Term) 0, L none ([] : List D.Term) 0, L none ([] : List Int) 0, I 0, L none ([] : List D.Term) 0, I 0, I 0, L none ([] : List D.Term) 0, L none ([] : List Int) 0], BX b3 38 [I p0.Pc, L i1.1 x1 i1.2, L i2.1 x2 i2.2, L none ([] : List Int) 0, I 0, L none ([] : List D.Term) 0, I 0, I 0, L none ([] : List D.Term) 0, L none ([] : List Int) 0], OD (ownT 75) 75 (L i1.1 x1 i1.2) x1, OD (ownT 75) 75 (L i2.1 x2 i2.2) x2, sl3 (L i3.1 x3 i3.2) x3]
 refine Esb 2 3 (L i3.1 x3 i3.2) c fun _ c => ?_
 refine E0 (T0 (Fp [(1, 0)] 3 c fun _ c => Esb 2 4 (I p0.In) c fun _ c => ?_))
 refine E0 (T0 (Fp [(1, 0)] 2 c fun _ c => Bd h fun x4 hx4 h => Ca [] c (laws_toTermS_ok hx4) ⟨.f 3, trivial⟩ Tryz.call39 fun i4 _ _ c => ?_))
 refine Fp [] 1 c fun _ c => ?_
 replace c := c.gm [BX b1 28 [I p0.Pc, L ga0 p0.Regs gc1, L ga2 p0.Mem gc3, L ga4 p0.Stack gc5, I p0.In, L ga6 p0.Out gc7, I p0.Code, I p0.Steps, L ga8 p0.Cond gc9, L ga10 p0.Turns gc11], BX b2 38 [I 0, L none ([] : List D.Term) 0, L none ([] : List D.Term) 0, L none ([] : List Int) 0, I 0, L none ([] : List D.Term) 0, I 0, I 0, L none ([] : List D.Term) 0, L none ([] : List Int) 0], BX b3 38 [I p0.Pc, L i1.1 x1 i1.2, L i2.1 x2 i2.2, L i3.1 x3 i3.2, I p0.In, L none ([] : List D.Term) 0, I 0, I 0, L none ([] : List D.Term) 0, L none ([] : List Int) 0], OD (ownT 75) 75 (L i1.1 x1 i1.2) x1, OD (ownT 75) 75 (L i2.1 x2 i2.2) x2, sl3 (L i3.1 x3 i3.2) x3, OD (ownT 75) 75 (L i4.1 x4 i4.2) x4]
 refine Esb 2 5 (L i4.1 x4 i4.2) c fun _ c => ?_
 refine E0 (T0 (Fp [(1, 0)] 3 c fun _ c => Esb 2 6 (I p0.Code) c fun _ c => ?_))
 refine E0 (T0 (Fp [(1, 0)] 3 c fun _ c => Esb 2 7 (I p0.Steps) c fun _ c => ?_))
 refine E0 (T0 (Fp [(1, 0)] 2 c fun _ c => ?_))
 replace c := c.gm [BX b1 28 [I p0.Pc, L ga0 p0.Regs gc1, L ga2 p0.Mem gc3, L ga4 p0.Stack gc5, I p0.In, L ga6 p0.Out gc7, I p0.Code, I p0.Steps, L ga8 p0.Cond gc9, L ga10 p0.Turns gc11], BX b2 38 [I 0, L none ([] : List D.Term) 0, L none ([] : List D.Term) 0, L none ([] : List Int) 0, I 0, L none ([] : List D.Term) 0, I 0, I 0, L none ([] : List D.Term) 0, L none ([] : List Int) 0], BX b3 38 [I p0.Pc, L i1.1 x1 i1.2, L i2.1 x2 i2.2, L i3.1 x3 i3.2, I p0.In, L i4.1 x4 i4.2, I p0.Code, I p0.Steps, L none ([] : List D.Term) 0, L none ([] : List Int) 0], OD (ownT 75) 75 (L i1.1 x1 i1.2) x1, OD (ownT 75) 75 (L i2.1 x2 i2.2) x2, sl3 (L i3.1 x3 i3.2) x3, OD (ownT 75) 75 (L i4.1 x4 i4.2) x4]
 refine Bd h fun x5 hx5 h => Ca [] c (laws_toTermS_ok hx5) ⟨.f 4, trivial⟩ Tryz.call39 fun i5 _ _ c => ?_
 refine Fp [] 1 c fun _ c => Esb 2 8 (L i5.1 x5 i5.2) c fun _ c => ?_
 refine E0 (T0 (Fp [(1, 0)] 2 c fun _ c => Bd h fun x6 hx6 h => Ca [] c (laws_toIntS_ok hx6) ⟨.f 5, trivial⟩ Tryz.call11 fun i6 _ _ c => ?_))
 refine Fp [] 1 c fun _ c => ?_
 replace c := c.gm [BX b1 28 [I p0.Pc, L ga0 p0.Regs gc1, L ga2 p0.Mem gc3, L ga4 p0.Stack gc5, I p0.In, L ga6 p0.Out gc7, I p0.Code, I p0.Steps, L ga8 p0.Cond gc9, L ga10 p0.Turns gc11], BX b2 38 [I 0, L none ([] : List D.Term) 0, L none ([] : List D.Term) 0, L none ([] : List Int) 0, I 0, L none ([] : List D.Term) 0, I 0, I 0, L none ([] : List D.Term) 0, L none ([] : List Int) 0], BX b3 38 [I p0.Pc, L i1.1 x1 i1.2, L i2.1 x2 i2.2, L i3.1 x3 i3.2, I p0.In, L i4.1 x4 i4.2, I p0.Code, I p0.Steps, L i5.1 x5 i5.2, L none ([] : List Int) 0], OD (ownT 75) 75 (L i1.1 x1 i1.2) x1, OD (ownT 75) 75 (L i2.1 x2 i2.2) x2, sl3 (L i3.1 x3 i3.2) x3, OD (ownT 75) 75 (L i4.1 x4 i4.2) x4, OD (ownT 75) 75 (L i5.1 x5 i5.2) x5, sl3 (L i6.1 x6 i6.2) x6]
 refine Esb 2 9 (L i6.1 x6 i6.2) c fun _ c => ?_
 refine E0 (T0 (Fp [(0, 2)] 1 c fun _ c => Ess 1 [I p0.Pc, L i1.1 x1 i1.2, L i2.1 x2 i2.2, L i3.1 x3 i3.2, I p0.In, L i4.1 x4 i4.2, I p0.Code, I p0.Steps, L i5.1 x5 i5.2, L i6.1 x6 i6.2] c fun _ c => ?_))
 refine E0 ?_
 cases h
 exact wp_ret (Rg c (i1.1, i1.2, i2.1, i2.2, i3.1, i3.2, i4.1, i4.2, i5.1, i5.2, i6.1, i6.2) [3, 4, 5, 6, 7, 8] [] (.cell (α := Agg 9) ⟨by kernel_rfl, by kernel_rfl⟩ (.b 1) .nil))

theorem spec_l01In_ok {p0 : Int} {p1 : Int} {p2 : Int} {r : Bool} (h : spec_l01In p0 p1 p2 = some r) : Con Tryz.prog 52 [I p0, I p1, I p2] [] [] fun (_ : Unit) => ([.bool r], [], []) := by
 unfold spec_l01In at h
 refine En Tryz.func52 rfl Tryz.ntmps52 fun _ fr w c => ?_
 refine P0 [] c fun _ c => S0 (Ry [] mix c fun _ _ c => ?_)
 cases h
 exact wp_ret (Rt c () [] [])

theorem spec_WordOk_ok {p0 : Int} {p1 : Int} {r : Bool} (h : spec_WordOk p0 p1 = some r) : Con Tryz.prog 73 [I p0, I p1] [] [] fun (_ : Unit) => ([.bool r], [], []) := by
 unfold spec_WordOk at h
 refine En Tryz.func73 rfl Tryz.ntmps73 fun _ fr w c => ?_
 refine P0 [] c fun _ c => Bd h fun x1 hx1 h => Bd h fun x2 hx2 h => Bd h fun x3 hx3 h => S0 (rZ [(1, .eq (.bool x1)), (5, .eq (I x2)), (7, .eq (.bool x3))] [] mix c ⟨Ncl c (kN (spec_l01In_ok hx1)) trivial Tryz.call52, Nshl c (gT hx2), Ncl c (fun hg => spec_l01In_ok (iteT (gcT hg) hx3)) trivial Tryz.call52, trivial⟩ fun _ _ c => ?_)
 cases h
 exact wp_ret (Rt c () [] [])

theorem spec_l05Reg_ok {p0 : Int} {r : Bool} (h : spec_l05Reg p0 = some r) : Con Tryz.prog 93 [I p0] [] [] fun (_ : Unit) => ([.bool r], [], []) := by
 unfold spec_l05Reg at h
 refine En Tryz.func93 rfl Tryz.ntmps93 fun _ fr w c => ?_
 refine P0 [] c fun _ c => T0 (Fp [] 1 c fun _ c => Bd h fun x1 hx1 h => Ca [] c (spec_l01In_ok hx1) trivial Tryz.call52 fun _ _ _ c => ?_)
 refine Fp [] 1 c fun _ c => E0 ?_
 obtain rfl := sj h
 exact wp_ret (Rt c () [] [])

theorem spec_l05Ins_ok {p0 : D.Ins} {p1 : Int} {p2 : Int} {r : Bool} (h : spec_l05Ins p0 p1 p2 = some r) : Con Tryz.prog 74 [.agg #[I p0.Op, I p0.A, I p0.B, I p0.C], I p1, I p2] [] [] fun (_ : Unit) => ([.bool r], [], []) := by
 unfold spec_l05Ins at h
 refine En Tryz.func74 rfl Tryz.ntmps74 fun _ fr w c => ?_
 refine T0 (Ebx [I p0.Op, I p0.A, I p0.B, I p0.C] c fun b1 _ _ c => ?_)
 refine Fp [] 1 c fun _ c => E0 (T0 (Fp [(1, 0)] 3 c fun _ c => Bd h fun x1 hx1 h => Ca [] c (spec_l01In_ok hx1) trivial Tryz.call52 fun _ _ _ c => ?_))
 refine Fp [] 1 c fun _ c => E0 (S0 (P0 [(1, 0)] c fun _ c => wp_block (P0 [] c fun _ c => I0 c h (fun h => ?_) fun h => ?_)))
 refine Bd h fun x2 hx2 h => Bd h fun x3 hx3 h => S0 (rZ [(2, .eq (.bool x2)), (7, .eq (.bool x3))] [(1, 0), (6, 0), (11, 0)] mix c ⟨Ncl c (kN (spec_l05Reg_ok hx2)) trivial Tryz.call93, Ncl c (fun hg => spec_WordOk_ok (iteT (gcT hg) hx3)) trivial Tryz.call73, trivial⟩ fun _ _ c => ?_)
 cases h
 exact wp_ret (br (tr (Rt c () [] [])))
 refine S0 (P0 [] c fun _ c => I0 c h (fun h => ?_) fun h => ?_)
 refine K0 (I0 c h (fun h => ?_) fun h => ?_)
 refine Bd h fun x4 hx4 h => Bd h fun x5 hx5 h => S0 (rZ [(2, .eq (.bool x4)), (6, .eq (.bool x5))] [(1, 0), (5, 0), (10, 0)] mix c ⟨Ncl c (kN (spec_l05Reg_ok hx4)) trivial Tryz.call93, Ncl c (fun hg => spec_l05Reg_ok (iteT (gcT hg) hx5)) trivial Tryz.call93, trivial⟩ fun _ _ c => ?_)
 cases h
 exact wp_ret (br (tr (Rt c () [] [])))
 refine P0 [] c fun _ c => I0 c h (fun h => ?_) fun h => ?_
 refine Bd h fun x6 hx6 h => Bd h fun x7 hx7 h => Bd h fun x8 hx8 h => S0 (rZ [(2, .eq (.bool x6)), (6, .eq (.bool x7)), (11, .eq (.bool x8))] [(1, 0), (5, 0), (10, 0)] mix c ⟨Ncl c (kN (spec_l05Reg_ok hx6)) trivial Tryz.call93, Ncl c (fun hg => spec_l05Reg_ok (iteT (gcT hg) hx7)) trivial Tryz.call93, Ncl c (fun hg => spec_l01In_ok (iteT (gcT hg) hx8)) trivial Tryz.call52, trivial⟩ fun _ _ c => ?_)
 cases h
 exact wp_ret (br (tr (Rt c () [] [])))
 refine S0 (P0 [] c fun _ c => I0 c h (fun h => ?_) fun h => ?_)
 refine K0 (I0 c h (fun h => ?_) fun h => ?_)
 refine Bd h fun x9 hx9 h => S0 (rZ [(2, .eq (.bool x9))] [(1, 0), (5, 0), (10, 0)] mix c ⟨Ncl c (kN (spec_l05Reg_ok hx9)) trivial Tryz.call93, trivial⟩ fun _ _ c => ?_)
 cases h
 exact wp_ret (br (tr (Rt c () [] [])))
 refine S0 (P0 [] c fun _ c => Mp (p0.Op == 9) [(80, .bool (p0.Op == 9))] [(80, .bool (p0.Op == 11))] [(80, .bool ((p0.Op == 9) || (p0.Op == 11)))] [80, 82] c fun _ c => I0 c h (fun h => ?_) fun h => ?_)
 refine S0 (Ry [(1, 0), (8, 0)] mix c fun _ _ c => ?_)
 cases h
 exact wp_ret (br (tr (Rt c () [] [])))
 refine P0 [] c fun _ c => I0 c h (fun h => ?_) fun h => ?_
 refine Bd h fun x10 hx10 h => S0 (rZ [(2, .eq (.bool x10))] [(1, 0), (8, 0)] mix c ⟨Ncl c (kN (spec_l05Reg_ok hx10)) trivial Tryz.call93, trivial⟩ fun _ _ c => ?_)
 cases h
 exact wp_ret (br (tr (Rt c () [] [])))
 refine S0 (P0 [] c fun _ c => Mp (p0.Op == 12) [(107, .bool (p0.Op == 12))] [(107, .bool (p0.Op == 14))] [(107, .bool ((p0.Op == 12) || (p0.Op == 14)))] [107, 109] c fun _ c => I0 c h (fun h => ?_) fun h => ?_)
 refine S0 (Ry [(1, 0), (5, 0), (10, 0)] mix c fun _ _ c => ?_)
 cases h
 exact wp_ret (br (tr (Rt c () [] [])))
 refine K1 (bk (tn (P0 [] c fun _ c => ?_)))
 obtain rfl := sj h
 exact wp_ret (Rt c () [] [])
 refine P0 [] c fun _ c => I0 c h (fun h => ?_) fun h => ?_
 refine K0 (I0 c h (fun h => ?_) fun h => ?_)
 refine Bd h fun x11 hx11 h => S0 (rZ [(2, .eq (.bool x11))] [(1, 0), (5, 0), (10, 0)] mix c ⟨Ncl c (kN (spec_l05Reg_ok hx11)) trivial Tryz.call93, trivial⟩ fun _ _ c => ?_)
 cases h
 exact wp_ret (br (tr (Rt c () [] [])))
 refine S0 (P0 [] c fun _ c => Mp (p0.Op == 9) [(80, .bool (p0.Op == 9))] [(80, .bool (p0.Op == 11))] [(80, .bool ((p0.Op == 9) || (p0.Op == 11)))] [80, 82] c fun _ c => I0 c h (fun h => ?_) fun h => ?_)
 refine S0 (Ry [(1, 0), (8, 0)] mix c fun _ _ c => ?_)
 cases h
 exact wp_ret (br (tr (Rt c () [] [])))
 refine P0 [] c fun _ c => I0 c h (fun h => ?_) fun h => ?_
 refine Bd h fun x12 hx12 h => S0 (rZ [(2, .eq (.bool x12))] [(1, 0), (8, 0)] mix c ⟨Ncl c (kN (spec_l05Reg_ok hx12)) trivial Tryz.call93, trivial⟩ fun _ _ c => ?_)
 cases h
 exact wp_ret (br (tr (Rt c () [] [])))
 refine S0 (P0 [] c fun _ c => Mp (p0.Op == 12) [(107, .bool (p0.Op == 12))] [(107, .bool (p0.Op == 14))] [(107, .bool ((p0.Op == 12) || (p0.Op == 14)))] [107, 109] c fun _ c => I0 c h (fun h => ?_) fun h => ?_)
 refine S0 (Ry [(1, 0), (5, 0), (10, 0)] mix c fun _ _ c => ?_)
 cases h
 exact wp_ret (br (tr (Rt c () [] [])))
 refine K1 (bk (tn (P0 [] c fun _ c => ?_)))
 obtain rfl := sj h
 exact wp_ret (Rt c () [] [])
 refine P0 [] c fun _ c => Mp (p0.Op == 6) [(62, .bool (p0.Op == 6))] [(62, .bool (p0.Op == 13))] [(62, .bool ((p0.Op == 6) || (p0.Op == 13)))] [62, 66] c fun _ c => I0 c h (fun h => ?_) fun h => ?_
 refine Bd h fun x13 hx13 h => S0 (rZ [(2, .eq (.bool x13))] [(1, 0), (5, 0), (10, 0)] mix c ⟨Ncl c (kN (spec_l05Reg_ok hx13)) trivial Tryz.call93, trivial⟩ fun _ _ c => ?_)
 cases h
 exact wp_ret (br (tr (Rt c () [] [])))
 refine S0 (P0 [] c fun _ c => Mp (p0.Op == 9) [(80, .bool (p0.Op == 9))] [(80, .bool (p0.Op == 11))] [(80, .bool ((p0.Op == 9) || (p0.Op == 11)))] [80, 82] c fun _ c => I0 c h (fun h => ?_) fun h => ?_)
 refine S0 (Ry [(1, 0), (8, 0)] mix c fun _ _ c => ?_)
 cases h
 exact wp_ret (br (tr (Rt c () [] [])))
 refine P0 [] c fun _ c => I0 c h (fun h => ?_) fun h => ?_
 refine Bd h fun x14 hx14 h => S0 (rZ [(2, .eq (.bool x14))] [(1, 0), (8, 0)] mix c ⟨Ncl c (kN (spec_l05Reg_ok hx14)) trivial Tryz.call93, trivial⟩ fun _ _ c => ?_)
 cases h
 exact wp_ret (br (tr (Rt c () [] [])))
 refine S0 (P0 [] c fun _ c => Mp (p0.Op == 12) [(107, .bool (p0.Op == 12))] [(107, .bool (p0.Op == 14))] [(107, .bool ((p0.Op == 12) || (p0.Op == 14)))] [107, 109] c fun _ c => I0 c h (fun h => ?_) fun h => ?_)
 refine S0 (Ry [(1, 0), (5, 0), (10, 0)] mix c fun _ _ c => ?_)
 cases h
 exact wp_ret (br (tr (Rt c () [] [])))
 refine K1 (bk (tn (P0 [] c fun _ c => ?_)))
 obtain rfl := sj h
 exact wp_ret (Rt c () [] [])
 refine P0 [] c fun _ c => Mp (p0.Op == 7) [(30, .bool (p0.Op == 7))] [(30, .bool (p0.Op == 8))] [(30, .bool ((p0.Op == 7) || (p0.Op == 8)))] [30, 33] c fun _ c => I0 c h (fun h => ?_) fun h => ?_
 refine Bd h fun x15 hx15 h => Bd h fun x16 hx16 h => S0 (rZ [(2, .eq (.bool x15)), (6, .eq (.bool x16))] [(1, 0), (5, 0), (10, 0)] mix c ⟨Ncl c (kN (spec_l05Reg_ok hx15)) trivial Tryz.call93, Ncl c (fun hg => spec_l05Reg_ok (iteT (gcT hg) hx16)) trivial Tryz.call93, trivial⟩ fun _ _ c => ?_)
 cases h
 exact wp_ret (br (tr (Rt c () [] [])))
 refine P0 [] c fun _ c => I0 c h (fun h => ?_) fun h => ?_
 refine Bd h fun x17 hx17 h => Bd h fun x18 hx18 h => Bd h fun x19 hx19 h => S0 (rZ [(2, .eq (.bool x17)), (6, .eq (.bool x18)), (11, .eq (.bool x19))] [(1, 0), (5, 0), (10, 0)] mix c ⟨Ncl c (kN (spec_l05Reg_ok hx17)) trivial Tryz.call93, Ncl c (fun hg => spec_l05Reg_ok (iteT (gcT hg) hx18)) trivial Tryz.call93, Ncl c (fun hg => spec_l01In_ok (iteT (gcT hg) hx19)) trivial Tryz.call52, trivial⟩ fun _ _ c => ?_)
 cases h
 exact wp_ret (br (tr (Rt c () [] [])))
 refine S0 (P0 [] c fun _ c => I0 c h (fun h => ?_) fun h => ?_)
 refine K0 (I0 c h (fun h => ?_) fun h => ?_)
 refine Bd h fun x20 hx20 h => S0 (rZ [(2, .eq (.bool x20))] [(1, 0), (5, 0), (10, 0)] mix c ⟨Ncl c (kN (spec_l05Reg_ok hx20)) trivial Tryz.call93, trivial⟩ fun _ _ c => ?_)
 cases h
 exact wp_ret (br (tr (Rt c () [] [])))
 refine S0 (P0 [] c fun _ c => Mp (p0.Op == 9) [(80, .bool (p0.Op == 9))] [(80, .bool (p0.Op == 11))] [(80, .bool ((p0.Op == 9) || (p0.Op == 11)))] [80, 82] c fun _ c => I0 c h (fun h => ?_) fun h => ?_)
 refine S0 (Ry [(1, 0), (8, 0)] mix c fun _ _ c => ?_)
 cases h
 exact wp_ret (br (tr (Rt c () [] [])))
 refine P0 [] c fun _ c => I0 c h (fun h => ?_) fun h => ?_
 refine Bd h fun x21 hx21 h => S0 (rZ [(2, .eq (.bool x21))] [(1, 0), (8, 0)] mix c ⟨Ncl c (kN (spec_l05Reg_ok hx21)) trivial Tryz.call93, trivial⟩ fun _ _ c => ?_)
 cases h
 exact wp_ret (br (tr (Rt c () [] [])))
 refine S0 (P0 [] c fun _ c => Mp (p0.Op == 12) [(107, .bool (p0.Op == 12))] [(107, .bool (p0.Op == 14))] [(107, .bool ((p0.Op == 12) || (p0.Op == 14)))] [107, 109] c fun _ c => I0 c h (fun h => ?_) fun h => ?_)
 refine S0 (Ry [(1, 0), (5, 0), (10, 0)] mix c fun _ _ c => ?_)
 cases h
 exact wp_ret (br (tr (Rt c () [] [])))
 refine K1 (bk (tn (P0 [] c fun _ c => ?_)))
 obtain rfl := sj h
 exact wp_ret (Rt c () [] [])
 refine P0 [] c fun _ c => I0 c h (fun h => ?_) fun h => ?_
 refine K0 (I0 c h (fun h => ?_) fun h => ?_)
 refine Bd h fun x22 hx22 h => S0 (rZ [(2, .eq (.bool x22))] [(1, 0), (5, 0), (10, 0)] mix c ⟨Ncl c (kN (spec_l05Reg_ok hx22)) trivial Tryz.call93, trivial⟩ fun _ _ c => ?_)
 cases h
 exact wp_ret (br (tr (Rt c () [] [])))
 refine S0 (P0 [] c fun _ c => Mp (p0.Op == 9) [(80, .bool (p0.Op == 9))] [(80, .bool (p0.Op == 11))] [(80, .bool ((p0.Op == 9) || (p0.Op == 11)))] [80, 82] c fun _ c => I0 c h (fun h => ?_) fun h => ?_)
 refine S0 (Ry [(1, 0), (8, 0)] mix c fun _ _ c => ?_)
 cases h
 exact wp_ret (br (tr (Rt c () [] [])))
 refine P0 [] c fun _ c => I0 c h (fun h => ?_) fun h => ?_
 refine Bd h fun x23 hx23 h => S0 (rZ [(2, .eq (.bool x23))] [(1, 0), (8, 0)] mix c ⟨Ncl c (kN (spec_l05Reg_ok hx23)) trivial Tryz.call93, trivial⟩ fun _ _ c => ?_)
 cases h
 exact wp_ret (br (tr (Rt c () [] [])))
 refine S0 (P0 [] c fun _ c => Mp (p0.Op == 12) [(107, .bool (p0.Op == 12))] [(107, .bool (p0.Op == 14))] [(107, .bool ((p0.Op == 12) || (p0.Op == 14)))] [107, 109] c fun _ c => I0 c h (fun h => ?_) fun h => ?_)
 refine S0 (Ry [(1, 0), (5, 0), (10, 0)] mix c fun _ _ c => ?_)
 cases h
 exact wp_ret (br (tr (Rt c () [] [])))
 refine K1 (bk (tn (P0 [] c fun _ c => ?_)))
 obtain rfl := sj h
 exact wp_ret (Rt c () [] [])
 refine P0 [] c fun _ c => Mp (p0.Op == 6) [(62, .bool (p0.Op == 6))] [(62, .bool (p0.Op == 13))] [(62, .bool ((p0.Op == 6) || (p0.Op == 13)))] [62, 66] c fun _ c => I0 c h (fun h => ?_) fun h => ?_
 refine Bd h fun x24 hx24 h => S0 (rZ [(2, .eq (.bool x24))] [(1, 0), (5, 0), (10, 0)] mix c ⟨Ncl c (kN (spec_l05Reg_ok hx24)) trivial Tryz.call93, trivial⟩ fun _ _ c => ?_)
 cases h
 exact wp_ret (br (tr (Rt c () [] [])))
 refine S0 (P0 [] c fun _ c => Mp (p0.Op == 9) [(80, .bool (p0.Op == 9))] [(80, .bool (p0.Op == 11))] [(80, .bool ((p0.Op == 9) || (p0.Op == 11)))] [80, 82] c fun _ c => I0 c h (fun h => ?_) fun h => ?_)
 refine S0 (Ry [(1, 0), (8, 0)] mix c fun _ _ c => ?_)
 cases h
 exact wp_ret (br (tr (Rt c () [] [])))
 refine P0 [] c fun _ c => I0 c h (fun h => ?_) fun h => ?_
 refine Bd h fun x25 hx25 h => S0 (rZ [(2, .eq (.bool x25))] [(1, 0), (8, 0)] mix c ⟨Ncl c (kN (spec_l05Reg_ok hx25)) trivial Tryz.call93, trivial⟩ fun _ _ c => ?_)
 cases h
 exact wp_ret (br (tr (Rt c () [] [])))
 refine S0 (P0 [] c fun _ c => Mp (p0.Op == 12) [(107, .bool (p0.Op == 12))] [(107, .bool (p0.Op == 14))] [(107, .bool ((p0.Op == 12) || (p0.Op == 14)))] [107, 109] c fun _ c => I0 c h (fun h => ?_) fun h => ?_)
 refine S0 (Ry [(1, 0), (5, 0), (10, 0)] mix c fun _ _ c => ?_)
 cases h
 exact wp_ret (br (tr (Rt c () [] [])))
 refine K1 (bk (tn (P0 [] c fun _ c => ?_)))
 obtain rfl := sj h
 exact wp_ret (Rt c () [] [])

theorem spec_ProgramOk_ok {n : Nat} {p0 : D.Program} {ga0 : Option Addr} {gc1 : Nat} {r : Bool} (h : spec_ProgramOk n p0 = some r) : Con Tryz.prog 51 [.agg #[I p0.W, I p0.Mem, I p0.In, L ga0 p0.Code gc1]] [] [RO (L ga0 p0.Code gc1) p0.Code] fun (_ : Unit) => ([.bool r], [], []) := by
 unfold spec_ProgramOk at h
 refine En Tryz.func51 rfl Tryz.ntmps51 fun _ fr w c => ?_
 refine T0 (Ebx [I p0.W, I p0.Mem, I p0.In, L ga0 p0.Code gc1] c fun b1 _ _ c => ?_)
 refine Fp [] 1 c fun _ c => E0 (S0 (Bd h fun x1 hx1 h => Bd h fun x2 hx2 h => Bd h fun x3 hx3 h => Bd h fun x4 hx4 h => Bd h fun x5 hx5 h => S0 (rZ [(2, .eq (.bool x1)), (7, .eq (.bool x2)), (15, .eq (.bool x3)), (21, .eq (.bool x4)), (28, .eq (.bool x5))] [(1, 0), (6, 0), (12, 0), (14, 0), (20, 0), (26, 0)] mix c ⟨Ncl c (kN (spec_l01In_ok hx1)) trivial Tryz.call52, Ncl c (fun hg => spec_l01In_ok (iteF (gcF hg) hx2)) trivial Tryz.call52, Ncl c (fun hg => spec_WordOk_ok (iteF (gcF hg) hx3)) trivial Tryz.call73, Ncl c (fun hg => spec_l01In_ok (iteF (gcF hg) hx4)) trivial Tryz.call52, Ncl c (fun hg => spec_l01In_ok (iteF (gcF hg) hx5)) trivial Tryz.call52, trivial⟩ fun _ _ c => I0 c h (fun h => ?_) fun h => ?_)))
 refine P0 [] c fun _ c => ?_
 obtain rfl := sj h
 exact wp_ret (tr (Rt c () [] []))
 refine K0 (S0 (P0 [(1, 0)] c fun _ c => Bd h fun rl1 hit1 h => ?_))
 have hk1 := h
 refine LpR (fun s1  (_ : Unit) => ([(1, B b1 0), (37, L ga0 p0.Code gc1), (38, I (len p0.Code)), (39, I s1)], id, [])) (fun s  (_ : Unit) => ([], id, [])) hit1 c () (c.re [0] [0]) (fun s1 q1 _ _ _ c h hr1 => ?_) fun s1r _ _ _ hrl c => ?_
 refine P0 [] c fun _ c => S0 (I0 c h (fun h => ?_) fun h => ?_)
 refine K0 (S0 (wp_block (T0 (Bd h fun x6 hx6 h => Eel c (.f 0) hx6 fun _ _ c => ?_))))
 refine Eal [I 0, I 0, I 0, I 0] c fun b2 _ _ c => ?_
 refine Ess 1 [I x6.Op, I x6.A, I x6.B, I x6.C] c fun _ c => ?_
 refine E0 (T0 (Fp [(0, 1), (2, 0), (4, 0)] 6 c fun _ c => Bd h fun x7 hx7 h => Ca [] c (spec_l05Ins_ok hx7) trivial Tryz.call74 fun _ _ _ c => ?_))
 refine Fp [] 1 c fun _ c => E0 (I0 c h (fun h => ?_) fun h => ?_)
 refine P0 [] c fun _ c => ?_
 obtain rfl := hr1 _ (Option.some.inj h).symm
 obtain rfl := Option.some.inj hk1
 exact wp_ret (br (tr (tr (br (tr (Rt c () [] []))))))
 refine K1 (bk (tn (P1 [] c fun _ c => Nx h () (c.re [0] [0]))))
 refine wp_exit (te (te (be ?_)))
 obtain rfl := hr1 _ (Option.some.inj h).symm
 exact tn ⟨_, (), rfl, c.re [0] [0]⟩
 subst hrl
 refine P0 [] c fun _ c => ?_
 obtain rfl := sj h
 exact wp_ret (Rt c () [] [])

theorem spec_l02Few_ok {n : Nat} : ∀ {p0 : D.Term} {p1 : Int} {ga0 : Option Addr} {gc1 : Nat} {gb2 : Nat} {r : Bool × Int} (h : spec_l02Few n p0 p1 = some r), Con Tryz.prog 94 [.agg #[I p0.Op, I p0.W, I p0.N, Str.val p0.Name, L ga0 p0.Kids gc1], B gb2 0] [BX gb2 3 [I p1]] [RO (L ga0 p0.Kids gc1) p0.Kids] fun (_ : Unit) => ([.bool r.1], [BX gb2 3 [I r.2]], []) := by
 induction n with
 | zero => intro p0 p1 ga0 gc1 gb2 r h; simp [spec_l02Few] at h
 | succ n ih =>
 intro p0 p1 ga0 gc1 gb2 r h
 rw [spec_l02Few] at h
 refine En Tryz.func94 rfl Tryz.ntmps94 fun _ fr w c => ?_
 refine T0 (Ebx [I p0.Op, I p0.W, I p0.N, Str.val p0.Name, L ga0 p0.Kids gc1] c fun b1 _ _ c => ?_)
 refine Fp [] 1 c fun _ c => E0 (T0 (Fp [(3, 0)] 6 c fun _ c => Esb 0 0 (I (w64 (p1 - 1))) c fun _ c => ?_))
 refine E0 (S0 (P0 [] c fun _ c => Bd h fun rl1 hit1 h => Lp (fun s1  (_ : Unit) => ([(1, B gb2 0), (2, B b1 0), (5, I s1.1)], fun Γ => Γ.set 0 (BX gb2 3 [I s1.2]), [])) (fun  (_ : Unit) => ([(1, B gb2 0)], fun Γ => Γ.set 0 (BX gb2 3 [I rl1]), [])) hit1 c () (c.re [0, 1] [0]) (fun s1 q1 _ _ _ c h hr1 => ?_) fun _ _ _ c => ?_))
 refine S0 (S0 (Ry [(2, 1), (8, 0)] mix c fun _ _ c => I0 c h (fun h => ?_) fun h => ?_))
 refine K0 (S0 (wp_block (T1 (Fp [(1, 1)] 3 c fun _ c => Bd h fun x1 hx1 h => Eem c (.f 0) hx1 fun _ u1 _ c => ?_))))
 obtain ⟨a1, c1, rfl, c⟩ := c.o_Term 1
 refine Fp [] 1 c fun _ c => Bd h fun x2 hx2 h => Ca [0] c (ih hx2) ⟨.f 2, trivial⟩ Tryz.call94 fun _ _ _ c => ?_
 refine E1 (bk (tn (P1 [] c fun _ c => Nx h () (c.re [1, 0] [0]))))
 refine wp_exit (te (te (be ?_)))
 obtain rfl := hr1 _ (Option.some.inj h).symm
 exact tn ⟨(), c.re [0, 1] [0]⟩
 refine P0 [(2, 0)] c fun _ c => ?_
 cases h
 exact wp_ret (Rt c () [0] [])

theorem spec_IsName_ok {n : Nat} {p0 : Str} {r : Bool} (h : spec_IsName n p0 = some r) : Con Tryz.prog 116 [Str.val p0] [] [] fun (_ : Unit) => ([.bool r], [], []) := by
 unfold spec_IsName at h
 refine En Tryz.func116 rfl Tryz.ntmps116 fun _ fr w c => ?_
 refine P0 [] c fun _ c => S0 (P0 [] c fun _ c => Bd h fun rl1 hit1 h => ?_)
 have hk1 := h
 refine LpR (fun s1  (_ : Unit) => ([(0, Str.val p0), (3, I s1)], id, [])) (fun s  (_ : Unit) => ([(0, Str.val p0)], id, [])) hit1 c () (c.re [] []) (fun s1 q1 _ _ _ c h hr1 => ?_) fun s1r _ _ _ hrl c => ?_
 refine S0 (P0 [] c fun _ c => I0 c h (fun h => ?_) fun h => ?_)
 refine K0 (S0 (wp_block (T0 (Fp [] 2 c fun _ c => Bd h fun x1 hx1 h => Eix (kd := .i64) c hx1 fun _ c => ?_))))
 refine Fp [] 1 c fun _ c => Bd h fun x2 hx2 h => Ca [] c (spec_l01In_ok hx2) trivial Tryz.call52 fun _ _ _ c => ?_
 refine Fp [] 1 c fun _ c => E0 (T0 (Fp [] 1 c fun _ c => Fp [] 1 c fun _ c => Fp [] 1 c fun _ c => ?_))
 rcases ite_split (b := (!x2)) h with ⟨hg1, h⟩ | ⟨hg1, h⟩
 replace c := c.eqs (v := .bool (!x2)) (u := .bool true) 18 (by rw [hg1])
 refine Gt c ?_
 dsimp only [List.set]
 refine Fp [] 1 c fun _ c => Gt c ?_
 dsimp only [List.set]
 refine Fp [] 1 c fun _ c => Gt c ?_
 dsimp only [List.set]
 refine Fp [] 1 c fun _ c => ?_
 rcases ite_split (b := (s1 == 0)) h with ⟨hg2, h⟩ | ⟨hg2, h⟩
 replace c := c.eqs (v := .bool (s1 == 0)) (u := .bool true) 21 (by rw [hg2])
 refine Gs c fun _ c => ?_
 refine Gs c fun _ c => ?_
 refine Gs c fun _ c => ?_
 refine Gs c fun _ c => ?_
 refine Gs c fun _ c => ?_
 refine Gs c fun _ c => ?_
 refine Gt c ?_
 dsimp only [List.set]
 refine Epk (b := true) (v := .bool true) c fun _ c => ?_
 refine Epk (b := true) (v := .bool true) c fun _ c => ?_
 refine E0 (I0 c h (fun h => ?_) fun h => ?_)
 refine P0 [] c fun _ c => ?_
 obtain rfl := hr1 _ (Option.some.inj h).symm
 obtain rfl := Option.some.inj hk1
 exact wp_ret (br (tr (tr (br (tr (Rt c () [] []))))))
 refine K1 (bk (tn (P1 [] c fun _ c => Nx h () (c.re [] []))))
 replace c := c.eqs (v := .bool (s1 == 0)) (u := .bool false) 21 (by rw [hg2])
 refine Gt c ?_
 dsimp only [List.set]
 refine Fp [] 1 c fun _ c => Gt c ?_
 dsimp only [List.set]
 refine Fp [] 1 c fun _ c => Gt c ?_
 dsimp only [List.set]
 refine Bd h fun x3 hx3 h => Eix (kd := .i64) c hx3 fun _ c => ?_
 refine Gt c ?_
 dsimp only [List.set]
 refine Fp [] 1 c fun _ c => Gt c ?_
 dsimp only [List.set]
 refine Bd h fun x4 hx4 h => Ca [] c (spec_l01In_ok hx4) trivial Tryz.call52 fun _ _ _ c => ?_
 refine Gt c ?_
 dsimp only [List.set]
 refine Fp [] 1 c fun _ c => Gt c ?_
 dsimp only [List.set]
 refine Epk (b := false) (v := .bool (!x4)) c fun _ c => ?_
 refine Epk (b := true) (v := .bool (!x4)) c fun _ c => ?_
 refine E0 (I0 c h (fun h => ?_) fun h => ?_)
 refine P0 [] c fun _ c => ?_
 obtain rfl := hr1 _ (Option.some.inj h).symm
 obtain rfl := Option.some.inj hk1
 exact wp_ret (br (tr (tr (br (tr (Rt c () [] []))))))
 refine K1 (bk (tn (P1 [] c fun _ c => Nx h () (c.re [] []))))
 replace c := c.eqs (v := .bool (!x2)) (u := .bool false) 18 (by rw [hg1])
 refine Gs c fun _ c => ?_
 refine Gs c fun _ c => ?_
 refine Gs c fun _ c => ?_
 refine Gu c fun _ c => ?_
 refine Gu c fun _ c => ?_
 refine Gu c fun _ c => ?_
 refine Gu c fun _ c => ?_
 refine Gu c fun _ c => ?_
 refine Gu c fun _ c => ?_
 refine Gs c fun _ c => ?_
 refine Epk (b := false) (v := .bool false) c fun _ c => ?_
 refine E0 (I0 c h (fun h => ?_) fun h => ?_)
 refine P0 [] c fun _ c => ?_
 obtain rfl := hr1 _ (Option.some.inj h).symm
 obtain rfl := Option.some.inj hk1
 exact wp_ret (br (tr (tr (br (tr (Rt c () [] []))))))
 refine K1 (bk (tn (P1 [] c fun _ c => Nx h () (c.re [] []))))
 refine wp_exit (te (te (be ?_)))
 obtain rfl := hr1 _ (Option.some.inj h).symm
 exact tn ⟨_, (), rfl, c.re [] []⟩
 subst hrl
 refine T0 (Fp [] 2 c fun _ c => Bd h fun x5 hx5 h => Ca [] c (spec_l01In_ok hx5) trivial Tryz.call52 fun _ _ _ c => ?_)
 refine Fp [] 1 c fun _ c => E0 ?_
 obtain rfl := sj h
 exact wp_ret (Rt c () [] [])

set_option maxHeartbeats 4000000 in
theorem spec_l02Node_ok {n : Nat} : ∀ {p0 : D.Term} {ga0 : Option Addr} {gc1 : Nat} {r : Bool} (h : spec_l02Node n p0 = some r), Con Tryz.prog 95 [.agg #[I p0.Op, I p0.W, I p0.N, Str.val p0.Name, L ga0 p0.Kids gc1]] [] [RO (L ga0 p0.Kids gc1) p0.Kids] fun (_ : Unit) => ([.bool r], [], []) := by
 induction n with
 | zero => intro p0 ga0 gc1 r h; simp [spec_l02Node] at h
 | succ n ih =>
 intro p0 ga0 gc1 r h
 rw [spec_l02Node] at h
 refine En Tryz.func95 rfl Tryz.ntmps95 fun _ fr w c => ?_
 refine T0 (Ebx [I p0.Op, I p0.W, I p0.N, Str.val p0.Name, L ga0 p0.Kids gc1] c fun b1 _ _ c => ?_)
 refine Fp [] 1 c fun _ c => E0 (P0 [(1, 0)] c fun _ c => S0 (T0 (Fp [] 1 c fun _ c => Fp [(1, 0)] 1 c fun _ c => Bd h fun x1 hx1 h => Ca [] c (spec_l01In_ok hx1) trivial Tryz.call52 fun _ _ _ c => ?_)))
 refine Fp [] 1 c fun _ c => Fp [] 1 c fun _ c => ?_
 rcases ite_split (b := (!x1)) h with ⟨hg1, h⟩ | ⟨hg1, h⟩
 replace c := c.eqs (v := .bool (!x1)) (u := .bool true) 15 (by rw [hg1])
 refine Gs c fun _ c => ?_
 refine Gs c fun _ c => ?_
 refine Gs c fun _ c => ?_
 refine Gs c fun _ c => ?_
 refine Gu c fun _ c => ?_
 refine Gu c fun _ c => ?_
 refine Gu c fun _ c => ?_
 refine Gs c fun _ c => ?_
 refine Epk (b := true) (v := .bool true) c fun _ c => ?_
 refine Fp [] 1 c fun _ c => Gs c fun _ c => ?_
 refine Gs c fun _ c => ?_
 refine Gs c fun _ c => ?_
 refine Gs c fun _ c => ?_
 refine Gu c fun _ c => ?_
 refine Gu c fun _ c => ?_
 refine Gu c fun _ c => ?_
 refine Gs c fun _ c => ?_
 refine Gs c fun _ c => ?_
 refine Gu c fun _ c => ?_
 refine Gu c fun _ c => ?_
 refine Gu c fun _ c => ?_
 refine Gs c fun _ c => ?_
 refine Epk (b := true) (v := .bool true) c fun _ c => ?_
 refine E0 (I0 c h (fun h => ?_) fun h => ?_)
 refine P0 [] c fun _ c => ?_
 obtain rfl := sj h
 exact wp_ret (tr (Rt c () [] []))
 refine K0 (S0 (P0 [(1, 0)] c fun _ c => Bd h fun rl1 hit1 h => ?_))
 have hk1 := h
 refine LpR (fun s1  (_ : Unit) => ([(1, B b1 0), (3, I (len p0.Kids)), (41, L ga0 p0.Kids gc1), (42, I (len p0.Kids)), (43, I s1)], id, [])) (fun s  (_ : Unit) => ([(1, B b1 0), (3, I (len p0.Kids))], id, [])) hit1 c () (c.re [0] [0]) (fun s1 q1 _ _ _ c h hr1 => ?_) fun s1r _ _ _ hrl c => ?_
 refine P0 [] c fun _ c => S0 (I0 c h (fun h => ?_) fun h => ?_)
 refine K0 (S0 (wp_block (T0 (Bd h fun x2 hx2 h => Eem c (.f 0) hx2 fun _ u1 _ c => ?_))))
 obtain ⟨a1, c1, rfl, c⟩ := c.o_Term 1
 refine Eal [I 0, I 0, I 0, Str.val ⟨[]⟩, L none ([] : List D.Term) 0] c fun b2 _ _ c => ?_
 refine Ess 1 [I x2.Op, I x2.W, I x2.N, Str.val x2.Name, L a1 x2.Kids c1] c fun _ c => ?_
 refine E0 (T0 (Fp [(0, 1)] 1 c fun _ c => ?_))
 replace c := c.gm [BX b1 75 [I p0.Op, I p0.W, I p0.N, Str.val p0.Name, L ga0 p0.Kids gc1], BX b2 75 [I x2.Op, I x2.W, I x2.N, Str.val x2.Name, L a1 x2.Kids c1]]
 refine Bd h fun x3 hx3 h => Ca [] c (ih hx3) ⟨.f 2, trivial⟩ Tryz.call95 fun _ _ _ c => ?_
 refine Fp [] 1 c fun _ c => E0 (I0 c h (fun h => ?_) fun h => ?_)
 refine P0 [] c fun _ c => ?_
 obtain rfl := hr1 _ (Option.some.inj h).symm
 obtain rfl := Option.some.inj hk1
 exact wp_ret (br (tr (tr (br (tr (Rt c () [] []))))))
 refine K1 (bk (tn (P1 [] c fun _ c => Nx h () (c.re [0] [0]))))
 refine wp_exit (te (te (be ?_)))
 obtain rfl := hr1 _ (Option.some.inj h).symm
 exact tn ⟨_, (), rfl, c.re [0] [0]⟩
 subst hrl
 refine T0 (Elt 3 ([0, 0, 0] : List Int) c fun a2 c2 _ _ c => ?_)
 refine Fp [] 1 c fun _ c => E0 (S0 (P0 [] c fun _ c => Bd h fun rl2 hit2 h => Lp (fun s2  (_ : Unit) => ([(1, B b1 0), (3, I (len p0.Kids)), (6, L a2 ([0, 0, 0] : List Int) c2), (7, I s2.1)], fun Γ => Γ.set 1 (sl3 (L a2 ([0, 0, 0] : List Int) c2) s2.2), [])) (fun  (_ : Unit) => ([(1, B b1 0), (3, I (len p0.Kids)), (6, L a2 ([0, 0, 0] : List Int) c2)], fun Γ => Γ.set 1 (sl3 (L a2 ([0, 0, 0] : List Int) c2) rl2), [])) hit2 c () (c.re [0, 1] [0]) (fun s2 q2 _ _ _ c h hr2 => ?_) fun _ _ _ c => ?_))
 refine S0 (S0 (Ry [] mix c fun _ _ c => I0 c h (fun h => ?_) fun h => ?_))
 refine K0 (S0 (wp_block (T1 (Fp [(3, 0)] 5 c fun _ c => Bd h fun x4 hx4 h => Eef c (.f 0) hx4 fc75_1 fun _ _ _ c => ?_))))
 refine Bd h fun x5 hx5 h => Eset 1 c hx5 fun _ _ _ c => ?_
 refine E1 (bk (tn (P1 [] c fun _ c => Nx h () (c.re [0, 1] [0]))))
 refine wp_exit (te (te (be ?_)))
 obtain rfl := hr2 _ (Option.some.inj h).symm
 exact tn ⟨(), c.re [0, 1] [0]⟩
 refine S0 (wp_block (P0 [(1, 0)] c fun _ c => I0 c h (fun h => ?_) fun h => ?_))
 refine Bd h fun x6 hx6 h => S0 (rZ [(7, .eq (.bool x6))] [(4, 0), (6, 0)] mix c ⟨Ncl c (fun hg => spec_WordOk_ok (iteT (gcT hg) hx6)) trivial Tryz.call73, trivial⟩ fun _ _ c => ?_)
 cases h
 exact wp_ret (br (tr (Rt c () [] [])))
 refine P0 [(1, 0)] c fun _ c => I0 c h (fun h => ?_) fun h => ?_
 refine Bd h fun x7 hx7 h => S0 (rZ [(5, .eq (.bool x7))] [(4, 0)] mix c ⟨Ncl c (fun hg => spec_IsName_ok (iteT (gcT hg) hx7)) trivial Tryz.call116, trivial⟩ fun _ _ c => ?_)
 cases h
 exact wp_ret (br (tr (Rt c () [] [])))
 refine T0 (Fp [(1, 0)] 2 c fun _ c => Bd h fun x8 hx8 h => Ca [] c (spec_l01In_ok hx8) trivial Tryz.call52 fun _ _ _ c => ?_)
 refine Fp [] 1 c fun _ c => E0 (I0 c h (fun h => ?_) fun h => ?_)
 refine Bd h fun x9 hx9 h => S0 (rZ [(4, Pd.el (x9 : Int)), (5, .eq (I x9))] [(7, 0)] mix c ⟨Nid c (.g 1) (gT hx9), Nld c 4 (q := x9) (atN 4), trivial⟩ fun _ _ c => ?_)
 cases h
 exact wp_ret (br (tr (Rt c () [] [])))
 refine T0 (Fp [(1, 0)] 2 c fun _ c => Bd h fun x10 hx10 h => Ca [] c (spec_l01In_ok hx10) trivial Tryz.call52 fun _ _ _ c => ?_)
 refine Fp [] 1 c fun _ c => E0 (I0 c h (fun h => ?_) fun h => ?_)
 refine Bd h fun x11 hx11 h => Bd h fun x12 hx12 h => S0 (rZ [(4, Pd.el (x11 : Int)), (5, .eq (I x11)), (12, Pd.el (x12 : Int)), (13, .eq (I x12))] [(7, 0), (15, 0)] mix c ⟨Nid c (.g 1) (gT hx11), Nld c 4 (q := x11) (atN 4), Nid c (.g 1) (gT hx12), Nld c 12 (q := x12) (atN 12), trivial⟩ fun _ _ c => ?_)
 cases h
 exact wp_ret (br (tr (Rt c () [] [])))
 refine T0 (Fp [(1, 0)] 2 c fun _ c => ?_)
 replace c := c.gm [BX b1 75 [I p0.Op, I p0.W, I p0.N, Str.val p0.Name, L ga0 p0.Kids gc1], sl3 (L a2 ([0, 0, 0] : List Int) c2) rl2]
 refine Bd h fun x13 hx13 h => Ca [] c (spec_l01In_ok hx13) trivial Tryz.call52 fun _ _ _ c => ?_
 refine Fp [] 1 c fun _ c => E0 (I0 c h (fun h => ?_) fun h => ?_)
 refine Bd h fun x14 hx14 h => Bd h fun x15 hx15 h => S0 (rZ [(4, Pd.el (x14 : Int)), (5, .eq (I x14)), (7, Pd.el (x15 : Int)), (8, .eq (I x15))] [(13, 0)] mix c ⟨Nid c (.g 1) (gT hx14), Nld c 4 (q := x14) (atN 4), Nid c (.g 1) (gT hx15), Nld c 7 (q := x15) (atN 7), trivial⟩ fun _ _ c => ?_)
 cases h
 exact wp_ret (br (tr (Rt c () [] [])))
 refine P0 [(1, 0)] c fun _ c => I0 c h (fun h => ?_) fun h => ?_
 refine Bd h fun x16 hx16 h => Bd h fun x17 hx17 h => Bd h fun x18 hx18 h => S0 (rZ [(4, Pd.el (x16 : Int)), (5, .eq (I x16)), (10, Pd.el (x17 : Int)), (11, .eq (I x17)), (18, Pd.el (x18 : Int)), (19, .eq (I x18))] [(13, 0), (21, 0)] mix c ⟨Nid c (.g 1) (gT hx16), Nld c 4 (q := x16) (atN 4), Nid c (.g 1) (gT hx17), Nld c 10 (q := x17) (atN 10), Nid c (.g 1) (gT hx18), Nld c 18 (q := x18) (atN 18), trivial⟩ fun _ _ c => ?_)
 cases h
 exact wp_ret (br (tr (Rt c () [] [])))
 refine P0 [(1, 0)] c fun _ c => I0 c h (fun h => ?_) fun h => ?_
 refine Bd h fun x19 hx19 h => Bd h fun x20 hx20 h => S0 (rZ [(4, Pd.el (x19 : Int)), (5, .eq (I x19)), (7, Pd.el (x20 : Int)), (8, .eq (I x20))] [(11, 0)] mix c ⟨Nid c (.g 1) (gT hx19), Nld c 4 (q := x19) (atN 4), Nid c (.g 1) (gT hx20), Nld c 7 (q := x20) (atN 7), trivial⟩ fun _ _ c => ?_)
 cases h
 exact wp_ret (br (tr (Rt c () [] [])))
 refine P0 [(1, 0)] c fun _ c => I0 c h (fun h => ?_) fun h => ?_
 refine Bd h fun x21 hx21 h => Bd h fun x22 hx22 h => S0 (rZ [(5, .eq (.bool x21)), (14, Pd.el (x22 : Int)), (15, .eq (I x22))] [(4, 0), (9, 0), (11, 0)] mix c ⟨Ncl c (fun hg => spec_l01In_ok (iteT (gcT hg) hx21)) trivial Tryz.call52, Nid c (.g 1) (gT hx22), Nld c 14 (q := x22) (atN 14), trivial⟩ fun _ _ c => ?_)
 cases h
 exact wp_ret (br (tr (Rt c () [] [])))
 refine K1 (bk (tn (Bd h fun x23 hx23 h => Bd h fun x24 hx24 h => S0 (rZ [(2, .eq (.bool x23)), (9, Pd.el (x24 : Int)), (10, .eq (I x24))] [(1, 0), (12, 0)] mix c ⟨Ncl c (kN (spec_l01In_ok hx23)) trivial Tryz.call52, Nid c (.g 1) (gT hx24), Nld c 9 (q := x24) (atN 9), trivial⟩ fun _ _ c => ?_))))
 cases h
 exact wp_ret (Rt c () [] [])
 replace c := c.eqs (v := .bool (!x1)) (u := .bool false) 15 (by rw [hg1])
 refine Gt c ?_
 dsimp only [List.set]
 refine Fp [] 1 c fun _ c => Gt c ?_
 dsimp only [List.set]
 refine Fp [(6, 0)] 1 c fun _ c => Gt c ?_
 dsimp only [List.set]
 refine Fp [] 1 c fun _ c => Gt c ?_
 dsimp only [List.set]
 refine Fp [] 1 c fun _ c => ?_
 rcases ite_split (b := (!(Str.eqb p0.Name ⟨[]⟩))) h with ⟨hg2, h⟩ | ⟨hg2, h⟩
 replace c := c.eqs (v := .bool (!(Str.eqb p0.Name ⟨[]⟩))) (u := .bool true) 19 (by rw [hg2])
 refine Gt c ?_
 dsimp only [List.set]
 refine Fp [] 1 c fun _ c => Gt c ?_
 dsimp only [List.set]
 refine Fp [(10, 0)] 1 c fun _ c => Gt c ?_
 dsimp only [List.set]
 refine Fp [] 1 c fun _ c => Gt c ?_
 dsimp only [List.set]
 refine Epk (b := true) (v := .bool (p0.Op != 22)) c fun _ c => ?_
 refine Epk (b := false) (v := .bool (p0.Op != 22)) c fun _ c => ?_
 refine Fp [] 1 c fun _ c => ?_
 rcases ite_split (b := (p0.Op != 22)) h with ⟨hg3, h⟩ | ⟨hg3, h⟩
 replace c := c.eqs (v := .bool (p0.Op != 22)) (u := .bool true) 25 (by rw [hg3])
 refine Gs c fun _ c => ?_
 refine Gs c fun _ c => ?_
 refine Gs c fun _ c => ?_
 refine Gs c fun _ c => ?_
 refine Gu c fun _ c => ?_
 refine Gu c fun _ c => ?_
 refine Gu c fun _ c => ?_
 refine Gs c fun _ c => ?_
 refine Gs c fun _ c => ?_
 refine Gu c fun _ c => ?_
 refine Gu c fun _ c => ?_
 refine Gu c fun _ c => ?_
 refine Gs c fun _ c => ?_
 refine Epk (b := true) (v := .bool true) c fun _ c => ?_
 refine E0 (I0 c h (fun h => ?_) fun h => ?_)
 refine P0 [] c fun _ c => ?_
 obtain rfl := sj h
 exact wp_ret (tr (Rt c () [] []))
 refine K0 (S0 (P0 [(1, 0)] c fun _ c => Bd h fun rl3 hit3 h => ?_))
 have hk3 := h
 refine LpR (fun s3  (_ : Unit) => ([(1, B b1 0), (3, I (len p0.Kids)), (41, L ga0 p0.Kids gc1), (42, I (len p0.Kids)), (43, I s3)], id, [])) (fun s  (_ : Unit) => ([(1, B b1 0), (3, I (len p0.Kids))], id, [])) hit3 c () (c.re [0] [0]) (fun s3 q3 _ _ _ c h hr3 => ?_) fun s3r _ _ _ hrl c => ?_
 refine P0 [] c fun _ c => S0 (I0 c h (fun h => ?_) fun h => ?_)
 refine K0 (S0 (wp_block (T0 (Bd h fun x25 hx25 h => Eem c (.f 0) hx25 fun _ u2 _ c => ?_))))
 obtain ⟨a3, c3, rfl, c⟩ := c.o_Term 1
 refine Eal [I 0, I 0, I 0, Str.val ⟨[]⟩, L none ([] : List D.Term) 0] c fun b3 _ _ c => ?_
 refine Ess 1 [I x25.Op, I x25.W, I x25.N, Str.val x25.Name, L a3 x25.Kids c3] c fun _ c => ?_
 refine E0 (T0 (Fp [(0, 1)] 1 c fun _ c => ?_))
 replace c := c.gm [BX b1 75 [I p0.Op, I p0.W, I p0.N, Str.val p0.Name, L ga0 p0.Kids gc1], BX b3 75 [I x25.Op, I x25.W, I x25.N, Str.val x25.Name, L a3 x25.Kids c3]]
 refine Bd h fun x26 hx26 h => Ca [] c (ih hx26) ⟨.f 2, trivial⟩ Tryz.call95 fun _ _ _ c => ?_
 refine Fp [] 1 c fun _ c => E0 (I0 c h (fun h => ?_) fun h => ?_)
 refine P0 [] c fun _ c => ?_
 obtain rfl := hr3 _ (Option.some.inj h).symm
 obtain rfl := Option.some.inj hk3
 exact wp_ret (br (tr (tr (br (tr (Rt c () [] []))))))
 refine K1 (bk (tn (P1 [] c fun _ c => Nx h () (c.re [0] [0]))))
 refine wp_exit (te (te (be ?_)))
 obtain rfl := hr3 _ (Option.some.inj h).symm
 exact tn ⟨_, (), rfl, c.re [0] [0]⟩
 subst hrl
 refine T0 (Elt 3 ([0, 0, 0] : List Int) c fun a4 c4 _ _ c => ?_)
 refine Fp [] 1 c fun _ c => E0 (S0 (P0 [] c fun _ c => Bd h fun rl4 hit4 h => Lp (fun s4  (_ : Unit) => ([(1, B b1 0), (3, I (len p0.Kids)), (6, L a4 ([0, 0, 0] : List Int) c4), (7, I s4.1)], fun Γ => Γ.set 1 (sl3 (L a4 ([0, 0, 0] : List Int) c4) s4.2), [])) (fun  (_ : Unit) => ([(1, B b1 0), (3, I (len p0.Kids)), (6, L a4 ([0, 0, 0] : List Int) c4)], fun Γ => Γ.set 1 (sl3 (L a4 ([0, 0, 0] : List Int) c4) rl4), [])) hit4 c () (c.re [0, 1] [0]) (fun s4 q4 _ _ _ c h hr4 => ?_) fun _ _ _ c => ?_))
 refine S0 (S0 (Ry [] mix c fun _ _ c => I0 c h (fun h => ?_) fun h => ?_))
 refine K0 (S0 (wp_block (T1 (Fp [(3, 0)] 5 c fun _ c => Bd h fun x27 hx27 h => Eef c (.f 0) hx27 fc75_1 fun _ _ _ c => ?_))))
 refine Bd h fun x28 hx28 h => Eset 1 c hx28 fun _ _ _ c => ?_
 refine E1 (bk (tn (P1 [] c fun _ c => Nx h () (c.re [0, 1] [0]))))
 refine wp_exit (te (te (be ?_)))
 obtain rfl := hr4 _ (Option.some.inj h).symm
 exact tn ⟨(), c.re [0, 1] [0]⟩
 refine S0 (wp_block (P0 [(1, 0)] c fun _ c => I0 c h (fun h => ?_) fun h => ?_))
 refine Bd h fun x29 hx29 h => S0 (rZ [(7, .eq (.bool x29))] [(4, 0), (6, 0)] mix c ⟨Ncl c (fun hg => spec_WordOk_ok (iteT (gcT hg) hx29)) trivial Tryz.call73, trivial⟩ fun _ _ c => ?_)
 cases h
 exact wp_ret (br (tr (Rt c () [] [])))
 refine P0 [(1, 0)] c fun _ c => I0 c h (fun h => ?_) fun h => ?_
 refine Bd h fun x30 hx30 h => S0 (rZ [(5, .eq (.bool x30))] [(4, 0)] mix c ⟨Ncl c (fun hg => spec_IsName_ok (iteT (gcT hg) hx30)) trivial Tryz.call116, trivial⟩ fun _ _ c => ?_)
 cases h
 exact wp_ret (br (tr (Rt c () [] [])))
 refine T0 (Fp [(1, 0)] 2 c fun _ c => Bd h fun x31 hx31 h => Ca [] c (spec_l01In_ok hx31) trivial Tryz.call52 fun _ _ _ c => ?_)
 refine Fp [] 1 c fun _ c => E0 (I0 c h (fun h => ?_) fun h => ?_)
 refine Bd h fun x32 hx32 h => S0 (rZ [(4, Pd.el (x32 : Int)), (5, .eq (I x32))] [(7, 0)] mix c ⟨Nid c (.g 1) (gT hx32), Nld c 4 (q := x32) (atN 4), trivial⟩ fun _ _ c => ?_)
 cases h
 exact wp_ret (br (tr (Rt c () [] [])))
 refine T0 (Fp [(1, 0)] 2 c fun _ c => Bd h fun x33 hx33 h => Ca [] c (spec_l01In_ok hx33) trivial Tryz.call52 fun _ _ _ c => ?_)
 refine Fp [] 1 c fun _ c => E0 (I0 c h (fun h => ?_) fun h => ?_)
 refine Bd h fun x34 hx34 h => Bd h fun x35 hx35 h => S0 (rZ [(4, Pd.el (x34 : Int)), (5, .eq (I x34)), (12, Pd.el (x35 : Int)), (13, .eq (I x35))] [(7, 0), (15, 0)] mix c ⟨Nid c (.g 1) (gT hx34), Nld c 4 (q := x34) (atN 4), Nid c (.g 1) (gT hx35), Nld c 12 (q := x35) (atN 12), trivial⟩ fun _ _ c => ?_)
 cases h
 exact wp_ret (br (tr (Rt c () [] [])))
 refine T0 (Fp [(1, 0)] 2 c fun _ c => ?_)
 replace c := c.gm [BX b1 75 [I p0.Op, I p0.W, I p0.N, Str.val p0.Name, L ga0 p0.Kids gc1], sl3 (L a4 ([0, 0, 0] : List Int) c4) rl4]
 refine Bd h fun x36 hx36 h => Ca [] c (spec_l01In_ok hx36) trivial Tryz.call52 fun _ _ _ c => ?_
 refine Fp [] 1 c fun _ c => E0 (I0 c h (fun h => ?_) fun h => ?_)
 refine Bd h fun x37 hx37 h => Bd h fun x38 hx38 h => S0 (rZ [(4, Pd.el (x37 : Int)), (5, .eq (I x37)), (7, Pd.el (x38 : Int)), (8, .eq (I x38))] [(13, 0)] mix c ⟨Nid c (.g 1) (gT hx37), Nld c 4 (q := x37) (atN 4), Nid c (.g 1) (gT hx38), Nld c 7 (q := x38) (atN 7), trivial⟩ fun _ _ c => ?_)
 cases h
 exact wp_ret (br (tr (Rt c () [] [])))
 refine P0 [(1, 0)] c fun _ c => I0 c h (fun h => ?_) fun h => ?_
 refine Bd h fun x39 hx39 h => Bd h fun x40 hx40 h => Bd h fun x41 hx41 h => S0 (rZ [(4, Pd.el (x39 : Int)), (5, .eq (I x39)), (10, Pd.el (x40 : Int)), (11, .eq (I x40)), (18, Pd.el (x41 : Int)), (19, .eq (I x41))] [(13, 0), (21, 0)] mix c ⟨Nid c (.g 1) (gT hx39), Nld c 4 (q := x39) (atN 4), Nid c (.g 1) (gT hx40), Nld c 10 (q := x40) (atN 10), Nid c (.g 1) (gT hx41), Nld c 18 (q := x41) (atN 18), trivial⟩ fun _ _ c => ?_)
 cases h
 exact wp_ret (br (tr (Rt c () [] [])))
 refine P0 [(1, 0)] c fun _ c => I0 c h (fun h => ?_) fun h => ?_
 refine Bd h fun x42 hx42 h => Bd h fun x43 hx43 h => S0 (rZ [(4, Pd.el (x42 : Int)), (5, .eq (I x42)), (7, Pd.el (x43 : Int)), (8, .eq (I x43))] [(11, 0)] mix c ⟨Nid c (.g 1) (gT hx42), Nld c 4 (q := x42) (atN 4), Nid c (.g 1) (gT hx43), Nld c 7 (q := x43) (atN 7), trivial⟩ fun _ _ c => ?_)
 cases h
 exact wp_ret (br (tr (Rt c () [] [])))
 refine P0 [(1, 0)] c fun _ c => I0 c h (fun h => ?_) fun h => ?_
 refine Bd h fun x44 hx44 h => Bd h fun x45 hx45 h => S0 (rZ [(5, .eq (.bool x44)), (14, Pd.el (x45 : Int)), (15, .eq (I x45))] [(4, 0), (9, 0), (11, 0)] mix c ⟨Ncl c (fun hg => spec_l01In_ok (iteT (gcT hg) hx44)) trivial Tryz.call52, Nid c (.g 1) (gT hx45), Nld c 14 (q := x45) (atN 14), trivial⟩ fun _ _ c => ?_)
 cases h
 exact wp_ret (br (tr (Rt c () [] [])))
 refine K1 (bk (tn (Bd h fun x46 hx46 h => Bd h fun x47 hx47 h => S0 (rZ [(2, .eq (.bool x46)), (9, Pd.el (x47 : Int)), (10, .eq (I x47))] [(1, 0), (12, 0)] mix c ⟨Ncl c (kN (spec_l01In_ok hx46)) trivial Tryz.call52, Nid c (.g 1) (gT hx47), Nld c 9 (q := x47) (atN 9), trivial⟩ fun _ _ c => ?_))))
 cases h
 exact wp_ret (Rt c () [] [])
 replace c := c.eqs (v := .bool (p0.Op != 22)) (u := .bool false) 25 (by rw [hg3])
 refine Gt c ?_
 dsimp only [List.set]
 refine Fp [] 1 c fun _ c => Gt c ?_
 dsimp only [List.set]
 refine Fp [(16, 0)] 1 c fun _ c => Gt c ?_
 dsimp only [List.set]
 refine Fp [] 1 c fun _ c => Gt c ?_
 dsimp only [List.set]
 refine Fp [] 1 c fun _ c => ?_
 rcases ite_split (b := (p0.N != 0)) h with ⟨hg4, h⟩ | ⟨hg4, h⟩
 replace c := c.eqs (v := .bool (p0.N != 0)) (u := .bool true) 29 (by rw [hg4])
 refine Gt c ?_
 dsimp only [List.set]
 refine Fp [] 1 c fun _ c => Gt c ?_
 dsimp only [List.set]
 refine Fp [(20, 0)] 1 c fun _ c => Gt c ?_
 dsimp only [List.set]
 refine Fp [] 1 c fun _ c => Gt c ?_
 dsimp only [List.set]
 refine Epk (b := true) (v := .bool (p0.Op != 0)) c fun _ c => ?_
 refine Gt c ?_
 dsimp only [List.set]
 refine Fp [] 1 c fun _ c => ?_
 rcases ite_split (b := (p0.Op != 0)) h with ⟨hg5, h⟩ | ⟨hg5, h⟩
 replace c := c.eqs (v := .bool (p0.Op != 0)) (u := .bool true) 34 (by rw [hg5])
 refine Gt c ?_
 dsimp only [List.set]
 refine Fp [] 1 c fun _ c => Gt c ?_
 dsimp only [List.set]
 refine Fp [(25, 0)] 1 c fun _ c => Gt c ?_
 dsimp only [List.set]
 refine Fp [] 1 c fun _ c => Gt c ?_
 dsimp only [List.set]
 refine Epk (b := true) (v := .bool (p0.Op != 19)) c fun _ c => ?_
 refine Epk (b := false) (v := .bool (p0.Op != 19)) c fun _ c => ?_
 refine E0 (I0 c h (fun h => ?_) fun h => ?_)
 refine P0 [] c fun _ c => ?_
 obtain rfl := sj h
 exact wp_ret (tr (Rt c () [] []))
 refine K0 (S0 (P0 [(1, 0)] c fun _ c => Bd h fun rl5 hit5 h => ?_))
 have hk5 := h
 refine LpR (fun s5  (_ : Unit) => ([(1, B b1 0), (3, I (len p0.Kids)), (41, L ga0 p0.Kids gc1), (42, I (len p0.Kids)), (43, I s5)], id, [])) (fun s  (_ : Unit) => ([(1, B b1 0), (3, I (len p0.Kids))], id, [])) hit5 c () (c.re [0] [0]) (fun s5 q5 _ _ _ c h hr5 => ?_) fun s5r _ _ _ hrl c => ?_
 refine P0 [] c fun _ c => S0 (I0 c h (fun h => ?_) fun h => ?_)
 refine K0 (S0 (wp_block (T0 (Bd h fun x48 hx48 h => Eem c (.f 0) hx48 fun _ u3 _ c => ?_))))
 obtain ⟨a5, c5, rfl, c⟩ := c.o_Term 1
 refine Eal [I 0, I 0, I 0, Str.val ⟨[]⟩, L none ([] : List D.Term) 0] c fun b4 _ _ c => ?_
 refine Ess 1 [I x48.Op, I x48.W, I x48.N, Str.val x48.Name, L a5 x48.Kids c5] c fun _ c => ?_
 refine E0 (T0 (Fp [(0, 1)] 1 c fun _ c => ?_))
 replace c := c.gm [BX b1 75 [I p0.Op, I p0.W, I p0.N, Str.val p0.Name, L ga0 p0.Kids gc1], BX b4 75 [I x48.Op, I x48.W, I x48.N, Str.val x48.Name, L a5 x48.Kids c5]]
 refine Bd h fun x49 hx49 h => Ca [] c (ih hx49) ⟨.f 2, trivial⟩ Tryz.call95 fun _ _ _ c => ?_
 refine Fp [] 1 c fun _ c => E0 (I0 c h (fun h => ?_) fun h => ?_)
 refine P0 [] c fun _ c => ?_
 obtain rfl := hr5 _ (Option.some.inj h).symm
 obtain rfl := Option.some.inj hk5
 exact wp_ret (br (tr (tr (br (tr (Rt c () [] []))))))
 refine K1 (bk (tn (P1 [] c fun _ c => Nx h () (c.re [0] [0]))))
 refine wp_exit (te (te (be ?_)))
 obtain rfl := hr5 _ (Option.some.inj h).symm
 exact tn ⟨_, (), rfl, c.re [0] [0]⟩
 subst hrl
 refine T0 (Elt 3 ([0, 0, 0] : List Int) c fun a6 c6 _ _ c => ?_)
 refine Fp [] 1 c fun _ c => E0 (S0 (P0 [] c fun _ c => Bd h fun rl6 hit6 h => Lp (fun s6  (_ : Unit) => ([(1, B b1 0), (3, I (len p0.Kids)), (6, L a6 ([0, 0, 0] : List Int) c6), (7, I s6.1)], fun Γ => Γ.set 1 (sl3 (L a6 ([0, 0, 0] : List Int) c6) s6.2), [])) (fun  (_ : Unit) => ([(1, B b1 0), (3, I (len p0.Kids)), (6, L a6 ([0, 0, 0] : List Int) c6)], fun Γ => Γ.set 1 (sl3 (L a6 ([0, 0, 0] : List Int) c6) rl6), [])) hit6 c () (c.re [0, 1] [0]) (fun s6 q6 _ _ _ c h hr6 => ?_) fun _ _ _ c => ?_))
 refine S0 (S0 (Ry [] mix c fun _ _ c => I0 c h (fun h => ?_) fun h => ?_))
 refine K0 (S0 (wp_block (T1 (Fp [(3, 0)] 5 c fun _ c => Bd h fun x50 hx50 h => Eef c (.f 0) hx50 fc75_1 fun _ _ _ c => ?_))))
 refine Bd h fun x51 hx51 h => Eset 1 c hx51 fun _ _ _ c => ?_
 refine E1 (bk (tn (P1 [] c fun _ c => Nx h () (c.re [0, 1] [0]))))
 refine wp_exit (te (te (be ?_)))
 obtain rfl := hr6 _ (Option.some.inj h).symm
 exact tn ⟨(), c.re [0, 1] [0]⟩
 refine S0 (wp_block (P0 [(1, 0)] c fun _ c => I0 c h (fun h => ?_) fun h => ?_))
 refine Bd h fun x52 hx52 h => S0 (rZ [(7, .eq (.bool x52))] [(4, 0), (6, 0)] mix c ⟨Ncl c (fun hg => spec_WordOk_ok (iteT (gcT hg) hx52)) trivial Tryz.call73, trivial⟩ fun _ _ c => ?_)
 cases h
 exact wp_ret (br (tr (Rt c () [] [])))
 refine P0 [(1, 0)] c fun _ c => I0 c h (fun h => ?_) fun h => ?_
 refine Bd h fun x53 hx53 h => S0 (rZ [(5, .eq (.bool x53))] [(4, 0)] mix c ⟨Ncl c (fun hg => spec_IsName_ok (iteT (gcT hg) hx53)) trivial Tryz.call116, trivial⟩ fun _ _ c => ?_)
 cases h
 exact wp_ret (br (tr (Rt c () [] [])))
 refine T0 (Fp [(1, 0)] 2 c fun _ c => Bd h fun x54 hx54 h => Ca [] c (spec_l01In_ok hx54) trivial Tryz.call52 fun _ _ _ c => ?_)
 refine Fp [] 1 c fun _ c => E0 (I0 c h (fun h => ?_) fun h => ?_)
 refine Bd h fun x55 hx55 h => S0 (rZ [(4, Pd.el (x55 : Int)), (5, .eq (I x55))] [(7, 0)] mix c ⟨Nid c (.g 1) (gT hx55), Nld c 4 (q := x55) (atN 4), trivial⟩ fun _ _ c => ?_)
 cases h
 exact wp_ret (br (tr (Rt c () [] [])))
 refine T0 (Fp [(1, 0)] 2 c fun _ c => Bd h fun x56 hx56 h => Ca [] c (spec_l01In_ok hx56) trivial Tryz.call52 fun _ _ _ c => ?_)
 refine Fp [] 1 c fun _ c => E0 (I0 c h (fun h => ?_) fun h => ?_)
 refine Bd h fun x57 hx57 h => Bd h fun x58 hx58 h => S0 (rZ [(4, Pd.el (x57 : Int)), (5, .eq (I x57)), (12, Pd.el (x58 : Int)), (13, .eq (I x58))] [(7, 0), (15, 0)] mix c ⟨Nid c (.g 1) (gT hx57), Nld c 4 (q := x57) (atN 4), Nid c (.g 1) (gT hx58), Nld c 12 (q := x58) (atN 12), trivial⟩ fun _ _ c => ?_)
 cases h
 exact wp_ret (br (tr (Rt c () [] [])))
 refine T0 (Fp [(1, 0)] 2 c fun _ c => ?_)
 replace c := c.gm [BX b1 75 [I p0.Op, I p0.W, I p0.N, Str.val p0.Name, L ga0 p0.Kids gc1], sl3 (L a6 ([0, 0, 0] : List Int) c6) rl6]
 refine Bd h fun x59 hx59 h => Ca [] c (spec_l01In_ok hx59) trivial Tryz.call52 fun _ _ _ c => ?_
 refine Fp [] 1 c fun _ c => E0 (I0 c h (fun h => ?_) fun h => ?_)
 refine Bd h fun x60 hx60 h => Bd h fun x61 hx61 h => S0 (rZ [(4, Pd.el (x60 : Int)), (5, .eq (I x60)), (7, Pd.el (x61 : Int)), (8, .eq (I x61))] [(13, 0)] mix c ⟨Nid c (.g 1) (gT hx60), Nld c 4 (q := x60) (atN 4), Nid c (.g 1) (gT hx61), Nld c 7 (q := x61) (atN 7), trivial⟩ fun _ _ c => ?_)
 cases h
 exact wp_ret (br (tr (Rt c () [] [])))
 refine P0 [(1, 0)] c fun _ c => I0 c h (fun h => ?_) fun h => ?_
 refine Bd h fun x62 hx62 h => Bd h fun x63 hx63 h => Bd h fun x64 hx64 h => S0 (rZ [(4, Pd.el (x62 : Int)), (5, .eq (I x62)), (10, Pd.el (x63 : Int)), (11, .eq (I x63)), (18, Pd.el (x64 : Int)), (19, .eq (I x64))] [(13, 0), (21, 0)] mix c ⟨Nid c (.g 1) (gT hx62), Nld c 4 (q := x62) (atN 4), Nid c (.g 1) (gT hx63), Nld c 10 (q := x63) (atN 10), Nid c (.g 1) (gT hx64), Nld c 18 (q := x64) (atN 18), trivial⟩ fun _ _ c => ?_)
 cases h
 exact wp_ret (br (tr (Rt c () [] [])))
 refine P0 [(1, 0)] c fun _ c => I0 c h (fun h => ?_) fun h => ?_
 refine Bd h fun x65 hx65 h => Bd h fun x66 hx66 h => S0 (rZ [(4, Pd.el (x65 : Int)), (5, .eq (I x65)), (7, Pd.el (x66 : Int)), (8, .eq (I x66))] [(11, 0)] mix c ⟨Nid c (.g 1) (gT hx65), Nld c 4 (q := x65) (atN 4), Nid c (.g 1) (gT hx66), Nld c 7 (q := x66) (atN 7), trivial⟩ fun _ _ c => ?_)
 cases h
 exact wp_ret (br (tr (Rt c () [] [])))
 refine P0 [(1, 0)] c fun _ c => I0 c h (fun h => ?_) fun h => ?_
 refine Bd h fun x67 hx67 h => Bd h fun x68 hx68 h => S0 (rZ [(5, .eq (.bool x67)), (14, Pd.el (x68 : Int)), (15, .eq (I x68))] [(4, 0), (9, 0), (11, 0)] mix c ⟨Ncl c (fun hg => spec_l01In_ok (iteT (gcT hg) hx67)) trivial Tryz.call52, Nid c (.g 1) (gT hx68), Nld c 14 (q := x68) (atN 14), trivial⟩ fun _ _ c => ?_)
 cases h
 exact wp_ret (br (tr (Rt c () [] [])))
 refine K1 (bk (tn (Bd h fun x69 hx69 h => Bd h fun x70 hx70 h => S0 (rZ [(2, .eq (.bool x69)), (9, Pd.el (x70 : Int)), (10, .eq (I x70))] [(1, 0), (12, 0)] mix c ⟨Ncl c (kN (spec_l01In_ok hx69)) trivial Tryz.call52, Nid c (.g 1) (gT hx70), Nld c 9 (q := x70) (atN 9), trivial⟩ fun _ _ c => ?_))))
 cases h
 exact wp_ret (Rt c () [] [])
 replace c := c.eqs (v := .bool (p0.Op != 0)) (u := .bool false) 34 (by rw [hg5])
 refine Gs c fun _ c => ?_
 refine Gs c fun _ c => ?_
 refine Gs c fun _ c => ?_
 refine Gt c ?_
 dsimp only [List.set]
 refine Epk (b := false) (v := .bool false) c fun _ c => ?_
 refine Epk (b := false) (v := .bool false) c fun _ c => ?_
 refine E0 (I0 c h (fun h => ?_) fun h => ?_)
 refine P0 [] c fun _ c => ?_
 obtain rfl := sj h
 exact wp_ret (tr (Rt c () [] []))
 refine K0 (S0 (P0 [(1, 0)] c fun _ c => Bd h fun rl7 hit7 h => ?_))
 have hk7 := h
 refine LpR (fun s7  (_ : Unit) => ([(1, B b1 0), (3, I (len p0.Kids)), (41, L ga0 p0.Kids gc1), (42, I (len p0.Kids)), (43, I s7)], id, [])) (fun s  (_ : Unit) => ([(1, B b1 0), (3, I (len p0.Kids))], id, [])) hit7 c () (c.re [0] [0]) (fun s7 q7 _ _ _ c h hr7 => ?_) fun s7r _ _ _ hrl c => ?_
 refine P0 [] c fun _ c => S0 (I0 c h (fun h => ?_) fun h => ?_)
 refine K0 (S0 (wp_block (T0 (Bd h fun x71 hx71 h => Eem c (.f 0) hx71 fun _ u4 _ c => ?_))))
 obtain ⟨a7, c7, rfl, c⟩ := c.o_Term 1
 refine Eal [I 0, I 0, I 0, Str.val ⟨[]⟩, L none ([] : List D.Term) 0] c fun b5 _ _ c => ?_
 refine Ess 1 [I x71.Op, I x71.W, I x71.N, Str.val x71.Name, L a7 x71.Kids c7] c fun _ c => ?_
 refine E0 (T0 (Fp [(0, 1)] 1 c fun _ c => ?_))
 replace c := c.gm [BX b1 75 [I p0.Op, I p0.W, I p0.N, Str.val p0.Name, L ga0 p0.Kids gc1], BX b5 75 [I x71.Op, I x71.W, I x71.N, Str.val x71.Name, L a7 x71.Kids c7]]
 refine Bd h fun x72 hx72 h => Ca [] c (ih hx72) ⟨.f 2, trivial⟩ Tryz.call95 fun _ _ _ c => ?_
 refine Fp [] 1 c fun _ c => E0 (I0 c h (fun h => ?_) fun h => ?_)
 refine P0 [] c fun _ c => ?_
 obtain rfl := hr7 _ (Option.some.inj h).symm
 obtain rfl := Option.some.inj hk7
 exact wp_ret (br (tr (tr (br (tr (Rt c () [] []))))))
 refine K1 (bk (tn (P1 [] c fun _ c => Nx h () (c.re [0] [0]))))
 refine wp_exit (te (te (be ?_)))
 obtain rfl := hr7 _ (Option.some.inj h).symm
 exact tn ⟨_, (), rfl, c.re [0] [0]⟩
 subst hrl
 refine T0 (Elt 3 ([0, 0, 0] : List Int) c fun a8 c8 _ _ c => ?_)
 refine Fp [] 1 c fun _ c => E0 (S0 (P0 [] c fun _ c => Bd h fun rl8 hit8 h => Lp (fun s8  (_ : Unit) => ([(1, B b1 0), (3, I (len p0.Kids)), (6, L a8 ([0, 0, 0] : List Int) c8), (7, I s8.1)], fun Γ => Γ.set 1 (sl3 (L a8 ([0, 0, 0] : List Int) c8) s8.2), [])) (fun  (_ : Unit) => ([(1, B b1 0), (3, I (len p0.Kids)), (6, L a8 ([0, 0, 0] : List Int) c8)], fun Γ => Γ.set 1 (sl3 (L a8 ([0, 0, 0] : List Int) c8) rl8), [])) hit8 c () (c.re [0, 1] [0]) (fun s8 q8 _ _ _ c h hr8 => ?_) fun _ _ _ c => ?_))
 refine S0 (S0 (Ry [] mix c fun _ _ c => I0 c h (fun h => ?_) fun h => ?_))
 refine K0 (S0 (wp_block (T1 (Fp [(3, 0)] 5 c fun _ c => Bd h fun x73 hx73 h => Eef c (.f 0) hx73 fc75_1 fun _ _ _ c => ?_))))
 refine Bd h fun x74 hx74 h => Eset 1 c hx74 fun _ _ _ c => ?_
 refine E1 (bk (tn (P1 [] c fun _ c => Nx h () (c.re [0, 1] [0]))))
 refine wp_exit (te (te (be ?_)))
 obtain rfl := hr8 _ (Option.some.inj h).symm
 exact tn ⟨(), c.re [0, 1] [0]⟩
 refine S0 (wp_block (P0 [(1, 0)] c fun _ c => I0 c h (fun h => ?_) fun h => ?_))
 refine Bd h fun x75 hx75 h => S0 (rZ [(7, .eq (.bool x75))] [(4, 0), (6, 0)] mix c ⟨Ncl c (fun hg => spec_WordOk_ok (iteT (gcT hg) hx75)) trivial Tryz.call73, trivial⟩ fun _ _ c => ?_)
 cases h
 exact wp_ret (br (tr (Rt c () [] [])))
 refine P0 [(1, 0)] c fun _ c => I0 c h (fun h => ?_) fun h => ?_
 refine Bd h fun x76 hx76 h => S0 (rZ [(5, .eq (.bool x76))] [(4, 0)] mix c ⟨Ncl c (fun hg => spec_IsName_ok (iteT (gcT hg) hx76)) trivial Tryz.call116, trivial⟩ fun _ _ c => ?_)
 cases h
 exact wp_ret (br (tr (Rt c () [] [])))
 refine T0 (Fp [(1, 0)] 2 c fun _ c => Bd h fun x77 hx77 h => Ca [] c (spec_l01In_ok hx77) trivial Tryz.call52 fun _ _ _ c => ?_)
 refine Fp [] 1 c fun _ c => E0 (I0 c h (fun h => ?_) fun h => ?_)
 refine Bd h fun x78 hx78 h => S0 (rZ [(4, Pd.el (x78 : Int)), (5, .eq (I x78))] [(7, 0)] mix c ⟨Nid c (.g 1) (gT hx78), Nld c 4 (q := x78) (atN 4), trivial⟩ fun _ _ c => ?_)
 cases h
 exact wp_ret (br (tr (Rt c () [] [])))
 refine T0 (Fp [(1, 0)] 2 c fun _ c => Bd h fun x79 hx79 h => Ca [] c (spec_l01In_ok hx79) trivial Tryz.call52 fun _ _ _ c => ?_)
 refine Fp [] 1 c fun _ c => E0 (I0 c h (fun h => ?_) fun h => ?_)
 refine Bd h fun x80 hx80 h => Bd h fun x81 hx81 h => S0 (rZ [(4, Pd.el (x80 : Int)), (5, .eq (I x80)), (12, Pd.el (x81 : Int)), (13, .eq (I x81))] [(7, 0), (15, 0)] mix c ⟨Nid c (.g 1) (gT hx80), Nld c 4 (q := x80) (atN 4), Nid c (.g 1) (gT hx81), Nld c 12 (q := x81) (atN 12), trivial⟩ fun _ _ c => ?_)
 cases h
 exact wp_ret (br (tr (Rt c () [] [])))
 refine T0 (Fp [(1, 0)] 2 c fun _ c => ?_)
 replace c := c.gm [BX b1 75 [I p0.Op, I p0.W, I p0.N, Str.val p0.Name, L ga0 p0.Kids gc1], sl3 (L a8 ([0, 0, 0] : List Int) c8) rl8]
 refine Bd h fun x82 hx82 h => Ca [] c (spec_l01In_ok hx82) trivial Tryz.call52 fun _ _ _ c => ?_
 refine Fp [] 1 c fun _ c => E0 (I0 c h (fun h => ?_) fun h => ?_)
 refine Bd h fun x83 hx83 h => Bd h fun x84 hx84 h => S0 (rZ [(4, Pd.el (x83 : Int)), (5, .eq (I x83)), (7, Pd.el (x84 : Int)), (8, .eq (I x84))] [(13, 0)] mix c ⟨Nid c (.g 1) (gT hx83), Nld c 4 (q := x83) (atN 4), Nid c (.g 1) (gT hx84), Nld c 7 (q := x84) (atN 7), trivial⟩ fun _ _ c => ?_)
 cases h
 exact wp_ret (br (tr (Rt c () [] [])))
 refine P0 [(1, 0)] c fun _ c => I0 c h (fun h => ?_) fun h => ?_
 refine Bd h fun x85 hx85 h => Bd h fun x86 hx86 h => Bd h fun x87 hx87 h => S0 (rZ [(4, Pd.el (x85 : Int)), (5, .eq (I x85)), (10, Pd.el (x86 : Int)), (11, .eq (I x86)), (18, Pd.el (x87 : Int)), (19, .eq (I x87))] [(13, 0), (21, 0)] mix c ⟨Nid c (.g 1) (gT hx85), Nld c 4 (q := x85) (atN 4), Nid c (.g 1) (gT hx86), Nld c 10 (q := x86) (atN 10), Nid c (.g 1) (gT hx87), Nld c 18 (q := x87) (atN 18), trivial⟩ fun _ _ c => ?_)
 cases h
 exact wp_ret (br (tr (Rt c () [] [])))
 refine P0 [(1, 0)] c fun _ c => I0 c h (fun h => ?_) fun h => ?_
 refine Bd h fun x88 hx88 h => Bd h fun x89 hx89 h => S0 (rZ [(4, Pd.el (x88 : Int)), (5, .eq (I x88)), (7, Pd.el (x89 : Int)), (8, .eq (I x89))] [(11, 0)] mix c ⟨Nid c (.g 1) (gT hx88), Nld c 4 (q := x88) (atN 4), Nid c (.g 1) (gT hx89), Nld c 7 (q := x89) (atN 7), trivial⟩ fun _ _ c => ?_)
 cases h
 exact wp_ret (br (tr (Rt c () [] [])))
 refine P0 [(1, 0)] c fun _ c => I0 c h (fun h => ?_) fun h => ?_
 refine Bd h fun x90 hx90 h => Bd h fun x91 hx91 h => S0 (rZ [(5, .eq (.bool x90)), (14, Pd.el (x91 : Int)), (15, .eq (I x91))] [(4, 0), (9, 0), (11, 0)] mix c ⟨Ncl c (fun hg => spec_l01In_ok (iteT (gcT hg) hx90)) trivial Tryz.call52, Nid c (.g 1) (gT hx91), Nld c 14 (q := x91) (atN 14), trivial⟩ fun _ _ c => ?_)
 cases h
 exact wp_ret (br (tr (Rt c () [] [])))
 refine K1 (bk (tn (Bd h fun x92 hx92 h => Bd h fun x93 hx93 h => S0 (rZ [(2, .eq (.bool x92)), (9, Pd.el (x93 : Int)), (10, .eq (I x93))] [(1, 0), (12, 0)] mix c ⟨Ncl c (kN (spec_l01In_ok hx92)) trivial Tryz.call52, Nid c (.g 1) (gT hx93), Nld c 9 (q := x93) (atN 9), trivial⟩ fun _ _ c => ?_))))
 cases h
 exact wp_ret (Rt c () [] [])
 replace c := c.eqs (v := .bool (p0.N != 0)) (u := .bool false) 29 (by rw [hg4])
 refine Gs c fun _ c => ?_
 refine Gs c fun _ c => ?_
 refine Gs c fun _ c => ?_
 refine Gt c ?_
 dsimp only [List.set]
 refine Epk (b := false) (v := .bool false) c fun _ c => ?_
 refine Gt c ?_
 dsimp only [List.set]
 refine Fp [] 1 c fun _ c => Gs c fun _ c => ?_
 refine Gs c fun _ c => ?_
 refine Gs c fun _ c => ?_
 refine Gt c ?_
 dsimp only [List.set]
 refine Epk (b := false) (v := .bool false) c fun _ c => ?_
 refine Epk (b := false) (v := .bool false) c fun _ c => ?_
 refine E0 (I0 c h (fun h => ?_) fun h => ?_)
 refine P0 [] c fun _ c => ?_
 obtain rfl := sj h
 exact wp_ret (tr (Rt c () [] []))
 refine K0 (S0 (P0 [(1, 0)] c fun _ c => Bd h fun rl9 hit9 h => ?_))
 have hk9 := h
 refine LpR (fun s9  (_ : Unit) => ([(1, B b1 0), (3, I (len p0.Kids)), (41, L ga0 p0.Kids gc1), (42, I (len p0.Kids)), (43, I s9)], id, [])) (fun s  (_ : Unit) => ([(1, B b1 0), (3, I (len p0.Kids))], id, [])) hit9 c () (c.re [0] [0]) (fun s9 q9 _ _ _ c h hr9 => ?_) fun s9r _ _ _ hrl c => ?_
 refine P0 [] c fun _ c => S0 (I0 c h (fun h => ?_) fun h => ?_)
 refine K0 (S0 (wp_block (T0 (Bd h fun x94 hx94 h => Eem c (.f 0) hx94 fun _ u5 _ c => ?_))))
 obtain ⟨a9, c9, rfl, c⟩ := c.o_Term 1
 refine Eal [I 0, I 0, I 0, Str.val ⟨[]⟩, L none ([] : List D.Term) 0] c fun b6 _ _ c => ?_
 refine Ess 1 [I x94.Op, I x94.W, I x94.N, Str.val x94.Name, L a9 x94.Kids c9] c fun _ c => ?_
 refine E0 (T0 (Fp [(0, 1)] 1 c fun _ c => ?_))
 replace c := c.gm [BX b1 75 [I p0.Op, I p0.W, I p0.N, Str.val p0.Name, L ga0 p0.Kids gc1], BX b6 75 [I x94.Op, I x94.W, I x94.N, Str.val x94.Name, L a9 x94.Kids c9]]
 refine Bd h fun x95 hx95 h => Ca [] c (ih hx95) ⟨.f 2, trivial⟩ Tryz.call95 fun _ _ _ c => ?_
 refine Fp [] 1 c fun _ c => E0 (I0 c h (fun h => ?_) fun h => ?_)
 refine P0 [] c fun _ c => ?_
 obtain rfl := hr9 _ (Option.some.inj h).symm
 obtain rfl := Option.some.inj hk9
 exact wp_ret (br (tr (tr (br (tr (Rt c () [] []))))))
 refine K1 (bk (tn (P1 [] c fun _ c => Nx h () (c.re [0] [0]))))
 refine wp_exit (te (te (be ?_)))
 obtain rfl := hr9 _ (Option.some.inj h).symm
 exact tn ⟨_, (), rfl, c.re [0] [0]⟩
 subst hrl
 refine T0 (Elt 3 ([0, 0, 0] : List Int) c fun a10 c10 _ _ c => ?_)
 refine Fp [] 1 c fun _ c => E0 (S0 (P0 [] c fun _ c => Bd h fun rl10 hit10 h => Lp (fun s10  (_ : Unit) => ([(1, B b1 0), (3, I (len p0.Kids)), (6, L a10 ([0, 0, 0] : List Int) c10), (7, I s10.1)], fun Γ => Γ.set 1 (sl3 (L a10 ([0, 0, 0] : List Int) c10) s10.2), [])) (fun  (_ : Unit) => ([(1, B b1 0), (3, I (len p0.Kids)), (6, L a10 ([0, 0, 0] : List Int) c10)], fun Γ => Γ.set 1 (sl3 (L a10 ([0, 0, 0] : List Int) c10) rl10), [])) hit10 c () (c.re [0, 1] [0]) (fun s10 q10 _ _ _ c h hr10 => ?_) fun _ _ _ c => ?_))
 refine S0 (S0 (Ry [] mix c fun _ _ c => I0 c h (fun h => ?_) fun h => ?_))
 refine K0 (S0 (wp_block (T1 (Fp [(3, 0)] 5 c fun _ c => Bd h fun x96 hx96 h => Eef c (.f 0) hx96 fc75_1 fun _ _ _ c => ?_))))
 refine Bd h fun x97 hx97 h => Eset 1 c hx97 fun _ _ _ c => ?_
 refine E1 (bk (tn (P1 [] c fun _ c => Nx h () (c.re [0, 1] [0]))))
 refine wp_exit (te (te (be ?_)))
 obtain rfl := hr10 _ (Option.some.inj h).symm
 exact tn ⟨(), c.re [0, 1] [0]⟩
 refine S0 (wp_block (P0 [(1, 0)] c fun _ c => I0 c h (fun h => ?_) fun h => ?_))
 refine Bd h fun x98 hx98 h => S0 (rZ [(7, .eq (.bool x98))] [(4, 0), (6, 0)] mix c ⟨Ncl c (fun hg => spec_WordOk_ok (iteT (gcT hg) hx98)) trivial Tryz.call73, trivial⟩ fun _ _ c => ?_)
 cases h
 exact wp_ret (br (tr (Rt c () [] [])))
 refine P0 [(1, 0)] c fun _ c => I0 c h (fun h => ?_) fun h => ?_
 refine Bd h fun x99 hx99 h => S0 (rZ [(5, .eq (.bool x99))] [(4, 0)] mix c ⟨Ncl c (fun hg => spec_IsName_ok (iteT (gcT hg) hx99)) trivial Tryz.call116, trivial⟩ fun _ _ c => ?_)
 cases h
 exact wp_ret (br (tr (Rt c () [] [])))
 refine T0 (Fp [(1, 0)] 2 c fun _ c => Bd h fun x100 hx100 h => Ca [] c (spec_l01In_ok hx100) trivial Tryz.call52 fun _ _ _ c => ?_)
 refine Fp [] 1 c fun _ c => E0 (I0 c h (fun h => ?_) fun h => ?_)
 refine Bd h fun x101 hx101 h => S0 (rZ [(4, Pd.el (x101 : Int)), (5, .eq (I x101))] [(7, 0)] mix c ⟨Nid c (.g 1) (gT hx101), Nld c 4 (q := x101) (atN 4), trivial⟩ fun _ _ c => ?_)
 cases h
 exact wp_ret (br (tr (Rt c () [] [])))
 refine T0 (Fp [(1, 0)] 2 c fun _ c => Bd h fun x102 hx102 h => Ca [] c (spec_l01In_ok hx102) trivial Tryz.call52 fun _ _ _ c => ?_)
 refine Fp [] 1 c fun _ c => E0 (I0 c h (fun h => ?_) fun h => ?_)
 refine Bd h fun x103 hx103 h => Bd h fun x104 hx104 h => S0 (rZ [(4, Pd.el (x103 : Int)), (5, .eq (I x103)), (12, Pd.el (x104 : Int)), (13, .eq (I x104))] [(7, 0), (15, 0)] mix c ⟨Nid c (.g 1) (gT hx103), Nld c 4 (q := x103) (atN 4), Nid c (.g 1) (gT hx104), Nld c 12 (q := x104) (atN 12), trivial⟩ fun _ _ c => ?_)
 cases h
 exact wp_ret (br (tr (Rt c () [] [])))
 refine T0 (Fp [(1, 0)] 2 c fun _ c => ?_)
 replace c := c.gm [BX b1 75 [I p0.Op, I p0.W, I p0.N, Str.val p0.Name, L ga0 p0.Kids gc1], sl3 (L a10 ([0, 0, 0] : List Int) c10) rl10]
 refine Bd h fun x105 hx105 h => Ca [] c (spec_l01In_ok hx105) trivial Tryz.call52 fun _ _ _ c => ?_
 refine Fp [] 1 c fun _ c => E0 (I0 c h (fun h => ?_) fun h => ?_)
 refine Bd h fun x106 hx106 h => Bd h fun x107 hx107 h => S0 (rZ [(4, Pd.el (x106 : Int)), (5, .eq (I x106)), (7, Pd.el (x107 : Int)), (8, .eq (I x107))] [(13, 0)] mix c ⟨Nid c (.g 1) (gT hx106), Nld c 4 (q := x106) (atN 4), Nid c (.g 1) (gT hx107), Nld c 7 (q := x107) (atN 7), trivial⟩ fun _ _ c => ?_)
 cases h
 exact wp_ret (br (tr (Rt c () [] [])))
 refine P0 [(1, 0)] c fun _ c => I0 c h (fun h => ?_) fun h => ?_
 refine Bd h fun x108 hx108 h => Bd h fun x109 hx109 h => Bd h fun x110 hx110 h => S0 (rZ [(4, Pd.el (x108 : Int)), (5, .eq (I x108)), (10, Pd.el (x109 : Int)), (11, .eq (I x109)), (18, Pd.el (x110 : Int)), (19, .eq (I x110))] [(13, 0), (21, 0)] mix c ⟨Nid c (.g 1) (gT hx108), Nld c 4 (q := x108) (atN 4), Nid c (.g 1) (gT hx109), Nld c 10 (q := x109) (atN 10), Nid c (.g 1) (gT hx110), Nld c 18 (q := x110) (atN 18), trivial⟩ fun _ _ c => ?_)
 cases h
 exact wp_ret (br (tr (Rt c () [] [])))
 refine P0 [(1, 0)] c fun _ c => I0 c h (fun h => ?_) fun h => ?_
 refine Bd h fun x111 hx111 h => Bd h fun x112 hx112 h => S0 (rZ [(4, Pd.el (x111 : Int)), (5, .eq (I x111)), (7, Pd.el (x112 : Int)), (8, .eq (I x112))] [(11, 0)] mix c ⟨Nid c (.g 1) (gT hx111), Nld c 4 (q := x111) (atN 4), Nid c (.g 1) (gT hx112), Nld c 7 (q := x112) (atN 7), trivial⟩ fun _ _ c => ?_)
 cases h
 exact wp_ret (br (tr (Rt c () [] [])))
 refine P0 [(1, 0)] c fun _ c => I0 c h (fun h => ?_) fun h => ?_
 refine Bd h fun x113 hx113 h => Bd h fun x114 hx114 h => S0 (rZ [(5, .eq (.bool x113)), (14, Pd.el (x114 : Int)), (15, .eq (I x114))] [(4, 0), (9, 0), (11, 0)] mix c ⟨Ncl c (fun hg => spec_l01In_ok (iteT (gcT hg) hx113)) trivial Tryz.call52, Nid c (.g 1) (gT hx114), Nld c 14 (q := x114) (atN 14), trivial⟩ fun _ _ c => ?_)
 cases h
 exact wp_ret (br (tr (Rt c () [] [])))
 refine K1 (bk (tn (Bd h fun x115 hx115 h => Bd h fun x116 hx116 h => S0 (rZ [(2, .eq (.bool x115)), (9, Pd.el (x116 : Int)), (10, .eq (I x116))] [(1, 0), (12, 0)] mix c ⟨Ncl c (kN (spec_l01In_ok hx115)) trivial Tryz.call52, Nid c (.g 1) (gT hx116), Nld c 9 (q := x116) (atN 9), trivial⟩ fun _ _ c => ?_))))
 cases h
 exact wp_ret (Rt c () [] [])
 replace c := c.eqs (v := .bool (!(Str.eqb p0.Name ⟨[]⟩))) (u := .bool false) 19 (by rw [hg2])
 refine Gs c fun _ c => ?_
 refine Gs c fun _ c => ?_
 refine Gs c fun _ c => ?_
 refine Gt c ?_
 dsimp only [List.set]
 refine Epk (b := false) (v := .bool false) c fun _ c => ?_
 refine Epk (b := false) (v := .bool false) c fun _ c => ?_
 refine Fp [] 1 c fun _ c => Gt c ?_
 dsimp only [List.set]
 refine Fp [] 1 c fun _ c => Gt c ?_
 dsimp only [List.set]
 refine Fp [(16, 0)] 1 c fun _ c => Gt c ?_
 dsimp only [List.set]
 refine Fp [] 1 c fun _ c => Gt c ?_
 dsimp only [List.set]
 refine Fp [] 1 c fun _ c => ?_
 rcases ite_split (b := (p0.N != 0)) h with ⟨hg6, h⟩ | ⟨hg6, h⟩
 replace c := c.eqs (v := .bool (p0.N != 0)) (u := .bool true) 29 (by rw [hg6])
 refine Gt c ?_
 dsimp only [List.set]
 refine Fp [] 1 c fun _ c => Gt c ?_
 dsimp only [List.set]
 refine Fp [(20, 0)] 1 c fun _ c => Gt c ?_
 dsimp only [List.set]
 refine Fp [] 1 c fun _ c => Gt c ?_
 dsimp only [List.set]
 refine Epk (b := true) (v := .bool (p0.Op != 0)) c fun _ c => ?_
 refine Gt c ?_
 dsimp only [List.set]
 refine Fp [] 1 c fun _ c => ?_
 rcases ite_split (b := (p0.Op != 0)) h with ⟨hg7, h⟩ | ⟨hg7, h⟩
 replace c := c.eqs (v := .bool (p0.Op != 0)) (u := .bool true) 34 (by rw [hg7])
 refine Gt c ?_
 dsimp only [List.set]
 refine Fp [] 1 c fun _ c => Gt c ?_
 dsimp only [List.set]
 refine Fp [(25, 0)] 1 c fun _ c => Gt c ?_
 dsimp only [List.set]
 refine Fp [] 1 c fun _ c => Gt c ?_
 dsimp only [List.set]
 refine Epk (b := true) (v := .bool (p0.Op != 19)) c fun _ c => ?_
 refine Epk (b := false) (v := .bool (p0.Op != 19)) c fun _ c => ?_
 refine E0 (I0 c h (fun h => ?_) fun h => ?_)
 refine P0 [] c fun _ c => ?_
 obtain rfl := sj h
 exact wp_ret (tr (Rt c () [] []))
 refine K0 (S0 (P0 [(1, 0)] c fun _ c => Bd h fun rl11 hit11 h => ?_))
 have hk11 := h
 refine LpR (fun s11  (_ : Unit) => ([(1, B b1 0), (3, I (len p0.Kids)), (41, L ga0 p0.Kids gc1), (42, I (len p0.Kids)), (43, I s11)], id, [])) (fun s  (_ : Unit) => ([(1, B b1 0), (3, I (len p0.Kids))], id, [])) hit11 c () (c.re [0] [0]) (fun s11 q11 _ _ _ c h hr11 => ?_) fun s11r _ _ _ hrl c => ?_
 refine P0 [] c fun _ c => S0 (I0 c h (fun h => ?_) fun h => ?_)
 refine K0 (S0 (wp_block (T0 (Bd h fun x117 hx117 h => Eem c (.f 0) hx117 fun _ u6 _ c => ?_))))
 obtain ⟨a11, c11, rfl, c⟩ := c.o_Term 1
 refine Eal [I 0, I 0, I 0, Str.val ⟨[]⟩, L none ([] : List D.Term) 0] c fun b7 _ _ c => ?_
 refine Ess 1 [I x117.Op, I x117.W, I x117.N, Str.val x117.Name, L a11 x117.Kids c11] c fun _ c => ?_
 refine E0 (T0 (Fp [(0, 1)] 1 c fun _ c => ?_))
 replace c := c.gm [BX b1 75 [I p0.Op, I p0.W, I p0.N, Str.val p0.Name, L ga0 p0.Kids gc1], BX b7 75 [I x117.Op, I x117.W, I x117.N, Str.val x117.Name, L a11 x117.Kids c11]]
 refine Bd h fun x118 hx118 h => Ca [] c (ih hx118) ⟨.f 2, trivial⟩ Tryz.call95 fun _ _ _ c => ?_
 refine Fp [] 1 c fun _ c => E0 (I0 c h (fun h => ?_) fun h => ?_)
 refine P0 [] c fun _ c => ?_
 obtain rfl := hr11 _ (Option.some.inj h).symm
 obtain rfl := Option.some.inj hk11
 exact wp_ret (br (tr (tr (br (tr (Rt c () [] []))))))
 refine K1 (bk (tn (P1 [] c fun _ c => Nx h () (c.re [0] [0]))))
 refine wp_exit (te (te (be ?_)))
 obtain rfl := hr11 _ (Option.some.inj h).symm
 exact tn ⟨_, (), rfl, c.re [0] [0]⟩
 subst hrl
 refine T0 (Elt 3 ([0, 0, 0] : List Int) c fun a12 c12 _ _ c => ?_)
 refine Fp [] 1 c fun _ c => E0 (S0 (P0 [] c fun _ c => Bd h fun rl12 hit12 h => Lp (fun s12  (_ : Unit) => ([(1, B b1 0), (3, I (len p0.Kids)), (6, L a12 ([0, 0, 0] : List Int) c12), (7, I s12.1)], fun Γ => Γ.set 1 (sl3 (L a12 ([0, 0, 0] : List Int) c12) s12.2), [])) (fun  (_ : Unit) => ([(1, B b1 0), (3, I (len p0.Kids)), (6, L a12 ([0, 0, 0] : List Int) c12)], fun Γ => Γ.set 1 (sl3 (L a12 ([0, 0, 0] : List Int) c12) rl12), [])) hit12 c () (c.re [0, 1] [0]) (fun s12 q12 _ _ _ c h hr12 => ?_) fun _ _ _ c => ?_))
 refine S0 (S0 (Ry [] mix c fun _ _ c => I0 c h (fun h => ?_) fun h => ?_))
 refine K0 (S0 (wp_block (T1 (Fp [(3, 0)] 5 c fun _ c => Bd h fun x119 hx119 h => Eef c (.f 0) hx119 fc75_1 fun _ _ _ c => ?_))))
 refine Bd h fun x120 hx120 h => Eset 1 c hx120 fun _ _ _ c => ?_
 refine E1 (bk (tn (P1 [] c fun _ c => Nx h () (c.re [0, 1] [0]))))
 refine wp_exit (te (te (be ?_)))
 obtain rfl := hr12 _ (Option.some.inj h).symm
 exact tn ⟨(), c.re [0, 1] [0]⟩
 refine S0 (wp_block (P0 [(1, 0)] c fun _ c => I0 c h (fun h => ?_) fun h => ?_))
 refine Bd h fun x121 hx121 h => S0 (rZ [(7, .eq (.bool x121))] [(4, 0), (6, 0)] mix c ⟨Ncl c (fun hg => spec_WordOk_ok (iteT (gcT hg) hx121)) trivial Tryz.call73, trivial⟩ fun _ _ c => ?_)
 cases h
 exact wp_ret (br (tr (Rt c () [] [])))
 refine P0 [(1, 0)] c fun _ c => I0 c h (fun h => ?_) fun h => ?_
 refine Bd h fun x122 hx122 h => S0 (rZ [(5, .eq (.bool x122))] [(4, 0)] mix c ⟨Ncl c (fun hg => spec_IsName_ok (iteT (gcT hg) hx122)) trivial Tryz.call116, trivial⟩ fun _ _ c => ?_)
 cases h
 exact wp_ret (br (tr (Rt c () [] [])))
 refine T0 (Fp [(1, 0)] 2 c fun _ c => Bd h fun x123 hx123 h => Ca [] c (spec_l01In_ok hx123) trivial Tryz.call52 fun _ _ _ c => ?_)
 refine Fp [] 1 c fun _ c => E0 (I0 c h (fun h => ?_) fun h => ?_)
 refine Bd h fun x124 hx124 h => S0 (rZ [(4, Pd.el (x124 : Int)), (5, .eq (I x124))] [(7, 0)] mix c ⟨Nid c (.g 1) (gT hx124), Nld c 4 (q := x124) (atN 4), trivial⟩ fun _ _ c => ?_)
 cases h
 exact wp_ret (br (tr (Rt c () [] [])))
 refine T0 (Fp [(1, 0)] 2 c fun _ c => Bd h fun x125 hx125 h => Ca [] c (spec_l01In_ok hx125) trivial Tryz.call52 fun _ _ _ c => ?_)
 refine Fp [] 1 c fun _ c => E0 (I0 c h (fun h => ?_) fun h => ?_)
 refine Bd h fun x126 hx126 h => Bd h fun x127 hx127 h => S0 (rZ [(4, Pd.el (x126 : Int)), (5, .eq (I x126)), (12, Pd.el (x127 : Int)), (13, .eq (I x127))] [(7, 0), (15, 0)] mix c ⟨Nid c (.g 1) (gT hx126), Nld c 4 (q := x126) (atN 4), Nid c (.g 1) (gT hx127), Nld c 12 (q := x127) (atN 12), trivial⟩ fun _ _ c => ?_)
 cases h
 exact wp_ret (br (tr (Rt c () [] [])))
 refine T0 (Fp [(1, 0)] 2 c fun _ c => ?_)
 replace c := c.gm [BX b1 75 [I p0.Op, I p0.W, I p0.N, Str.val p0.Name, L ga0 p0.Kids gc1], sl3 (L a12 ([0, 0, 0] : List Int) c12) rl12]
 refine Bd h fun x128 hx128 h => Ca [] c (spec_l01In_ok hx128) trivial Tryz.call52 fun _ _ _ c => ?_
 refine Fp [] 1 c fun _ c => E0 (I0 c h (fun h => ?_) fun h => ?_)
 refine Bd h fun x129 hx129 h => Bd h fun x130 hx130 h => S0 (rZ [(4, Pd.el (x129 : Int)), (5, .eq (I x129)), (7, Pd.el (x130 : Int)), (8, .eq (I x130))] [(13, 0)] mix c ⟨Nid c (.g 1) (gT hx129), Nld c 4 (q := x129) (atN 4), Nid c (.g 1) (gT hx130), Nld c 7 (q := x130) (atN 7), trivial⟩ fun _ _ c => ?_)
 cases h
 exact wp_ret (br (tr (Rt c () [] [])))
 refine P0 [(1, 0)] c fun _ c => I0 c h (fun h => ?_) fun h => ?_
 refine Bd h fun x131 hx131 h => Bd h fun x132 hx132 h => Bd h fun x133 hx133 h => S0 (rZ [(4, Pd.el (x131 : Int)), (5, .eq (I x131)), (10, Pd.el (x132 : Int)), (11, .eq (I x132)), (18, Pd.el (x133 : Int)), (19, .eq (I x133))] [(13, 0), (21, 0)] mix c ⟨Nid c (.g 1) (gT hx131), Nld c 4 (q := x131) (atN 4), Nid c (.g 1) (gT hx132), Nld c 10 (q := x132) (atN 10), Nid c (.g 1) (gT hx133), Nld c 18 (q := x133) (atN 18), trivial⟩ fun _ _ c => ?_)
 cases h
 exact wp_ret (br (tr (Rt c () [] [])))
 refine P0 [(1, 0)] c fun _ c => I0 c h (fun h => ?_) fun h => ?_
 refine Bd h fun x134 hx134 h => Bd h fun x135 hx135 h => S0 (rZ [(4, Pd.el (x134 : Int)), (5, .eq (I x134)), (7, Pd.el (x135 : Int)), (8, .eq (I x135))] [(11, 0)] mix c ⟨Nid c (.g 1) (gT hx134), Nld c 4 (q := x134) (atN 4), Nid c (.g 1) (gT hx135), Nld c 7 (q := x135) (atN 7), trivial⟩ fun _ _ c => ?_)
 cases h
 exact wp_ret (br (tr (Rt c () [] [])))
 refine P0 [(1, 0)] c fun _ c => I0 c h (fun h => ?_) fun h => ?_
 refine Bd h fun x136 hx136 h => Bd h fun x137 hx137 h => S0 (rZ [(5, .eq (.bool x136)), (14, Pd.el (x137 : Int)), (15, .eq (I x137))] [(4, 0), (9, 0), (11, 0)] mix c ⟨Ncl c (fun hg => spec_l01In_ok (iteT (gcT hg) hx136)) trivial Tryz.call52, Nid c (.g 1) (gT hx137), Nld c 14 (q := x137) (atN 14), trivial⟩ fun _ _ c => ?_)
 cases h
 exact wp_ret (br (tr (Rt c () [] [])))
 refine K1 (bk (tn (Bd h fun x138 hx138 h => Bd h fun x139 hx139 h => S0 (rZ [(2, .eq (.bool x138)), (9, Pd.el (x139 : Int)), (10, .eq (I x139))] [(1, 0), (12, 0)] mix c ⟨Ncl c (kN (spec_l01In_ok hx138)) trivial Tryz.call52, Nid c (.g 1) (gT hx139), Nld c 9 (q := x139) (atN 9), trivial⟩ fun _ _ c => ?_))))
 cases h
 exact wp_ret (Rt c () [] [])
 replace c := c.eqs (v := .bool (p0.Op != 0)) (u := .bool false) 34 (by rw [hg7])
 refine Gs c fun _ c => ?_
 refine Gs c fun _ c => ?_
 refine Gs c fun _ c => ?_
 refine Gt c ?_
 dsimp only [List.set]
 refine Epk (b := false) (v := .bool false) c fun _ c => ?_
 refine Epk (b := false) (v := .bool false) c fun _ c => ?_
 refine E0 (I0 c h (fun h => ?_) fun h => ?_)
 refine P0 [] c fun _ c => ?_
 obtain rfl := sj h
 exact wp_ret (tr (Rt c () [] []))
 refine K0 (S0 (P0 [(1, 0)] c fun _ c => Bd h fun rl13 hit13 h => ?_))
 have hk13 := h
 refine LpR (fun s13  (_ : Unit) => ([(1, B b1 0), (3, I (len p0.Kids)), (41, L ga0 p0.Kids gc1), (42, I (len p0.Kids)), (43, I s13)], id, [])) (fun s  (_ : Unit) => ([(1, B b1 0), (3, I (len p0.Kids))], id, [])) hit13 c () (c.re [0] [0]) (fun s13 q13 _ _ _ c h hr13 => ?_) fun s13r _ _ _ hrl c => ?_
 refine P0 [] c fun _ c => S0 (I0 c h (fun h => ?_) fun h => ?_)
 refine K0 (S0 (wp_block (T0 (Bd h fun x140 hx140 h => Eem c (.f 0) hx140 fun _ u7 _ c => ?_))))
 obtain ⟨a13, c13, rfl, c⟩ := c.o_Term 1
 refine Eal [I 0, I 0, I 0, Str.val ⟨[]⟩, L none ([] : List D.Term) 0] c fun b8 _ _ c => ?_
 refine Ess 1 [I x140.Op, I x140.W, I x140.N, Str.val x140.Name, L a13 x140.Kids c13] c fun _ c => ?_
 refine E0 (T0 (Fp [(0, 1)] 1 c fun _ c => ?_))
 replace c := c.gm [BX b1 75 [I p0.Op, I p0.W, I p0.N, Str.val p0.Name, L ga0 p0.Kids gc1], BX b8 75 [I x140.Op, I x140.W, I x140.N, Str.val x140.Name, L a13 x140.Kids c13]]
 refine Bd h fun x141 hx141 h => Ca [] c (ih hx141) ⟨.f 2, trivial⟩ Tryz.call95 fun _ _ _ c => ?_
 refine Fp [] 1 c fun _ c => E0 (I0 c h (fun h => ?_) fun h => ?_)
 refine P0 [] c fun _ c => ?_
 obtain rfl := hr13 _ (Option.some.inj h).symm
 obtain rfl := Option.some.inj hk13
 exact wp_ret (br (tr (tr (br (tr (Rt c () [] []))))))
 refine K1 (bk (tn (P1 [] c fun _ c => Nx h () (c.re [0] [0]))))
 refine wp_exit (te (te (be ?_)))
 obtain rfl := hr13 _ (Option.some.inj h).symm
 exact tn ⟨_, (), rfl, c.re [0] [0]⟩
 subst hrl
 refine T0 (Elt 3 ([0, 0, 0] : List Int) c fun a14 c14 _ _ c => ?_)
 refine Fp [] 1 c fun _ c => E0 (S0 (P0 [] c fun _ c => Bd h fun rl14 hit14 h => Lp (fun s14  (_ : Unit) => ([(1, B b1 0), (3, I (len p0.Kids)), (6, L a14 ([0, 0, 0] : List Int) c14), (7, I s14.1)], fun Γ => Γ.set 1 (sl3 (L a14 ([0, 0, 0] : List Int) c14) s14.2), [])) (fun  (_ : Unit) => ([(1, B b1 0), (3, I (len p0.Kids)), (6, L a14 ([0, 0, 0] : List Int) c14)], fun Γ => Γ.set 1 (sl3 (L a14 ([0, 0, 0] : List Int) c14) rl14), [])) hit14 c () (c.re [0, 1] [0]) (fun s14 q14 _ _ _ c h hr14 => ?_) fun _ _ _ c => ?_))
 refine S0 (S0 (Ry [] mix c fun _ _ c => I0 c h (fun h => ?_) fun h => ?_))
 refine K0 (S0 (wp_block (T1 (Fp [(3, 0)] 5 c fun _ c => Bd h fun x142 hx142 h => Eef c (.f 0) hx142 fc75_1 fun _ _ _ c => ?_))))
 refine Bd h fun x143 hx143 h => Eset 1 c hx143 fun _ _ _ c => ?_
 refine E1 (bk (tn (P1 [] c fun _ c => Nx h () (c.re [0, 1] [0]))))
 refine wp_exit (te (te (be ?_)))
 obtain rfl := hr14 _ (Option.some.inj h).symm
 exact tn ⟨(), c.re [0, 1] [0]⟩
 refine S0 (wp_block (P0 [(1, 0)] c fun _ c => I0 c h (fun h => ?_) fun h => ?_))
 refine Bd h fun x144 hx144 h => S0 (rZ [(7, .eq (.bool x144))] [(4, 0), (6, 0)] mix c ⟨Ncl c (fun hg => spec_WordOk_ok (iteT (gcT hg) hx144)) trivial Tryz.call73, trivial⟩ fun _ _ c => ?_)
 cases h
 exact wp_ret (br (tr (Rt c () [] [])))
 refine P0 [(1, 0)] c fun _ c => I0 c h (fun h => ?_) fun h => ?_
 refine Bd h fun x145 hx145 h => S0 (rZ [(5, .eq (.bool x145))] [(4, 0)] mix c ⟨Ncl c (fun hg => spec_IsName_ok (iteT (gcT hg) hx145)) trivial Tryz.call116, trivial⟩ fun _ _ c => ?_)
 cases h
 exact wp_ret (br (tr (Rt c () [] [])))
 refine T0 (Fp [(1, 0)] 2 c fun _ c => Bd h fun x146 hx146 h => Ca [] c (spec_l01In_ok hx146) trivial Tryz.call52 fun _ _ _ c => ?_)
 refine Fp [] 1 c fun _ c => E0 (I0 c h (fun h => ?_) fun h => ?_)
 refine Bd h fun x147 hx147 h => S0 (rZ [(4, Pd.el (x147 : Int)), (5, .eq (I x147))] [(7, 0)] mix c ⟨Nid c (.g 1) (gT hx147), Nld c 4 (q := x147) (atN 4), trivial⟩ fun _ _ c => ?_)
 cases h
 exact wp_ret (br (tr (Rt c () [] [])))
 refine T0 (Fp [(1, 0)] 2 c fun _ c => Bd h fun x148 hx148 h => Ca [] c (spec_l01In_ok hx148) trivial Tryz.call52 fun _ _ _ c => ?_)
 refine Fp [] 1 c fun _ c => E0 (I0 c h (fun h => ?_) fun h => ?_)
 refine Bd h fun x149 hx149 h => Bd h fun x150 hx150 h => S0 (rZ [(4, Pd.el (x149 : Int)), (5, .eq (I x149)), (12, Pd.el (x150 : Int)), (13, .eq (I x150))] [(7, 0), (15, 0)] mix c ⟨Nid c (.g 1) (gT hx149), Nld c 4 (q := x149) (atN 4), Nid c (.g 1) (gT hx150), Nld c 12 (q := x150) (atN 12), trivial⟩ fun _ _ c => ?_)
 cases h
 exact wp_ret (br (tr (Rt c () [] [])))
 refine T0 (Fp [(1, 0)] 2 c fun _ c => ?_)
 replace c := c.gm [BX b1 75 [I p0.Op, I p0.W, I p0.N, Str.val p0.Name, L ga0 p0.Kids gc1], sl3 (L a14 ([0, 0, 0] : List Int) c14) rl14]
 refine Bd h fun x151 hx151 h => Ca [] c (spec_l01In_ok hx151) trivial Tryz.call52 fun _ _ _ c => ?_
 refine Fp [] 1 c fun _ c => E0 (I0 c h (fun h => ?_) fun h => ?_)
 refine Bd h fun x152 hx152 h => Bd h fun x153 hx153 h => S0 (rZ [(4, Pd.el (x152 : Int)), (5, .eq (I x152)), (7, Pd.el (x153 : Int)), (8, .eq (I x153))] [(13, 0)] mix c ⟨Nid c (.g 1) (gT hx152), Nld c 4 (q := x152) (atN 4), Nid c (.g 1) (gT hx153), Nld c 7 (q := x153) (atN 7), trivial⟩ fun _ _ c => ?_)
 cases h
 exact wp_ret (br (tr (Rt c () [] [])))
 refine P0 [(1, 0)] c fun _ c => I0 c h (fun h => ?_) fun h => ?_
 refine Bd h fun x154 hx154 h => Bd h fun x155 hx155 h => Bd h fun x156 hx156 h => S0 (rZ [(4, Pd.el (x154 : Int)), (5, .eq (I x154)), (10, Pd.el (x155 : Int)), (11, .eq (I x155)), (18, Pd.el (x156 : Int)), (19, .eq (I x156))] [(13, 0), (21, 0)] mix c ⟨Nid c (.g 1) (gT hx154), Nld c 4 (q := x154) (atN 4), Nid c (.g 1) (gT hx155), Nld c 10 (q := x155) (atN 10), Nid c (.g 1) (gT hx156), Nld c 18 (q := x156) (atN 18), trivial⟩ fun _ _ c => ?_)
 cases h
 exact wp_ret (br (tr (Rt c () [] [])))
 refine P0 [(1, 0)] c fun _ c => I0 c h (fun h => ?_) fun h => ?_
 refine Bd h fun x157 hx157 h => Bd h fun x158 hx158 h => S0 (rZ [(4, Pd.el (x157 : Int)), (5, .eq (I x157)), (7, Pd.el (x158 : Int)), (8, .eq (I x158))] [(11, 0)] mix c ⟨Nid c (.g 1) (gT hx157), Nld c 4 (q := x157) (atN 4), Nid c (.g 1) (gT hx158), Nld c 7 (q := x158) (atN 7), trivial⟩ fun _ _ c => ?_)
 cases h
 exact wp_ret (br (tr (Rt c () [] [])))
 refine P0 [(1, 0)] c fun _ c => I0 c h (fun h => ?_) fun h => ?_
 refine Bd h fun x159 hx159 h => Bd h fun x160 hx160 h => S0 (rZ [(5, .eq (.bool x159)), (14, Pd.el (x160 : Int)), (15, .eq (I x160))] [(4, 0), (9, 0), (11, 0)] mix c ⟨Ncl c (fun hg => spec_l01In_ok (iteT (gcT hg) hx159)) trivial Tryz.call52, Nid c (.g 1) (gT hx160), Nld c 14 (q := x160) (atN 14), trivial⟩ fun _ _ c => ?_)
 cases h
 exact wp_ret (br (tr (Rt c () [] [])))
 refine K1 (bk (tn (Bd h fun x161 hx161 h => Bd h fun x162 hx162 h => S0 (rZ [(2, .eq (.bool x161)), (9, Pd.el (x162 : Int)), (10, .eq (I x162))] [(1, 0), (12, 0)] mix c ⟨Ncl c (kN (spec_l01In_ok hx161)) trivial Tryz.call52, Nid c (.g 1) (gT hx162), Nld c 9 (q := x162) (atN 9), trivial⟩ fun _ _ c => ?_))))
 cases h
 exact wp_ret (Rt c () [] [])
 replace c := c.eqs (v := .bool (p0.N != 0)) (u := .bool false) 29 (by rw [hg6])
 refine Gs c fun _ c => ?_
 refine Gs c fun _ c => ?_
 refine Gs c fun _ c => ?_
 refine Gt c ?_
 dsimp only [List.set]
 refine Epk (b := false) (v := .bool false) c fun _ c => ?_
 refine Gt c ?_
 dsimp only [List.set]
 refine Fp [] 1 c fun _ c => Gs c fun _ c => ?_
 refine Gs c fun _ c => ?_
 refine Gs c fun _ c => ?_
 refine Gt c ?_
 dsimp only [List.set]
 refine Epk (b := false) (v := .bool false) c fun _ c => ?_
 refine Epk (b := false) (v := .bool false) c fun _ c => ?_
 refine E0 (I0 c h (fun h => ?_) fun h => ?_)
 refine P0 [] c fun _ c => ?_
 obtain rfl := sj h
 exact wp_ret (tr (Rt c () [] []))
 refine K0 (S0 (P0 [(1, 0)] c fun _ c => Bd h fun rl15 hit15 h => ?_))
 have hk15 := h
 refine LpR (fun s15  (_ : Unit) => ([(1, B b1 0), (3, I (len p0.Kids)), (41, L ga0 p0.Kids gc1), (42, I (len p0.Kids)), (43, I s15)], id, [])) (fun s  (_ : Unit) => ([(1, B b1 0), (3, I (len p0.Kids))], id, [])) hit15 c () (c.re [0] [0]) (fun s15 q15 _ _ _ c h hr15 => ?_) fun s15r _ _ _ hrl c => ?_
 refine P0 [] c fun _ c => S0 (I0 c h (fun h => ?_) fun h => ?_)
 refine K0 (S0 (wp_block (T0 (Bd h fun x163 hx163 h => Eem c (.f 0) hx163 fun _ u8 _ c => ?_))))
 obtain ⟨a15, c15, rfl, c⟩ := c.o_Term 1
 refine Eal [I 0, I 0, I 0, Str.val ⟨[]⟩, L none ([] : List D.Term) 0] c fun b9 _ _ c => ?_
 refine Ess 1 [I x163.Op, I x163.W, I x163.N, Str.val x163.Name, L a15 x163.Kids c15] c fun _ c => ?_
 refine E0 (T0 (Fp [(0, 1)] 1 c fun _ c => ?_))
 replace c := c.gm [BX b1 75 [I p0.Op, I p0.W, I p0.N, Str.val p0.Name, L ga0 p0.Kids gc1], BX b9 75 [I x163.Op, I x163.W, I x163.N, Str.val x163.Name, L a15 x163.Kids c15]]
 refine Bd h fun x164 hx164 h => Ca [] c (ih hx164) ⟨.f 2, trivial⟩ Tryz.call95 fun _ _ _ c => ?_
 refine Fp [] 1 c fun _ c => E0 (I0 c h (fun h => ?_) fun h => ?_)
 refine P0 [] c fun _ c => ?_
 obtain rfl := hr15 _ (Option.some.inj h).symm
 obtain rfl := Option.some.inj hk15
 exact wp_ret (br (tr (tr (br (tr (Rt c () [] []))))))
 refine K1 (bk (tn (P1 [] c fun _ c => Nx h () (c.re [0] [0]))))
 refine wp_exit (te (te (be ?_)))
 obtain rfl := hr15 _ (Option.some.inj h).symm
 exact tn ⟨_, (), rfl, c.re [0] [0]⟩
 subst hrl
 refine T0 (Elt 3 ([0, 0, 0] : List Int) c fun a16 c16 _ _ c => ?_)
 refine Fp [] 1 c fun _ c => E0 (S0 (P0 [] c fun _ c => Bd h fun rl16 hit16 h => Lp (fun s16  (_ : Unit) => ([(1, B b1 0), (3, I (len p0.Kids)), (6, L a16 ([0, 0, 0] : List Int) c16), (7, I s16.1)], fun Γ => Γ.set 1 (sl3 (L a16 ([0, 0, 0] : List Int) c16) s16.2), [])) (fun  (_ : Unit) => ([(1, B b1 0), (3, I (len p0.Kids)), (6, L a16 ([0, 0, 0] : List Int) c16)], fun Γ => Γ.set 1 (sl3 (L a16 ([0, 0, 0] : List Int) c16) rl16), [])) hit16 c () (c.re [0, 1] [0]) (fun s16 q16 _ _ _ c h hr16 => ?_) fun _ _ _ c => ?_))
 refine S0 (S0 (Ry [] mix c fun _ _ c => I0 c h (fun h => ?_) fun h => ?_))
 refine K0 (S0 (wp_block (T1 (Fp [(3, 0)] 5 c fun _ c => Bd h fun x165 hx165 h => Eef c (.f 0) hx165 fc75_1 fun _ _ _ c => ?_))))
 refine Bd h fun x166 hx166 h => Eset 1 c hx166 fun _ _ _ c => ?_
 refine E1 (bk (tn (P1 [] c fun _ c => Nx h () (c.re [0, 1] [0]))))
 refine wp_exit (te (te (be ?_)))
 obtain rfl := hr16 _ (Option.some.inj h).symm
 exact tn ⟨(), c.re [0, 1] [0]⟩
 refine S0 (wp_block (P0 [(1, 0)] c fun _ c => I0 c h (fun h => ?_) fun h => ?_))
 refine Bd h fun x167 hx167 h => S0 (rZ [(7, .eq (.bool x167))] [(4, 0), (6, 0)] mix c ⟨Ncl c (fun hg => spec_WordOk_ok (iteT (gcT hg) hx167)) trivial Tryz.call73, trivial⟩ fun _ _ c => ?_)
 cases h
 exact wp_ret (br (tr (Rt c () [] [])))
 refine P0 [(1, 0)] c fun _ c => I0 c h (fun h => ?_) fun h => ?_
 refine Bd h fun x168 hx168 h => S0 (rZ [(5, .eq (.bool x168))] [(4, 0)] mix c ⟨Ncl c (fun hg => spec_IsName_ok (iteT (gcT hg) hx168)) trivial Tryz.call116, trivial⟩ fun _ _ c => ?_)
 cases h
 exact wp_ret (br (tr (Rt c () [] [])))
 refine T0 (Fp [(1, 0)] 2 c fun _ c => Bd h fun x169 hx169 h => Ca [] c (spec_l01In_ok hx169) trivial Tryz.call52 fun _ _ _ c => ?_)
 refine Fp [] 1 c fun _ c => E0 (I0 c h (fun h => ?_) fun h => ?_)
 refine Bd h fun x170 hx170 h => S0 (rZ [(4, Pd.el (x170 : Int)), (5, .eq (I x170))] [(7, 0)] mix c ⟨Nid c (.g 1) (gT hx170), Nld c 4 (q := x170) (atN 4), trivial⟩ fun _ _ c => ?_)
 cases h
 exact wp_ret (br (tr (Rt c () [] [])))
 refine T0 (Fp [(1, 0)] 2 c fun _ c => Bd h fun x171 hx171 h => Ca [] c (spec_l01In_ok hx171) trivial Tryz.call52 fun _ _ _ c => ?_)
 refine Fp [] 1 c fun _ c => E0 (I0 c h (fun h => ?_) fun h => ?_)
 refine Bd h fun x172 hx172 h => Bd h fun x173 hx173 h => S0 (rZ [(4, Pd.el (x172 : Int)), (5, .eq (I x172)), (12, Pd.el (x173 : Int)), (13, .eq (I x173))] [(7, 0), (15, 0)] mix c ⟨Nid c (.g 1) (gT hx172), Nld c 4 (q := x172) (atN 4), Nid c (.g 1) (gT hx173), Nld c 12 (q := x173) (atN 12), trivial⟩ fun _ _ c => ?_)
 cases h
 exact wp_ret (br (tr (Rt c () [] [])))
 refine T0 (Fp [(1, 0)] 2 c fun _ c => ?_)
 replace c := c.gm [BX b1 75 [I p0.Op, I p0.W, I p0.N, Str.val p0.Name, L ga0 p0.Kids gc1], sl3 (L a16 ([0, 0, 0] : List Int) c16) rl16]
 refine Bd h fun x174 hx174 h => Ca [] c (spec_l01In_ok hx174) trivial Tryz.call52 fun _ _ _ c => ?_
 refine Fp [] 1 c fun _ c => E0 (I0 c h (fun h => ?_) fun h => ?_)
 refine Bd h fun x175 hx175 h => Bd h fun x176 hx176 h => S0 (rZ [(4, Pd.el (x175 : Int)), (5, .eq (I x175)), (7, Pd.el (x176 : Int)), (8, .eq (I x176))] [(13, 0)] mix c ⟨Nid c (.g 1) (gT hx175), Nld c 4 (q := x175) (atN 4), Nid c (.g 1) (gT hx176), Nld c 7 (q := x176) (atN 7), trivial⟩ fun _ _ c => ?_)
 cases h
 exact wp_ret (br (tr (Rt c () [] [])))
 refine P0 [(1, 0)] c fun _ c => I0 c h (fun h => ?_) fun h => ?_
 refine Bd h fun x177 hx177 h => Bd h fun x178 hx178 h => Bd h fun x179 hx179 h => S0 (rZ [(4, Pd.el (x177 : Int)), (5, .eq (I x177)), (10, Pd.el (x178 : Int)), (11, .eq (I x178)), (18, Pd.el (x179 : Int)), (19, .eq (I x179))] [(13, 0), (21, 0)] mix c ⟨Nid c (.g 1) (gT hx177), Nld c 4 (q := x177) (atN 4), Nid c (.g 1) (gT hx178), Nld c 10 (q := x178) (atN 10), Nid c (.g 1) (gT hx179), Nld c 18 (q := x179) (atN 18), trivial⟩ fun _ _ c => ?_)
 cases h
 exact wp_ret (br (tr (Rt c () [] [])))
 refine P0 [(1, 0)] c fun _ c => I0 c h (fun h => ?_) fun h => ?_
 refine Bd h fun x180 hx180 h => Bd h fun x181 hx181 h => S0 (rZ [(4, Pd.el (x180 : Int)), (5, .eq (I x180)), (7, Pd.el (x181 : Int)), (8, .eq (I x181))] [(11, 0)] mix c ⟨Nid c (.g 1) (gT hx180), Nld c 4 (q := x180) (atN 4), Nid c (.g 1) (gT hx181), Nld c 7 (q := x181) (atN 7), trivial⟩ fun _ _ c => ?_)
 cases h
 exact wp_ret (br (tr (Rt c () [] [])))
 refine P0 [(1, 0)] c fun _ c => I0 c h (fun h => ?_) fun h => ?_
 refine Bd h fun x182 hx182 h => Bd h fun x183 hx183 h => S0 (rZ [(5, .eq (.bool x182)), (14, Pd.el (x183 : Int)), (15, .eq (I x183))] [(4, 0), (9, 0), (11, 0)] mix c ⟨Ncl c (fun hg => spec_l01In_ok (iteT (gcT hg) hx182)) trivial Tryz.call52, Nid c (.g 1) (gT hx183), Nld c 14 (q := x183) (atN 14), trivial⟩ fun _ _ c => ?_)
 cases h
 exact wp_ret (br (tr (Rt c () [] [])))
 refine K1 (bk (tn (Bd h fun x184 hx184 h => Bd h fun x185 hx185 h => S0 (rZ [(2, .eq (.bool x184)), (9, Pd.el (x185 : Int)), (10, .eq (I x185))] [(1, 0), (12, 0)] mix c ⟨Ncl c (kN (spec_l01In_ok hx184)) trivial Tryz.call52, Nid c (.g 1) (gT hx185), Nld c 9 (q := x185) (atN 9), trivial⟩ fun _ _ c => ?_))))
 cases h
 exact wp_ret (Rt c () [] [])

theorem spec_l02Vars_ok {n : Nat} : ∀ {p0 : D.Term} {p1 : List D.Value} {ga0 : Option Addr} {gc1 : Nat} {ga2 : Option Addr} {gc3 : Nat} {r : (List D.Value) × Bool} (h : spec_l02Vars n p0 p1 = some r), Con Tryz.prog 96 [.agg #[I p0.Op, I p0.W, I p0.N, Str.val p0.Name, L ga0 p0.Kids gc1], L ga2 p1 gc3] [] [RO (L ga0 p0.Kids gc1) p0.Kids, RO (L ga2 p1 gc3) p1] fun (i : Option Addr × Nat) => ([L i.1 r.1 i.2, .bool r.2], [], [RO (L i.1 r.1 i.2) r.1]) := by
 induction n with
 | zero => intro p0 p1 ga0 gc1 ga2 gc3 r h; simp [spec_l02Vars] at h
 | succ n ih =>
 intro p0 p1 ga0 gc1 ga2 gc3 r h
 rw [spec_l02Vars] at h
 refine En Tryz.func96 rfl Tryz.ntmps96 fun _ fr w c => ?_
 refine T0 (Ebx [I p0.Op, I p0.W, I p0.N, Str.val p0.Name, L ga0 p0.Kids gc1] c fun b1 _ _ c => ?_)
 refine Fp [] 2 c fun _ c => E0 (S0 (P0 [(1, 0)] c fun _ c => I0 c h (fun h => ?_) fun h => ?_))
 refine P0 [] c fun _ c => Bd h fun rl1 hit1 h => S0 (Lp (fun s1  (_ : Unit) => ([(1, L ga2 p1 gc3), (2, B b1 0), (6, I s1)], id, [])) (fun  (_ : Unit) => ([(1, L ga2 p1 gc3), (2, B b1 0), (6, I rl1)], id, [])) hit1 c () (c.re [0] [0, 1]) (fun s1 q1 _ _ _ c h hr1 => ?_) fun _ _ _ c => ?_)
 refine S0 (Bd h fun x1 hx1 h => S0 (rZ [(7, Pd.el (x1 : D.Value)), (8, Pd.fl (Str.val x1.Name)), (9, .eq (Str.val x1.Name))] [(11, 0)] mix c ⟨Nid c (.f 1) (gT hx1), Nfa c 7 (atN 7) fc89_0, Nlf c 8 (atN 8), trivial⟩ fun _ _ c => I0 c h (fun h => ?_) fun h => ?_))
 refine K0 (wp_block (Tq (P1 [] c fun _ c => bk (tn (Nx h () (c.re [0] [0, 1]))))))
 refine wp_exit (te (te (be ?_)))
 obtain rfl := hr1 _ (Option.some.inj h).symm
 exact tn ⟨(), c.re [0] [0, 1]⟩
 refine S0 (Bd h fun x2 hx2 h => S0 (rZ [(7, Pd.el (x2 : D.Value)), (8, Pd.fl (Str.val x2.Name)), (9, .eq (Str.val x2.Name))] [(11, 0)] mix c ⟨Nid c (.f 1) (gT hx2), Nfa c 7 (atN 7) fc89_0, Nlf c 8 (atN 8), trivial⟩ fun _ _ c => I0 c h (fun h => ?_) fun h => ?_))
 refine Bd h fun x3 hx3 h => S0 (rZ [(3, Pd.el (x3 : D.Value)), (4, Pd.fl (I x3.W)), (5, .eq (I x3.W))] [(7, 0)] mix c ⟨Nid c (.f 1) (kN hx3), Nfa c 3 (atN 3) fc89_1, Nlf c 4 (atN 4), trivial⟩ fun _ _ c => ?_)
 cases h
 exact wp_ret (tr (tr (Rg c (ga2, gc3) [] [1] (.tmp (.tmp .nil)))))
 refine K0 (T0 (Elt 89 ([] : List D.Value) c fun a1 c1 _ _ c => ?_))
 refine Fp [] 2 c fun _ c => Bd h fun x4 hx4 h => Esl 89 c (.f 1) hx4 fun u1 _ c => ?_
 obtain ⟨a2, c2, rfl⟩ := c.sl 2
 refine Bd h fun x5 hx5 h => Eap 1 c (.f 2) hx5 fun a3 c3 _ _ c => ?_
 refine Fp [] 1 c fun _ c => E0 (T0 (Fp [(2, 0), (4, 0)] 6 c fun _ c => Elt 89 ([(D.Value.mk p0.Name p0.W 0)] : List D.Value) c fun a4 c4 _ _ c => ?_))
 refine Bd h fun x6 hx6 h => Eap 1 c (.g 2) hx6 fun a5 c5 _ _ c => ?_
 refine Fp [] 1 c fun _ c => E0 (T0 (Fp [] 3 c fun _ c => ?_))
 replace c := c.gm [BX b1 75 [I p0.Op, I p0.W, I p0.N, Str.val p0.Name, L ga0 p0.Kids gc1], sl89 (L a5 x6 c5) x6, sl89 (L a4 ([(D.Value.mk p0.Name p0.W 0)] : List D.Value) c4) ([(D.Value.mk p0.Name p0.W 0)] : List D.Value)]
 refine Bd h fun x7 hx7 h => Esl 89 c (.f 1) hx7 fun u2 _ c => ?_
 obtain ⟨a6, c6, rfl⟩ := c.sl 3
 refine Bd h fun x8 hx8 h => Eap 1 c (.f 3) hx8 fun a7 c7 _ _ c => ?_
 refine Fp [] 2 c fun _ c => E0 ?_
 replace c := c.fz 1
 cases h
 exact wp_ret (tr (Rg c (a7, c7) [] [4] (.tmp (.tmp .nil))))
 refine K0 (S0 (P0 [(1, 0)] c fun _ c => Bd h fun rl2 hit2 h => ?_))
 have hk2 := h
 refine LpR (fun s2  (i : Option Addr × Nat) => ([(1, L i.1 s2.1 i.2), (73, L ga0 p0.Kids gc1), (74, I (len p0.Kids)), (75, I s2.2)], id, [RO (L i.1 s2.1 i.2) s2.1])) (fun s  (i : Option Addr × Nat) => ([(1, L i.1 s i.2)], id, [RO (L i.1 s i.2) s])) hit2 c (ga2, gc3) (c.re [0] [0, 1, 1]) (fun s2 q2 i1 _ _ c h hr2 => ?_) fun s2r k1 _ _ hrl c => ?_
 refine P0 [] c fun _ c => S0 (I0 c h (fun h => ?_) fun h => ?_)
 refine K0 (S0 (wp_block (T0 (Bd h fun x9 hx9 h => Eem c (.f 0) hx9 fun _ u3 _ c => ?_))))
 obtain ⟨a8, c8, rfl, c⟩ := c.o_Term 3
 refine Eal [I 0, I 0, I 0, Str.val ⟨[]⟩, L none ([] : List D.Term) 0] c fun b2 _ _ c => ?_
 refine Ess 1 [I x9.Op, I x9.W, I x9.N, Str.val x9.Name, L a8 x9.Kids c8] c fun _ c => ?_
 refine E0 (T0 (Fp [(0, 1)] 2 c fun _ c => Bd h fun x10 hx10 h => Cf [] c (ih hx10) ⟨.f 4, .f 2, trivial⟩ Tryz.call96 fun i2 _ _ c => ?_))
 refine Fp [] 5 c fun _ c => E0 (S0 (P0 [] c fun _ c => I0 c h (fun h => ?_) fun h => ?_))
 refine P0 [] c fun _ c => ?_
 obtain rfl := hr2 _ (Option.some.inj h).symm
 obtain rfl := Option.some.inj hk2
 replace c := c.nilf (α := D.Value)
 exact wp_ret (tr (br (tr (tr (br (tr (Rg c (none, 0) [] [6] (.tmp (.tmp .nil)))))))))
 refine K0 (Tq (P1 [] c fun _ c => bk (tn (P1 [] c fun _ c => Nx h (i2.1, i2.2) (c.re [0] [0, 1, 5])))))
 refine wp_exit (te (te (be ?_)))
 obtain rfl := hr2 _ (Option.some.inj h).symm
 exact tn ⟨_, (i1.1, i1.2), rfl, c.re [0] [0, 1, 2]⟩
 subst hrl
 refine P0 [] c fun _ c => ?_
 cases h
 exact wp_ret (Rg c (k1.1, k1.2) [] [2] (.tmp (.tmp .nil)))

theorem spec_TermOk_ok {n : Nat} {p0 : D.Term} {ga0 : Option Addr} {gc1 : Nat} {r : Bool} (h : spec_TermOk n p0 = some r) : Con Tryz.prog 75 [.agg #[I p0.Op, I p0.W, I p0.N, Str.val p0.Name, L ga0 p0.Kids gc1]] [] [RO (L ga0 p0.Kids gc1) p0.Kids] fun (_ : Unit) => ([.bool r], [], []) := by
 unfold spec_TermOk at h
 refine En Tryz.func75 rfl Tryz.ntmps75 fun _ fr w c => ?_
 refine T0 (Ebx [I p0.Op, I p0.W, I p0.N, Str.val p0.Name, L ga0 p0.Kids gc1] c fun b1 _ _ c => ?_)
 refine Fp [] 1 c fun _ c => E0 (T0 (Eal [I 0] c fun b2 _ _ c => ?_))
 refine Esb 1 0 (I 240) c fun _ c => ?_
 refine E0 (S0 (T0 (Fp [(0, 0)] 1 c fun _ c => Bd h fun x1 hx1 h => Ca [1] c (spec_l02Few_ok hx1) ⟨.f 0, trivial⟩ Tryz.call94 fun _ _ _ c => ?_)))
 refine Fp [] 1 c fun _ c => Fp [] 1 c fun _ c => ?_
 rcases ite_split (b := (!x1.1)) h with ⟨hg1, h⟩ | ⟨hg1, h⟩
 replace c := c.eqs (v := .bool (!x1.1)) (u := .bool true) 9 (by rw [hg1])
 refine Gs c fun _ c => ?_
 refine Gs c fun _ c => ?_
 refine Gs c fun _ c => ?_
 refine Epk (b := true) (v := .bool true) c fun _ c => ?_
 refine E0 (I0 c h (fun h => ?_) fun h => ?_)
 refine P0 [] c fun _ c => ?_
 obtain rfl := sj h
 exact wp_ret (tr (Rt c () [] []))
 refine K0 (T0 (Fp [(0, 0)] 1 c fun _ c => Bd h fun x2 hx2 h => Cf [] c (spec_l02Vars_ok hx2) ⟨.f 0, .nil, trivial⟩ Tryz.call96 fun i1 _ _ c => ?_))
 refine Fp [] 5 c fun _ c => E0 (P0 [] c fun _ c => ?_)
 cases h
 exact wp_ret (Rt c () [] [])
 replace c := c.eqs (v := .bool (!x1.1)) (u := .bool false) 9 (by rw [hg1])
 refine Gt c ?_
 dsimp only [List.set]
 refine Fp [(4, 0)] 1 c fun _ c => Gt c ?_
 dsimp only [List.set]
 refine Bd h fun x3 hx3 h => Ca [] c (spec_l02Node_ok hx3) ⟨.f 0, trivial⟩ Tryz.call95 fun _ _ _ c => ?_
 refine Gt c ?_
 dsimp only [List.set]
 refine Fp [] 1 c fun _ c => Epk (b := false) (v := .bool (!x3)) c fun _ c => ?_
 refine E0 (I0 c h (fun h => ?_) fun h => ?_)
 refine P0 [] c fun _ c => ?_
 obtain rfl := sj h
 exact wp_ret (tr (Rt c () [] []))
 refine K0 (T0 (Fp [(0, 0)] 1 c fun _ c => ?_))
 replace c := c.gm [BX b1 75 [I p0.Op, I p0.W, I p0.N, Str.val p0.Name, L ga0 p0.Kids gc1], BX b2 3 [I x1.2]]
 refine Bd h fun x4 hx4 h => Cf [] c (spec_l02Vars_ok hx4) ⟨.f 0, .nil, trivial⟩ Tryz.call96 fun i2 _ _ c => ?_
 refine Fp [] 5 c fun _ c => E0 (P0 [] c fun _ c => ?_)
 cases h
 exact wp_ret (Rt c () [] [])

theorem spec_l06Terms_ok {n : Nat} {p0 : List D.Term} {p1 : Int} {ga0 : Option Addr} {gc1 : Nat} {r : Bool} (h : spec_l06Terms n p0 p1 = some r) : Con Tryz.prog 53 [L ga0 p0 gc1, I p1] [] [RO (L ga0 p0 gc1) p0] fun (_ : Unit) => ([.bool r], [], []) := by
 unfold spec_l06Terms at h
 refine En Tryz.func53 rfl Tryz.ntmps53 fun _ fr w c => ?_
 refine P0 [] c fun _ c => S0 (P0 [] c fun _ c => Bd h fun rl1 hit1 h => ?_)
 have hk1 := h
 refine LpR (fun s1  (_ : Unit) => ([(1, I p1), (7, L ga0 p0 gc1), (8, I (len p0)), (9, I s1)], id, [])) (fun s  (_ : Unit) => ([], id, [])) hit1 c () (c.re [] [0]) (fun s1 q1 _ _ _ c h hr1 => ?_) fun s1r _ _ _ hrl c => ?_
 refine P0 [] c fun _ c => S0 (I0 c h (fun h => ?_) fun h => ?_)
 refine K0 (S0 (wp_block (T0 (Bd h fun x1 hx1 h => Eem c (.f 0) hx1 fun _ u1 _ c => ?_))))
 obtain ⟨a1, c1, rfl, c⟩ := c.o_Term 1
 refine Eal [I 0, I 0, I 0, Str.val ⟨[]⟩, L none ([] : List D.Term) 0] c fun b1 _ _ c => ?_
 refine Ess 0 [I x1.Op, I x1.W, I x1.N, Str.val x1.Name, L a1 x1.Kids c1] c fun _ c => ?_
 refine E0 (Bd h fun x2 hx2 h => S0 (rZ [(1, .eq (.bool x2))] [(0, 0), (5, 0)] mix c ⟨Ncl c (kN (spec_TermOk_ok hx2)) ⟨.f 2, trivial⟩ Tryz.call75, trivial⟩ fun _ _ c => I0 c h (fun h => ?_) fun h => ?_))
 refine P0 [] c fun _ c => ?_
 obtain rfl := hr1 _ (Option.some.inj h).symm
 obtain rfl := Option.some.inj hk1
 exact wp_ret (br (tr (tr (br (tr (Rt c () [] []))))))
 refine K1 (bk (tn (P1 [] c fun _ c => Nx h () (c.re [] [0]))))
 refine wp_exit (te (te (be ?_)))
 obtain rfl := hr1 _ (Option.some.inj h).symm
 exact tn ⟨_, (), rfl, c.re [] [0]⟩
 subst hrl
 refine P0 [] c fun _ c => ?_
 obtain rfl := sj h
 exact wp_ret (Rt c () [] [])

theorem spec_PathOk_ok {n : Nat} {p0 : D.Program} {p1 : D.Path} {ga0 : Option Addr} {gc1 : Nat} {ga2 : Option Addr} {gc3 : Nat} {ga4 : Option Addr} {gc5 : Nat} {ga6 : Option Addr} {gc7 : Nat} {ga8 : Option Addr} {gc9 : Nat} {ga10 : Option Addr} {gc11 : Nat} {ga12 : Option Addr} {gc13 : Nat} {r : Bool} (h : spec_PathOk n p0 p1 = some r) : Con Tryz.prog 34 [.agg #[I p0.W, I p0.Mem, I p0.In, L ga0 p0.Code gc1], .agg #[I p1.Pc, L ga2 p1.Regs gc3, L ga4 p1.Mem gc5, L ga6 p1.Stack gc7, I p1.In, L ga8 p1.Out gc9, I p1.Code, I p1.Steps, L ga10 p1.Cond gc11, L ga12 p1.Turns gc13]] [] [RO (L ga0 p0.Code gc1) p0.Code, RO (L ga2 p1.Regs gc3) p1.Regs, RO (L ga4 p1.Mem gc5) p1.Mem, RO (L ga6 p1.Stack gc7) p1.Stack, RO (L ga8 p1.Out gc9) p1.Out, RO (L ga10 p1.Cond gc11) p1.Cond, RO (L ga12 p1.Turns gc13) p1.Turns] fun (_ : Unit) => ([.bool r], [], []) := by
 unfold spec_PathOk at h
 refine En Tryz.func34 rfl Tryz.ntmps34 fun _ fr w c => ?_
 refine T0 (Ebx [I p0.W, I p0.Mem, I p0.In, L ga0 p0.Code gc1] c fun b1 _ _ c => ?_)
 refine Ebx [I p1.Pc, L ga2 p1.Regs gc3, L ga4 p1.Mem gc5, L ga6 p1.Stack gc7, I p1.In, L ga8 p1.Out gc9, I p1.Code, I p1.Steps, L ga10 p1.Cond gc11, L ga12 p1.Turns gc13] c fun b2 _ _ c => ?_
 refine Fp [] 1 c fun _ c => E0 (S0 (Bd h fun x1 hx1 h => Bd h fun x2 hx2 h => Bd h fun x3 hx3 h => Bd h fun x4 hx4 h => Bd h fun x5 hx5 h => S0 (rZ [(1, .eq (.bool x1)), (9, .eq (.bool x2)), (37, .eq (.bool x3)), (49, .eq (.bool x4)), (55, .eq (.bool x5))] [(0, 0), (5, 1), (7, 0), (14, 1), (20, 1), (23, 0), (28, 1), (34, 1), (36, 0), (42, 1), (48, 1), (54, 1), (60, 1), (66, 1)] mix c ⟨Ncl c (kN (spec_ProgramOk_ok hx1)) ⟨.f 0, trivial⟩ Tryz.call51, Ncl c (fun hg => spec_l01In_ok (iteF (gcF hg) hx2)) trivial Tryz.call52, Ncl c (fun hg => spec_l01In_ok (iteF (gcF hg) hx3)) trivial Tryz.call52, Ncl c (fun hg => spec_l01In_ok (iteF (gcF hg) hx4)) trivial Tryz.call52, Ncl c (fun hg => spec_l01In_ok (iteF (gcF hg) hx5)) trivial Tryz.call52, trivial⟩ fun _ _ c => I0 c h (fun h => ?_) fun h => ?_)))
 refine P0 [] c fun _ c => ?_
 obtain rfl := sj h
 exact wp_ret (tr (Rt c () [] []))
 refine K0 (S0 (P0 [(1, 1)] c fun _ c => Bd h fun rl1 hit1 h => ?_))
 have hk1 := h
 refine LpR (fun s1  (_ : Unit) => ([(2, B b1 0), (3, B b2 0), (80, L ga6 p1.Stack gc7), (81, I (len p1.Stack)), (82, I s1)], id, [])) (fun s  (_ : Unit) => ([(2, B b1 0), (3, B b2 0)], id, [])) hit1 c () (c.re [0, 1] (rg 7)) (fun s1 q1 _ _ _ c h hr1 => ?_) fun s1r _ _ _ hrl c => ?_
 refine P0 [] c fun _ c => S0 (I0 c h (fun h => ?_) fun h => ?_)
 refine K0 (S0 (wp_block (T0 (Bd h fun x6 hx6 h => Eel c (.f 3) hx6 fun _ _ c => ?_))))
 refine Fp [] 1 c fun _ c => E0 (T0 (Fp [(2, 0)] 4 c fun _ c => Bd h fun x7 hx7 h => Ca [] c (spec_l01In_ok hx7) trivial Tryz.call52 fun _ _ _ c => ?_))
 refine Fp [] 1 c fun _ c => E0 (I0 c h (fun h => ?_) fun h => ?_)
 refine P0 [] c fun _ c => ?_
 obtain rfl := hr1 _ (Option.some.inj h).symm
 obtain rfl := Option.some.inj hk1
 exact wp_ret (br (tr (tr (br (tr (Rt c () [] []))))))
 refine K1 (bk (tn (P1 [] c fun _ c => Nx h () (c.re [0, 1] (rg 7)))))
 refine wp_exit (te (te (be ?_)))
 obtain rfl := hr1 _ (Option.some.inj h).symm
 exact tn ⟨_, (), rfl, c.re [0, 1] (rg 7)⟩
 subst hrl
 refine S0 (P0 [(1, 1)] c fun _ c => Bd h fun rl2 hit2 h => ?_)
 have hk2 := h
 refine LpR (fun s2  (_ : Unit) => ([(2, B b1 0), (3, B b2 0), (94, L ga12 p1.Turns gc13), (95, I (len p1.Turns)), (96, I s2)], id, [])) (fun s  (_ : Unit) => ([(2, B b1 0), (3, B b2 0)], id, [])) hit2 c () (c.re [0, 1] (rg 7)) (fun s2 q2 _ _ _ c h hr2 => ?_) fun s2r _ _ _ hrl c => ?_
 refine P0 [] c fun _ c => S0 (I0 c h (fun h => ?_) fun h => ?_)
 refine K0 (S0 (wp_block (T0 (Bd h fun x8 hx8 h => Eel c (.f 6) hx8 fun _ _ c => ?_))))
 refine Fp [] 1 c fun _ c => E0 (T0 (Fp [] 1 c fun _ c => Bd h fun x9 hx9 h => Ca [] c (spec_l01In_ok hx9) trivial Tryz.call52 fun _ _ _ c => ?_))
 refine Fp [] 1 c fun _ c => E0 (I0 c h (fun h => ?_) fun h => ?_)
 refine P0 [] c fun _ c => ?_
 obtain rfl := hr2 _ (Option.some.inj h).symm
 obtain rfl := Option.some.inj hk2
 exact wp_ret (br (tr (tr (br (tr (Rt c () [] []))))))
 refine K1 (bk (tn (P1 [] c fun _ c => Nx h () (c.re [0, 1] (rg 7)))))
 refine wp_exit (te (te (be ?_)))
 obtain rfl := hr2 _ (Option.some.inj h).symm
 exact tn ⟨_, (), rfl, c.re [0, 1] (rg 7)⟩
 subst hrl
 refine Bd h fun x10 hx10 h => Bd h fun x11 hx11 h => Bd h fun x12 hx12 h => Bd h fun x13 hx13 h => S0 (rZ [(4, .eq (.bool x10)), (10, .eq (.bool x11)), (17, .eq (.bool x12)), (22, .eq (.bool x13))] [(1, 1), (3, 0), (7, 1), (9, 0), (14, 1), (16, 0), (21, 1)] mix c ⟨Ncl c (kN (spec_l06Terms_ok hx10)) ⟨.f 1, trivial⟩ Tryz.call53, Ncl c (fun hg => spec_l06Terms_ok (iteT (gcT hg) hx11)) ⟨.f 2, trivial⟩ Tryz.call53, Ncl c (fun hg => spec_l06Terms_ok (iteT (gcT hg) hx12)) ⟨.f 4, trivial⟩ Tryz.call53, Ncl c (fun hg => spec_l06Terms_ok (iteT (gcT hg) hx13)) ⟨.f 5, trivial⟩ Tryz.call53, trivial⟩ fun _ _ c => ?_)
 cases h
 exact wp_ret (Rt c () [] [])

theorem spec_l05Words_ok {n : Nat} {p0 : List Int} {p1 : Int} {p2 : Int} {ga0 : Option Addr} {gc1 : Nat} {r : Bool} (h : spec_l05Words n p0 p1 p2 = some r) : Con Tryz.prog 54 [L ga0 p0 gc1, I p1, I p2] [] [RO (L ga0 p0 gc1) p0] fun (_ : Unit) => ([.bool r], [], []) := by
 unfold spec_l05Words at h
 refine En Tryz.func54 rfl Tryz.ntmps54 fun _ fr w c => ?_
 refine P0 [] c fun _ c => S0 (P0 [] c fun _ c => Bd h fun rl1 hit1 h => ?_)
 have hk1 := h
 refine LpR (fun s1  (_ : Unit) => ([(0, L ga0 p0 gc1), (1, I p1), (2, I p2), (9, L ga0 p0 gc1), (10, I (len p0)), (11, I s1)], id, [])) (fun s  (_ : Unit) => ([(0, L ga0 p0 gc1), (1, I p1)], id, [])) hit1 c () (c.re [] [0]) (fun s1 q1 _ _ _ c h hr1 => ?_) fun s1r _ _ _ hrl c => ?_
 refine P0 [] c fun _ c => S0 (I0 c h (fun h => ?_) fun h => ?_)
 refine K0 (S0 (wp_block (T0 (Bd h fun x1 hx1 h => Eel c (.f 0) hx1 fun _ _ c => ?_))))
 refine Fp [] 1 c fun _ c => E0 (T0 (Fp [] 2 c fun _ c => Bd h fun x2 hx2 h => Ca [] c (spec_WordOk_ok hx2) trivial Tryz.call73 fun _ _ _ c => ?_))
 refine Fp [] 1 c fun _ c => E0 (I0 c h (fun h => ?_) fun h => ?_)
 refine P0 [] c fun _ c => ?_
 obtain rfl := hr1 _ (Option.some.inj h).symm
 obtain rfl := Option.some.inj hk1
 exact wp_ret (br (tr (tr (br (tr (Rt c () [] []))))))
 refine K1 (bk (tn (P1 [] c fun _ c => Nx h () (c.re [] [0]))))
 refine wp_exit (te (te (be ?_)))
 obtain rfl := hr1 _ (Option.some.inj h).symm
 exact tn ⟨_, (), rfl, c.re [] [0]⟩
 subst hrl
 refine P0 [] c fun _ c => ?_
 cases h
 exact wp_ret (Rt c () [] [])

theorem spec_InputsOk_ok {n : Nat} {p0 : D.Program} {p1 : List Int} {ga0 : Option Addr} {gc1 : Nat} {ga2 : Option Addr} {gc3 : Nat} {r : Bool} (h : spec_InputsOk n p0 p1 = some r) : Con Tryz.prog 35 [.agg #[I p0.W, I p0.Mem, I p0.In, L ga0 p0.Code gc1], L ga2 p1 gc3] [] [RO (L ga0 p0.Code gc1) p0.Code, RO (L ga2 p1 gc3) p1] fun (_ : Unit) => ([.bool r], [], []) := by
 unfold spec_InputsOk at h
 refine En Tryz.func35 rfl Tryz.ntmps35 fun _ fr w c => ?_
 refine T0 (Ebx [I p0.W, I p0.Mem, I p0.In, L ga0 p0.Code gc1] c fun b1 _ _ c => ?_)
 refine Fp [] 1 c fun _ c => E0 (Bd h fun x1 hx1 h => Bd h fun x2 hx2 h => S0 (rZ [(1, .eq (.bool x1)), (8, .eq (.bool x2))] [(0, 0), (5, 0), (7, 0)] mix c ⟨Ncl c (kN (spec_ProgramOk_ok hx1)) ⟨.f 0, trivial⟩ Tryz.call51, Ncl c (fun hg => spec_l05Words_ok (iteT (gcT hg) hx2)) ⟨.f 1, trivial⟩ Tryz.call54, trivial⟩ fun _ _ c => ?_))
 cases h
 exact wp_ret (Rt c () [] [])

theorem spec_FormatInt_ok {n : Nat} : ∀ {p0 : Int} {r : Str} (h : spec_FormatInt n p0 = some r), Con Tryz.prog 56 [I p0] [] [] fun (_ : Unit) => ([Str.val r], [], []) := by
 induction n with
 | zero => intro p0 r h; simp [spec_FormatInt] at h
 | succ n ih =>
 intro p0 r h
 rw [spec_FormatInt] at h
 refine En Tryz.func56 rfl Tryz.ntmps56 fun _ fr w c => ?_
 refine P0 [] c fun _ c => S0 (P0 [] c fun _ c => I0 c h (fun h => ?_) fun h => ?_)
 refine S0 (T0 (Fp [] 1 c fun _ c => Bd h fun x1 hx1 h => Equo c hx1 fun _ c => ?_))
 refine Fp [] 1 c fun _ c => E0 (I0 c h (fun h => ?_) fun h => ?_)
 refine T0 (Fp [] 3 c fun _ c => Elt 5 ([(Byt.mk (IntKind.u8.wrap (w64 (48 - p0))))] : List Byt) c fun a1 c1 _ _ c => ?_)
 refine Ebs c (.g 0) (fun _ c => ?_) Tryz.underlying111
 refine Bd h fun x2 hx2 h => Ecat c hx2 fun _ c => ?_
 refine Fp [] 1 c fun _ c => E0 ?_
 obtain rfl := sj h
 exact wp_ret (tr (tr (Rt c () [] [])))
 refine K0 (Bd h fun x3 hx3 h => Bd h fun x4 hx4 h => Bd h fun x5 hx5 h => Bd h fun x6 hx6 h => S0 (Jn (fun _ : Unit => ([(2, Str.val x6)], id, [])) c ?_ fun _ _ _ c => ?_))
 refine As mix c fun _ c => ?_
 refine At 9 [0, 3] [(15, I p0), (18, I p0)] c (hQ := fun _ _ _ _ _ h => nomatch h.1) fun _ c => ?_
 refine Dg (fun _ : Unit => ([(17, Str.val x4), (23, Str.val (strOf ([(Byt.mk (IntKind.u8.wrap (w64 (48 - x5))))] : List Byt)))], id, [])) 2 #[true, true, true, true, true, true, true, true, true, false, false] c (fun _ _ _ c => ?_) fun hd10 => ?_
 refine any_node (fuel := 1) [9] (by kernel_rfl) (by simp) ⟨?_, trivial⟩
 refine op_of _ rfl rfl ?_
 refine Ecat c hx6 fun _ c => ?_
 refine E0 (any_node (fuel := 0) [10] (by kernel_rfl) (by simp) ⟨?_, trivial⟩)
 refine op_of _ rfl rfl ?_
 refine Fp [] 1 c fun _ c => E0 (any_leaf (by kernel_rfl) ?_)
 exact nN () (c.rk [] [])
 refine Dg (fun _ : Unit => ([(16, I x3), (23, Str.val (strOf ([(Byt.mk (IntKind.u8.wrap (w64 (48 - x5))))] : List Byt)))], id, [])) 3 #[true, true, false, true, true, true, true, true, true, false, false] c (fun _ _ _ c => ?_) fun hd6 => ?_
 refine any_node (fuel := 2) [2] (by kernel_rfl) (by simp) ⟨?_, trivial⟩
 refine op_of _ rfl rfl ?_
 refine Ca [] c (ih hx4) trivial Tryz.call56 fun _ _ _ c => ?_
 refine E0 (Nd hd10 () (c.rk [] []))
 refine Dg (fun i : Option Addr × Nat => ([(17, Str.val x4), (22, L i.1 ([(Byt.mk (IntKind.u8.wrap (w64 (48 - x5))))] : List Byt) i.2)], fun Γ => Γ ++ [sl5 (L i.1 ([(Byt.mk (IntKind.u8.wrap (w64 (48 - x5))))] : List Byt) i.2) ([(Byt.mk (IntKind.u8.wrap (w64 (48 - x5))))] : List Byt)], [])) 3 #[true, true, true, true, true, true, true, true, false, false, false] c (fun i2 _ _ c => ?_) fun hd9 => ?_
 obtain ⟨a5, c5⟩ := i2
 refine any_node (fuel := 2) [8] (by kernel_rfl) (by simp) ⟨?_, trivial⟩
 refine op_of _ rfl rfl ?_
 refine Ebs c (.g 0) (fun _ c => ?_) Tryz.underlying111
 refine E0 (Nd hd10 () (c.rk [] []))
 refine Dg (fun i : Option Addr × Nat => ([(16, I x3), (22, L i.1 ([(Byt.mk (IntKind.u8.wrap (w64 (48 - x5))))] : List Byt) i.2)], fun Γ => Γ ++ [sl5 (L i.1 ([(Byt.mk (IntKind.u8.wrap (w64 (48 - x5))))] : List Byt) i.2) ([(Byt.mk (IntKind.u8.wrap (w64 (48 - x5))))] : List Byt)], [])) 4 #[true, true, false, true, true, true, true, true, false, false, false] c (fun i1 _ _ c => ?_) fun hd5 => ?_
 obtain ⟨a3, c3⟩ := i1
 refine any_node (fuel := 3) [2, 8] (by kernel_rfl) (by simp) ⟨?_, ?_, trivial⟩
 refine op_of _ rfl rfl ?_
 refine Ca [] c (ih hx4) trivial Tryz.call56 fun _ _ _ c => ?_
 refine E0 (Nd hd9 (a3, c3) (c.rk [0] []))
 refine op_of _ rfl rfl ?_
 refine Ebs c (.g 0) (fun _ c => ?_) Tryz.underlying111
 refine E0 (Nd hd6 () (c.rk [] []))
 refine Dg (fun _ : Unit => ([(17, Str.val x4), (21, .int .u8 (IntKind.u8.wrap (w64 (48 - x5))))], id, [])) 4 #[true, true, true, true, true, true, true, false, false, false, false] c (fun _ _ _ c => ?_) fun hd8 => ?_
 refine any_node (fuel := 3) [7] (by kernel_rfl) (by simp) ⟨?_, trivial⟩
 refine op_of _ rfl rfl ?_
 refine Elt 5 ([(Byt.mk (IntKind.u8.wrap (w64 (48 - x5))))] : List Byt) c fun a6 c6 _ _ c => ?_
 refine E0 (Nd hd9 (a6, c6) (c.rk [0] []))
 refine Dg (fun _ : Unit => ([(16, I x3), (21, .int .u8 (IntKind.u8.wrap (w64 (48 - x5))))], id, [])) 5 #[true, true, false, true, true, true, true, false, false, false, false] c (fun _ _ _ c => ?_) fun hd4 => ?_
 refine any_node (fuel := 4) [2, 7] (by kernel_rfl) (by simp) ⟨?_, ?_, trivial⟩
 refine op_of _ rfl rfl ?_
 refine Ca [] c (ih hx4) trivial Tryz.call56 fun _ _ _ c => ?_
 refine E0 (Nd hd8 () (c.rk [] []))
 refine op_of _ rfl rfl ?_
 refine Elt 5 ([(Byt.mk (IntKind.u8.wrap (w64 (48 - x5))))] : List Byt) c fun a4 c4 _ _ c => ?_
 refine E0 (Nd hd5 (a4, c4) (c.rk [0] []))
 refine Dg (fun _ : Unit => ([(17, Str.val x4), (20, I (w64 (48 - x5)))], id, [])) 5 #[true, true, true, true, true, true, false, false, false, false, false] c (fun _ _ _ c => ?_) fun hd7 => ?_
 refine any_node (fuel := 4) [6] (by kernel_rfl) (by simp) ⟨?_, trivial⟩
 refine op_of _ rfl rfl ?_
 refine Fp [] 1 c fun _ c => E0 (Nd hd8 () (c.rk [] []))
 refine Dg (fun _ : Unit => ([(17, Str.val x4), (19, I x5)], id, [])) 6 #[true, true, true, true, true, false, false, false, false, false, false] c (fun _ _ _ c => ?_) fun hd1 => ?_
 refine any_node (fuel := 5) [5] (by kernel_rfl) (by simp) ⟨?_, trivial⟩
 refine op_of _ rfl rfl ?_
 refine Fp [] 1 c fun _ c => E0 (Nd hd7 () (c.rk [] []))
 refine Dg (fun _ : Unit => ([(16, I x3), (20, I (w64 (48 - x5)))], id, [])) 6 #[true, true, false, true, true, true, false, false, false, false, false] c (fun _ _ _ c => ?_) fun hd3 => ?_
 refine any_node (fuel := 5) [2, 6] (by kernel_rfl) (by simp) ⟨?_, ?_, trivial⟩
 refine op_of _ rfl rfl ?_
 refine Ca [] c (ih hx4) trivial Tryz.call56 fun _ _ _ c => ?_
 refine E0 (Nd hd7 () (c.rk [] []))
 refine op_of _ rfl rfl ?_
 refine Fp [] 1 c fun _ c => E0 (Nd hd4 () (c.rk [] []))
 refine Dg (fun _ : Unit => ([(16, I x3), (19, I x5)], id, [])) 7 #[true, true, false, true, true, false, false, false, false, false, false] c (fun _ _ _ c => ?_) fun hd2 => ?_
 refine any_node (fuel := 6) [2, 5] (by kernel_rfl) (by simp) ⟨?_, ?_, trivial⟩
 refine op_of _ rfl rfl ?_
 refine Ca [] c (ih hx4) trivial Tryz.call56 fun _ _ _ c => ?_
 refine E0 (Nd hd1 () (c.rk [] []))
 refine op_of _ rfl rfl ?_
 refine Fp [] 1 c fun _ c => E0 (Nd hd3 () (c.rk [] []))
 refine any_node (fuel := 8) [1, 4] (by kernel_rfl) (by simp) ⟨?_, ?_, trivial⟩
 refine op_of _ rfl rfl ?_
 refine Equo c hx3 fun _ c => ?_
 refine E0 (any_node (fuel := 7) [2, 4] (by kernel_rfl) (by simp) ⟨?_, ?_, trivial⟩)
 refine op_of _ rfl rfl ?_
 refine Ca [] c (ih hx4) trivial Tryz.call56 fun _ _ _ c => ?_
 refine E0 (any_node (fuel := 6) [4] (by kernel_rfl) (by simp) ⟨?_, trivial⟩)
 refine op_of _ rfl rfl ?_
 refine Erem c hx5 fun _ c => ?_
 refine E0 (Nd hd1 () (c.rk [] []))
 refine op_of _ rfl rfl ?_
 refine Erem c hx5 fun _ c => ?_
 refine E0 (Nd hd2 () (c.rk [] []))
 refine op_of _ rfl rfl ?_
 refine Erem c hx5 fun _ c => ?_
 refine E0 (any_node (fuel := 7) [1, 5] (by kernel_rfl) (by simp) ⟨?_, ?_, trivial⟩)
 refine op_of _ rfl rfl ?_
 refine Equo c hx3 fun _ c => ?_
 refine E0 (Nd hd2 () (c.rk [] []))
 refine op_of _ rfl rfl ?_
 refine Fp [] 1 c fun _ c => E0 (any_node (fuel := 6) [1, 6] (by kernel_rfl) (by simp) ⟨?_, ?_, trivial⟩)
 refine op_of _ rfl rfl ?_
 refine Equo c hx3 fun _ c => ?_
 refine E0 (Nd hd3 () (c.rk [] []))
 refine op_of _ rfl rfl ?_
 refine Fp [] 1 c fun _ c => E0 (any_node (fuel := 5) [1, 7] (by kernel_rfl) (by simp) ⟨?_, ?_, trivial⟩)
 refine op_of _ rfl rfl ?_
 refine Equo c hx3 fun _ c => ?_
 refine E0 (Nd hd4 () (c.rk [] []))
 refine op_of _ rfl rfl ?_
 refine Elt 5 ([(Byt.mk (IntKind.u8.wrap (w64 (48 - x5))))] : List Byt) c fun a2 c2 _ _ c => ?_
 refine E0 (any_node (fuel := 4) [1, 8] (by kernel_rfl) (by simp) ⟨?_, ?_, trivial⟩)
 refine op_of _ rfl rfl ?_
 refine Equo c hx3 fun _ c => ?_
 refine E0 (Nd hd5 (a2, c2) (c.rk [0] []))
 refine op_of _ rfl rfl ?_
 refine Ebs c (.g 0) (fun _ c => ?_) Tryz.underlying111
 refine E0 (any_node (fuel := 3) [1] (by kernel_rfl) (by simp) ⟨?_, trivial⟩)
 refine op_of _ rfl rfl ?_
 refine Equo c hx3 fun _ c => ?_
 refine E0 (Nd hd6 () (c.rk [] []))
 obtain rfl := sj h
 exact wp_ret (tr (Rt c () [] []))
 refine K0 (P0 [] c fun _ c => Bd h fun rl1 hit1 h => S0 (Lp (fun s1  (_ : Unit) => ([(0, I s1.1), (3, Str.val s1.2)], id, [])) (fun  (_ : Unit) => ([(0, I rl1.1), (3, Str.val rl1.2)], id, [])) hit1 c () (c.re [] []) (fun s1 q1 _ _ _ c h hr1 => ?_) fun _ _ _ c => ?_))
 refine S0 (P0 [] c fun _ c => I0 c h (fun h => ?_) fun h => ?_)
 refine K0 (wp_block (T0 (Fp [] 1 c fun _ c => Bd h fun x7 hx7 h => Erem c hx7 fun _ c => ?_)))
 refine Fp [] 2 c fun _ c => Elt 5 ([(Byt.mk (IntKind.u8.wrap (w64 (48 + x7))))] : List Byt) c fun a7 c7 _ _ c => ?_
 refine Ebs c (.g 0) (fun _ c => ?_) Tryz.underlying111
 refine Fp [] 1 c fun _ c => Bd h fun x8 hx8 h => Ecat c hx8 fun _ c => ?_
 refine Fp [] 1 c fun _ c => E0 (T1 (Fp [] 1 c fun _ c => Bd h fun x9 hx9 h => Equo c hx9 fun _ c => ?_))
 refine Fp [] 1 c fun _ c => E1 (bk (tn (Nx h () (c.re [] []))))
 refine wp_exit (te (te (be ?_)))
 obtain rfl := hr1 _ (Option.some.inj h).symm
 exact tn ⟨(), c.re [] []⟩
 refine T0 (Fp [] 3 c fun _ c => Elt 5 ([(Byt.mk (IntKind.u8.wrap (w64 (48 + rl1.1))))] : List Byt) c fun a8 c8 _ _ c => ?_)
 refine Ebs c (.g 0) (fun _ c => ?_) Tryz.underlying111
 refine Fp [] 1 c fun _ c => Bd h fun x10 hx10 h => Ecat c hx10 fun _ c => ?_
 refine Fp [] 1 c fun _ c => E0 ?_
 obtain rfl := sj h
 exact wp_ret (Rt c () [] [])

theorem spec_l06Values_ok {n : Nat} {p0 : D.Program} {p1 : List Int} {ga0 : Option Addr} {gc1 : Nat} {ga2 : Option Addr} {gc3 : Nat} {r : (List D.Value)} (h : spec_l06Values n p0 p1 = some r) : Con Tryz.prog 37 [.agg #[I p0.W, I p0.Mem, I p0.In, L ga0 p0.Code gc1], L ga2 p1 gc3] [] [RO (L ga0 p0.Code gc1) p0.Code, RO (L ga2 p1 gc3) p1] fun (i : Option Addr × Nat) => ([L i.1 r i.2], [sl89 (L i.1 r i.2) r], []) := by
 unfold spec_l06Values at h
 refine En Tryz.func37 rfl Tryz.ntmps37 fun _ fr w c => ?_
 refine T0 (Ebx [I p0.W, I p0.Mem, I p0.In, L ga0 p0.Code gc1] c fun b1 _ _ c => ?_)
 refine Fp [] 1 c fun _ c => E0 (T0 (Elt 89 ([] : List D.Value) c fun a1 c1 _ _ c => ?_))
 refine Fp [] 1 c fun _ c => E0 (S0 (P0 [] c fun _ c => Bd h fun rl1 hit1 h => Lp (fun s1  (i : Option Addr × Nat) => ([(2, B b1 0), (5, L i.1 s1.2 i.2), (9, L ga2 p1 gc3), (10, I (len p1)), (11, I s1.1)], fun Γ => Γ.set 1 (sl89 (L i.1 s1.2 i.2) s1.2), [])) (fun  (i : Option Addr × Nat) => ([(5, L i.1 rl1 i.2)], fun Γ => Γ.set 1 (sl89 (L i.1 rl1 i.2) rl1), [])) hit1 c (a1, c1) (c.re [0, 1] [0, 1]) (fun s1 q1 i1 _ _ c h hr1 => ?_) fun k1 _ _ c => ?_))
 refine P0 [] c fun _ c => S0 (I0 c h (fun h => ?_) fun h => ?_)
 refine K0 (S0 (wp_block (T0 (Fp [] 1 c fun _ c => Bd h fun x1 hx1 h => Eel c (.f 1) hx1 fun _ _ c => ?_))))
 refine Fp [] 2 c fun _ c => E0 (Bd h fun x2 hx2 h => Bd h fun x3 hx3 h => wp_ra mix (rM 9 [(2, .eq (Str.val x2)), (3, .eq (Str.val x3)), (8, Pd.nw c.wd 8 (fun i : Option Addr × Nat => L i.1 ([(D.Value.mk x3 p0.W x1)] : List D.Value) i.2) (fun i => SL 89 (L i.1 ([(D.Value.mk x3 p0.W x1)] : List D.Value) i.2) ([(D.Value.mk x3 p0.W x1)] : List D.Value)))] [(5, 0)] c (fun ow => ⟨np_tO ow (Ncl c (kN (spec_FormatInt_ok hx2)) trivial Tryz.call56), np_tO ow (Ncat c (kN hx3)), Nlt c ([(D.Value.mk x3 p0.W x1)] : List D.Value), trivial⟩) fun ow _ _ hE hc c1 => ?_))
 obtain ⟨i2, hi2⟩ := hE.nw 8 24
 replace c := Cx.newt c hc c1 [(8, 24, _, _)] ⟨hi2, trivial⟩
 refine Bd h fun x4 hx4 h => Eap 1 c (.g 2) hx4 fun a2 c2 _ _ c => ?_
 refine Fp [] 1 c fun _ c => E1 (bk (tn (P1 [] c fun _ c => Nx h (a2, c2) (c.re [0, 1] [0, 1]))))
 refine wp_exit (te (te (be ?_)))
 obtain rfl := hr1 _ (Option.some.inj h).symm
 exact tn ⟨(i1.1, i1.2), c.re [0, 1] [0, 1]⟩
 refine P0 [] c fun _ c => ?_
 obtain rfl := sj h
 exact wp_ret (Rt c (k1.1, k1.2) [1] [])

theorem spec_l02Find_ok {n : Nat} {p0 : List D.Value} {p1 : Str} {ga0 : Option Addr} {gc1 : Nat} {r : Int} (h : spec_l02Find n p0 p1 = some r) : Con Tryz.prog 76 [L ga0 p0 gc1, Str.val p1] [] [RO (L ga0 p0 gc1) p0] fun (_ : Unit) => ([I r], [], []) := by
 unfold spec_l02Find at h
 refine En Tryz.func76 rfl Tryz.ntmps76 fun _ fr w c => ?_
 refine P0 [] c fun _ c => S0 (P0 [] c fun _ c => Bd h fun rl1 hit1 h => ?_)
 have hk1 := h
 refine LpR (fun s1  (_ : Unit) => ([(1, Str.val p1), (7, L ga0 p0 gc1), (8, I (len p0)), (9, I s1)], id, [])) (fun s  (_ : Unit) => ([], id, [])) hit1 c () (c.re [] [0]) (fun s1 q1 _ _ _ c h hr1 => ?_) fun s1r _ _ _ hrl c => ?_
 refine P0 [] c fun _ c => S0 (I0 c h (fun h => ?_) fun h => ?_)
 refine K0 (S0 (wp_block (T0 (Fp [] 1 c fun _ c => Bd h fun x1 hx1 h => Eel c (.f 0) hx1 fun _ _ c => ?_))))
 refine Eal [Str.val ⟨[]⟩, I 0, I 0] c fun b1 _ _ c => ?_
 refine Fp [] 1 c fun _ c => Ess 0 [Str.val x1.Name, I x1.W, I x1.N] c fun _ c => ?_
 refine E0 (P0 [(1, 0)] c fun _ c => I0 c h (fun h => ?_) fun h => ?_)
 refine P0 [] c fun _ c => ?_
 obtain rfl := hr1 _ (Option.some.inj h).symm
 obtain rfl := Option.some.inj hk1
 exact wp_ret (br (tr (tr (br (tr (Rt c () [] []))))))
 refine K1 (bk (tn (P1 [] c fun _ c => Nx h () (c.re [] [0]))))
 refine wp_exit (te (te (be ?_)))
 obtain rfl := hr1 _ (Option.some.inj h).symm
 exact tn ⟨_, (), rfl, c.re [] [0]⟩
 subst hrl
 refine P0 [] c fun _ c => ?_
 cases h
 exact wp_ret (Rt c () [] [])

theorem spec_WordOf_ok {p0 : Int} {p1 : Int} {r : Int} (h : spec_WordOf p0 p1 = some r) : Con Tryz.prog 117 [I p0, I p1] [] [] fun (_ : Unit) => ([I r], [], []) := by
 unfold spec_WordOf at h
 refine En Tryz.func117 rfl Tryz.ntmps117 fun _ fr w c => ?_
 refine P0 [] c fun _ c => S0 (T0 (Fp [] 1 c fun _ c => Bd h fun x1 hx1 h => Ca [] c (spec_l01In_ok hx1) trivial Tryz.call52 fun _ _ _ c => ?_))
 refine Fp [] 1 c fun _ c => E0 (I0 c h (fun h => ?_) fun h => ?_)
 refine P0 [] c fun _ c => ?_
 cases h
 exact wp_ret (tr (Rt c () [] []))
 refine K0 (T0 (Fp [] 2 c fun _ c => Bd h fun x2 hx2 h => Eshl c hx2 fun _ c => ?_))
 refine Fp [] 3 c fun _ c => E0 ?_
 cases h
 exact wp_ret (Rt c () [] [])

theorem spec_ApplyUnary_ok {p0 : Int} {p1 : Int} {p2 : Int} {r : Int} (h : spec_ApplyUnary p0 p1 p2 = some r) : Con Tryz.prog 97 [I p0, I p1, I p2] [] [] fun (_ : Unit) => ([I r], [], []) := by
 unfold spec_ApplyUnary at h
 refine En Tryz.func97 rfl Tryz.ntmps97 fun _ fr w c => ?_
 refine P0 [] c fun _ c => S0 (wp_block (T0 (Fp [] 2 c fun _ c => Bd h fun x1 hx1 h => Ca [] c (spec_WordOk_ok hx1) trivial Tryz.call73 fun _ _ _ c => ?_)))
 refine Fp [] 2 c fun _ c => E0 (I0 c h (fun h => ?_) fun h => ?_)
 refine P0 [] c fun _ c => ?_
 cases h
 exact wp_ret (br (tr (Rt c () [] [])))
 refine P0 [] c fun _ c => I0 c h (fun h => ?_) fun h => ?_
 refine T0 (Fp [] 1 c fun _ c => Bd h fun x2 hx2 h => Eshl c hx2 fun _ c => ?_)
 refine Fp [] 4 c fun _ c => E0 ?_
 cases h
 exact wp_ret (br (tr (Rt c () [] [])))
 refine P0 [] c fun _ c => I0 c h (fun h => ?_) fun h => ?_
 refine T0 (Fp [] 3 c fun _ c => Bd h fun x3 hx3 h => Ca [] c (spec_WordOf_ok hx3) trivial Tryz.call117 fun _ _ _ c => ?_)
 refine Fp [] 1 c fun _ c => E0 ?_
 obtain rfl := sj h
 exact wp_ret (br (tr (Rt c () [] [])))
 refine K1 (bk (tn (P0 [] c fun _ c => ?_)))
 cases h
 exact wp_ret (Rt c () [] [])

theorem spec_SignedOf_ok {p0 : Int} {p1 : Int} {r : Int} (h : spec_SignedOf p0 p1 = some r) : Con Tryz.prog 118 [I p0, I p1] [] [] fun (_ : Unit) => ([I r], [], []) := by
 unfold spec_SignedOf at h
 refine En Tryz.func118 rfl Tryz.ntmps118 fun _ fr w c => ?_
 refine P0 [] c fun _ c => S0 (T0 (Fp [] 2 c fun _ c => Bd h fun x1 hx1 h => Ca [] c (spec_WordOk_ok hx1) trivial Tryz.call73 fun _ _ _ c => ?_))
 refine Fp [] 1 c fun _ c => E0 (I0 c h (fun h => ?_) fun h => ?_)
 refine P0 [] c fun _ c => ?_
 obtain rfl := sj h
 exact wp_ret (tr (Rt c () [] []))
 refine K0 (S0 (T0 (Fp [] 3 c fun _ c => Bd h fun x2 hx2 h => Eshr c hx2 fun _ c => ?_)))
 refine Fp [] 1 c fun _ c => E0 (I0 c h (fun h => ?_) fun h => ?_)
 refine T0 (Fp [] 2 c fun _ c => Bd h fun x3 hx3 h => Eshl c hx3 fun _ c => ?_)
 refine Fp [] 2 c fun _ c => E0 ?_
 cases h
 exact wp_ret (tr (Rt c () [] []))
 refine K0 (P0 [] c fun _ c => ?_)
 obtain rfl := sj h
 exact wp_ret (Rt c () [] [])

theorem spec_l01Truth_ok {p0 : Bool} {r : Int} (h : spec_l01Truth p0 = some r) : Con Tryz.prog 119 [.bool p0] [] [] fun (_ : Unit) => ([I r], [], []) := by
 unfold spec_l01Truth at h
 refine En Tryz.func119 rfl Tryz.ntmps119 fun _ fr w c => ?_
 refine P0 [] c fun _ c => S0 (P0 [] c fun _ c => I0 c h (fun h => ?_) fun h => ?_)
 refine P0 [] c fun _ c => ?_
 obtain rfl := sj h
 exact wp_ret (tr (Rt c () [] []))
 refine K0 (P0 [] c fun _ c => ?_)
 obtain rfl := sj h
 exact wp_ret (Rt c () [] [])

theorem spec_ApplyBinary_ok {p0 : Int} {p1 : Int} {p2 : Int} {p3 : Int} {r : Int} (h : spec_ApplyBinary p0 p1 p2 p3 = some r) : Con Tryz.prog 98 [I p0, I p1, I p2, I p3] [] [] fun (_ : Unit) => ([I r], [], []) := by
 unfold spec_ApplyBinary at h
 refine En Tryz.func98 rfl Tryz.ntmps98 fun _ fr w c => ?_
 refine P0 [] c fun _ c => S0 (Bd h fun x1 hx1 h => Bd h fun x2 hx2 h => S0 (rZ [(2, .eq (.bool x1)), (7, .eq (.bool x2))] [] mix c ⟨Ncl c (kN (spec_WordOk_ok hx1)) trivial Tryz.call73, Ncl c (fun hg => spec_WordOk_ok (iteF (gcF hg) hx2)) trivial Tryz.call73, trivial⟩ fun _ _ c => I0 c h (fun h => ?_) fun h => ?_))
 refine P0 [] c fun _ c => ?_
 cases h
 exact wp_ret (tr (Rt c () [] []))
 refine K0 (S0 (P0 [] c fun _ c => wp_block (P0 [] c fun _ c => I0 c h (fun h => ?_) fun h => ?_)))
 refine T0 (Fp [] 4 c fun _ c => Bd h fun x3 hx3 h => Ca [] c (spec_WordOf_ok hx3) trivial Tryz.call117 fun _ _ _ c => ?_)
 refine Fp [] 1 c fun _ c => E0 ?_
 obtain rfl := sj h
 exact wp_ret (br (tr (Rt c () [] [])))
 refine P0 [] c fun _ c => I0 c h (fun h => ?_) fun h => ?_
 refine T0 (Fp [] 4 c fun _ c => Bd h fun x4 hx4 h => Ca [] c (spec_WordOf_ok hx4) trivial Tryz.call117 fun _ _ _ c => ?_)
 refine Fp [] 1 c fun _ c => E0 ?_
 obtain rfl := sj h
 exact wp_ret (br (tr (Rt c () [] [])))
 refine P0 [] c fun _ c => I0 c h (fun h => ?_) fun h => ?_
 refine T0 (Fp [] 4 c fun _ c => Bd h fun x5 hx5 h => Ca [] c (spec_WordOf_ok hx5) trivial Tryz.call117 fun _ _ _ c => ?_)
 refine Fp [] 1 c fun _ c => E0 ?_
 obtain rfl := sj h
 exact wp_ret (br (tr (Rt c () [] [])))
 refine P0 [] c fun _ c => I0 c h (fun h => ?_) fun h => ?_
 refine S0 (P0 [] c fun _ c => I0 c h (fun h => ?_) fun h => ?_)
 refine T0 (Fp [] 1 c fun _ c => Bd h fun x6 hx6 h => Eshl c hx6 fun _ c => ?_)
 refine Fp [] 2 c fun _ c => E0 ?_
 cases h
 exact wp_ret (tr (br (tr (Rt c () [] []))))
 refine K0 (T0 (Fp [] 2 c fun _ c => Bd h fun x7 hx7 h => Equo c hx7 fun _ c => ?_))
 refine Fp [] 1 c fun _ c => E0 ?_
 obtain rfl := sj h
 exact wp_ret (br (tr (Rt c () [] [])))
 refine P0 [] c fun _ c => I0 c h (fun h => ?_) fun h => ?_
 refine S0 (P0 [] c fun _ c => I0 c h (fun h => ?_) fun h => ?_)
 refine P0 [] c fun _ c => ?_
 obtain rfl := sj h
 exact wp_ret (tr (br (tr (Rt c () [] []))))
 refine K0 (T0 (Fp [] 2 c fun _ c => Bd h fun x8 hx8 h => Erem c hx8 fun _ c => ?_))
 refine Fp [] 1 c fun _ c => E0 ?_
 obtain rfl := sj h
 exact wp_ret (br (tr (Rt c () [] [])))
 refine P0 [] c fun _ c => I0 c h (fun h => ?_) fun h => ?_
 refine P0 [] c fun _ c => ?_
 cases h
 exact wp_ret (br (tr (Rt c () [] [])))
 refine P0 [] c fun _ c => I0 c h (fun h => ?_) fun h => ?_
 refine P0 [] c fun _ c => ?_
 cases h
 exact wp_ret (br (tr (Rt c () [] [])))
 refine P0 [] c fun _ c => I0 c h (fun h => ?_) fun h => ?_
 refine P0 [] c fun _ c => ?_
 cases h
 exact wp_ret (br (tr (Rt c () [] [])))
 refine P0 [] c fun _ c => I0 c h (fun h => ?_) fun h => ?_
 refine S0 (P0 [] c fun _ c => I0 c h (fun h => ?_) fun h => ?_)
 refine P0 [] c fun _ c => ?_
 obtain rfl := sj h
 exact wp_ret (tr (br (tr (Rt c () [] []))))
 refine K0 (T0 (Fp [] 3 c fun _ c => Bd h fun x9 hx9 h => Eshl c hx9 fun _ c => ?_))
 refine Bd h fun x10 hx10 h => Ca [] c (spec_WordOf_ok hx10) trivial Tryz.call117 fun _ _ _ c => ?_
 refine Fp [] 1 c fun _ c => E0 ?_
 obtain rfl := sj h
 exact wp_ret (br (tr (Rt c () [] [])))
 refine P0 [] c fun _ c => I0 c h (fun h => ?_) fun h => ?_
 refine S0 (P0 [] c fun _ c => I0 c h (fun h => ?_) fun h => ?_)
 refine P0 [] c fun _ c => ?_
 obtain rfl := sj h
 exact wp_ret (tr (br (tr (Rt c () [] []))))
 refine K0 (T0 (Fp [] 2 c fun _ c => Bd h fun x11 hx11 h => Eshr c hx11 fun _ c => ?_))
 refine Fp [] 1 c fun _ c => E0 ?_
 obtain rfl := sj h
 exact wp_ret (br (tr (Rt c () [] [])))
 refine P0 [] c fun _ c => I0 c h (fun h => ?_) fun h => ?_
 refine S0 (P0 [] c fun _ c => Mp (decide (p3 ≥ p1)) [(3, I (w64 (p1 - 1)))] [(3, I p3)] [(3, I (cond (decide (p3 ≥ p1)) (w64 (p1 - 1)) p3))] [3, 97, 98] c fun _ c => T0 (Fp [] 3 c fun _ c => Bd h fun x12 hx12 h => Ca [] c (spec_SignedOf_ok hx12) trivial Tryz.call118 fun _ _ _ c => ?_))
 refine Fp [] 1 c fun _ c => Bd h fun x13 hx13 h => Eshr c hx13 fun _ c => ?_
 refine Bd h fun x14 hx14 h => Ca [] c (spec_WordOf_ok hx14) trivial Tryz.call117 fun _ _ _ c => ?_
 refine Fp [] 1 c fun _ c => E0 ?_
 obtain rfl := sj h
 exact wp_ret (br (tr (Rt c () [] [])))
 refine P0 [] c fun _ c => I0 c h (fun h => ?_) fun h => ?_
 refine T0 (Fp [] 3 c fun _ c => Bd h fun x15 hx15 h => Ca [] c (spec_l01Truth_ok hx15) trivial Tryz.call119 fun _ _ _ c => ?_)
 refine Fp [] 1 c fun _ c => E0 ?_
 obtain rfl := sj h
 exact wp_ret (br (tr (Rt c () [] [])))
 refine P0 [] c fun _ c => I0 c h (fun h => ?_) fun h => ?_
 refine T0 (Fp [] 3 c fun _ c => Bd h fun x16 hx16 h => Ca [] c (spec_l01Truth_ok hx16) trivial Tryz.call119 fun _ _ _ c => ?_)
 refine Fp [] 1 c fun _ c => E0 ?_
 obtain rfl := sj h
 exact wp_ret (br (tr (Rt c () [] [])))
 refine P0 [] c fun _ c => I0 c h (fun h => ?_) fun h => ?_
 refine T0 (Fp [] 2 c fun _ c => Bd h fun x17 hx17 h => Ca [] c (spec_SignedOf_ok hx17) trivial Tryz.call118 fun _ _ _ c => ?_)
 refine Fp [] 2 c fun _ c => Bd h fun x18 hx18 h => Ca [] c (spec_SignedOf_ok hx18) trivial Tryz.call118 fun _ _ _ c => ?_
 refine Fp [] 1 c fun _ c => Bd h fun x19 hx19 h => Ca [] c (spec_l01Truth_ok hx19) trivial Tryz.call119 fun _ _ _ c => ?_
 refine Fp [] 1 c fun _ c => E0 ?_
 obtain rfl := sj h
 exact wp_ret (br (tr (Rt c () [] [])))
 refine K1 (bk (tn (P0 [] c fun _ c => ?_)))
 cases h
 exact wp_ret (Rt c () [] [])

theorem spec_JoinWords_ok {p0 : Int} {p1 : Int} {p2 : Int} {p3 : Int} {r : Int} (h : spec_JoinWords p0 p1 p2 p3 = some r) : Con Tryz.prog 99 [I p0, I p1, I p2, I p3] [] [] fun (_ : Unit) => ([I r], [], []) := by
 unfold spec_JoinWords at h
 refine En Tryz.func99 rfl Tryz.ntmps99 fun _ fr w c => ?_
 refine P0 [] c fun _ c => S0 (Bd h fun x1 hx1 h => Bd h fun x2 hx2 h => S0 (rZ [(2, .eq (.bool x1)), (7, .eq (.bool x2))] [] mix c ⟨Ncl c (kN (spec_WordOk_ok hx1)) trivial Tryz.call73, Ncl c (fun hg => spec_WordOk_ok (iteF (gcF hg) hx2)) trivial Tryz.call73, trivial⟩ fun _ _ c => I0 c h (fun h => ?_) fun h => ?_))
 refine P0 [] c fun _ c => ?_
 cases h
 exact wp_ret (tr (Rt c () [] []))
 refine K0 (T0 (Fp [] 2 c fun _ c => Bd h fun x3 hx3 h => Eshl c hx3 fun _ c => ?_))
 refine Fp [] 3 c fun _ c => E0 ?_
 cases h
 exact wp_ret (Rt c () [] [])

theorem spec_CutWord_ok {p0 : Int} {p1 : Int} {p2 : Int} {p3 : Int} {r : Int} (h : spec_CutWord p0 p1 p2 p3 = some r) : Con Tryz.prog 100 [I p0, I p1, I p2, I p3] [] [] fun (_ : Unit) => ([I r], [], []) := by
 unfold spec_CutWord at h
 refine En Tryz.func100 rfl Tryz.ntmps100 fun _ fr w c => ?_
 refine P0 [] c fun _ c => S0 (Bd h fun x1 hx1 h => S0 (rZ [(2, .eq (.bool x1))] [] mix c ⟨Ncl c (kN (spec_WordOk_ok hx1)) trivial Tryz.call73, trivial⟩ fun _ _ c => I0 c h (fun h => ?_) fun h => ?_))
 refine P0 [] c fun _ c => ?_
 cases h
 exact wp_ret (tr (Rt c () [] []))
 refine K0 (T0 (Fp [] 3 c fun _ c => Bd h fun x2 hx2 h => Eshr c hx2 fun _ c => ?_))
 refine Bd h fun x3 hx3 h => Ca [] c (spec_WordOf_ok hx3) trivial Tryz.call117 fun _ _ _ c => ?_
 refine Fp [] 1 c fun _ c => E0 ?_
 obtain rfl := sj h
 exact wp_ret (Rt c () [] [])

theorem spec_WidenWord_ok {p0 : Int} {p1 : Int} {p2 : Int} {p3 : Bool} {r : Int} (h : spec_WidenWord p0 p1 p2 p3 = some r) : Con Tryz.prog 101 [I p0, I p1, I p2, .bool p3] [] [] fun (_ : Unit) => ([I r], [], []) := by
 unfold spec_WidenWord at h
 refine En Tryz.func101 rfl Tryz.ntmps101 fun _ fr w c => ?_
 refine P0 [] c fun _ c => S0 (Bd h fun x1 hx1 h => S0 (rZ [(2, .eq (.bool x1))] [] mix c ⟨Ncl c (kN (spec_WordOk_ok hx1)) trivial Tryz.call73, trivial⟩ fun _ _ c => I0 c h (fun h => ?_) fun h => ?_))
 refine P0 [] c fun _ c => ?_
 cases h
 exact wp_ret (tr (Rt c () [] []))
 refine K0 (S0 (P0 [] c fun _ c => I0 c h (fun h => ?_) fun h => ?_))
 refine T0 (Fp [] 3 c fun _ c => Bd h fun x2 hx2 h => Ca [] c (spec_SignedOf_ok hx2) trivial Tryz.call118 fun _ _ _ c => ?_)
 refine Bd h fun x3 hx3 h => Ca [] c (spec_WordOf_ok hx3) trivial Tryz.call117 fun _ _ _ c => ?_
 refine Fp [] 1 c fun _ c => E0 ?_
 obtain rfl := sj h
 exact wp_ret (tr (Rt c () [] []))
 refine K0 (P0 [] c fun _ c => ?_)
 obtain rfl := sj h
 exact wp_ret (Rt c () [] [])

theorem spec_l02Apply_ok {p0 : D.Term} {p1 : List Int} {ga0 : Option Addr} {gc1 : Nat} {ga2 : Option Addr} {gc3 : Nat} {r : Int} (h : spec_l02Apply p0 p1 = some r) : Con Tryz.prog 77 [.agg #[I p0.Op, I p0.W, I p0.N, Str.val p0.Name, L ga0 p0.Kids gc1], L ga2 p1 gc3] [] [RO (L ga0 p0.Kids gc1) p0.Kids, RO (L ga2 p1 gc3) p1] fun (_ : Unit) => ([I r], [], []) := by
 unfold spec_l02Apply at h
 refine En Tryz.func77 rfl Tryz.ntmps77 fun _ fr w c => ?_
 refine T0 (Ebx [I p0.Op, I p0.W, I p0.N, Str.val p0.Name, L ga0 p0.Kids gc1] c fun b1 _ _ c => ?_)
 refine Fp [] 1 c fun _ c => E0 (S0 (wp_block (T0 (Fp [(1, 0)] 2 c fun _ c => Bd h fun x1 hx1 h => Ca [] c (spec_l01In_ok hx1) trivial Tryz.call52 fun _ _ _ c => ?_))))
 refine Fp [] 1 c fun _ c => E0 (I0 c h (fun h => ?_) fun h => ?_)
 refine Bd h fun x2 hx2 h => Bd h fun x3 hx3 h => S0 (rZ [(5, Pd.el (x2 : Int)), (6, .eq (I x2)), (7, .eq (I x3))] [(1, 0), (3, 0)] mix c ⟨Nid c (.f 1) (kN hx2), Nld c 5 (q := x2) (atN 5), Ncl c (kN (spec_ApplyUnary_ok hx3)) trivial Tryz.call97, trivial⟩ fun _ _ c => ?_)
 obtain rfl := sj h
 exact wp_ret (br (tr (Rt c () [] [])))
 refine T0 (Fp [(1, 0)] 2 c fun _ c => Bd h fun x4 hx4 h => Ca [] c (spec_l01In_ok hx4) trivial Tryz.call52 fun _ _ _ c => ?_)
 refine Fp [] 1 c fun _ c => E0 (I0 c h (fun h => ?_) fun h => ?_)
 refine Bd h fun x5 hx5 h => ?_
 obtain ⟨ep1, u1, c⟩ := c.elp (.f 0) hx5
 obtain ⟨a1, c1, rfl, c⟩ := c.o_Term 3
 refine Bd h fun x6 hx6 h => Bd h fun x7 hx7 h => Bd h fun x8 hx8 h => S0 (rZ [(4, .eq (.pointer (some ep1))), (6, .eq (I x5.W)), (8, Pd.el (x6 : Int)), (9, .eq (I x6)), (11, Pd.el (x7 : Int)), (12, .eq (I x7)), (13, .eq (I x8))] [(1, 0), (3, 0)] mix c ⟨Nie c 2, Nlc c 2 1, Nid c (.f 1) (kN hx6), Nld c 8 (q := x6) (atN 8), Nid c (.f 1) (kN hx7), Nld c 11 (q := x7) (atN 11), Ncl c (kN (spec_ApplyBinary_ok hx8)) trivial Tryz.call98, trivial⟩ fun _ _ c => ?_)
 obtain rfl := sj h
 exact wp_ret (br (tr (Rt c () [] [])))
 refine P0 [(1, 0)] c fun _ c => I0 c h (fun h => ?_) fun h => ?_
 refine S0 (T0 (Fp [] 1 c fun _ c => Bd h fun x9 hx9 h => Eel c (.f 1) hx9 fun _ _ c => ?_))
 refine Fp [] 1 c fun _ c => E0 (I0 c h (fun h => ?_) fun h => ?_)
 refine T0 (Fp [] 1 c fun _ c => Bd h fun x10 hx10 h => Eel c (.f 1) hx10 fun _ _ c => ?_)
 refine Fp [] 1 c fun _ c => E0 ?_
 obtain rfl := sj h
 exact wp_ret (tr (br (tr (Rt c () [] []))))
 refine K0 (T0 (Fp [] 1 c fun _ c => Bd h fun x11 hx11 h => Eel c (.f 1) hx11 fun _ _ c => ?_))
 refine Fp [] 1 c fun _ c => E0 ?_
 obtain rfl := sj h
 exact wp_ret (br (tr (Rt c () [] [])))
 refine P0 [(1, 0)] c fun _ c => I0 c h (fun h => ?_) fun h => ?_
 refine Bd h fun x12 hx12 h => ?_
 obtain ⟨ep2, u2, c⟩ := c.elp (.f 0) hx12
 obtain ⟨a2, c2, rfl, c⟩ := c.o_Term 3
 refine Bd h fun x13 hx13 h => Bd h fun x14 hx14 h => ?_
 obtain ⟨ep3, u3, c⟩ := c.elp (.f 0) hx14
 obtain ⟨a3, c3, rfl, c⟩ := c.o_Term 6
 refine Bd h fun x15 hx15 h => Bd h fun x16 hx16 h => S0 (rZ [(2, .eq (.pointer (some ep2))), (4, .eq (I x12.W)), (6, Pd.el (x13 : Int)), (7, .eq (I x13)), (10, .eq (.pointer (some ep3))), (12, .eq (I x14.W)), (14, Pd.el (x15 : Int)), (15, .eq (I x15)), (16, .eq (I x16))] [(1, 0), (9, 0)] mix c ⟨Nie c 2, Nlc c 2 1, Nid c (.f 1) (kN hx13), Nld c 6 (q := x13) (atN 6), Nie c 5, Nlc c 5 1, Nid c (.f 1) (kN hx15), Nld c 14 (q := x15) (atN 14), Ncl c (kN (spec_JoinWords_ok hx16)) trivial Tryz.call99, trivial⟩ fun _ _ c => ?_)
 obtain rfl := sj h
 exact wp_ret (br (tr (Rt c () [] [])))
 refine P0 [(1, 0)] c fun _ c => I0 c h (fun h => ?_) fun h => ?_
 refine Bd h fun x17 hx17 h => ?_
 obtain ⟨ep4, u4, c⟩ := c.elp (.f 0) hx17
 obtain ⟨a4, c4, rfl, c⟩ := c.o_Term 3
 refine Bd h fun x18 hx18 h => Bd h fun x19 hx19 h => S0 (rZ [(2, .eq (.pointer (some ep4))), (4, .eq (I x17.W)), (6, Pd.el (x18 : Int)), (7, .eq (I x18)), (12, .eq (I x19))] [(1, 0), (9, 0), (11, 0)] mix c ⟨Nie c 2, Nlc c 2 1, Nid c (.f 1) (kN hx18), Nld c 6 (q := x18) (atN 6), Ncl c (kN (spec_CutWord_ok hx19)) trivial Tryz.call100, trivial⟩ fun _ _ c => ?_)
 obtain rfl := sj h
 exact wp_ret (br (tr (Rt c () [] [])))
 refine K1 (bk (tn (Bd h fun x20 hx20 h => ?_)))
 obtain ⟨ep5, u5, c⟩ := c.elp (.f 0) hx20
 obtain ⟨a5, c5, rfl, c⟩ := c.o_Term 3
 refine Bd h fun x21 hx21 h => Bd h fun x22 hx22 h => S0 (rZ [(2, .eq (.pointer (some ep5))), (4, .eq (I x20.W)), (6, Pd.el (x21 : Int)), (7, .eq (I x21)), (13, .eq (I x22))] [(1, 0), (9, 0), (11, 0)] mix c ⟨Nie c 2, Nlc c 2 1, Nid c (.f 1) (kN hx21), Nld c 6 (q := x21) (atN 6), Ncl c (kN (spec_WidenWord_ok hx22)) trivial Tryz.call101, trivial⟩ fun _ _ c => ?_)
 obtain rfl := sj h
 exact wp_ret (Rt c () [] [])

theorem spec_l02Eval_ok {n : Nat} : ∀ {p0 : D.Term} {p1 : List D.Value} {ga0 : Option Addr} {gc1 : Nat} {ga2 : Option Addr} {gc3 : Nat} {r : Int × Bool} (h : spec_l02Eval n p0 p1 = some r), Con Tryz.prog 55 [.agg #[I p0.Op, I p0.W, I p0.N, Str.val p0.Name, L ga0 p0.Kids gc1], L ga2 p1 gc3] [] [RO (L ga0 p0.Kids gc1) p0.Kids, RO (L ga2 p1 gc3) p1] fun (_ : Unit) => ([I r.1, .bool r.2], [], []) := by
 induction n with
 | zero => intro p0 p1 ga0 gc1 ga2 gc3 r h; simp [spec_l02Eval] at h
 | succ n ih =>
 intro p0 p1 ga0 gc1 ga2 gc3 r h
 rw [spec_l02Eval] at h
 refine En Tryz.func55 rfl Tryz.ntmps55 fun _ fr w c => ?_
 refine T0 (Ebx [I p0.Op, I p0.W, I p0.N, Str.val p0.Name, L ga0 p0.Kids gc1] c fun b1 _ _ c => ?_)
 refine Fp [] 2 c fun _ c => E0 (S0 (P0 [(1, 0)] c fun _ c => I0 c h (fun h => ?_) fun h => ?_))
 refine P0 [(1, 0)] c fun _ c => ?_
 cases h
 exact wp_ret (tr (Rg c () [] [] (.tmp (.tmp .nil))))
 refine K0 (S0 (P0 [(1, 0)] c fun _ c => I0 c h (fun h => ?_) fun h => ?_))
 refine T0 (Fp [(2, 0)] 3 c fun _ c => Bd h fun x1 hx1 h => Ca [] c (spec_l02Find_ok hx1) ⟨.f 1, trivial⟩ Tryz.call76 fun _ _ _ c => ?_)
 refine Fp [] 1 c fun _ c => E0 (S0 (Bd h fun x2 hx2 h => S0 (rZ [(5, Pd.el (x2 : D.Value)), (6, Pd.fl (I x2.W)), (7, .eq (I x2.W))] [(9, 0)] mix c ⟨Nid c (.f 1) (gF hx2), Nfa c 5 (atN 5) fc89_1, Nlf c 6 (atN 6), trivial⟩ fun _ _ c => I0 c h (fun h => ?_) fun h => ?_)))
 refine P0 [] c fun _ c => ?_
 cases h
 exact wp_ret (tr (tr (Rg c () [] [] (.tmp (.tmp .nil)))))
 refine K0 (T0 (Fp [] 2 c fun _ c => Bd h fun x3 hx3 h => Eef c (.f 1) hx3 fc89_2 fun _ _ _ c => ?_))
 refine Fp [] 2 c fun _ c => E0 ?_
 cases h
 exact wp_ret (tr (Rg c () [] [] (.tmp (.tmp .nil))))
 refine K0 (T0 (Elt 3 ([] : List Int) c fun a1 c1 _ _ c => ?_))
 refine Fp [] 1 c fun _ c => E0 (S0 (P0 [(1, 0)] c fun _ c => Bd h fun rl1 hit1 h => ?_))
 have hk1 := h
 refine LpR (fun s1  (i : Option Addr × Nat) => ([(1, L ga2 p1 gc3), (2, B b1 0), (7, L i.1 s1.2 i.2), (43, L ga0 p0.Kids gc1), (44, I (len p0.Kids)), (45, I s1.1)], fun Γ => Γ.set 1 (sl3 (L i.1 s1.2 i.2) s1.2), [])) (fun s  (i : Option Addr × Nat) => ([(2, B b1 0), (7, L i.1 s i.2)], fun Γ => Γ.set 1 (sl3 (L i.1 s i.2) s), [])) hit1 c (a1, c1) (c.re [0, 1] [0, 1]) (fun s1 q1 i1 _ _ c h hr1 => ?_) fun s1r k1 _ _ hrl c => ?_
 refine P0 [] c fun _ c => S0 (I0 c h (fun h => ?_) fun h => ?_)
 refine K0 (S0 (wp_block (T0 (Bd h fun x4 hx4 h => Eem c (.f 0) hx4 fun _ u1 _ c => ?_))))
 obtain ⟨a2, c2, rfl, c⟩ := c.o_Term 2
 refine Eal [I 0, I 0, I 0, Str.val ⟨[]⟩, L none ([] : List D.Term) 0] c fun b2 _ _ c => ?_
 refine Ess 2 [I x4.Op, I x4.W, I x4.N, Str.val x4.Name, L a2 x4.Kids c2] c fun _ c => ?_
 refine E0 (T0 (Fp [(0, 1)] 2 c fun _ c => ?_))
 replace c := c.gm [BX b1 75 [I p0.Op, I p0.W, I p0.N, Str.val p0.Name, L ga0 p0.Kids gc1], sl3 (L i1.1 s1.2 i1.2) s1.2, BX b2 75 [I x4.Op, I x4.W, I x4.N, Str.val x4.Name, L a2 x4.Kids c2]]
 refine Bd h fun x5 hx5 h => Ca [] c (ih hx5) ⟨.f 3, .f 1, trivial⟩ Tryz.call55 fun _ _ _ c => ?_
 refine Fp [] 5 c fun _ c => E0 (S0 (P0 [] c fun _ c => I0 c h (fun h => ?_) fun h => ?_))
 refine P0 [] c fun _ c => ?_
 obtain rfl := hr1 _ (Option.some.inj h).symm
 obtain rfl := Option.some.inj hk1
 exact wp_ret (tr (br (tr (tr (br (tr (Rg c () [] [] (.tmp (.tmp .nil)))))))))
 refine K0 (T1 (Fp [] 2 c fun _ c => Elt 3 ([x5.1] : List Int) c fun a3 c3 _ _ c => ?_))
 refine Bd h fun x6 hx6 h => Eap 1 c (.g 3) hx6 fun a4 c4 _ _ c => ?_
 refine Fp [] 1 c fun _ c => E1 (bk (tn (P1 [] c fun _ c => Nx h (a4, c4) (c.re [0, 1] [0, 1]))))
 refine wp_exit (te (te (be ?_)))
 obtain rfl := hr1 _ (Option.some.inj h).symm
 exact tn ⟨_, (i1.1, i1.2), rfl, c.re [0, 1] [0, 1]⟩
 subst hrl
 refine T0 (Fp [(0, 0)] 2 c fun _ c => Bd h fun x7 hx7 h => Ca [] c (spec_l02Apply_ok hx7) ⟨.f 0, .g 1, trivial⟩ Tryz.call77 fun _ _ _ c => ?_)
 refine Fp [] 2 c fun _ c => E0 ?_
 cases h
 exact wp_ret (Rg c () [] [] (.tmp (.tmp .nil)))

theorem spec_l06Evals_ok {n : Nat} {p0 : List D.Term} {p1 : List D.Value} {ga0 : Option Addr} {gc1 : Nat} {ga2 : Option Addr} {gc3 : Nat} {r : (List Int) × Bool} (h : spec_l06Evals n p0 p1 = some r) : Con Tryz.prog 36 [L ga0 p0 gc1, L ga2 p1 gc3] [] [RO (L ga0 p0 gc1) p0, RO (L ga2 p1 gc3) p1] fun (i : Option Addr × Nat) => ([L i.1 r.1 i.2, .bool r.2], [sl3 (L i.1 r.1 i.2) r.1], []) := by
 unfold spec_l06Evals at h
 refine En Tryz.func36 rfl Tryz.ntmps36 fun _ fr w c => ?_
 refine P0 [] c fun _ c => T0 (Elt 3 ([] : List Int) c fun a1 c1 _ _ c => ?_)
 refine Fp [] 1 c fun _ c => E0 (S0 (P0 [] c fun _ c => Bd h fun rl1 hit1 h => ?_))
 have hk1 := h
 refine LpR (fun s1  (i : Option Addr × Nat) => ([(1, L ga2 p1 gc3), (6, L i.1 s1.2 i.2), (12, L ga0 p0 gc1), (13, I (len p0)), (14, I s1.1)], fun Γ => Γ.set 0 (sl3 (L i.1 s1.2 i.2) s1.2), [])) (fun s  (i : Option Addr × Nat) => ([(6, L i.1 s i.2)], fun Γ => Γ.set 0 (sl3 (L i.1 s i.2) s), [])) hit1 c (a1, c1) (c.re [0] [0, 1]) (fun s1 q1 i1 _ _ c h hr1 => ?_) fun s1r k1 _ _ hrl c => ?_
 refine P0 [] c fun _ c => S0 (I0 c h (fun h => ?_) fun h => ?_)
 refine K0 (S0 (wp_block (T0 (Bd h fun x1 hx1 h => Eem c (.f 0) hx1 fun _ u1 _ c => ?_))))
 obtain ⟨a2, c2, rfl, c⟩ := c.o_Term 2
 refine Eal [I 0, I 0, I 0, Str.val ⟨[]⟩, L none ([] : List D.Term) 0] c fun b1 _ _ c => ?_
 refine Ess 1 [I x1.Op, I x1.W, I x1.N, Str.val x1.Name, L a2 x1.Kids c2] c fun _ c => ?_
 refine E0 (T0 (Fp [(0, 0)] 2 c fun _ c => Bd h fun x2 hx2 h => Ca [] c (spec_l02Eval_ok hx2) ⟨.f 3, .f 1, trivial⟩ Tryz.call55 fun _ _ _ c => ?_))
 refine Fp [] 5 c fun _ c => E0 (S0 (P0 [] c fun _ c => I0 c h (fun h => ?_) fun h => ?_))
 refine P0 [] c fun _ c => ?_
 replace c := c.nil (α := Int) 3
 obtain rfl := hr1 _ (Option.some.inj h).symm
 obtain rfl := Option.some.inj hk1
 exact wp_ret (tr (br (tr (tr (br (tr (Rg c (none, 0) [2] [] (.tmp (.tmp .nil)))))))))
 refine K0 (T1 (Fp [] 2 c fun _ c => ?_))
 replace c := c.gm [sl3 (L i1.1 s1.2 i1.2) s1.2, BX b1 75 [I x1.Op, I x1.W, I x1.N, Str.val x1.Name, L a2 x1.Kids c2]]
 refine Elt 3 ([x2.1] : List Int) c fun a3 c3 _ _ c => ?_
 refine Bd h fun x3 hx3 h => Eap 0 c (.g 2) hx3 fun a4 c4 _ _ c => ?_
 refine Fp [] 1 c fun _ c => E1 (bk (tn (P1 [] c fun _ c => Nx h (a4, c4) (c.re [0] [0, 1]))))
 refine wp_exit (te (te (be ?_)))
 obtain rfl := hr1 _ (Option.some.inj h).symm
 exact tn ⟨_, (i1.1, i1.2), rfl, c.re [0] [0, 1]⟩
 subst hrl
 refine P0 [] c fun _ c => ?_
 cases h
 exact wp_ret (Rg c (k1.1, k1.2) [0] [] (.tmp (.tmp .nil)))

theorem spec_HoldsPath_ok {n : Nat} {p0 : D.Program} {p1 : D.Path} {p2 : List Int} {ga0 : Option Addr} {gc1 : Nat} {ga2 : Option Addr} {gc3 : Nat} {ga4 : Option Addr} {gc5 : Nat} {ga6 : Option Addr} {gc7 : Nat} {ga8 : Option Addr} {gc9 : Nat} {ga10 : Option Addr} {gc11 : Nat} {ga12 : Option Addr} {gc13 : Nat} {ga14 : Option Addr} {gc15 : Nat} {r : Bool} (h : spec_HoldsPath n p0 p1 p2 = some r) : Con Tryz.prog 8 [.agg #[I p0.W, I p0.Mem, I p0.In, L ga0 p0.Code gc1], .agg #[I p1.Pc, L ga2 p1.Regs gc3, L ga4 p1.Mem gc5, L ga6 p1.Stack gc7, I p1.In, L ga8 p1.Out gc9, I p1.Code, I p1.Steps, L ga10 p1.Cond gc11, L ga12 p1.Turns gc13], L ga14 p2 gc15] [] [RO (L ga0 p0.Code gc1) p0.Code, RO (L ga2 p1.Regs gc3) p1.Regs, RO (L ga4 p1.Mem gc5) p1.Mem, RO (L ga6 p1.Stack gc7) p1.Stack, RO (L ga8 p1.Out gc9) p1.Out, RO (L ga10 p1.Cond gc11) p1.Cond, RO (L ga12 p1.Turns gc13) p1.Turns, RO (L ga14 p2 gc15) p2] fun (_ : Unit) => ([.bool r], [], []) := by
 unfold spec_HoldsPath at h
 refine En Tryz.func8 rfl Tryz.ntmps8 fun _ fr w c => ?_
 refine T0 (Ebx [I p0.W, I p0.Mem, I p0.In, L ga0 p0.Code gc1] c fun b1 _ _ c => ?_)
 refine Ebx [I p1.Pc, L ga2 p1.Regs gc3, L ga4 p1.Mem gc5, L ga6 p1.Stack gc7, I p1.In, L ga8 p1.Out gc9, I p1.Code, I p1.Steps, L ga10 p1.Cond gc11, L ga12 p1.Turns gc13] c fun b2 _ _ c => ?_
 refine Fp [] 1 c fun _ c => E0 (S0 (Bd h fun x1 hx1 h => Bd h fun x2 hx2 h => S0 (rZ [(2, .eq (.bool x1)), (7, .eq (.bool x2))] [(0, 0), (1, 1), (5, 0)] mix c ⟨Ncl c (kN (spec_PathOk_ok hx1)) ⟨.f 0, .f 1, .f 2, .f 3, .f 4, .f 5, .f 6, trivial⟩ Tryz.call34, Ncl c (fun hg => spec_InputsOk_ok (iteF (gcF hg) hx2)) ⟨.f 0, .f 7, trivial⟩ Tryz.call35, trivial⟩ fun _ _ c => I0 c h (fun h => ?_) fun h => ?_)))
 refine P0 [] c fun _ c => ?_
 obtain rfl := sj h
 exact wp_ret (tr (Rt c () [] []))
 refine K0 (Bd h fun x3 hx3 h => Bd h fun x4 hx4 h => S0 (Jn (fun i : Option Addr × Nat => ([(7, L i.1 x4.1 i.2), (8, .bool x4.2)], fun Γ => Γ ++ [sl3 (L i.1 x4.1 i.2) x4.1], [])) c ?_ fun i7 _ _ c => ?_))
 refine As mix c fun _ c => ?_
 refine At 9 [0, 3] [(3, B b1 0), (22, B b2 8), (25, L ga14 p2 gc15)] c (hQ := fun _ _ _ _ _ h => nomatch h.1) fun _ c => ?_
 refine Dg (fun i : Option Addr × Nat => ([(7, L i.1 x4.1 i.2), (29, .bool x4.2)], fun Γ => Γ ++ [sl3 (L i.1 x4.1 i.2) x4.1], [])) 1 #[true, true, true, true, true, true, true, true, true, true, false] c (fun i6 _ _ c => ?_) fun hd4 => ?_
 obtain ⟨a3, c3⟩ := i6
 refine any_node (fuel := 0) [10] (by kernel_rfl) (by simp) ⟨?_, trivial⟩
 refine op_of _ rfl rfl ?_
 refine Fp [] 1 c fun _ c => E0 (any_leaf (by kernel_rfl) ?_)
 exact nN (a3, c3) (c.rk [0, 1, 2] (rg 8))
 refine Dg (fun i : Option Addr × Nat => ([(28, L i.1 x4.1 i.2), (29, .bool x4.2)], fun Γ => Γ ++ [sl3 (L i.1 x4.1 i.2) x4.1], [])) 2 #[true, true, true, true, true, true, true, true, true, false, false] c (fun i5 _ _ c => ?_) fun hd3 => ?_
 obtain ⟨a2, c2⟩ := i5
 refine any_node (fuel := 1) [9] (by kernel_rfl) (by simp) ⟨?_, trivial⟩
 refine op_of _ rfl rfl ?_
 refine Fp [] 1 c fun _ c => E0 (Nd hd4 (a2, c2) (c.rk [0, 1, 2] (rg 8)))
 refine Dg (fun i : Option Addr × Nat => ([(23, L ga10 p1.Cond gc11), (26, L i.1 x3 i.2)], fun Γ => Γ ++ [sl89 (L i.1 x3 i.2) x3], [])) 6 #[true, true, true, true, true, false, false, false, false, false, false] c (fun i2 _ _ c => ?_) fun hd2 => ?_
 obtain ⟨a1, c1⟩ := i2
 refine any_node (fuel := 5) [5] (by kernel_rfl) (by simp) ⟨?_, trivial⟩
 refine op_of _ rfl rfl ?_
 refine Ca [] c (spec_l06Evals_ok hx4) ⟨.f 5, .g 2, trivial⟩ Tryz.call36 fun i4 _ _ c => ?_
 refine E0 (any_node (fuel := 4) [6] (by kernel_rfl) (by simp) ⟨?_, trivial⟩)
 refine op_of _ rfl rfl ?_
 refine Fp [] 1 c fun _ c => E0 (any_node (fuel := 3) [7, 8] (by kernel_rfl) (by simp) ⟨?_, ?_, trivial⟩)
 refine op_of _ rfl rfl ?_
 refine Fp [] 1 c fun _ c => E0 (any_node (fuel := 2) [8, 9] (by kernel_rfl) (by simp) ⟨?_, ?_, trivial⟩)
 refine op_of _ rfl rfl ?_
 refine Fp [] 1 c fun _ c => E0 (Nd hd3 (i4.1, i4.2) (c.rk [0, 1, 3] (rg 8)))
 refine op_of _ rfl rfl ?_
 refine Fp [] 1 c fun _ c => E0 (any_node (fuel := 1) [8] (by kernel_rfl) (by simp) ⟨?_, trivial⟩)
 refine op_of _ rfl rfl ?_
 refine Fp [] 1 c fun _ c => E0 (Nd hd4 (i4.1, i4.2) (c.rk [0, 1, 3] (rg 8)))
 refine op_of _ rfl rfl ?_
 refine Fp [] 1 c fun _ c => E0 (any_node (fuel := 2) [7] (by kernel_rfl) (by simp) ⟨?_, trivial⟩)
 refine op_of _ rfl rfl ?_
 refine Fp [] 1 c fun _ c => E0 (Nd hd3 (i4.1, i4.2) (c.rk [0, 1, 3] (rg 8)))
 refine Dg (fun _ : Unit => ([(23, L ga10 p1.Cond gc11), (24, .agg #[I p0.W, I p0.Mem, I p0.In, L ga0 p0.Code gc1]), (25, L ga14 p2 gc15)], id, [])) 7 #[true, true, true, true, false, false, false, false, false, false, false] c (fun _ _ _ c => ?_) fun hd1 => ?_
 refine any_node (fuel := 6) [4] (by kernel_rfl) (by simp) ⟨?_, trivial⟩
 refine op_of _ rfl rfl ?_
 refine Ca [] c (spec_l06Values_ok hx3) ⟨.f 0, .f 7, trivial⟩ Tryz.call37 fun i3 _ _ c => ?_
 refine E0 (Nd hd2 (i3.1, i3.2) (c.rk [0, 1, 2] (rg 8)))
 refine any_node (fuel := 8) [1, 2] (by kernel_rfl) (by simp) ⟨?_, ?_, trivial⟩
 refine op_of _ rfl rfl ?_
 refine Fp [(0, 1)] 1 c fun _ c => E0 (any_node (fuel := 7) [2] (by kernel_rfl) (by simp) ⟨?_, trivial⟩)
 refine op_of _ rfl rfl ?_
 refine Fp [(0, 0)] 1 c fun _ c => E0 (Nd hd1 () (c.rk [0, 1] (rg 8)))
 refine op_of _ rfl rfl ?_
 refine Fp [(0, 0)] 1 c fun _ c => E0 (any_node (fuel := 7) [1, 4] (by kernel_rfl) (by simp) ⟨?_, ?_, trivial⟩)
 refine op_of _ rfl rfl ?_
 refine Fp [(0, 1)] 1 c fun _ c => E0 (Nd hd1 () (c.rk [0, 1] (rg 8)))
 refine op_of _ rfl rfl ?_
 refine Ca [] c (spec_l06Values_ok hx3) ⟨.f 0, .f 7, trivial⟩ Tryz.call37 fun i1 _ _ c => ?_
 refine E0 (any_node (fuel := 6) [1] (by kernel_rfl) (by simp) ⟨?_, trivial⟩)
 refine op_of _ rfl rfl ?_
 refine Fp [(0, 1)] 1 c fun _ c => E0 (Nd hd2 (i1.1, i1.2) (c.rk [0, 1, 2] (rg 8)))
 obtain ⟨a4, c4⟩ := i7
 refine S0 (P0 [] c fun _ c => Bd h fun rl1 hit1 h => Lp (fun s1  (_ : Unit) => ([(8, .bool s1.1), (30, L a4 x4.1 c4), (31, I (len x4.1)), (32, I s1.2)], id, [])) (fun  (_ : Unit) => ([(8, .bool rl1)], id, [])) hit1 c () (c.re [0, 1, 2] (rg 8)) (fun s1 q1 _ _ _ c h hr1 => ?_) fun _ _ _ c => ?_)
 refine P0 [] c fun _ c => S0 (I0 c h (fun h => ?_) fun h => ?_)
 refine K0 (S0 (wp_block (T0 (Bd h fun x5 hx5 h => Eel c (.g 2) hx5 fun _ _ c => ?_))))
 refine Fp [] 1 c fun _ c => E0 (Tq (Ry [] mix c fun _ _ c => bk (tn (P1 [] c fun _ c => Nx h () (c.re [0, 1, 2] (rg 8))))))
 refine wp_exit (te (te (be ?_)))
 obtain rfl := hr1 _ (Option.some.inj h).symm
 exact tn ⟨(), c.re [0, 1, 2] (rg 8)⟩
 refine P0 [] c fun _ c => ?_
 obtain rfl := sj h
 exact wp_ret (Rt c () [] [])

theorem spec_EvalPath_ok {n : Nat} {p0 : D.Program} {p1 : D.Path} {p2 : List Int} {ga0 : Option Addr} {gc1 : Nat} {ga2 : Option Addr} {gc3 : Nat} {ga4 : Option Addr} {gc5 : Nat} {ga6 : Option Addr} {gc7 : Nat} {ga8 : Option Addr} {gc9 : Nat} {ga10 : Option Addr} {gc11 : Nat} {ga12 : Option Addr} {gc13 : Nat} {ga14 : Option Addr} {gc15 : Nat} {r : D.State × Bool} (h : spec_EvalPath n p0 p1 p2 = some r) : Con Tryz.prog 25 [.agg #[I p0.W, I p0.Mem, I p0.In, L ga0 p0.Code gc1], .agg #[I p1.Pc, L ga2 p1.Regs gc3, L ga4 p1.Mem gc5, L ga6 p1.Stack gc7, I p1.In, L ga8 p1.Out gc9, I p1.Code, I p1.Steps, L ga10 p1.Cond gc11, L ga12 p1.Turns gc13], L ga14 p2 gc15] [] [RO (L ga0 p0.Code gc1) p0.Code, RO (L ga2 p1.Regs gc3) p1.Regs, RO (L ga4 p1.Mem gc5) p1.Mem, RO (L ga6 p1.Stack gc7) p1.Stack, RO (L ga8 p1.Out gc9) p1.Out, RO (L ga10 p1.Cond gc11) p1.Cond, RO (L ga12 p1.Turns gc13) p1.Turns, RO (L ga14 p2 gc15) p2] fun (i : Option Addr × Nat × Option Addr × Nat × Option Addr × Nat × Option Addr × Nat) => ([.agg #[I r.1.Pc, L i.1 r.1.Regs i.2.1, L i.2.2.1 r.1.Mem i.2.2.2.1, L i.2.2.2.2.1 r.1.Stack i.2.2.2.2.2.1, I r.1.In, L i.2.2.2.2.2.2.1 r.1.Out i.2.2.2.2.2.2.2, I r.1.Code, I r.1.Steps], .bool r.2], [sl3 (L i.1 r.1.Regs i.2.1) r.1.Regs, sl3 (L i.2.2.1 r.1.Mem i.2.2.2.1) r.1.Mem, sl3 (L i.2.2.2.2.1 r.1.Stack i.2.2.2.2.2.1) r.1.Stack, sl3 (L i.2.2.2.2.2.2.1 r.1.Out i.2.2.2.2.2.2.2) r.1.Out], []) := by
 unfold spec_EvalPath at h
 refine En Tryz.func25 rfl Tryz.ntmps25 fun _ fr w c => ?_
 refine T0 (Ebx [I p0.W, I p0.Mem, I p0.In, L ga0 p0.Code gc1] c fun b1 _ _ c => ?_)
 refine Ebx [I p1.Pc, L ga2 p1.Regs gc3, L ga4 p1.Mem gc5, L ga6 p1.Stack gc7, I p1.In, L ga8 p1.Out gc9, I p1.Code, I p1.Steps, L ga10 p1.Cond gc11, L ga12 p1.Turns gc13] c fun b2 _ _ c => ?_
 refine Eal [I 0, L none ([] : List Int) 0, L none ([] : List Int) 0, L none ([] : List Int) 0, I 0, L none ([] : List Int) 0, I 0, I 0] c fun b3 _ _ c => ?_
 refine Fp [] 1 c fun _ c => E0 (S0 (T0 (Fp [(0, 0), (1, 1)] 3 c fun _ c => Bd h fun x1 hx1 h => Ca [] c (spec_HoldsPath_ok hx1) ⟨.f 0, .f 1, .f 2, .f 3, .f 4, .f 5, .f 6, .f 7, trivial⟩ Tryz.call8 fun _ _ _ c => ?_)))
 refine Fp [] 1 c fun _ c => E0 (I0 c h (fun h => ?_) fun h => ?_)
 refine T0 (Fp [] 1 c fun _ c => Ess 2 [I 0, L none ([] : List Int) 0, L none ([] : List Int) 0, L none ([] : List Int) 0, I 0, L none ([] : List Int) 0, I 0, I 0] c fun _ c => ?_)
 refine Fp [] 1 c fun _ c => E0 ?_
 replace c := c.nil (α := Int) 3
 replace c := c.nil (α := Int) 3
 replace c := c.nil (α := Int) 3
 replace c := c.nil (α := Int) 3
 cases h
 exact wp_ret (tr (Rg c (none, 0, none, 0, none, 0, none, 0) [3, 4, 5, 6] [] (.cell (α := Agg 7) ⟨by kernel_rfl, by kernel_rfl⟩ (.b 2) (.tmp .nil))))
 refine K0 (T0 (Fp [(0, 0)] 2 c fun _ c => Bd h fun x2 hx2 h => Ca [] c (spec_l06Values_ok hx2) ⟨.f 0, .f 7, trivial⟩ Tryz.call37 fun i1 _ _ c => ?_))
 refine Fp [] 1 c fun _ c => E0 (T0 (Fp [(1, 1)] 3 c fun _ c => ?_))
 replace c := c.gm [BX b1 34 [I p0.W, I p0.Mem, I p0.In, L ga0 p0.Code gc1], BX b2 38 [I p1.Pc, L ga2 p1.Regs gc3, L ga4 p1.Mem gc5, L ga6 p1.Stack gc7, I p1.In, L ga8 p1.Out gc9, I p1.Code, I p1.Steps, L ga10 p1.Cond gc11, L ga12 p1.Turns gc13], BX b3 56 [I 0, L none ([] : List Int) 0, L none ([] : List Int) 0, L none ([] : List Int) 0, I 0, L none ([] : List Int) 0, I 0, I 0], sl89 (L i1.1 x2 i1.2) x2]
 refine Bd h fun x3 hx3 h => Ca [] c (spec_l06Evals_ok hx3) ⟨.f 1, .g 3, trivial⟩ Tryz.call36 fun i2 _ _ c => ?_
 refine Fp [] 5 c fun _ c => E0 (T0 (Fp [(1, 1)] 3 c fun _ c => Bd h fun x4 hx4 h => Ca [] c (spec_l06Evals_ok hx4) ⟨.f 2, .g 3, trivial⟩ Tryz.call36 fun i3 _ _ c => ?_))
 refine Fp [] 5 c fun _ c => E0 (T0 (Fp [(1, 1)] 3 c fun _ c => Bd h fun x5 hx5 h => Ca [] c (spec_l06Evals_ok hx5) ⟨.f 4, .g 3, trivial⟩ Tryz.call36 fun i4 _ _ c => ?_))
 refine Fp [] 5 c fun _ c => E0 (S0 (S0 (Ry [] mix c fun _ _ c => I0 c h (fun h => ?_) fun h => ?_)))
 refine T0 (Fp [] 1 c fun _ c => ?_)
 replace c := c.gm [BX b1 34 [I p0.W, I p0.Mem, I p0.In, L ga0 p0.Code gc1], BX b2 38 [I p1.Pc, L ga2 p1.Regs gc3, L ga4 p1.Mem gc5, L ga6 p1.Stack gc7, I p1.In, L ga8 p1.Out gc9, I p1.Code, I p1.Steps, L ga10 p1.Cond gc11, L ga12 p1.Turns gc13], BX b3 56 [I 0, L none ([] : List Int) 0, L none ([] : List Int) 0, L none ([] : List Int) 0, I 0, L none ([] : List Int) 0, I 0, I 0], sl89 (L i1.1 x2 i1.2) x2, sl3 (L i2.1 x3.1 i2.2) x3.1, sl3 (L i3.1 x4.1 i3.2) x4.1, sl3 (L i4.1 x5.1 i4.2) x5.1]
 refine Ess 2 [I 0, L none ([] : List Int) 0, L none ([] : List Int) 0, L none ([] : List Int) 0, I 0, L none ([] : List Int) 0, I 0, I 0] c fun _ c => ?_
 refine Fp [] 1 c fun _ c => E0 ?_
 replace c := c.nil (α := Int) 3
 replace c := c.nil (α := Int) 3
 replace c := c.nil (α := Int) 3
 replace c := c.nil (α := Int) 3
 cases h
 exact wp_ret (tr (Rg c (none, 0, none, 0, none, 0, none, 0) [7, 8, 9, 10] [] (.cell (α := Agg 7) ⟨by kernel_rfl, by kernel_rfl⟩ (.b 2) (.tmp .nil))))
 refine K0 (Bd h fun x6 hx6 h => S0 (wp_ra mix (rM 15 [(4, Pd.l0), (7, Pd.nw c.wd 7 (fun i : Option Addr × Nat => L i.1 x6 i.2) (fun i => SL 3 (L i.1 x6 i.2) x6))] [(1, 1), (6, 1), (9, 1), (12, 1), (14, 1)] c (fun ow => ⟨np_tO ow (Nl0 3 c), Nap0 c 4 (atM 4 (p := .l0)) (.f 3) (kN hx6), trivial⟩) fun ow _ _ hE hc c1 => ?_)))
 obtain ⟨i5, hi5⟩ := hE.nw 7 63
 replace c := Cx.newt c hc c1 [(7, 63, _, _)] ⟨hi5, trivial⟩
 refine Fp [] 1 c fun _ c => ?_
 replace c := c.gm [BX b1 34 [I p0.W, I p0.Mem, I p0.In, L ga0 p0.Code gc1], BX b2 38 [I p1.Pc, L ga2 p1.Regs gc3, L ga4 p1.Mem gc5, L ga6 p1.Stack gc7, I p1.In, L ga8 p1.Out gc9, I p1.Code, I p1.Steps, L ga10 p1.Cond gc11, L ga12 p1.Turns gc13], BX b3 56 [I 0, L none ([] : List Int) 0, L none ([] : List Int) 0, L none ([] : List Int) 0, I 0, L none ([] : List Int) 0, I 0, I 0], sl89 (L i1.1 x2 i1.2) x2, sl3 (L i2.1 x3.1 i2.2) x3.1, sl3 (L i3.1 x4.1 i3.2) x4.1, sl3 (L i4.1 x5.1 i4.2) x5.1, sl3 (L i5.1 x6 i5.2) x6]
 refine Ess 2 [I p1.Pc, L i2.1 x3.1 i2.2, L i3.1 x4.1 i3.2, L i5.1 x6 i5.2, I p1.In, L i4.1 x5.1 i4.2, I p1.Code, I p1.Steps] c fun _ c => ?_
 refine Fp [] 1 c fun _ c => E0 ?_
 cases h
 exact wp_ret (Rg c (i2.1, i2.2, i3.1, i3.2, i5.1, i5.2, i4.1, i4.2) [4, 5, 7, 6] [] (.cell (α := Agg 7) ⟨by kernel_rfl, by kernel_rfl⟩ (.b 2) (.tmp .nil)))

theorem impl_shapeOk_ok {p0 : Int} {p1 : Int} {r : Bool} (h : impl_shapeOk p0 p1 = some r) : Con Tryz.prog 78 [I p0, I p1] [] [] fun (_ : Unit) => ([.bool r], [], []) := by
 unfold impl_shapeOk at h
 refine En Tryz.func78 rfl Tryz.ntmps78 fun _ fr w c => ?_
 refine P0 [] c fun _ c => S0 (Ry [] mix c fun _ _ c => ?_)
 cases h
 exact wp_ret (Rt c () [] [])

theorem impl_isWidth_ok {p0 : Int} {r : Bool} (h : impl_isWidth p0 = some r) : Con Tryz.prog 102 [I p0] [] [] fun (_ : Unit) => ([.bool r], [], []) := by
 unfold impl_isWidth at h
 refine En Tryz.func102 rfl Tryz.ntmps102 fun _ fr w c => ?_
 refine P0 [] c fun _ c => S0 (Ry [] mix c fun _ _ c => ?_)
 cases h
 exact wp_ret (Rt c () [] [])

theorem impl_WordOk_ok {p0 : Int} {p1 : Int} {r : Bool} (h : impl_WordOk p0 p1 = some r) : Con Tryz.prog 79 [I p0, I p1] [] [] fun (_ : Unit) => ([.bool r], [], []) := by
 unfold impl_WordOk at h
 refine En Tryz.func79 rfl Tryz.ntmps79 fun _ fr w c => ?_
 refine P0 [] c fun _ c => Bd h fun x1 hx1 h => Bd h fun x2 hx2 h => S0 (rZ [(1, .eq (.bool x1)), (10, .eq (I x2))] [] mix c ⟨Ncl c (kN (impl_isWidth_ok hx1)) trivial Tryz.call102, Nshl c (gT hx2), trivial⟩ fun _ _ c => ?_)
 cases h
 exact wp_ret (Rt c () [] [])

theorem impl_isReg_ok {p0 : Int} {r : Bool} (h : impl_isReg p0 = some r) : Con Tryz.prog 103 [I p0] [] [] fun (_ : Unit) => ([.bool r], [], []) := by
 unfold impl_isReg at h
 refine En Tryz.func103 rfl Tryz.ntmps103 fun _ fr w c => ?_
 refine P0 [] c fun _ c => S0 (Ry [] mix c fun _ _ c => ?_)
 cases h
 exact wp_ret (Rt c () [] [])

theorem impl_isTwoWords_ok {p0 : Int} {r : Bool} (h : impl_isTwoWords p0 = some r) : Con Tryz.prog 104 [I p0] [] [] fun (_ : Unit) => ([.bool r], [], []) := by
 unfold impl_isTwoWords at h
 refine En Tryz.func104 rfl Tryz.ntmps104 fun _ fr w c => ?_
 refine P0 [] c fun _ c => S0 (Ry [] mix c fun _ _ c => ?_)
 cases h
 exact wp_ret (Rt c () [] [])

theorem impl_insOk_ok {p0 : D.Ins} {p1 : Int} {p2 : Int} {r : Bool} (h : impl_insOk p0 p1 p2 = some r) : Con Tryz.prog 80 [.agg #[I p0.Op, I p0.A, I p0.B, I p0.C], I p1, I p2] [] [] fun (_ : Unit) => ([.bool r], [], []) := by
 unfold impl_insOk at h
 refine En Tryz.func80 rfl Tryz.ntmps80 fun _ fr w c => ?_
 refine T0 (Ebx [I p0.Op, I p0.A, I p0.B, I p0.C] c fun b1 _ _ c => ?_)
 refine Fp [] 1 c fun _ c => E0 (S0 (Ry [(1, 0), (5, 0)] mix c fun _ _ c => S0 (P0 [(1, 0)] c fun _ c => I0 c h (fun h => ?_) fun h => ?_)))
 refine Bd h fun x1 hx1 h => Bd h fun x2 hx2 h => Bd h fun x3 hx3 h => S0 (rZ [(2, .eq (.bool x1)), (6, .eq (.bool x2)), (11, .eq (.bool x3))] [(1, 0), (5, 0), (10, 0)] mix c ⟨Ncl c (kN (impl_isReg_ok hx1)) trivial Tryz.call103, Ncl c (fun hg => impl_isReg_ok (iteT (gcT hg) hx2)) trivial Tryz.call103, Ncl c (fun hg => impl_isTwoWords_ok (iteT (gcT hg) hx3)) trivial Tryz.call104, trivial⟩ fun _ _ c => ?_)
 cases h
 exact wp_ret (tr (Rt c () [] []))
 refine K0 (S0 (P0 [(1, 0)] c fun _ c => I0 c h (fun h => ?_) fun h => ?_))
 refine P0 [] c fun _ c => ?_
 obtain rfl := sj h
 exact wp_ret (tr (Rt c () [] []))
 refine K0 (S0 (P0 [(1, 0)] c fun _ c => wp_block (P0 [] c fun _ c => I0 c h (fun h => ?_) fun h => ?_)))
 refine Bd h fun x4 hx4 h => Bd h fun x5 hx5 h => S0 (rZ [(2, .eq (.bool x4)), (7, .eq (.bool x5))] [(1, 0), (6, 0)] mix c ⟨Ncl c (kN (impl_isReg_ok hx4)) trivial Tryz.call103, Ncl c (fun hg => impl_WordOk_ok (iteT (gcT hg) hx5)) trivial Tryz.call79, trivial⟩ fun _ _ c => ?_)
 cases h
 exact wp_ret (br (tr (Rt c () [] [])))
 refine S0 (P0 [] c fun _ c => I0 c h (fun h => ?_) fun h => ?_)
 refine K0 (I0 c h (fun h => ?_) fun h => ?_)
 refine Bd h fun x6 hx6 h => Bd h fun x7 hx7 h => S0 (rZ [(2, .eq (.bool x6)), (6, .eq (.bool x7))] [(1, 0), (5, 0)] mix c ⟨Ncl c (kN (impl_isReg_ok hx6)) trivial Tryz.call103, Ncl c (fun hg => impl_isReg_ok (iteT (gcT hg) hx7)) trivial Tryz.call103, trivial⟩ fun _ _ c => ?_)
 cases h
 exact wp_ret (br (tr (Rt c () [] [])))
 refine S0 (P0 [] c fun _ c => I0 c h (fun h => ?_) fun h => ?_)
 refine K0 (I0 c h (fun h => ?_) fun h => ?_)
 refine Bd h fun x8 hx8 h => S0 (rZ [(2, .eq (.bool x8))] [(1, 0), (5, 0)] mix c ⟨Ncl c (kN (impl_isReg_ok hx8)) trivial Tryz.call103, trivial⟩ fun _ _ c => ?_)
 cases h
 exact wp_ret (br (tr (Rt c () [] [])))
 refine S0 (P0 [] c fun _ c => Mp (p0.Op == 9) [(74, .bool (p0.Op == 9))] [(74, .bool (p0.Op == 11))] [(74, .bool ((p0.Op == 9) || (p0.Op == 11)))] [74, 76] c fun _ c => I0 c h (fun h => ?_) fun h => ?_)
 refine S0 (Ry [(1, 0)] mix c fun _ _ c => ?_)
 cases h
 exact wp_ret (br (tr (Rt c () [] [])))
 refine P0 [] c fun _ c => I0 c h (fun h => ?_) fun h => ?_
 refine Bd h fun x9 hx9 h => S0 (rZ [(2, .eq (.bool x9))] [(1, 0)] mix c ⟨Ncl c (kN (impl_isReg_ok hx9)) trivial Tryz.call103, trivial⟩ fun _ _ c => ?_)
 cases h
 exact wp_ret (br (tr (Rt c () [] [])))
 refine S0 (P0 [] c fun _ c => Mp (p0.Op == 12) [(91, .bool (p0.Op == 12))] [(91, .bool (p0.Op == 14))] [(91, .bool ((p0.Op == 12) || (p0.Op == 14)))] [91, 93] c fun _ c => I0 c h (fun h => ?_) fun h => ?_)
 refine S0 (Ry [(1, 0), (5, 0)] mix c fun _ _ c => ?_)
 cases h
 exact wp_ret (br (tr (Rt c () [] [])))
 refine K1 (bk (tn (P0 [] c fun _ c => ?_)))
 obtain rfl := sj h
 exact wp_ret (Rt c () [] [])
 refine P0 [] c fun _ c => I0 c h (fun h => ?_) fun h => ?_
 refine K0 (I0 c h (fun h => ?_) fun h => ?_)
 refine Bd h fun x10 hx10 h => S0 (rZ [(2, .eq (.bool x10))] [(1, 0), (5, 0)] mix c ⟨Ncl c (kN (impl_isReg_ok hx10)) trivial Tryz.call103, trivial⟩ fun _ _ c => ?_)
 cases h
 exact wp_ret (br (tr (Rt c () [] [])))
 refine S0 (P0 [] c fun _ c => Mp (p0.Op == 9) [(74, .bool (p0.Op == 9))] [(74, .bool (p0.Op == 11))] [(74, .bool ((p0.Op == 9) || (p0.Op == 11)))] [74, 76] c fun _ c => I0 c h (fun h => ?_) fun h => ?_)
 refine S0 (Ry [(1, 0)] mix c fun _ _ c => ?_)
 cases h
 exact wp_ret (br (tr (Rt c () [] [])))
 refine P0 [] c fun _ c => I0 c h (fun h => ?_) fun h => ?_
 refine Bd h fun x11 hx11 h => S0 (rZ [(2, .eq (.bool x11))] [(1, 0)] mix c ⟨Ncl c (kN (impl_isReg_ok hx11)) trivial Tryz.call103, trivial⟩ fun _ _ c => ?_)
 cases h
 exact wp_ret (br (tr (Rt c () [] [])))
 refine S0 (P0 [] c fun _ c => Mp (p0.Op == 12) [(91, .bool (p0.Op == 12))] [(91, .bool (p0.Op == 14))] [(91, .bool ((p0.Op == 12) || (p0.Op == 14)))] [91, 93] c fun _ c => I0 c h (fun h => ?_) fun h => ?_)
 refine S0 (Ry [(1, 0), (5, 0)] mix c fun _ _ c => ?_)
 cases h
 exact wp_ret (br (tr (Rt c () [] [])))
 refine K1 (bk (tn (P0 [] c fun _ c => ?_)))
 obtain rfl := sj h
 exact wp_ret (Rt c () [] [])
 refine P0 [] c fun _ c => Mp (p0.Op == 6) [(61, .bool (p0.Op == 6))] [(61, .bool (p0.Op == 13))] [(61, .bool ((p0.Op == 6) || (p0.Op == 13)))] [61, 65] c fun _ c => I0 c h (fun h => ?_) fun h => ?_
 refine Bd h fun x12 hx12 h => S0 (rZ [(2, .eq (.bool x12))] [(1, 0), (5, 0)] mix c ⟨Ncl c (kN (impl_isReg_ok hx12)) trivial Tryz.call103, trivial⟩ fun _ _ c => ?_)
 cases h
 exact wp_ret (br (tr (Rt c () [] [])))
 refine S0 (P0 [] c fun _ c => Mp (p0.Op == 9) [(74, .bool (p0.Op == 9))] [(74, .bool (p0.Op == 11))] [(74, .bool ((p0.Op == 9) || (p0.Op == 11)))] [74, 76] c fun _ c => I0 c h (fun h => ?_) fun h => ?_)
 refine S0 (Ry [(1, 0)] mix c fun _ _ c => ?_)
 cases h
 exact wp_ret (br (tr (Rt c () [] [])))
 refine P0 [] c fun _ c => I0 c h (fun h => ?_) fun h => ?_
 refine Bd h fun x13 hx13 h => S0 (rZ [(2, .eq (.bool x13))] [(1, 0)] mix c ⟨Ncl c (kN (impl_isReg_ok hx13)) trivial Tryz.call103, trivial⟩ fun _ _ c => ?_)
 cases h
 exact wp_ret (br (tr (Rt c () [] [])))
 refine S0 (P0 [] c fun _ c => Mp (p0.Op == 12) [(91, .bool (p0.Op == 12))] [(91, .bool (p0.Op == 14))] [(91, .bool ((p0.Op == 12) || (p0.Op == 14)))] [91, 93] c fun _ c => I0 c h (fun h => ?_) fun h => ?_)
 refine S0 (Ry [(1, 0), (5, 0)] mix c fun _ _ c => ?_)
 cases h
 exact wp_ret (br (tr (Rt c () [] [])))
 refine K1 (bk (tn (P0 [] c fun _ c => ?_)))
 obtain rfl := sj h
 exact wp_ret (Rt c () [] [])
 refine P0 [] c fun _ c => Mp (p0.Op == 7) [(49, .bool (p0.Op == 7))] [(49, .bool (p0.Op == 8))] [(49, .bool ((p0.Op == 7) || (p0.Op == 8)))] [49, 52] c fun _ c => I0 c h (fun h => ?_) fun h => ?_
 refine Bd h fun x14 hx14 h => Bd h fun x15 hx15 h => S0 (rZ [(2, .eq (.bool x14)), (6, .eq (.bool x15))] [(1, 0), (5, 0)] mix c ⟨Ncl c (kN (impl_isReg_ok hx14)) trivial Tryz.call103, Ncl c (fun hg => impl_isReg_ok (iteT (gcT hg) hx15)) trivial Tryz.call103, trivial⟩ fun _ _ c => ?_)
 cases h
 exact wp_ret (br (tr (Rt c () [] [])))
 refine S0 (P0 [] c fun _ c => I0 c h (fun h => ?_) fun h => ?_)
 refine K0 (I0 c h (fun h => ?_) fun h => ?_)
 refine Bd h fun x16 hx16 h => S0 (rZ [(2, .eq (.bool x16))] [(1, 0), (5, 0)] mix c ⟨Ncl c (kN (impl_isReg_ok hx16)) trivial Tryz.call103, trivial⟩ fun _ _ c => ?_)
 cases h
 exact wp_ret (br (tr (Rt c () [] [])))
 refine S0 (P0 [] c fun _ c => Mp (p0.Op == 9) [(74, .bool (p0.Op == 9))] [(74, .bool (p0.Op == 11))] [(74, .bool ((p0.Op == 9) || (p0.Op == 11)))] [74, 76] c fun _ c => I0 c h (fun h => ?_) fun h => ?_)
 refine S0 (Ry [(1, 0)] mix c fun _ _ c => ?_)
 cases h
 exact wp_ret (br (tr (Rt c () [] [])))
 refine P0 [] c fun _ c => I0 c h (fun h => ?_) fun h => ?_
 refine Bd h fun x17 hx17 h => S0 (rZ [(2, .eq (.bool x17))] [(1, 0)] mix c ⟨Ncl c (kN (impl_isReg_ok hx17)) trivial Tryz.call103, trivial⟩ fun _ _ c => ?_)
 cases h
 exact wp_ret (br (tr (Rt c () [] [])))
 refine S0 (P0 [] c fun _ c => Mp (p0.Op == 12) [(91, .bool (p0.Op == 12))] [(91, .bool (p0.Op == 14))] [(91, .bool ((p0.Op == 12) || (p0.Op == 14)))] [91, 93] c fun _ c => I0 c h (fun h => ?_) fun h => ?_)
 refine S0 (Ry [(1, 0), (5, 0)] mix c fun _ _ c => ?_)
 cases h
 exact wp_ret (br (tr (Rt c () [] [])))
 refine K1 (bk (tn (P0 [] c fun _ c => ?_)))
 obtain rfl := sj h
 exact wp_ret (Rt c () [] [])
 refine P0 [] c fun _ c => I0 c h (fun h => ?_) fun h => ?_
 refine K0 (I0 c h (fun h => ?_) fun h => ?_)
 refine Bd h fun x18 hx18 h => S0 (rZ [(2, .eq (.bool x18))] [(1, 0), (5, 0)] mix c ⟨Ncl c (kN (impl_isReg_ok hx18)) trivial Tryz.call103, trivial⟩ fun _ _ c => ?_)
 cases h
 exact wp_ret (br (tr (Rt c () [] [])))
 refine S0 (P0 [] c fun _ c => Mp (p0.Op == 9) [(74, .bool (p0.Op == 9))] [(74, .bool (p0.Op == 11))] [(74, .bool ((p0.Op == 9) || (p0.Op == 11)))] [74, 76] c fun _ c => I0 c h (fun h => ?_) fun h => ?_)
 refine S0 (Ry [(1, 0)] mix c fun _ _ c => ?_)
 cases h
 exact wp_ret (br (tr (Rt c () [] [])))
 refine P0 [] c fun _ c => I0 c h (fun h => ?_) fun h => ?_
 refine Bd h fun x19 hx19 h => S0 (rZ [(2, .eq (.bool x19))] [(1, 0)] mix c ⟨Ncl c (kN (impl_isReg_ok hx19)) trivial Tryz.call103, trivial⟩ fun _ _ c => ?_)
 cases h
 exact wp_ret (br (tr (Rt c () [] [])))
 refine S0 (P0 [] c fun _ c => Mp (p0.Op == 12) [(91, .bool (p0.Op == 12))] [(91, .bool (p0.Op == 14))] [(91, .bool ((p0.Op == 12) || (p0.Op == 14)))] [91, 93] c fun _ c => I0 c h (fun h => ?_) fun h => ?_)
 refine S0 (Ry [(1, 0), (5, 0)] mix c fun _ _ c => ?_)
 cases h
 exact wp_ret (br (tr (Rt c () [] [])))
 refine K1 (bk (tn (P0 [] c fun _ c => ?_)))
 obtain rfl := sj h
 exact wp_ret (Rt c () [] [])
 refine P0 [] c fun _ c => Mp (p0.Op == 6) [(61, .bool (p0.Op == 6))] [(61, .bool (p0.Op == 13))] [(61, .bool ((p0.Op == 6) || (p0.Op == 13)))] [61, 65] c fun _ c => I0 c h (fun h => ?_) fun h => ?_
 refine Bd h fun x20 hx20 h => S0 (rZ [(2, .eq (.bool x20))] [(1, 0), (5, 0)] mix c ⟨Ncl c (kN (impl_isReg_ok hx20)) trivial Tryz.call103, trivial⟩ fun _ _ c => ?_)
 cases h
 exact wp_ret (br (tr (Rt c () [] [])))
 refine S0 (P0 [] c fun _ c => Mp (p0.Op == 9) [(74, .bool (p0.Op == 9))] [(74, .bool (p0.Op == 11))] [(74, .bool ((p0.Op == 9) || (p0.Op == 11)))] [74, 76] c fun _ c => I0 c h (fun h => ?_) fun h => ?_)
 refine S0 (Ry [(1, 0)] mix c fun _ _ c => ?_)
 cases h
 exact wp_ret (br (tr (Rt c () [] [])))
 refine P0 [] c fun _ c => I0 c h (fun h => ?_) fun h => ?_
 refine Bd h fun x21 hx21 h => S0 (rZ [(2, .eq (.bool x21))] [(1, 0)] mix c ⟨Ncl c (kN (impl_isReg_ok hx21)) trivial Tryz.call103, trivial⟩ fun _ _ c => ?_)
 cases h
 exact wp_ret (br (tr (Rt c () [] [])))
 refine S0 (P0 [] c fun _ c => Mp (p0.Op == 12) [(91, .bool (p0.Op == 12))] [(91, .bool (p0.Op == 14))] [(91, .bool ((p0.Op == 12) || (p0.Op == 14)))] [91, 93] c fun _ c => I0 c h (fun h => ?_) fun h => ?_)
 refine S0 (Ry [(1, 0), (5, 0)] mix c fun _ _ c => ?_)
 cases h
 exact wp_ret (br (tr (Rt c () [] [])))
 refine K1 (bk (tn (P0 [] c fun _ c => ?_)))
 obtain rfl := sj h
 exact wp_ret (Rt c () [] [])

theorem impl_ProgramOk_ok {n : Nat} {p0 : D.Program} {ga0 : Option Addr} {gc1 : Nat} {r : Bool} (h : impl_ProgramOk n p0 = some r) : Con Tryz.prog 59 [.agg #[I p0.W, I p0.Mem, I p0.In, L ga0 p0.Code gc1]] [] [RO (L ga0 p0.Code gc1) p0.Code] fun (_ : Unit) => ([.bool r], [], []) := by
 unfold impl_ProgramOk at h
 refine En Tryz.func59 rfl Tryz.ntmps59 fun _ fr w c => ?_
 refine T0 (Ebx [I p0.W, I p0.Mem, I p0.In, L ga0 p0.Code gc1] c fun b1 _ _ c => ?_)
 refine Fp [] 1 c fun _ c => E0 (S0 (Bd h fun x1 hx1 h => Bd h fun x2 hx2 h => S0 (rZ [(5, .eq (.bool x1)), (22, .eq (.bool x2))] [(1, 0), (3, 0), (9, 0), (14, 0), (19, 0), (21, 0)] mix c ⟨Ncl c (kN (impl_shapeOk_ok hx1)) trivial Tryz.call78, Ncl c (fun hg => impl_WordOk_ok (iteF (gcF hg) hx2)) trivial Tryz.call79, trivial⟩ fun _ _ c => I0 c h (fun h => ?_) fun h => ?_)))
 refine P0 [] c fun _ c => ?_
 obtain rfl := sj h
 exact wp_ret (tr (Rt c () [] []))
 refine K0 (S0 (S0 (Ry [(1, 0), (5, 0)] mix c fun _ _ c => I0 c h (fun h => ?_) fun h => ?_)))
 refine P0 [] c fun _ c => ?_
 obtain rfl := sj h
 exact wp_ret (tr (Rt c () [] []))
 refine K0 (S0 (P0 [(1, 0)] c fun _ c => Bd h fun rl1 hit1 h => ?_))
 have hk1 := h
 refine LpR (fun s1  (_ : Unit) => ([(1, B b1 0), (39, L ga0 p0.Code gc1), (40, I (len p0.Code)), (41, I s1)], id, [])) (fun s  (_ : Unit) => ([], id, [])) hit1 c () (c.re [0] [0]) (fun s1 q1 _ _ _ c h hr1 => ?_) fun s1r _ _ _ hrl c => ?_
 refine P0 [] c fun _ c => S0 (I0 c h (fun h => ?_) fun h => ?_)
 refine K0 (S0 (wp_block (T0 (Bd h fun x3 hx3 h => Eel c (.f 0) hx3 fun _ _ c => ?_))))
 refine Eal [I 0, I 0, I 0, I 0] c fun b2 _ _ c => ?_
 refine Ess 1 [I x3.Op, I x3.A, I x3.B, I x3.C] c fun _ c => ?_
 refine E0 (T0 (Fp [(0, 1), (2, 0), (4, 0)] 6 c fun _ c => Bd h fun x4 hx4 h => Ca [] c (impl_insOk_ok hx4) trivial Tryz.call80 fun _ _ _ c => ?_))
 refine Fp [] 1 c fun _ c => E0 (I0 c h (fun h => ?_) fun h => ?_)
 refine P0 [] c fun _ c => ?_
 obtain rfl := hr1 _ (Option.some.inj h).symm
 obtain rfl := Option.some.inj hk1
 exact wp_ret (br (tr (tr (br (tr (Rt c () [] []))))))
 refine K1 (bk (tn (P1 [] c fun _ c => Nx h () (c.re [0] [0]))))
 refine wp_exit (te (te (be ?_)))
 obtain rfl := hr1 _ (Option.some.inj h).symm
 exact tn ⟨_, (), rfl, c.re [0] [0]⟩
 subst hrl
 refine P0 [] c fun _ c => ?_
 obtain rfl := sj h
 exact wp_ret (Rt c () [] [])

theorem impl_isPlace_ok {p0 : D.Program} {p1 : Int} {ga0 : Option Addr} {gc1 : Nat} {r : Bool} (h : impl_isPlace p0 p1 = some r) : Con Tryz.prog 60 [.agg #[I p0.W, I p0.Mem, I p0.In, L ga0 p0.Code gc1], I p1] [] [RO (L ga0 p0.Code gc1) p0.Code] fun (_ : Unit) => ([.bool r], [], []) := by
 unfold impl_isPlace at h
 refine En Tryz.func60 rfl Tryz.ntmps60 fun _ fr w c => ?_
 refine T0 (Ebx [I p0.W, I p0.Mem, I p0.In, L ga0 p0.Code gc1] c fun b1 _ _ c => ?_)
 refine Fp [] 1 c fun _ c => E0 (S0 (Ry [(5, 0)] mix c fun _ _ c => ?_))
 cases h
 exact wp_ret (Rt c () [] [])

theorem impl_fuelOk_ok {p0 : Int} {r : Bool} (h : impl_fuelOk p0 = some r) : Con Tryz.prog 61 [I p0] [] [] fun (_ : Unit) => ([.bool r], [], []) := by
 unfold impl_fuelOk at h
 refine En Tryz.func61 rfl Tryz.ntmps61 fun _ fr w c => ?_
 refine P0 [] c fun _ c => S0 (Ry [] mix c fun _ _ c => ?_)
 cases h
 exact wp_ret (Rt c () [] [])

theorem impl_turnsOk_ok {n : Nat} {p0 : List Int} {ga0 : Option Addr} {gc1 : Nat} {r : Bool} (h : impl_turnsOk n p0 = some r) : Con Tryz.prog 62 [L ga0 p0 gc1] [] [RO (L ga0 p0 gc1) p0] fun (_ : Unit) => ([.bool r], [], []) := by
 unfold impl_turnsOk at h
 refine En Tryz.func62 rfl Tryz.ntmps62 fun _ fr w c => ?_
 refine P0 [] c fun _ c => S0 (P0 [] c fun _ c => Bd h fun rl1 hit1 h => ?_)
 have hk1 := h
 refine LpR (fun s1  (_ : Unit) => ([(5, L ga0 p0 gc1), (6, I (len p0)), (7, I s1)], id, [])) (fun s  (_ : Unit) => ([], id, [])) hit1 c () (c.re [] [0]) (fun s1 q1 _ _ _ c h hr1 => ?_) fun s1r _ _ _ hrl c => ?_
 refine P0 [] c fun _ c => S0 (I0 c h (fun h => ?_) fun h => ?_)
 refine K0 (S0 (wp_block (T0 (Bd h fun x1 hx1 h => Eel c (.f 0) hx1 fun _ _ c => ?_))))
 refine Fp [] 1 c fun _ c => E0 (S0 (Ry [] mix c fun _ _ c => I0 c h (fun h => ?_) fun h => ?_))
 refine P0 [] c fun _ c => ?_
 obtain rfl := hr1 _ (Option.some.inj h).symm
 obtain rfl := Option.some.inj hk1
 exact wp_ret (br (tr (tr (br (tr (Rt c () [] []))))))
 refine K1 (bk (tn (P1 [] c fun _ c => Nx h () (c.re [] [0]))))
 refine wp_exit (te (te (be ?_)))
 obtain rfl := hr1 _ (Option.some.inj h).symm
 exact tn ⟨_, (), rfl, c.re [] [0]⟩
 subst hrl
 refine P0 [] c fun _ c => ?_
 obtain rfl := sj h
 exact wp_ret (Rt c () [] [])

theorem impl_kidCount_ok {p0 : Int} {r : Int} (h : impl_kidCount p0 = some r) : Con Tryz.prog 106 [I p0] [] [] fun (_ : Unit) => ([I r], [], []) := by
 unfold impl_kidCount at h
 refine En Tryz.func106 rfl Tryz.ntmps106 fun _ fr w c => ?_
 refine P0 [] c fun _ c => S0 (wp_block (S0 (Ry [] mix c fun _ _ c => I0 c h (fun h => ?_) fun h => ?_)))
 refine P0 [] c fun _ c => ?_
 obtain rfl := sj h
 exact wp_ret (br (tr (Rt c () [] [])))
 refine S0 (Ry [] mix c fun _ _ c => I0 c h (fun h => ?_) fun h => ?_)
 refine P0 [] c fun _ c => ?_
 obtain rfl := sj h
 exact wp_ret (br (tr (Rt c () [] [])))
 refine S0 (Ry [] mix c fun _ _ c => I0 c h (fun h => ?_) fun h => ?_)
 refine P0 [] c fun _ c => ?_
 obtain rfl := sj h
 exact wp_ret (br (tr (Rt c () [] [])))
 refine P0 [] c fun _ c => I0 c h (fun h => ?_) fun h => ?_
 refine P0 [] c fun _ c => ?_
 obtain rfl := sj h
 exact wp_ret (br (tr (Rt c () [] [])))
 refine K1 (bk (tn (P0 [] c fun _ c => ?_)))
 cases h
 exact wp_ret (Rt c () [] [])

theorem impl_widthsFit_ok {p0 : D.Term} {ga0 : Option Addr} {gc1 : Nat} {r : Bool} (h : impl_widthsFit p0 = some r) : Con Tryz.prog 107 [.agg #[I p0.Op, I p0.W, I p0.N, Str.val p0.Name, L ga0 p0.Kids gc1]] [] [RO (L ga0 p0.Kids gc1) p0.Kids] fun (_ : Unit) => ([.bool r], [], []) := by
 unfold impl_widthsFit at h
 refine En Tryz.func107 rfl Tryz.ntmps107 fun _ fr w c => ?_
 refine T0 (Ebx [I p0.Op, I p0.W, I p0.N, Str.val p0.Name, L ga0 p0.Kids gc1] c fun b1 _ _ c => ?_)
 refine Fp [] 1 c fun _ c => E0 (P0 [(1, 0)] c fun _ c => S0 (wp_block (S0 (Ry [(1, 0), (5, 0)] mix c fun _ _ c => I0 c h (fun h => ?_) fun h => ?_))))
 refine P0 [] c fun _ c => ?_
 obtain rfl := sj h
 exact wp_ret (br (tr (Rt c () [] [])))
 refine S0 (Ry [(1, 0), (5, 0)] mix c fun _ _ c => I0 c h (fun h => ?_) fun h => ?_)
 refine Bd h fun x1 hx1 h => ?_
 obtain ⟨ep1, u1, c⟩ := c.elp (.f 0) hx1
 obtain ⟨a1, c1, rfl, c⟩ := c.o_Term 2
 refine S0 (rZ [(1, .eq (.pointer (some ep1))), (3, .eq (I x1.W))] [(5, 0)] mix c ⟨Nie c 1, Nlc c 1 1, trivial⟩ fun _ _ c => ?_)
 cases h
 exact wp_ret (br (tr (Rt c () [] [])))
 refine S0 (Ry [(1, 0), (5, 0)] mix c fun _ _ c => I0 c h (fun h => ?_) fun h => ?_)
 refine Bd h fun x2 hx2 h => ?_
 obtain ⟨ep2, u2, c⟩ := c.elp (.f 0) hx2
 obtain ⟨a2, c2, rfl, c⟩ := c.o_Term 2
 refine Bd h fun x3 hx3 h => S0 (rZ [(1, .eq (.pointer (some ep2))), (3, .eq (I x2.W)), (9, Pd.el (x3 : D.Term)), (10, Pd.fl (I x3.W)), (11, .eq (I x3.W))] [(5, 0), (13, 0)] mix c ⟨Nie c 1, Nlc c 1 1, Nid c (.f 0) (gT hx3), Nfa c 9 (atN 9) fc75_1, Nlf c 10 (atN 10), trivial⟩ fun _ _ c => ?_)
 cases h
 exact wp_ret (br (tr (Rt c () [] [])))
 refine S0 (Ry [(1, 0), (5, 0)] mix c fun _ _ c => I0 c h (fun h => ?_) fun h => ?_)
 refine Bd h fun x4 hx4 h => ?_
 obtain ⟨ep3, u3, c⟩ := c.elp (.f 0) hx4
 obtain ⟨a3, c3, rfl, c⟩ := c.o_Term 2
 refine Bd h fun x5 hx5 h => ?_
 obtain ⟨ep4, u4, c⟩ := c.elp (.f 0) hx5
 obtain ⟨a4, c4, rfl, c⟩ := c.o_Term 5
 refine S0 (rZ [(1, .eq (.pointer (some ep3))), (3, .eq (I x4.W)), (5, .eq (.pointer (some ep4))), (7, .eq (I x5.W))] [(11, 0)] mix c ⟨Nie c 1, Nlc c 1 1, Nie c 4, Nlc c 4 1, trivial⟩ fun _ _ c => ?_)
 cases h
 exact wp_ret (br (tr (Rt c () [] [])))
 refine P0 [(1, 0)] c fun _ c => I0 c h (fun h => ?_) fun h => ?_
 refine Bd h fun x6 hx6 h => ?_
 obtain ⟨ep5, u5, c⟩ := c.elp (.f 0) hx6
 obtain ⟨a5, c5, rfl, c⟩ := c.o_Term 2
 refine Bd h fun x7 hx7 h => Bd h fun x8 hx8 h => S0 (rZ [(1, .eq (.pointer (some ep5))), (3, .eq (I x6.W)), (7, Pd.el (x7 : D.Term)), (8, Pd.fl (I x7.W)), (9, .eq (I x7.W)), (16, Pd.el (x8 : D.Term)), (17, Pd.fl (I x8.W)), (18, .eq (I x8.W))] [(11, 0), (20, 0)] mix c ⟨Nie c 1, Nlc c 1 1, Nid c (.f 0) (gT hx7), Nfa c 7 (atN 7) fc75_1, Nlf c 8 (atN 8), Nid c (.f 0) (gT hx8), Nfa c 16 (atN 16) fc75_1, Nlf c 17 (atN 17), trivial⟩ fun _ _ c => ?_)
 cases h
 exact wp_ret (br (tr (Rt c () [] [])))
 refine P0 [(1, 0)] c fun _ c => I0 c h (fun h => ?_) fun h => ?_
 refine Bd h fun x9 hx9 h => ?_
 obtain ⟨ep6, u6, c⟩ := c.elp (.f 0) hx9
 obtain ⟨a6, c6, rfl, c⟩ := c.o_Term 2
 refine Bd h fun x10 hx10 h => ?_
 obtain ⟨ep7, u7, c⟩ := c.elp (.f 0) hx10
 obtain ⟨a7, c7, rfl, c⟩ := c.o_Term 5
 refine S0 (rZ [(1, .eq (.pointer (some ep6))), (3, .eq (I x9.W)), (5, .eq (.pointer (some ep7))), (7, .eq (I x10.W))] [(10, 0)] mix c ⟨Nie c 1, Nlc c 1 1, Nie c 4, Nlc c 4 1, trivial⟩ fun _ _ c => ?_)
 cases h
 exact wp_ret (br (tr (Rt c () [] [])))
 refine P0 [(1, 0)] c fun _ c => I0 c h (fun h => ?_) fun h => ?_
 refine Bd h fun x11 hx11 h => S0 (rZ [(7, Pd.el (x11 : D.Term)), (8, Pd.fl (I x11.W)), (9, .eq (I x11.W))] [(1, 0), (5, 0), (11, 0)] mix c ⟨Nid c (.f 0) (gT hx11), Nfa c 7 (atN 7) fc75_1, Nlf c 8 (atN 8), trivial⟩ fun _ _ c => ?_)
 cases h
 exact wp_ret (br (tr (Rt c () [] [])))
 refine K1 (bk (tn (Bd h fun x12 hx12 h => ?_)))
 obtain ⟨ep8, u8, c⟩ := c.elp (.f 0) hx12
 obtain ⟨a8, c8, rfl, c⟩ := c.o_Term 2
 refine S0 (rZ [(1, .eq (.pointer (some ep8))), (3, .eq (I x12.W))] [(5, 0)] mix c ⟨Nie c 1, Nlc c 1 1, trivial⟩ fun _ _ c => ?_)
 cases h
 exact wp_ret (Rt c () [] [])

theorem impl_IsName_ok {n : Nat} {p0 : Str} {r : Bool} (h : impl_IsName n p0 = some r) : Con Tryz.prog 83 [Str.val p0] [] [] fun (_ : Unit) => ([.bool r], [], []) := by
 unfold impl_IsName at h
 refine En Tryz.func83 rfl Tryz.ntmps83 fun _ fr w c => ?_
 refine P0 [] c fun _ c => S0 (S0 (Ry [] mix c fun _ _ c => I0 c h (fun h => ?_) fun h => ?_))
 refine P0 [] c fun _ c => ?_
 obtain rfl := sj h
 exact wp_ret (tr (Rt c () [] []))
 refine K0 (S0 (P0 [] c fun _ c => Bd h fun rl1 hit1 h => ?_))
 have hk1 := h
 refine LpR (fun s1  (_ : Unit) => ([(0, Str.val p0), (3, I s1)], id, [])) (fun s  (_ : Unit) => ([], id, [])) hit1 c () (c.re [] []) (fun s1 q1 _ _ _ c h hr1 => ?_) fun s1r _ _ _ hrl c => ?_
 refine S0 (P0 [] c fun _ c => I0 c h (fun h => ?_) fun h => ?_)
 refine K0 (S0 (wp_block (Bd h fun x1 hx1 h => Bd h fun x2 hx2 h => S0 (rZ [(2, .eq (.int .u8 x1)), (7, .eq (.int .u8 x2))] [] mix c ⟨Nix c (kN hx1), Nix c (gT hx2), trivial⟩ fun _ _ c => Bd h fun x3 hx3 h => Bd h fun x4 hx4 h => S0 (rZ [(2, .eq (.int .u8 x3)), (7, .eq (.int .u8 x4))] [] mix c ⟨Nix c (kN hx3), Nix c (gT hx4), trivial⟩ fun _ _ c => T0 (Fp [] 1 c fun _ c => Fp [] 1 c fun _ c => Fp [] 1 c fun _ c => ?_))))))
 rcases ite_split (b := (!((decide (x1 ≥ 97)) && (decide (x2 ≤ 122))))) h with ⟨hg1, h⟩ | ⟨hg1, h⟩
 replace c := c.eqs (v := .bool (!((decide (x1 ≥ 97)) && (decide (x2 ≤ 122))))) (u := .bool true) 42 (by rw [hg1])
 refine Gt c ?_
 dsimp only [List.set]
 refine Fp [] 1 c fun _ c => Gt c ?_
 dsimp only [List.set]
 refine Fp [] 1 c fun _ c => ?_
 rcases ite_split (b := ((decide (x3 ≥ 48)) && (decide (x4 ≤ 57)))) h with ⟨hg2, h⟩ | ⟨hg2, h⟩
 replace c := c.eqs (v := .bool ((decide (x3 ≥ 48)) && (decide (x4 ≤ 57)))) (u := .bool true) 44 (by rw [hg2])
 refine Gt c ?_
 dsimp only [List.set]
 refine Fp [] 1 c fun _ c => Gt c ?_
 dsimp only [List.set]
 refine Fp [] 1 c fun _ c => Gt c ?_
 dsimp only [List.set]
 refine Epk (b := true) (v := .bool (decide (s1 > 0))) c fun _ c => ?_
 refine Gt c ?_
 dsimp only [List.set]
 refine Fp [] 1 c fun _ c => Epk (b := true) (v := .bool (!(decide (s1 > 0)))) c fun _ c => ?_
 refine E0 (I0 c h (fun h => ?_) fun h => ?_)
 refine P0 [] c fun _ c => ?_
 obtain rfl := hr1 _ (Option.some.inj h).symm
 obtain rfl := Option.some.inj hk1
 exact wp_ret (br (tr (tr (br (tr (Rt c () [] []))))))
 refine K1 (bk (tn (P1 [] c fun _ c => Nx h () (c.re [] []))))
 replace c := c.eqs (v := .bool ((decide (x3 ≥ 48)) && (decide (x4 ≤ 57)))) (u := .bool false) 44 (by rw [hg2])
 refine Gs c fun _ c => ?_
 refine Gs c fun _ c => ?_
 refine Gt c ?_
 dsimp only [List.set]
 refine Epk (b := false) (v := .bool false) c fun _ c => ?_
 refine Gt c ?_
 dsimp only [List.set]
 refine Fp [] 1 c fun _ c => Epk (b := true) (v := .bool (!false)) c fun _ c => ?_
 refine E0 (I0 c h (fun h => ?_) fun h => ?_)
 refine P0 [] c fun _ c => ?_
 obtain rfl := hr1 _ (Option.some.inj h).symm
 obtain rfl := Option.some.inj hk1
 exact wp_ret (br (tr (tr (br (tr (Rt c () [] []))))))
 refine K1 (bk (tn (P1 [] c fun _ c => Nx h () (c.re [] []))))
 replace c := c.eqs (v := .bool (!((decide (x1 ≥ 97)) && (decide (x2 ≤ 122))))) (u := .bool false) 42 (by rw [hg1])
 refine Gs c fun _ c => ?_
 refine Gs c fun _ c => ?_
 refine Gu c fun _ c => ?_
 refine Gu c fun _ c => ?_
 refine Gs c fun _ c => ?_
 refine Gs c fun _ c => ?_
 refine Epk (b := false) (v := .bool false) c fun _ c => ?_
 refine E0 (I0 c h (fun h => ?_) fun h => ?_)
 refine P0 [] c fun _ c => ?_
 obtain rfl := hr1 _ (Option.some.inj h).symm
 obtain rfl := Option.some.inj hk1
 exact wp_ret (br (tr (tr (br (tr (Rt c () [] []))))))
 refine K1 (bk (tn (P1 [] c fun _ c => Nx h () (c.re [] []))))
 refine wp_exit (te (te (be ?_)))
 obtain rfl := hr1 _ (Option.some.inj h).symm
 exact tn ⟨_, (), rfl, c.re [] []⟩
 subst hrl
 refine P0 [] c fun _ c => ?_
 obtain rfl := sj h
 exact wp_ret (Rt c () [] [])

theorem impl_termCheck_variable_ok {n : Nat} {p0 : D.termCheck} {p1 : D.Term} {gb0 : Nat} {gu1 : Value} {ga2 : Option Addr} {gc3 : Nat} {r : Bool × D.termCheck} (h : impl_termCheck_variable n p0 p1 = some r) : Con Tryz.prog 108 [B gb0 0, .agg #[I p1.Op, I p1.W, I p1.N, Str.val p1.Name, L ga2 p1.Kids gc3]] [BX gb0 113 [I p0.count, gu1], OM map102 (gu1) p0.widths] [RO (L ga2 p1.Kids gc3) p1.Kids] fun (i : Value) => ([.bool r.1], [BX gb0 113 [I r.2.count, i], OM map102 (i) r.2.widths], []) := by
 unfold impl_termCheck_variable at h
 refine En Tryz.func108 rfl Tryz.ntmps108 fun _ fr w c => ?_
 refine T0 (Ebx [I p1.Op, I p1.W, I p1.N, Str.val p1.Name, L ga2 p1.Kids gc3] c fun b1 _ _ c => ?_)
 refine Fp [] 1 c fun _ c => E0 (S0 (T0 (Fp [(1, 1)] 2 c fun _ c => Bd h fun x1 hx1 h => Ca [] c (impl_IsName_ok hx1) trivial Tryz.call83 fun _ _ _ c => ?_)))
 refine Fp [] 1 c fun _ c => E0 (I0 c h (fun h => ?_) fun h => ?_)
 refine P0 [] c fun _ c => ?_
 cases h
 exact wp_ret (tr (Rt c (gu1) [0, 1] []))
 refine K0 (S0 (T0 (Fp [(3, 0)] 4 c fun _ c => Enm 1 c fun _ c => ?_)))
 refine E0 (If c (b := (Option.isNone p0.widths)) (fun hb => ?_) fun hb => ?_)
 replace h := iteT hb h
 obtain rfl := c.nom 1 hb
 replace c := c.dp [1]
 refine T1 (Fp [] 1 c fun _ c => Emm map102 c fun b2 _ _ c => ?_)
 refine Fp [] 2 c fun _ c => Esb 0 1 (.map (some b2)) c fun _ c => ?_
 refine E0 (S0 (Bd h fun x2 hx2 h => S0 (rZ [(6, .eq (.tuple #[I x2.1, .bool x2.2]))] [(3, 0), (5, 1)] mix c ⟨Nmg2 2 c (kN hx2), trivial⟩ fun _ _ c => P0 [] c fun _ c => I0 c h (fun h => ?_) fun h => ?_)))
 refine P0 [(2, 1)] c fun _ c => ?_
 replace c := c.om 2
 cases h
 exact wp_ret (tr (Rt c (.map (some b2)) [0, 2] []))
 refine K0 (S0 (wp_ra mix (rM 8 [] [(3, 0), (5, 1), (7, 1)] c (fun ow => trivial) fun _ _ _ _ _ c => Bd h fun x3 hx3 h => Emp 2 c hx3 fun _ c => ?_)))
 refine E0 (P0 [] c fun _ c => ?_)
 replace c := c.om 2
 cases h
 exact wp_ret (Rt c (.map (some b2)) [0, 2] [])
 replace h := iteF hb h
 obtain ⟨b3, rfl, c⟩ := c.som 1 hb
 refine K0 (S0 (Bd h fun x4 hx4 h => S0 (rZ [(6, .eq (.tuple #[I x4.1, .bool x4.2]))] [(3, 0), (5, 1)] mix c ⟨Nmg2 1 c (kN hx4), trivial⟩ fun _ _ c => P0 [] c fun _ c => I0 c h (fun h => ?_) fun h => ?_)))
 refine P0 [(2, 1)] c fun _ c => ?_
 replace c := c.om 1
 cases h
 exact wp_ret (tr (Rt c (.map (some b3)) [0, 1] []))
 refine K0 (S0 (wp_ra mix (rM 8 [] [(3, 0), (5, 1), (7, 1)] c (fun ow => trivial) fun _ _ _ _ _ c => Bd h fun x5 hx5 h => Emp 1 c hx5 fun _ c => ?_)))
 refine E0 (P0 [] c fun _ c => ?_)
 replace c := c.om 1
 cases h
 exact wp_ret (Rt c (.map (some b3)) [0, 1] [])

theorem impl_termCheck_node_ok {n : Nat} : ∀ {p0 : D.termCheck} {p1 : D.Term} {gb0 : Nat} {gu1 : Value} {ga2 : Option Addr} {gc3 : Nat} {r : Bool × D.termCheck} (h : impl_termCheck_node n p0 p1 = some r), Con Tryz.prog 82 [B gb0 0, .agg #[I p1.Op, I p1.W, I p1.N, Str.val p1.Name, L ga2 p1.Kids gc3]] [BX gb0 113 [I p0.count, gu1], OM map102 (gu1) p0.widths] [RO (L ga2 p1.Kids gc3) p1.Kids] fun (i : Value) => ([.bool r.1], [BX gb0 113 [I r.2.count, i], OM map102 (i) r.2.widths], []) := by
 induction n with
 | zero => intro p0 p1 gb0 gu1 ga2 gc3 r h; simp [impl_termCheck_node] at h
 | succ n ih =>
 intro p0 p1 gb0 gu1 ga2 gc3 r h
 rw [impl_termCheck_node] at h
 refine En Tryz.func82 rfl Tryz.ntmps82 fun _ fr w c => ?_
 refine T0 (Ebx [I p1.Op, I p1.W, I p1.N, Str.val p1.Name, L ga2 p1.Kids gc3] c fun b1 _ _ c => ?_)
 refine Fp [] 1 c fun _ c => E0 (T0 (Fp [(3, 0)] 7 c fun _ c => Esb 0 0 (I (w64 (p0.count + 1))) c fun _ c => ?_))
 refine E0 (S0 (Bd h fun x1 hx1 h => Bd h fun x2 hx2 h => S0 (rZ [(8, .eq (.bool x1)), (17, .eq (I x2))] [(3, 0), (7, 1), (13, 1), (16, 1)] mix c ⟨Ncl c (fun hg => impl_isWidth_ok (iteF (gcF hg) hx1)) trivial Tryz.call102, Ncl c (fun hg => impl_kidCount_ok (iteF (gcF hg) hx2)) trivial Tryz.call106, trivial⟩ fun _ _ c => I0 c h (fun h => ?_) fun h => ?_)))
 refine P0 [] c fun _ c => ?_
 cases h
 exact wp_ret (tr (Rt c (gu1) [0, 1] []))
 refine K0 (S0 (P0 [(1, 1)] c fun _ c => Bd h fun rl1 hit1 h => ?_))
 have hk1 := h
 refine LpR (fun s1  (_ : Unit) => ([(0, B gb0 0), (3, B b1 0), (36, I (len p1.Kids)), (37, I s1)], id, [])) (fun s  (_ : Unit) => ([(0, B gb0 0), (3, B b1 0)], id, [])) hit1 c () (c.re [0, 1, 2] [0]) (fun s1 q1 _ _ _ c h hr1 => ?_) fun s1r _ _ _ hrl c => ?_
 refine P0 [] c fun _ c => S0 (I0 c h (fun h => ?_) fun h => ?_)
 refine K0 (S0 (wp_block (P0 [] c fun _ c => T0 (Fp [(1, 1)] 3 c fun _ c => Bd h fun x3 hx3 h => Eef c (.f 0) hx3 fc75_1 fun _ _ _ c => ?_))))
 refine Bd h fun x4 hx4 h => Ca [] c (impl_isWidth_ok hx4) trivial Tryz.call102 fun _ _ _ c => ?_
 refine Fp [] 1 c fun _ c => E0 (I0 c h (fun h => ?_) fun h => ?_)
 refine P0 [] c fun _ c => ?_
 obtain rfl := hr1 _ (Option.some.inj h).symm
 obtain rfl := Option.some.inj hk1
 exact wp_ret (br (tr (tr (br (tr (Rt c (gu1) [0, 1] []))))))
 refine K1 (bk (tn (P1 [] c fun _ c => Nx h () (c.re [0, 1, 2] [0]))))
 refine wp_exit (te (te (be ?_)))
 obtain rfl := hr1 _ (Option.some.inj h).symm
 exact tn ⟨_, (), rfl, c.re [0, 1, 2] [0]⟩
 subst hrl
 refine S0 (T0 (Fp [(0, 1)] 1 c fun _ c => Bd h fun x5 hx5 h => Ca [] c (impl_widthsFit_ok hx5) ⟨.f 0, trivial⟩ Tryz.call107 fun _ _ _ c => ?_))
 refine Fp [] 1 c fun _ c => E0 (I0 c h (fun h => ?_) fun h => ?_)
 refine P0 [] c fun _ c => ?_
 cases h
 exact wp_ret (tr (Rt c (gu1) [0, 1] []))
 refine K0 (S0 (Bd h fun x6 hx6 h => S0 (rZ [(8, .eq (.bool x6))] [(1, 1), (5, 1), (7, 1)] mix c ⟨Ncl c (fun hg => impl_WordOk_ok (iteT (gcT hg) hx6)) trivial Tryz.call79, trivial⟩ fun _ _ c => I0 c h (fun h => ?_) fun h => ?_)))
 refine P0 [] c fun _ c => ?_
 cases h
 exact wp_ret (tr (Rt c (gu1) [0, 1] []))
 refine K0 (S0 (S0 (Ry [(1, 1), (5, 1), (10, 1)] mix c fun _ _ c => I0 c h (fun h => ?_) fun h => ?_)))
 refine P0 [] c fun _ c => ?_
 cases h
 exact wp_ret (tr (Rt c (gu1) [0, 1] []))
 refine K0 (S0 (P0 [(1, 1)] c fun _ c => I0 c h (fun h => ?_) fun h => ?_))
 refine P0 [(1, 1)] c fun _ c => I0 c h (fun h => ?_) fun h => ?_
 refine P0 [] c fun _ c => ?_
 cases h
 exact wp_ret (tr (Rt c (gu1) [0, 1] []))
 refine K0 (S0 (P0 [(1, 1)] c fun _ c => Bd h fun rl2 hit2 h => ?_))
 have hk2 := h
 refine LpR (fun s2  (i : Value) => ([(0, B gb0 0), (3, B b1 0), (88, I (len p1.Kids)), (89, I s2.1)], fun Γ => (Γ.set 0 (BX gb0 113 [I s2.2.1, i])).set 1 (OM map102 (i) s2.2.2), [])) (fun s  (i : Value) => ([], fun Γ => (Γ.set 0 (BX gb0 113 [I s.1, i])).set 1 (OM map102 (i) s.2), [])) hit2 c (gu1) (c.re [0, 1, 2] [0]) (fun s2 q2 i1 _ _ c h hr2 => ?_) fun s2r k1 _ _ hrl c => ?_
 refine P0 [] c fun _ c => S0 (I0 c h (fun h => ?_) fun h => ?_)
 refine K0 (S0 (wp_block (P0 [] c fun _ c => T0 (Fp [(2, 1)] 4 c fun _ c => Bd h fun x7 hx7 h => Eem c (.f 0) hx7 fun _ u1 _ c => ?_))))
 obtain ⟨a1, c1, rfl, c⟩ := c.o_Term 1
 refine Bd h fun x8 hx8 h => Ca [0, 1] c (ih hx8) ⟨.f 2, trivial⟩ Tryz.call82 fun i2 _ _ c => ?_
 refine Fp [] 1 c fun _ c => E0 (I0 c h (fun h => ?_) fun h => ?_)
 refine P0 [] c fun _ c => ?_
 obtain rfl := hr2 _ (Option.some.inj h).symm
 obtain rfl := Option.some.inj hk2
 exact wp_ret (br (tr (tr (br (tr (Rt c (i2) [1, 2] []))))))
 refine K1 (bk (tn (P1 [] c fun _ c => Nx h (i2) (c.re [1, 2, 0] [0]))))
 refine wp_exit (te (te (be ?_)))
 obtain rfl := hr2 _ (Option.some.inj h).symm
 exact tn ⟨_, (i1), rfl, c.re [0, 1, 2] [0]⟩
 subst hrl
 refine P0 [] c fun _ c => ?_
 cases h
 exact wp_ret (Rt c (k1) [0, 1] [])
 refine T0 (Fp [(1, 1)] 2 c fun _ c => Bd h fun x9 hx9 h => Ca [0, 1] c (impl_termCheck_variable_ok hx9) ⟨.f 0, trivial⟩ Tryz.call108 fun i3 _ _ c => ?_)
 refine Fp [] 1 c fun _ c => E0 (I0 c h (fun h => ?_) fun h => ?_)
 refine P0 [] c fun _ c => ?_
 cases h
 exact wp_ret (tr (Rt c (i3) [1, 2] []))
 refine K0 (S0 (P0 [(1, 0)] c fun _ c => Bd h fun rl3 hit3 h => ?_))
 have hk3 := h
 refine LpR (fun s3  (i : Value) => ([(0, B gb0 0), (3, B b1 0), (88, I (len p1.Kids)), (89, I s3.1)], fun Γ => (Γ.set 1 (BX gb0 113 [I s3.2.1, i])).set 2 (OM map102 (i) s3.2.2), [])) (fun s  (i : Value) => ([], fun Γ => (Γ.set 1 (BX gb0 113 [I s.1, i])).set 2 (OM map102 (i) s.2), [])) hit3 c (i3) (c.re [0, 1, 2] [0]) (fun s3 q3 i4 _ _ c h hr3 => ?_) fun s3r k2 _ _ hrl c => ?_
 refine P0 [] c fun _ c => S0 (I0 c h (fun h => ?_) fun h => ?_)
 refine K0 (S0 (wp_block (P0 [] c fun _ c => T0 (Fp [(2, 0)] 4 c fun _ c => Bd h fun x10 hx10 h => Eem c (.f 0) hx10 fun _ u2 _ c => ?_))))
 obtain ⟨a2, c2, rfl, c⟩ := c.o_Term 1
 replace c := c.gm [BX b1 75 [I p1.Op, I p1.W, I p1.N, Str.val p1.Name, L ga2 p1.Kids gc3], BX gb0 113 [I s3.2.1, i4], OM map102 (i4) s3.2.2]
 refine Bd h fun x11 hx11 h => Ca [1, 2] c (ih hx11) ⟨.f 2, trivial⟩ Tryz.call82 fun i5 _ _ c => ?_
 refine Fp [] 1 c fun _ c => E0 (I0 c h (fun h => ?_) fun h => ?_)
 refine P0 [] c fun _ c => ?_
 obtain rfl := hr3 _ (Option.some.inj h).symm
 obtain rfl := Option.some.inj hk3
 exact wp_ret (br (tr (tr (br (tr (Rt c (i5) [1, 2] []))))))
 refine K1 (bk (tn (P1 [] c fun _ c => Nx h (i5) (c.re [0, 1, 2] [0]))))
 refine wp_exit (te (te (be ?_)))
 obtain rfl := hr3 _ (Option.some.inj h).symm
 exact tn ⟨_, (i4), rfl, c.re [0, 1, 2] [0]⟩
 subst hrl
 refine P0 [] c fun _ c => ?_
 cases h
 exact wp_ret (Rt c (k2) [1, 2] [])

theorem impl_TermOk_ok {n : Nat} {p0 : D.Term} {ga0 : Option Addr} {gc1 : Nat} {r : Bool} (h : impl_TermOk n p0 = some r) : Con Tryz.prog 66 [.agg #[I p0.Op, I p0.W, I p0.N, Str.val p0.Name, L ga0 p0.Kids gc1]] [] [RO (L ga0 p0.Kids gc1) p0.Kids] fun (_ : Unit) => ([.bool r], [], []) := by
 unfold impl_TermOk at h
 refine En Tryz.func66 rfl Tryz.ntmps66 fun _ fr w c => ?_
 refine T0 (Ebx [I p0.Op, I p0.W, I p0.N, Str.val p0.Name, L ga0 p0.Kids gc1] c fun b1 _ _ c => ?_)
 refine Fp [] 1 c fun _ c => E0 (T0 (Eal [I 0, .map none] c fun b2 _ _ c => ?_))
 refine E0 (T0 (Fp [(0, 0)] 1 c fun _ c => ?_))
 replace c := c.nilm map102
 refine Bd h fun x1 hx1 h => Ca [1, 2] c (impl_termCheck_node_ok hx1) ⟨.f 0, trivial⟩ Tryz.call82 fun i1 _ _ c => ?_
 refine Fp [] 1 c fun _ c => E0 ?_
 cases h
 exact wp_ret (Rt c () [] [])

theorem impl_termsOk_ok {n : Nat} {p0 : Int} {p1 : List D.Term} {ga0 : Option Addr} {gc1 : Nat} {r : Bool} (h : impl_termsOk n p0 p1 = some r) : Con Tryz.prog 63 [I p0, L ga0 p1 gc1] [] [RO (L ga0 p1 gc1) p1] fun (_ : Unit) => ([.bool r], [], []) := by
 unfold impl_termsOk at h
 refine En Tryz.func63 rfl Tryz.ntmps63 fun _ fr w c => ?_
 refine P0 [] c fun _ c => S0 (P0 [] c fun _ c => Bd h fun rl1 hit1 h => ?_)
 have hk1 := h
 refine LpR (fun s1  (_ : Unit) => ([(0, I p0), (1, L ga0 p1 gc1), (7, I (len p1)), (8, I s1)], id, [])) (fun s  (_ : Unit) => ([], id, [])) hit1 c () (c.re [] [0]) (fun s1 q1 _ _ _ c h hr1 => ?_) fun s1r _ _ _ hrl c => ?_
 refine P0 [] c fun _ c => S0 (I0 c h (fun h => ?_) fun h => ?_)
 refine K0 (S0 (wp_block (P0 [] c fun _ c => Bd h fun x1 hx1 h => ?_)))
 obtain ⟨ep1, u1, c⟩ := c.elp (.f 0) hx1
 obtain ⟨a1, c1, rfl, c⟩ := c.o_Term 2
 refine Bd h fun x2 hx2 h => Bd h fun x3 hx3 h => S0 (rZ [(2, .eq (.pointer (some ep1))), (4, .eq (I x1.W)), (10, Pd.el (x2 : D.Term)), (11, Pd.rd (x2 : D.Term)), (12, .eq (.bool x3))] [] mix c ⟨Nie c 1, Nlc c 1 1, Nid c (.f 0) (gF hx2), Nrd c 10 (atN 10), Ncd (Ψ := []) [.r 11 (fun v => RO v (x2 : D.Term))] c ⟨(atN 11), trivial⟩ trivial (fun hg _ _ ga gp => by obtain ⟨u1, _, rfl, g1, rfl⟩ := ga; obtain ⟨k1, rfl, f1⟩ := Opn.opn g1; exact ⟨_, f1, impl_TermOk_ok (iteF (gcF hg) hx3)⟩) Tryz.call66, trivial⟩ fun _ _ c => I0 c h (fun h => ?_) fun h => ?_)
 refine P0 [] c fun _ c => ?_
 obtain rfl := hr1 _ (Option.some.inj h).symm
 obtain rfl := Option.some.inj hk1
 exact wp_ret (br (tr (tr (br (tr (Rt c () [] []))))))
 refine K1 (bk (tn (P1 [] c fun _ c => Nx h () (c.re [] [0]))))
 refine wp_exit (te (te (be ?_)))
 obtain rfl := hr1 _ (Option.some.inj h).symm
 exact tn ⟨_, (), rfl, c.re [] [0]⟩
 subst hrl
 refine P0 [] c fun _ c => ?_
 obtain rfl := sj h
 exact wp_ret (Rt c () [] [])

theorem impl_PathOk_ok {n : Nat} {p0 : D.Program} {p1 : D.Path} {ga0 : Option Addr} {gc1 : Nat} {ga2 : Option Addr} {gc3 : Nat} {ga4 : Option Addr} {gc5 : Nat} {ga6 : Option Addr} {gc7 : Nat} {ga8 : Option Addr} {gc9 : Nat} {ga10 : Option Addr} {gc11 : Nat} {ga12 : Option Addr} {gc13 : Nat} {r : Bool} (h : impl_PathOk n p0 p1 = some r) : Con Tryz.prog 40 [.agg #[I p0.W, I p0.Mem, I p0.In, L ga0 p0.Code gc1], .agg #[I p1.Pc, L ga2 p1.Regs gc3, L ga4 p1.Mem gc5, L ga6 p1.Stack gc7, I p1.In, L ga8 p1.Out gc9, I p1.Code, I p1.Steps, L ga10 p1.Cond gc11, L ga12 p1.Turns gc13]] [] [RO (L ga0 p0.Code gc1) p0.Code, RO (L ga2 p1.Regs gc3) p1.Regs, RO (L ga4 p1.Mem gc5) p1.Mem, RO (L ga6 p1.Stack gc7) p1.Stack, RO (L ga8 p1.Out gc9) p1.Out, RO (L ga10 p1.Cond gc11) p1.Cond, RO (L ga12 p1.Turns gc13) p1.Turns] fun (_ : Unit) => ([.bool r], [], []) := by
 unfold impl_PathOk at h
 refine En Tryz.func40 rfl Tryz.ntmps40 fun _ fr w c => ?_
 refine T0 (Ebx [I p0.W, I p0.Mem, I p0.In, L ga0 p0.Code gc1] c fun b1 _ _ c => ?_)
 refine Ebx [I p1.Pc, L ga2 p1.Regs gc3, L ga4 p1.Mem gc5, L ga6 p1.Stack gc7, I p1.In, L ga8 p1.Out gc9, I p1.Code, I p1.Steps, L ga10 p1.Cond gc11, L ga12 p1.Turns gc13] c fun b2 _ _ c => ?_
 refine Fp [] 1 c fun _ c => E0 (S0 (Bd h fun x1 hx1 h => Bd h fun x2 hx2 h => S0 (rZ [(1, .eq (.bool x1)), (7, .eq (.bool x2))] [(0, 0), (4, 0), (6, 1), (12, 1), (18, 1), (21, 0)] mix c ⟨Ncl c (kN (impl_ProgramOk_ok hx1)) ⟨.f 0, trivial⟩ Tryz.call59, Ncl c (fun hg => impl_isPlace_ok (iteF (gcF hg) hx2)) ⟨.f 0, trivial⟩ Tryz.call60, trivial⟩ fun _ _ c => I0 c h (fun h => ?_) fun h => ?_)))
 refine P0 [] c fun _ c => ?_
 obtain rfl := sj h
 exact wp_ret (tr (Rt c () [] []))
 refine K0 (S0 (S0 (Ry [(1, 1), (6, 1), (11, 1), (13, 0), (18, 1)] mix c fun _ _ c => I0 c h (fun h => ?_) fun h => ?_)))
 refine P0 [] c fun _ c => ?_
 obtain rfl := sj h
 exact wp_ret (tr (Rt c () [] []))
 refine K0 (S0 (P0 [(1, 1)] c fun _ c => Bd h fun rl1 hit1 h => ?_))
 have hk1 := h
 refine LpR (fun s1  (_ : Unit) => ([(2, B b1 0), (3, B b2 0), (54, L ga6 p1.Stack gc7), (55, I (len p1.Stack)), (56, I s1)], id, [])) (fun s  (_ : Unit) => ([(2, B b1 0), (3, B b2 0)], id, [])) hit1 c () (c.re [0, 1] (rg 7)) (fun s1 q1 _ _ _ c h hr1 => ?_) fun s1r _ _ _ hrl c => ?_
 refine P0 [] c fun _ c => S0 (I0 c h (fun h => ?_) fun h => ?_)
 refine K0 (S0 (wp_block (T0 (Bd h fun x3 hx3 h => Eel c (.f 3) hx3 fun _ _ c => ?_))))
 refine Fp [] 1 c fun _ c => E0 (T0 (Fp [(0, 0)] 2 c fun _ c => Bd h fun x4 hx4 h => Ca [] c (impl_isPlace_ok hx4) ⟨.f 0, trivial⟩ Tryz.call60 fun _ _ _ c => ?_))
 refine Fp [] 1 c fun _ c => E0 (I0 c h (fun h => ?_) fun h => ?_)
 refine P0 [] c fun _ c => ?_
 obtain rfl := hr1 _ (Option.some.inj h).symm
 obtain rfl := Option.some.inj hk1
 exact wp_ret (br (tr (tr (br (tr (Rt c () [] []))))))
 refine K1 (bk (tn (P1 [] c fun _ c => Nx h () (c.re [0, 1] (rg 7)))))
 refine wp_exit (te (te (be ?_)))
 obtain rfl := hr1 _ (Option.some.inj h).symm
 exact tn ⟨_, (), rfl, c.re [0, 1] (rg 7)⟩
 subst hrl
 refine S0 (Bd h fun x5 hx5 h => S0 (rZ [(11, .eq (.bool x5))] [(1, 1), (5, 1), (10, 1)] mix c ⟨Ncl c (fun hg => impl_fuelOk_ok (iteF (gcF hg) hx5)) trivial Tryz.call61, trivial⟩ fun _ _ c => I0 c h (fun h => ?_) fun h => ?_))
 refine P0 [] c fun _ c => ?_
 obtain rfl := sj h
 exact wp_ret (tr (Rt c () [] []))
 refine K0 (S0 (Bd h fun x6 hx6 h => S0 (rZ [(13, .eq (.bool x6))] [(1, 1), (6, 1), (12, 1)] mix c ⟨Ncl c (fun hg => impl_turnsOk_ok (iteF (gcF hg) hx6)) ⟨.f 6, trivial⟩ Tryz.call62, trivial⟩ fun _ _ c => I0 c h (fun h => ?_) fun h => ?_)))
 refine P0 [] c fun _ c => ?_
 obtain rfl := sj h
 exact wp_ret (tr (Rt c () [] []))
 refine K0 (Bd h fun x7 hx7 h => Bd h fun x8 hx8 h => Bd h fun x9 hx9 h => Bd h fun x10 hx10 h => S0 (rZ [(4, .eq (.bool x7)), (10, .eq (.bool x8)), (17, .eq (.bool x9)), (22, .eq (.bool x10))] [(1, 0), (3, 1), (7, 0), (9, 1), (14, 0), (16, 1), (21, 1)] mix c ⟨Ncl c (kN (impl_termsOk_ok hx7)) ⟨.f 1, trivial⟩ Tryz.call63, Ncl c (fun hg => impl_termsOk_ok (iteT (gcT hg) hx8)) ⟨.f 2, trivial⟩ Tryz.call63, Ncl c (fun hg => impl_termsOk_ok (iteT (gcT hg) hx9)) ⟨.f 4, trivial⟩ Tryz.call63, Ncl c (fun hg => impl_termsOk_ok (iteT (gcT hg) hx10)) ⟨.f 5, trivial⟩ Tryz.call63, trivial⟩ fun _ _ c => ?_))
 cases h
 exact wp_ret (Rt c () [] [])

theorem impl_wordsOk_ok {n : Nat} {p0 : Int} {p1 : List Int} {ga0 : Option Addr} {gc1 : Nat} {r : Bool} (h : impl_wordsOk n p0 p1 = some r) : Con Tryz.prog 64 [I p0, L ga0 p1 gc1] [] [RO (L ga0 p1 gc1) p1] fun (_ : Unit) => ([.bool r], [], []) := by
 unfold impl_wordsOk at h
 refine En Tryz.func64 rfl Tryz.ntmps64 fun _ fr w c => ?_
 refine P0 [] c fun _ c => S0 (P0 [] c fun _ c => Bd h fun rl1 hit1 h => ?_)
 have hk1 := h
 refine LpR (fun s1  (_ : Unit) => ([(0, I p0), (7, L ga0 p1 gc1), (8, I (len p1)), (9, I s1)], id, [])) (fun s  (_ : Unit) => ([], id, [])) hit1 c () (c.re [] [0]) (fun s1 q1 _ _ _ c h hr1 => ?_) fun s1r _ _ _ hrl c => ?_
 refine P0 [] c fun _ c => S0 (I0 c h (fun h => ?_) fun h => ?_)
 refine K0 (S0 (wp_block (T0 (Bd h fun x1 hx1 h => Eel c (.f 0) hx1 fun _ _ c => ?_))))
 refine Fp [] 1 c fun _ c => E0 (T0 (Fp [] 2 c fun _ c => Bd h fun x2 hx2 h => Ca [] c (impl_WordOk_ok hx2) trivial Tryz.call79 fun _ _ _ c => ?_))
 refine Fp [] 1 c fun _ c => E0 (I0 c h (fun h => ?_) fun h => ?_)
 refine P0 [] c fun _ c => ?_
 obtain rfl := hr1 _ (Option.some.inj h).symm
 obtain rfl := Option.some.inj hk1
 exact wp_ret (br (tr (tr (br (tr (Rt c () [] []))))))
 refine K1 (bk (tn (P1 [] c fun _ c => Nx h () (c.re [] [0]))))
 refine wp_exit (te (te (be ?_)))
 obtain rfl := hr1 _ (Option.some.inj h).symm
 exact tn ⟨_, (), rfl, c.re [] [0]⟩
 subst hrl
 refine P0 [] c fun _ c => ?_
 obtain rfl := sj h
 exact wp_ret (Rt c () [] [])

theorem impl_InputsOk_ok {n : Nat} {p0 : D.Program} {p1 : List Int} {ga0 : Option Addr} {gc1 : Nat} {ga2 : Option Addr} {gc3 : Nat} {r : Bool} (h : impl_InputsOk n p0 p1 = some r) : Con Tryz.prog 41 [.agg #[I p0.W, I p0.Mem, I p0.In, L ga0 p0.Code gc1], L ga2 p1 gc3] [] [RO (L ga0 p0.Code gc1) p0.Code, RO (L ga2 p1 gc3) p1] fun (_ : Unit) => ([.bool r], [], []) := by
 unfold impl_InputsOk at h
 refine En Tryz.func41 rfl Tryz.ntmps41 fun _ fr w c => ?_
 refine T0 (Ebx [I p0.W, I p0.Mem, I p0.In, L ga0 p0.Code gc1] c fun b1 _ _ c => ?_)
 refine Fp [] 1 c fun _ c => E0 (Bd h fun x1 hx1 h => Bd h fun x2 hx2 h => S0 (rZ [(1, .eq (.bool x1)), (13, .eq (.bool x2))] [(0, 0), (6, 0), (11, 0)] mix c ⟨Ncl c (kN (impl_ProgramOk_ok hx1)) ⟨.f 0, trivial⟩ Tryz.call59, Ncl c (fun hg => impl_wordsOk_ok (iteT (gcT hg) hx2)) ⟨.f 1, trivial⟩ Tryz.call64, trivial⟩ fun _ _ c => ?_))
 cases h
 exact wp_ret (Rt c () [] [])

theorem strconv_Itoa_ok {p0 : Int} {r : Str} (h : strconv_Itoa p0 = some r) : Con Tryz.prog 81 [I p0] [] [TBf Tryz.prog] fun (_ : Unit) => ([Str.val r], [], []) := by
 unfold strconv_Itoa at h
 split at h
 · rename_i hl
   obtain rfl := Option.some.inj h
   refine Con.lib fun w F hF => ?_
   have tb : TB Tryz.prog "internal/strconv.uint64pow10" .u64 Lib.pow10Tab w F := hF _ (List.mem_singleton.2 rfl)
   refine (Tryz.strconv_Itoa p0 hl.1 hl.2 w tb.tab).mono ?_
   rintro e w' ⟨rfl, k, os, rfl⟩
   exact ⟨rfl, chg_grow w k os⟩
 · cases h

theorem impl_FormatInt_ok {p0 : Int} {r : Str} (h : impl_FormatInt p0 = some r) : Con Tryz.prog 65 [I p0] [] [TBf Tryz.prog] fun (_ : Unit) => ([Str.val r], [], []) := by
 unfold impl_FormatInt at h
 refine En Tryz.func65 rfl Tryz.ntmps65 fun _ fr w c => ?_
 refine P0 [] c fun _ c => T0 (Fp [] 1 c fun _ c => Bd h fun x1 hx1 h => Ca [] c (strconv_Itoa_ok hx1) ⟨.f 0, trivial⟩ Tryz.call81 fun _ _ _ c => ?_)
 refine Fp [] 1 c fun _ c => E0 ?_
 obtain rfl := sj h
 exact wp_ret (Rt c () [] [])

theorem impl_inputValues_ok {n : Nat} {p0 : D.Program} {p1 : List Int} {ga0 : Option Addr} {gc1 : Nat} {ga2 : Option Addr} {gc3 : Nat} {r : (List D.Value)} (h : impl_inputValues n p0 p1 = some r) : Con Tryz.prog 42 [.agg #[I p0.W, I p0.Mem, I p0.In, L ga0 p0.Code gc1], L ga2 p1 gc3] [] [RO (L ga0 p0.Code gc1) p0.Code, RO (L ga2 p1 gc3) p1, TBf Tryz.prog] fun (i : Option Addr × Nat) => ([L i.1 r i.2], [sl89 (L i.1 r i.2) r], []) := by
 unfold impl_inputValues at h
 refine En Tryz.func42 rfl Tryz.ntmps42 fun _ fr w c => ?_
 refine T0 (Ebx [I p0.W, I p0.Mem, I p0.In, L ga0 p0.Code gc1] c fun b1 _ _ c => ?_)
 refine Fp [] 1 c fun _ c => E0 (T0 (Fp [] 2 c fun _ c => Bd h fun x1 hx1 h => Emk 89 c hx1 fun a1 c1 _ _ c => ?_))
 refine Fp [] 1 c fun _ c => E0 (S0 (P0 [] c fun _ c => Bd h fun rl1 hit1 h => Lp (fun s1  (_ : Unit) => ([(2, B b1 0), (5, L a1 x1 c1), (11, L ga2 p1 gc3), (12, I (len p1)), (13, I s1.1)], fun Γ => Γ.set 1 (sl89 (L a1 x1 c1) s1.2), [])) (fun  (_ : Unit) => ([(5, L a1 x1 c1)], fun Γ => Γ.set 1 (sl89 (L a1 x1 c1) rl1), [])) hit1 c () (c.re [0, 1] [0, 1, 2]) (fun s1 q1 _ _ _ c h hr1 => ?_) fun _ _ _ c => ?_))
 refine P0 [] c fun _ c => S0 (I0 c h (fun h => ?_) fun h => ?_)
 refine K0 (S0 (wp_block (T0 (Fp [] 1 c fun _ c => Bd h fun x2 hx2 h => Eel c (.f 1) hx2 fun _ _ c => ?_))))
 refine Fp [] 2 c fun _ c => E0 (Bd h fun x3 hx3 h => Bd h fun x4 hx4 h => wp_ra mix (rM 9 [(3, .eq (Str.val x3)), (4, .eq (Str.val x4))] [(6, 0)] c (fun ow => ⟨np_tO ow (Ncl c (kN (impl_FormatInt_ok hx3)) ⟨.f 2, trivial⟩ Tryz.call65), np_tO ow (Ncat c (kN hx4)), trivial⟩) fun _ _ _ _ _ c => ?_))
 refine Bd h fun x5 hx5 h => Eset 1 c hx5 fun _ _ _ c => ?_
 refine E1 (bk (tn (P1 [] c fun _ c => Nx h () (c.re [0, 1] [0, 1, 2]))))
 refine wp_exit (te (te (be ?_)))
 obtain rfl := hr1 _ (Option.some.inj h).symm
 exact tn ⟨(), c.re [0, 1] [0, 1, 2]⟩
 refine P0 [] c fun _ c => ?_
 obtain rfl := sj h
 obtain ⟨he1, c⟩ := c.relen 1
 replace c := c.eqs (v := L a1 x1 c1) (u := L a1 rl1 c1) 4 (by simp only [L, he1])
 exact wp_ret (Rt c (a1, c1) [1] [])

theorem impl_ValuesOk_ok {n : Nat} {p0 : List D.Value} {ga0 : Option Addr} {gc1 : Nat} {r : Bool} (h : impl_ValuesOk n p0 = some r) : Con Tryz.prog 67 [L ga0 p0 gc1] [] [RO (L ga0 p0 gc1) p0] fun (_ : Unit) => ([.bool r], [], []) := by
 unfold impl_ValuesOk at h
 refine En Tryz.func67 rfl Tryz.ntmps67 fun _ fr w c => ?_
 refine P0 [] c fun _ c => S0 (P0 [] c fun _ c => I0 c h (fun h => ?_) fun h => ?_)
 refine P0 [] c fun _ c => ?_
 obtain rfl := sj h
 exact wp_ret (tr (Rt c () [] []))
 refine K0 (S0 (P0 [] c fun _ c => Bd h fun rl1 hit1 h => ?_))
 have hk1 := h
 refine LpR (fun s1  (_ : Unit) => ([(0, L ga0 p0 gc1), (8, L ga0 p0 gc1), (9, I (len p0)), (10, I s1)], id, [])) (fun s  (_ : Unit) => ([], id, [])) hit1 c () (c.re [] [0]) (fun s1 q1 _ _ _ c h hr1 => ?_) fun s1r _ _ _ hrl c => ?_
 refine P0 [] c fun _ c => S0 (I0 c h (fun h => ?_) fun h => ?_)
 refine K0 (S0 (wp_block (T0 (Fp [] 1 c fun _ c => Bd h fun x1 hx1 h => Eel c (.f 0) hx1 fun _ _ c => ?_))))
 refine Eal [Str.val ⟨[]⟩, I 0, I 0] c fun b1 _ _ c => ?_
 refine Fp [] 1 c fun _ c => Ess 0 [Str.val x1.Name, I x1.W, I x1.N] c fun _ c => ?_
 refine E0 (S0 (Bd h fun x2 hx2 h => Bd h fun x3 hx3 h => S0 (rZ [(2, .eq (.bool x2)), (9, .eq (.bool x3))] [(1, 0), (6, 0), (8, 0)] mix c ⟨Ncl c (kN (impl_IsName_ok hx2)) trivial Tryz.call83, Ncl c (fun hg => impl_WordOk_ok (iteF (gcF hg) hx3)) trivial Tryz.call79, trivial⟩ fun _ _ c => I0 c h (fun h => ?_) fun h => ?_)))
 refine P0 [] c fun _ c => ?_
 obtain rfl := hr1 _ (Option.some.inj h).symm
 obtain rfl := Option.some.inj hk1
 exact wp_ret (tr (br (tr (tr (br (tr (Rt c () [] [])))))))
 refine K0 (Bd h fun x4 hx4 h => S0 (rZ [(6, Pd.el (x4 : D.Value)), (7, Pd.fl (Str.val x4.Name)), (8, .eq (Str.val x4.Name))] [(10, 0)] mix c ⟨Nid c (.f 0) (gT hx4), Nfa c 6 (atN 6) fc89_0, Nlf c 7 (atN 7), trivial⟩ fun _ _ c => I0 c h (fun h => ?_) fun h => ?_))
 refine P0 [] c fun _ c => ?_
 obtain rfl := hr1 _ (Option.some.inj h).symm
 obtain rfl := Option.some.inj hk1
 exact wp_ret (br (tr (tr (br (tr (Rt c () [] []))))))
 refine K1 (bk (tn (P1 [] c fun _ c => Nx h () (c.re [] [0]))))
 refine wp_exit (te (te (be ?_)))
 obtain rfl := hr1 _ (Option.some.inj h).symm
 exact tn ⟨_, (), rfl, c.re [] [0]⟩
 subst hrl
 refine P0 [] c fun _ c => ?_
 obtain rfl := sj h
 exact wp_ret (Rt c () [] [])

theorem impl_collectVars_ok {n : Nat} : ∀ {p0 : D.Term} {p1 : Option (List (Str × Int))} {ga0 : Option Addr} {gc1 : Nat} {gu2 : Value} {r : (Option (List (Str × Int)))} (h : impl_collectVars n p0 p1 = some r), Con Tryz.prog 84 [.agg #[I p0.Op, I p0.W, I p0.N, Str.val p0.Name, L ga0 p0.Kids gc1], gu2] [OM map102 (gu2) p1] [RO (L ga0 p0.Kids gc1) p0.Kids] fun (_ : Unit) => ([], [OM map102 (gu2) r], []) := by
 induction n with
 | zero => intro p0 p1 ga0 gc1 gu2 r h; simp [impl_collectVars] at h
 | succ n ih =>
 intro p0 p1 ga0 gc1 gu2 r h
 rw [impl_collectVars] at h
 refine En Tryz.func84 rfl Tryz.ntmps84 fun _ fr w c => ?_
 refine T0 (Ebx [I p0.Op, I p0.W, I p0.N, Str.val p0.Name, L ga0 p0.Kids gc1] c fun b1 _ _ c => ?_)
 refine E0 (S0 (P0 [(1, 0)] c fun _ c => I0 c h (fun h => ?_) fun h => ?_))
 refine T1 (Fp [(2, 0), (4, 0)] 5 c fun _ c => Bd h fun x1 hx1 h => ?_)
 obtain ⟨b2, rfl, c⟩ := c.smx 0 hx1
 refine Bd h fun x2 hx2 h => Emp 0 c hx2 fun _ c => ?_
 refine E0 (P0 [(1, 0)] c fun _ c => ?_)
 replace c := c.om 0
 refine Bd h fun rl1 hit1 h => Tq (Lp (fun s1  (_ : Unit) => ([(1, .map (some b2)), (2, B b1 0), (15, I (len p0.Kids)), (16, I s1.1)], fun Γ => Γ.set 0 (OM map102 (.map (some b2)) s1.2), [])) (fun  (_ : Unit) => ([], fun Γ => Γ.set 0 (OM map102 (.map (some b2)) rl1), [])) hit1 c () (c.re [0, 1] [0]) (fun s1 q1 _ _ _ c h hr1 => ?_) fun _ _ _ c => ?_)
 refine P0 [] c fun _ c => S0 (I0 c h (fun h => ?_) fun h => ?_)
 refine K0 (S0 (wp_block (P0 [] c fun _ c => T1 (Fp [(1, 0)] 3 c fun _ c => Bd h fun x3 hx3 h => Eem c (.f 0) hx3 fun _ u1 _ c => ?_))))
 obtain ⟨a1, c1, rfl, c⟩ := c.o_Term 1
 refine Fp [] 1 c fun _ c => Bd h fun x4 hx4 h => Ca [0] c (ih hx4) ⟨.f 2, trivial⟩ Tryz.call84 fun _ _ _ c => ?_
 refine E1 (bk (tn (P1 [] c fun _ c => Nx h () (c.re [1, 0] [0]))))
 refine wp_exit (te (te (be ?_)))
 obtain rfl := hr1 _ (Option.some.inj h).symm
 exact tn ⟨(), c.re [0, 1] [0]⟩
 obtain rfl := sj h
 exact (norm_ret (Rg c () [0] [] .nil))
 refine K0 (P0 [(1, 0)] c fun _ c => Bd h fun rl2 hit2 h => Tq (Lp (fun s2  (_ : Unit) => ([(1, gu2), (2, B b1 0), (15, I (len p0.Kids)), (16, I s2.1)], fun Γ => Γ.set 0 (OM map102 (gu2) s2.2), [])) (fun  (_ : Unit) => ([], fun Γ => Γ.set 0 (OM map102 (gu2) rl2), [])) hit2 c () (c.re [0, 1] [0]) (fun s2 q2 _ _ _ c h hr2 => ?_) fun _ _ _ c => ?_))
 refine P0 [] c fun _ c => S0 (I0 c h (fun h => ?_) fun h => ?_)
 refine K0 (S0 (wp_block (P0 [] c fun _ c => T1 (Fp [(1, 0)] 3 c fun _ c => Bd h fun x5 hx5 h => Eem c (.f 0) hx5 fun _ u2 _ c => ?_))))
 obtain ⟨a2, c2, rfl, c⟩ := c.o_Term 1
 refine Fp [] 1 c fun _ c => Bd h fun x6 hx6 h => Ca [0] c (ih hx6) ⟨.f 2, trivial⟩ Tryz.call84 fun _ _ _ c => ?_
 refine E1 (bk (tn (P1 [] c fun _ c => Nx h () (c.re [1, 0] [0]))))
 refine wp_exit (te (te (be ?_)))
 obtain rfl := hr2 _ (Option.some.inj h).symm
 exact tn ⟨(), c.re [0, 1] [0]⟩
 obtain rfl := sj h
 exact (norm_ret (Rg c () [0] [] .nil))

/-- what the loop has gathered, as far as it has come -/
structure Gat (m : List (Str × Int)) (left : Lit → Bool) (l : List D.Value) : Prop where
  nd : l.Pairwise fun a b => a.Name ≠ b.Name
  mem : ∀ v, v ∈ l ↔ m.lookup v.Name = some v.W ∧ v.N = 0 ∧ left (map102.lit v.Name) = false
theorem SL_same (a b : Str) : (map102.lit a).sameKey (map102.lit b) = decide (a = b) := by
  cases a; cases b
  show Lit.sameKey (.string _) (.string _) = _
  simp only [Lit.sameKey, Str.mk.injEq]
  exact Bool.beq_eq_decide_eq _ _
theorem SL_fit {m : List (Str × Int)} (hf : ∀ p ∈ m, map102.fit p.1 = true) {s : Str} {w : Int} (h : m.lookup s = some w) : map102.fit s = true := by
  induction m with
  | nil => cases h
  | cons p m ih =>
    obtain ⟨u, y⟩ := p
    rw [List.lookup_cons] at h
    by_cases e : s = u
    · subst e; exact hf _ List.mem_cons_self
    · have e' : (s == u) = false := by simpa using e
      rw [e'] at h
      exact ih (fun p hp => hf p (List.mem_cons_of_mem _ hp)) h
theorem Gat.start {m : List (Str × Int)} (hf : ∀ p ∈ m, map102.fit p.1 = true) : Gat m (Maps.has (map102.D m)) [] := ⟨List.Pairwise.nil, fun v => by
  constructor
  · intro h; cases h
  · rintro ⟨h1, _, h3⟩
    rw [MapT.has_ _ (SL_fit hf h1) _ hf, h1] at h3
    cases h3⟩
theorem Gat.step {m : List (Str × Int)} {left : Lit → Bool} {l : List D.Value} (h : Gat m left l) {u : Str} {z : Int} (hz : m.lookup u = some z) (hl : left (map102.lit u) = true) : Gat m (fun q => left q && !q.sameKey (map102.lit u)) (l ++ [⟨u, z, 0⟩]) := by
  have hno : ∀ v ∈ l, v.Name ≠ u := fun v hv e => by
    have := ((h.mem v).1 hv).2.2
    rw [e, hl] at this; cases this
  refine ⟨List.pairwise_append.2 ⟨h.nd, List.pairwise_singleton _ _, fun a ha b hb => by rw [List.mem_singleton] at hb; subst hb; exact hno a ha⟩, fun v => ?_⟩
  rw [List.mem_append, List.mem_singleton, h.mem v, SL_same]
  by_cases e : v.Name = u
  · subst e
    simp only [decide_true, Bool.not_true, Bool.and_false, and_true, hl]
    rw [hz]
    constructor
    · rintro (⟨_, _, h3⟩ | h)
      · cases h3
      · rw [h]; exact ⟨rfl, rfl⟩
    · rintro ⟨h1, h2⟩
      right
      cases v; simp_all
  · have hne : v ≠ ⟨u, z, 0⟩ := fun h => e (by rw [h])
    simp [e, hne]
theorem Gat.done {m : List (Str × Int)} {left : Lit → Bool} {l l' : List D.Value} (h : Gat m left l) (h0 : ∀ kl, left kl = false) (hp : l'.Perm l) (hs : l'.Pairwise fun x y => Go.Proofs.ltOf cmpV y x = false) : l' = vtab m := by
  have hnd : l'.Pairwise fun a b => a.Name ≠ b.Name := (hp.pairwise_iff fun {a b} (hab : a.Name ≠ b.Name) => hab.symm).2 h.nd
  refine ss_eq ?_ (vtab_sorted m) fun v => ?_
  · refine (hnd.and hs).imp fun {a b} hab => ?_
    obtain ⟨h1, h2⟩ := hab
    rw [ltV_cmp] at h2
    exact SL_tot h2 (Ne.symm h1)
  · rw [hp.mem_iff, h.mem v, vtab_mem]
    simp [h0]
theorem vnan (s : Str) (w : World) : Calls Tryz.prog 111 [Str.val s].toArray w fun e w' => e = .returned (.bool false) ∧ w' = w := by
  refine enter Tryz.func111 rfl Tryz.ntmps111 (by rfl) fun a hF => ?_
  have c : Cx ⟨w, Non, Non⟩ _ (args0 0 [Str.val s]) [] [] a w := ⟨hF, Non, Non, Mem.start (fun _ h => h.elim) (fun _ h => h.elim) (fun _ h => h.elim), Sep.nil _ _, AllF.nil⟩
  refine P0 [] c fun _ c => ?_
  refine P0 [] c fun _ c => ?_
  refine wp_ret (ret1 rfl c.fr (v := .bool (!(Str.eqb s s))) (by kernel_rfl) ⟨?_, rfl⟩)
  have : Str.eqb s s = true := by unfold Str.eqb; simp
  rw [this]; rfl
theorem vcmp (s t : Str) (w : World) : Calls Tryz.prog 87 [Str.val s, Str.val t].toArray w fun e w' => e = .returned (.int .i64 (cmpS s t)) ∧ w' = w := by
  refine enter Tryz.func87 rfl Tryz.ntmps87 (by rfl) fun a hF => ?_
  have c : Cx ⟨w, Non, Non⟩ _ (args0 0 [Str.val s, Str.val t]) [] [] a w := ⟨hF, Non, Non, Mem.start (fun _ h => h.elim) (fun _ h => h.elim) (fun _ h => h.elim), Sep.nil _ _, AllF.nil⟩
  clear hF
  refine P0 [] c fun _ c => ?_
  refine T0 ?_
  refine Fp [] 1 c fun _ c => ?_
  refine s_call [Str.val s] (R := fun v w' => v = .bool false ∧ w' = w) Tryz.call111 rfl rfl c.fr (by kernel_rfl) ((vnan s w).mono fun e w' h => ⟨_, h.1, rfl, h.2⟩) fun v w' fr hR hF => ?_
  obtain ⟨rfl, rfl⟩ := hR
  replace c := c.to hF
  refine Fp [] 1 c fun _ c => ?_
  refine E0 ?_
  refine T0 ?_
  refine Fp [] 1 c fun _ c => ?_
  refine s_call [Str.val t] (R := fun v w1 => v = .bool false ∧ w1 = w') Tryz.call111 rfl rfl c.fr (by kernel_rfl) ((vnan t w').mono fun e w1 h => ⟨_, h.1, rfl, h.2⟩) fun v w1 fr hR hF => ?_
  obtain ⟨rfl, rfl⟩ := hR
  replace c := c.to hF
  refine Fp [] 1 c fun _ c => ?_
  refine E0 ?_
  refine S0 ?_
  refine P0 [] c fun _ c => ?_
  refine If (b := false) c (fun h => by cases h) fun _ => ?_
  refine K0 ?_
  refine S0 ?_
  refine P0 [] c fun _ c => ?_
  refine If (b := false) c (fun h => by cases h) fun _ => ?_
  refine K0 ?_
  refine S0 ?_
  refine P0 [] c fun _ c => ?_
  refine If (b := Str.ltb s t) c (fun h1 => ?_) fun h1 => ?_
  · refine P0 [] c fun _ c => ?_
    exact wp_ret (tr (ret1 rfl c.fr (v := I (-1)) (by kernel_rfl) ⟨by unfold cmpS; rw [h1]; rfl, rfl⟩))
  refine K0 ?_
  refine S0 ?_
  refine P0 [] c fun _ c => ?_
  refine If (b := Str.gtb s t) c (fun h2 => ?_) fun h2 => ?_
  · refine P0 [] c fun _ c => ?_
    exact wp_ret (tr (ret1 rfl c.fr (v := I 1) (by kernel_rfl) ⟨by unfold cmpS; rw [h1, h2]; rfl, rfl⟩))
  refine K0 ?_
  refine P0 [] c fun _ c => ?_
  exact wp_ret (ret1 rfl c.fr (v := I 0) (by kernel_rfl) ⟨by unfold cmpS; rw [h1, h2]; rfl, rfl⟩)
theorem vclo (x y : D.Value) (W : World) : Calls Tryz.prog 86 #[.agg (Flat.enc x).toArray, .agg (Flat.enc y).toArray] W fun e w' => e = .returned (.int .i64 (cmpV x y)) ∧ ∃ q os', w' = Go.Sort.grow (W.drewN q) os' := by
  have hcon := fun W' => vcmp x.Name y.Name W'
  unfold cmpV
  generalize cmpS x.Name y.Name = r at hcon ⊢
  obtain ⟨⟨nx⟩, wx, mx⟩ := x
  obtain ⟨⟨ny⟩, wy, my⟩ := y
  change ∀ W', Calls Tryz.prog 87 #[.string ⟨nx.toArray⟩, .string ⟨ny.toArray⟩] _ _ at hcon
  change Calls Tryz.prog 86 #[.agg #[.string ⟨nx.toArray⟩, .int .i64 wx, .int .i64 mx], .agg #[.string ⟨ny.toArray⟩, .int .i64 wy, .int .i64 my]] _ _
  go_enter Tryz.func86, Tryz.ntmps86
  go_wp2_with (go_at_call 87; refine (hcon _).mono ?_; rintro e w' ⟨rfl, rfl⟩)
  go_ret
  exact ⟨rfl, 0, _, by rw [Go.Sort.alloc_eq_grow, Go.Sort.alloc_eq_grow, Go.Sort.grow_grow]; rfl⟩
theorem vback (key : Value) (x : Str) (h : keyOf Tryz.prog 9 key = some (map102.lit x)) : key = Rep.val Str (Flat.enc x) := by
  have hk : Tryz.prog.underlying 9 = some .string := by kernel_rfl
  have h2 : keyOf Tryz.prog 9 key = some (.string x.bytes) := h
  cases key <;> simp [keyOf, hk, mapKey] at h2
  rename_i s
  obtain ⟨_, h3⟩ := h2
  show Value.string s = .string ⟨x.bytes.toArray⟩
  rw [← h3]
theorem impl_VarsOf_ok {n : Nat} {p0 : D.Term} {ga0 : Option Addr} {gc1 : Nat} {r : (List D.Value)} (h : impl_VarsOf n p0 = some r) : Con Tryz.prog 68 [.agg #[I p0.Op, I p0.W, I p0.N, Str.val p0.Name, L ga0 p0.Kids gc1]] [] [RO (L ga0 p0.Kids gc1) p0.Kids] fun (i : Option Addr × Nat) => ([L i.1 r i.2], [sl89 (L i.1 r i.2) r], []) := by
 unfold impl_VarsOf at h
 refine En Tryz.func68 rfl Tryz.ntmps68 fun Bb fr w c => ?_
 refine T0 ?_
 refine Ebx [I p0.Op, I p0.W, I p0.N, Str.val p0.Name, L ga0 p0.Kids gc1] c fun b1 _ _ c => ?_
 refine Fp [] 1 c fun _ c => ?_
 refine E0 ?_
 refine S0 ?_
 refine T0 ?_
 refine Fp [(0, 0)] 1 c fun _ c => ?_
 obtain ⟨x1, hx1, h⟩ := bindE h
 refine Ca [] c (impl_TermOk_ok hx1) ⟨.f 0, trivial⟩ Tryz.call66 fun _ _ _ c => ?_
 refine Fp [] 1 c fun _ c => ?_
 refine E0 ?_
 refine I0 c h (fun h => ?_) fun h => ?_
 · refine P0 [] c fun _ c => ?_
   obtain rfl := Option.some.inj h
   replace c := c.nil (α := D.Value) 89
   exact wp_ret (tr (Rt c (none, 0) [1] []))
 refine K0 ?_
 refine T0 ?_
 refine Emm map102 c fun b2 _ _ c => ?_
 refine Fp [] 1 c fun _ c => ?_
 refine E0 ?_
 refine T0 ?_
 refine Fp [(0, 0)] 2 c fun _ c => ?_
 replace c := c.om 1
 obtain ⟨x2, hx2, h⟩ := bindE h
 refine Ca [1] c (impl_collectVars_ok hx2) ⟨.f 0, trivial⟩ Tryz.call84 fun _ _ _ c => ?_
 obtain ⟨x3, hx3, h⟩ := bindE h
 obtain ⟨b3, hb3, c⟩ := c.smx 1 hx3
 obtain rfl : b2 = b3 := by simpa using hb3
 clear hb3
 refine E0 ?_
 refine P0 [] c fun _ c => ?_
 refine S0 ?_
 refine T0 ?_
 refine Fp [] 1 c fun _ c => ?_
 obtain ⟨hlen, h⟩ : x3.length ≤ 1048576 ∧ some (vtab x3) = some r := by
   by_cases hl : x3.length ≤ 1048576
   · rw [if_pos hl] at h; exact ⟨hl, h⟩
   · rw [if_neg hl] at h; cases h
 obtain rfl := Option.some.inj h
 clear h
 have hfit : ∀ p ∈ x3, map102.fit p.1 = true := by
   obtain ⟨_, S, F, _, hs, _⟩ := c
   exact (hs.mp 1 rfl).2
 refine Ern 1 c fun r1 _ _ c => ?_
 refine E0 ?_
 replace c := c.nil (α := D.Value) 89
 refine (LpW (fun cnt a w => ∃ left l a' c', Cx Bb 30 [(4, .slice a' (List.length l) c'), (15, .pointer (some ⟨r1, 0, none⟩))] [RG map102 b2 r1 x3 left cnt, sl89 (.slice a' (List.length l) c') l] [] a w ∧ Gat x3 left l)
   (fun a w => ∃ left l a' c', Cx Bb 30 [(4, .slice a' (List.length l) c')] [sl89 (.slice a' (List.length l) c') l] [] a w ∧ Gat x3 left l ∧ ∀ kl, left kl = false)
   ⟨_, [], none, 0, c.re [1, 2] [], Gat.start hfit⟩ (fun cnt a w ⟨left, l, a', c', c, hG⟩ => ?_) fun a w ⟨left, l, a', c', c, hG, h0⟩ => ?_)
 · have hl1 : l.length ≤ 1048576 := by
     have := SL_len (l' := vtab x3) hG.nd fun v hv => (vtab_mem v x3).2 ⟨((hG.mem v).1 hv).1, ((hG.mem v).1 hv).2.1⟩
     have := vtab_len x3
     omega
   refine T0 ?_
   refine Enx 0 vback c (fun hl _ c => ?_) fun u z cnt' _ w1 hu hz hlk hlt hen c => ?_
   · refine Fp [] 1 c fun _ c => ?_
     refine E0 ?_
     refine S0 (If (b := false) c (fun h => by cases h) fun _ => ?_)
     refine wp_exit (te (te (be ?_)))
     exact tn ⟨left, l, a', c', c.re [1] [], hG, hl⟩
   · refine Fp [] 1 c fun _ c => ?_
     refine E0 ?_
     refine S0 (If (b := true) c (fun _ => ?_) fun h => by cases h)
     refine K0 ?_
     refine wp_block ?_
     refine T0 ?_
     refine Een c hen fun _ c => ?_
     refine Fp [] 4 c fun _ c => ?_
     refine E0 ?_
     refine T1 ?_
     refine Fp [] 4 c fun _ c => ?_
     refine Elt 89 ([⟨u, z, 0⟩] : List D.Value) c fun a2 c2 _ _ c => ?_
     have hap : app? l ([⟨u, z, 0⟩] : List D.Value) = some (l ++ [⟨u, z, 0⟩]) := by unfold app?; rw [if_pos (by unfold room; simp; omega)]
     refine Eap 1 c (.g 2) hap fun a3 c3 _ _ c => ?_
     refine Fp [] 1 c fun _ c => ?_
     refine E1 ?_
     refine bk (tn ?_)
     exact ⟨cnt', hlt, _, l ++ [⟨u, z, 0⟩], a3, c3, c.re [0, 1] [], hG.step hz hlk⟩
 · refine T0 ?_
   refine Fp [] 1 c fun _ c => ?_
   have hl1 : l.length ≤ 1048576 := by
     have := SL_len (l' := vtab x3) hG.nd fun v hv => (vtab_mem v x3).2 ⟨((hG.mem v).1 hv).1, ((hG.mem v).1 hv).2.1⟩
     have := vtab_len x3
     omega
   refine Ca [0] c (con_sortF (α := D.Value) (l := l) Tryz.sortV rfl Tryz.isAgg89 Tryz.sizeOf89 (by decide) (fun x v hv => by
     have hv : v ∈ [Str.val x.Name, I x.W, I x.N] := hv
     simp only [List.mem_cons, List.not_mem_nil, or_false] at hv
     rcases hv with rfl | rfl | rfl <;> rfl) cmpV swoV (enters_of Tryz.func86 (by kernel_rfl) rfl) vclo (by omega)) trivial Tryz.call85 fun i _ _ c => ?_
   refine E0 ?_
   obtain ⟨l', hp, hs⟩ := i
   obtain ⟨hl', c⟩ := c.relen 0
   obtain rfl := hG.done h0 hp hs
   refine P0 [] c fun _ c => ?_
   replace c := c.eqs (v := L a' l c') (u := L a' (vtab x3) c') 2 (by simp only [L, hl'])
   exact wp_ret (Rt c (a', c') [0] [])


theorem impl_WordOf_ok {p0 : Int} {p1 : Int} {r : Int} (h : impl_WordOf p0 p1 = some r) : Con Tryz.prog 112 [I p0, I p1] [] [] fun (_ : Unit) => ([I r], [], []) := by
 unfold impl_WordOf at h
 refine En Tryz.func112 rfl Tryz.ntmps112 fun _ fr w c => ?_
 refine P0 [] c fun _ c => S0 (T0 (Fp [] 1 c fun _ c => Bd h fun x1 hx1 h => Ca [] c (impl_isWidth_ok hx1) trivial Tryz.call102 fun _ _ _ c => ?_))
 refine Fp [] 1 c fun _ c => E0 (I0 c h (fun h => ?_) fun h => ?_)
 refine P0 [] c fun _ c => ?_
 cases h
 exact wp_ret (tr (Rt c () [] []))
 refine K0 (T0 (Fp [] 3 c fun _ c => Bd h fun x2 hx2 h => Eshl c hx2 fun _ c => ?_))
 refine Fp [] 3 c fun _ c => E0 ?_
 cases h
 exact wp_ret (Rt c () [] [])

theorem impl_ApplyUnary_ok {p0 : Int} {p1 : Int} {p2 : Int} {r : Int} (h : impl_ApplyUnary p0 p1 p2 = some r) : Con Tryz.prog 88 [I p0, I p1, I p2] [] [] fun (_ : Unit) => ([I r], [], []) := by
 unfold impl_ApplyUnary at h
 refine En Tryz.func88 rfl Tryz.ntmps88 fun _ fr w c => ?_
 refine P0 [] c fun _ c => S0 (T0 (Fp [] 2 c fun _ c => Bd h fun x1 hx1 h => Ca [] c (impl_WordOk_ok hx1) trivial Tryz.call79 fun _ _ _ c => ?_))
 refine Fp [] 1 c fun _ c => E0 (I0 c h (fun h => ?_) fun h => ?_)
 refine P0 [] c fun _ c => ?_
 cases h
 exact wp_ret (tr (Rt c () [] []))
 refine K0 (S0 (P0 [] c fun _ c => wp_block (P0 [] c fun _ c => I0 c h (fun h => ?_) fun h => ?_)))
 refine T0 (Fp [] 2 c fun _ c => Bd h fun x2 hx2 h => Eshl c hx2 fun _ c => ?_)
 refine Fp [] 4 c fun _ c => E0 ?_
 cases h
 exact wp_ret (br (tr (Rt c () [] [])))
 refine P0 [] c fun _ c => I0 c h (fun h => ?_) fun h => ?_
 refine T0 (Fp [] 3 c fun _ c => Bd h fun x3 hx3 h => Ca [] c (impl_WordOf_ok hx3) trivial Tryz.call112 fun _ _ _ c => ?_)
 refine Fp [] 1 c fun _ c => E0 ?_
 obtain rfl := sj h
 exact wp_ret (br (tr (Rt c () [] [])))
 refine K1 (bk (tn (P0 [] c fun _ c => ?_)))
 cases h
 exact wp_ret (Rt c () [] [])

theorem impl_CutWord_ok {p0 : Int} {p1 : Int} {p2 : Int} {p3 : Int} {r : Int} (h : impl_CutWord p0 p1 p2 p3 = some r) : Con Tryz.prog 89 [I p0, I p1, I p2, I p3] [] [] fun (_ : Unit) => ([I r], [], []) := by
 unfold impl_CutWord at h
 refine En Tryz.func89 rfl Tryz.ntmps89 fun _ fr w c => ?_
 refine P0 [] c fun _ c => S0 (Bd h fun x1 hx1 h => S0 (rZ [(2, .eq (.bool x1))] [] mix c ⟨Ncl c (kN (impl_WordOk_ok hx1)) trivial Tryz.call79, trivial⟩ fun _ _ c => I0 c h (fun h => ?_) fun h => ?_))
 refine P0 [] c fun _ c => ?_
 cases h
 exact wp_ret (tr (Rt c () [] []))
 refine K0 (T0 (Fp [] 3 c fun _ c => Bd h fun x2 hx2 h => Eshr c hx2 fun _ c => ?_))
 refine Fp [] 2 c fun _ c => Bd h fun x3 hx3 h => Eshl c hx3 fun _ c => ?_
 refine Fp [] 3 c fun _ c => E0 ?_
 cases h
 exact wp_ret (Rt c () [] [])

theorem impl_SignedOf_ok {p0 : Int} {p1 : Int} {r : Int} (h : impl_SignedOf p0 p1 = some r) : Con Tryz.prog 113 [I p0, I p1] [] [] fun (_ : Unit) => ([I r], [], []) := by
 unfold impl_SignedOf at h
 refine En Tryz.func113 rfl Tryz.ntmps113 fun _ fr w c => ?_
 refine P0 [] c fun _ c => S0 (T0 (Fp [] 2 c fun _ c => Bd h fun x1 hx1 h => Ca [] c (impl_WordOk_ok hx1) trivial Tryz.call79 fun _ _ _ c => ?_))
 refine Fp [] 1 c fun _ c => E0 (I0 c h (fun h => ?_) fun h => ?_)
 refine P0 [] c fun _ c => ?_
 obtain rfl := sj h
 exact wp_ret (tr (Rt c () [] []))
 refine K0 (S0 (T0 (Fp [] 4 c fun _ c => Bd h fun x2 hx2 h => Eshr c hx2 fun _ c => ?_)))
 refine Fp [] 1 c fun _ c => E0 (I0 c h (fun h => ?_) fun h => ?_)
 refine P0 [] c fun _ c => ?_
 obtain rfl := sj h
 exact wp_ret (tr (Rt c () [] []))
 refine K0 (T0 (Fp [] 3 c fun _ c => Bd h fun x3 hx3 h => Eshl c hx3 fun _ c => ?_))
 refine Fp [] 2 c fun _ c => E0 ?_
 cases h
 exact wp_ret (Rt c () [] [])

theorem impl_WidenWord_ok {p0 : Int} {p1 : Int} {p2 : Int} {p3 : Bool} {r : Int} (h : impl_WidenWord p0 p1 p2 p3 = some r) : Con Tryz.prog 90 [I p0, I p1, I p2, .bool p3] [] [] fun (_ : Unit) => ([I r], [], []) := by
 unfold impl_WidenWord at h
 refine En Tryz.func90 rfl Tryz.ntmps90 fun _ fr w c => ?_
 refine P0 [] c fun _ c => S0 (Bd h fun x1 hx1 h => Bd h fun x2 hx2 h => S0 (rZ [(2, .eq (.bool x1)), (6, .eq (.bool x2))] [] mix c ⟨Ncl c (kN (impl_WordOk_ok hx1)) trivial Tryz.call79, Ncl c (fun hg => impl_isWidth_ok (iteF (gcF hg) hx2)) trivial Tryz.call102, trivial⟩ fun _ _ c => I0 c h (fun h => ?_) fun h => ?_))
 refine P0 [] c fun _ c => ?_
 cases h
 exact wp_ret (tr (Rt c () [] []))
 refine K0 (S0 (P0 [] c fun _ c => I0 c h (fun h => ?_) fun h => ?_))
 refine T0 (Fp [] 3 c fun _ c => Bd h fun x3 hx3 h => Ca [] c (impl_SignedOf_ok hx3) trivial Tryz.call113 fun _ _ _ c => ?_)
 refine Bd h fun x4 hx4 h => Ca [] c (impl_WordOf_ok hx4) trivial Tryz.call112 fun _ _ _ c => ?_
 refine Fp [] 1 c fun _ c => E0 ?_
 obtain rfl := sj h
 exact wp_ret (tr (Rt c () [] []))
 refine K0 (P0 [] c fun _ c => ?_)
 obtain rfl := sj h
 exact wp_ret (Rt c () [] [])

theorem impl_JoinWords_ok {p0 : Int} {p1 : Int} {p2 : Int} {p3 : Int} {r : Int} (h : impl_JoinWords p0 p1 p2 p3 = some r) : Con Tryz.prog 91 [I p0, I p1, I p2, I p3] [] [] fun (_ : Unit) => ([I r], [], []) := by
 unfold impl_JoinWords at h
 refine En Tryz.func91 rfl Tryz.ntmps91 fun _ fr w c => ?_
 refine P0 [] c fun _ c => S0 (Bd h fun x1 hx1 h => Bd h fun x2 hx2 h => S0 (rZ [(2, .eq (.bool x1)), (7, .eq (.bool x2))] [] mix c ⟨Ncl c (kN (impl_WordOk_ok hx1)) trivial Tryz.call79, Ncl c (fun hg => impl_WordOk_ok (iteF (gcF hg) hx2)) trivial Tryz.call79, trivial⟩ fun _ _ c => I0 c h (fun h => ?_) fun h => ?_))
 refine P0 [] c fun _ c => ?_
 cases h
 exact wp_ret (tr (Rt c () [] []))
 refine K0 (T0 (Fp [] 3 c fun _ c => Bd h fun x3 hx3 h => Eshl c hx3 fun _ c => ?_))
 refine Fp [] 3 c fun _ c => E0 ?_
 cases h
 exact wp_ret (Rt c () [] [])

theorem impl_shiftWord_ok {p0 : Int} {p1 : Int} {p2 : Int} {p3 : Int} {r : Int} (h : impl_shiftWord p0 p1 p2 p3 = some r) : Con Tryz.prog 114 [I p0, I p1, I p2, I p3] [] [] fun (_ : Unit) => ([I r], [], []) := by
 unfold impl_shiftWord at h
 refine En Tryz.func114 rfl Tryz.ntmps114 fun _ fr w c => ?_
 refine P0 [] c fun _ c => S0 (P0 [] c fun _ c => I0 c h (fun h => ?_) fun h => ?_)
 refine T0 (Fp [] 3 c fun _ c => Bd h fun x1 hx1 h => Ca [] c (impl_SignedOf_ok hx1) trivial Tryz.call113 fun _ _ _ c => ?_)
 refine Fp [] 5 c fun _ c => Bd h fun x2 hx2 h => Eshr c hx2 fun _ c => ?_
 refine Bd h fun x3 hx3 h => Ca [] c (impl_WordOf_ok hx3) trivial Tryz.call112 fun _ _ _ c => ?_
 refine Fp [] 1 c fun _ c => E0 ?_
 obtain rfl := sj h
 exact wp_ret (tr (Rt c () [] []))
 refine K0 (S0 (P0 [] c fun _ c => I0 c h (fun h => ?_) fun h => ?_))
 refine P0 [] c fun _ c => ?_
 obtain rfl := sj h
 exact wp_ret (tr (Rt c () [] []))
 refine K0 (S0 (P0 [] c fun _ c => I0 c h (fun h => ?_) fun h => ?_))
 refine T0 (Fp [] 4 c fun _ c => Bd h fun x4 hx4 h => Eshl c hx4 fun _ c => ?_)
 refine Bd h fun x5 hx5 h => Ca [] c (impl_WordOf_ok hx5) trivial Tryz.call112 fun _ _ _ c => ?_
 refine Fp [] 1 c fun _ c => E0 ?_
 obtain rfl := sj h
 exact wp_ret (tr (Rt c () [] []))
 refine K0 (T0 (Fp [] 3 c fun _ c => Bd h fun x6 hx6 h => Eshr c hx6 fun _ c => ?_))
 refine Fp [] 1 c fun _ c => E0 ?_
 obtain rfl := sj h
 exact wp_ret (Rt c () [] [])

theorem impl_boolWord_ok {p0 : Bool} {r : Int} (h : impl_boolWord p0 = some r) : Con Tryz.prog 115 [.bool p0] [] [] fun (_ : Unit) => ([I r], [], []) := by
 unfold impl_boolWord at h
 refine En Tryz.func115 rfl Tryz.ntmps115 fun _ fr w c => ?_
 refine P0 [] c fun _ c => S0 (P0 [] c fun _ c => I0 c h (fun h => ?_) fun h => ?_)
 refine P0 [] c fun _ c => ?_
 obtain rfl := sj h
 exact wp_ret (tr (Rt c () [] []))
 refine K0 (P0 [] c fun _ c => ?_)
 obtain rfl := sj h
 exact wp_ret (Rt c () [] [])
end Go.Proofs.YtfbcccfbikeibaaGreatDoor
