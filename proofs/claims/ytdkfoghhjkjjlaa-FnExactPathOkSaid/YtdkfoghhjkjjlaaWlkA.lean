/- The walks, printed by a program. -/
import Derived.Test.YtdkfoghhjkjjlaaGLN
import Derived.Test.YtdkfoghhjkjjlaaGLt
import Derived.Test.YtdkfoghhjkjjlaaDefs
import Derived.Test.YtdkfoghhjkjjlaaProg
import Derived.KernelRfl
import Derived.DeepKeys4
set_option linter.unusedVariables false
set_option maxRecDepth 100000
namespace Go.Proofs.Ytdkfoghhjkjjlaa
open Go.GL Go.Maps Go.WideMaps
abbrev I (x : Int) : Value := .int .i64 x
abbrev L {α : Type} (a : Option Addr) (l : List α) (c : Nat) : Value := .slice a (List.length l) c
abbrev B (b n : Nat) : Value := .pointer (some ⟨b, n, none⟩)
theorem mix : Try.prog.follows .mixedOrders = true := by kernel_rfl
abbrev sl132 : Value → List D.Ins → HP := SL 132
abbrev sl177 : Value → List D.Value → HP := SL 177
abbrev sl3 : Value → List Int → HP := SL 3
abbrev sl65 : Value → List Rw.Term → HP := SL 65
theorem fc65_1 {q : D.Term} {w : World} {F : Nat → Prop} {cs : List Value} (h : Rep.ok w F cs q) : cs[1]? = some (I q.W) := fo_Term1 h
theorem fc177_0 {q : D.Value} {w : World} {F : Nat → Prop} {cs : List Value} (h : Rep.ok w F cs q) : cs[0]? = some (Str.val q.Name) := fo_Value0 h
theorem fc177_1 {q : D.Value} {w : World} {F : Nat → Prop} {cs : List Value} (h : Rep.ok w F cs q) : cs[1]? = some (I q.W) := fo_Value1 h
noncomputable abbrev map158 : MapT Try.prog 9 3 Str Int := mapSI _ 9 3 Try.underlying9 Try.underlying3 (by kernel_rfl)

theorem laws_szInsS_ok {p0 : List D.Ins} {p1 : Int} {ga0 : Option Addr} {gc1 : Nat} {r : Int} (h : laws_szInsS p0 p1 = some r) : Con Try.prog 47 [L ga0 p0 gc1, I p1] [] [RO (L ga0 p0 gc1) p0] fun (_ : Unit) => ([I r], [], []) := by
 unfold laws_szInsS at h
 refine En Try.func47 rfl Try.ntmps47 fun _ fr w c => ?_
 refine P0 [] c fun _ c => ?_
 refine P0 [] c fun _ c => ?_
 refine S0 ?_
 refine P0 [] c fun _ c => ?_
 refine I0 c h (fun h => ?_) fun h => ?_
 ·refine P0 [] c fun _ c => ?_
  obtain rfl := Option.some.inj h
  exact wp_ret (tr (Rt c () [] []))
 refine K0 ?_
 refine P0 [] c fun _ c => ?_
 obtain rfl := Option.some.inj h
 exact wp_ret (Rt c () [] [])

theorem laws_szProgram_ok {p0 : D.Program} {p1 : Int} {ga0 : Option Addr} {gc1 : Nat} {r : Int} (h : laws_szProgram p0 p1 = some r) : Con Try.prog 16 [.agg #[I p0.W, I p0.Mem, I p0.In, L ga0 p0.Code gc1], I p1] [] [RO (L ga0 p0.Code gc1) p0.Code] fun (_ : Unit) => ([I r], [], []) := by
 unfold laws_szProgram at h
 refine En Try.func16 rfl Try.ntmps16 fun _ fr w c => ?_
 refine T0 ?_
 refine Ebx [I p0.W, I p0.Mem, I p0.In, L ga0 p0.Code gc1] c fun b1 _ _ c => ?_
 refine Fp [] 1 c fun _ c => ?_
 refine E0 ?_
 refine T0 ?_
 refine Fp [(1, 0)] 3 c fun _ c => ?_
 obtain ⟨x1, hx1, h⟩ := bindE h
 refine Ca [] c (laws_szInsS_ok hx1) ⟨.f 0, trivial⟩ Try.call47 fun _ _ _ c => ?_
 refine Fp [] 1 c fun _ c => ?_
 refine E0 ?_
 refine S0 ?_
 refine P0 [] c fun _ c => ?_
 refine I0 c h (fun h => ?_) fun h => ?_
 ·refine P0 [] c fun _ c => ?_
  obtain rfl := Option.some.inj h
  exact wp_ret (tr (Rt c () [] []))
 refine K0 ?_
 refine P0 [] c fun _ c => ?_
 obtain rfl := Option.some.inj h
 exact wp_ret (Rt c () [] [])

theorem laws_szTerm_laws_szTermS_rec (n : Nat) : (∀ {p0 : D.Term} {p1 : Int} {ga0 : Option Addr} {gc1 : Nat} {r : Int} (h : laws_szTerm n p0 p1 = some r), Con Try.prog 83 [.agg #[I p0.Op, I p0.W, I p0.N, Str.val p0.Name, L ga0 p0.Kids gc1], I p1] [] [RO (L ga0 p0.Kids gc1) p0.Kids] fun (_ : Unit) => ([I r], [], [])) ∧
    (∀ {p0 : List D.Term} {p1 : Int} {ga0 : Option Addr} {gc1 : Nat} {r : Int} (h : laws_szTermS n p0 p1 = some r), Con Try.prog 48 [L ga0 p0 gc1, I p1] [] [RO (L ga0 p0 gc1) p0] fun (_ : Unit) => ([I r], [], [])) := by
 induction n with
 | zero => exact ⟨by intro p0 p1 ga0 gc1 r h; simp [laws_szTerm] at h, by intro p0 p1 ga0 gc1 r h; simp [laws_szTermS] at h⟩
 | succ n ih =>
 obtain ⟨ih0, ih1⟩ := ih
 refine ⟨?_, ?_⟩
 · intro p0 p1 ga0 gc1 r h
   rw [laws_szTerm] at h
   refine En Try.func83 rfl Try.ntmps83 fun _ fr w c => ?_
   refine T0 ?_
   refine Ebx [I p0.Op, I p0.W, I p0.N, Str.val p0.Name, L ga0 p0.Kids gc1] c fun b1 _ _ c => ?_
   refine Fp [] 1 c fun _ c => ?_
   refine E0 ?_
   refine P0 [(2, 0)] c fun _ c => ?_
   refine S0 ?_
   refine P0 [] c fun _ c => ?_
   refine I0 c h (fun h => ?_) fun h => ?_
   ·refine P0 [] c fun _ c => ?_
    obtain rfl := Option.some.inj h
    exact wp_ret (tr (Rt c () [] []))
   refine K0 ?_
   refine T0 ?_
   refine Fp [(1, 0)] 3 c fun _ c => ?_
   obtain ⟨x1, hx1, h⟩ := bindE h
   refine Ca [] c (ih1 hx1) ⟨.f 0, trivial⟩ Try.call48 fun _ _ _ c => ?_
   refine Fp [] 1 c fun _ c => ?_
   refine E0 ?_
   refine S0 ?_
   refine P0 [] c fun _ c => ?_
   refine I0 c h (fun h => ?_) fun h => ?_
   ·refine P0 [] c fun _ c => ?_
    obtain rfl := Option.some.inj h
    exact wp_ret (tr (Rt c () [] []))
   refine K0 ?_
   refine P0 [] c fun _ c => ?_
   obtain rfl := Option.some.inj h
   exact wp_ret (Rt c () [] [])
 · intro p0 p1 ga0 gc1 r h
   rw [laws_szTermS] at h
   refine En Try.func48 rfl Try.ntmps48 fun _ fr w c => ?_
   refine P0 [] c fun _ c => ?_
   refine P0 [] c fun _ c => ?_
   refine S0 ?_
   refine P0 [] c fun _ c => ?_
   refine I0 c h (fun h => ?_) fun h => ?_
   ·refine P0 [] c fun _ c => ?_
    obtain rfl := Option.some.inj h
    exact wp_ret (tr (Rt c () [] []))
   refine K0 ?_
   refine S0 ?_
   refine P0 [] c fun _ c => ?_
   obtain ⟨rl1, hit1, h⟩ := bindE h
   have hk1 := h
   refine LpR (fun s1  (_ : Unit) => ([(0, L ga0 p0 gc1), (1, I s1.1), (5, I s1.2)], id, [])) (fun s  (_ : Unit) => ([(1, I s)], id, [])) hit1 c () (c.re [] [0]) (fun s1 q1 _ _ _ c h hr1 => ?_) fun s1r _ _ _ hrl c => ?_
   ·refine S0 ?_
    refine P0 [] c fun _ c => ?_
    refine I0 c h (fun h => ?_) fun h => ?_
    ·refine K0 ?_
     refine S0 (wp_block ?_)
     refine T0 ?_
     refine Fp [] 2 c fun _ c => ?_
     obtain ⟨x1, hx1, h⟩ := bindE h
     refine Eem c (.f 0) hx1 fun _ u1 _ c => ?_
     obtain ⟨a1, c1, rfl, c⟩ := c.o_Term 1
     refine Fp [] 1 c fun _ c => ?_
     obtain ⟨x2, hx2, h⟩ := bindE h
     refine Ca [] c (ih0 hx2) ⟨.f 2, trivial⟩ Try.call83 fun _ _ _ c => ?_
     refine Fp [] 1 c fun _ c => ?_
     refine E0 ?_
     refine P0 [] c fun _ c => ?_
     refine I0 c h (fun h => ?_) fun h => ?_
     ·refine P0 [] c fun _ c => ?_
      obtain rfl := hr1 _ (Option.some.inj h).symm
      obtain rfl := Option.some.inj hk1
      exact wp_ret (br (tr (tr (br (tr (Rt c () [] []))))))
     refine K1 ?_
     refine bk (tn ?_)
     refine P1 [] c fun _ c => ?_
     exact Nx h () (c.re [] [0])
    refine wp_exit (te (te (be ?_)))
    obtain rfl := hr1 _ (Option.some.inj h).symm
    exact tn ⟨_, (), rfl, c.re [] [0]⟩
   subst hrl
   refine P0 [] c fun _ c => ?_
   obtain rfl := Option.some.inj h
   exact wp_ret (Rt c () [] [])
theorem laws_szTerm_ok {n : Nat} : ∀ {p0 : D.Term} {p1 : Int} {ga0 : Option Addr} {gc1 : Nat} {r : Int} (h : laws_szTerm n p0 p1 = some r), Con Try.prog 83 [.agg #[I p0.Op, I p0.W, I p0.N, Str.val p0.Name, L ga0 p0.Kids gc1], I p1] [] [RO (L ga0 p0.Kids gc1) p0.Kids] fun (_ : Unit) => ([I r], [], []) := (laws_szTerm_laws_szTermS_rec n).1
theorem laws_szTermS_ok {n : Nat} : ∀ {p0 : List D.Term} {p1 : Int} {ga0 : Option Addr} {gc1 : Nat} {r : Int} (h : laws_szTermS n p0 p1 = some r), Con Try.prog 48 [L ga0 p0 gc1, I p1] [] [RO (L ga0 p0 gc1) p0] fun (_ : Unit) => ([I r], [], []) := (laws_szTerm_laws_szTermS_rec n).2

theorem laws_szIntS_ok {p0 : List Int} {p1 : Int} {ga0 : Option Addr} {gc1 : Nat} {r : Int} (h : laws_szIntS p0 p1 = some r) : Con Try.prog 49 [L ga0 p0 gc1, I p1] [] [RO (L ga0 p0 gc1) p0] fun (_ : Unit) => ([I r], [], []) := by
 unfold laws_szIntS at h
 refine En Try.func49 rfl Try.ntmps49 fun _ fr w c => ?_
 refine P0 [] c fun _ c => ?_
 refine P0 [] c fun _ c => ?_
 refine S0 ?_
 refine P0 [] c fun _ c => ?_
 refine I0 c h (fun h => ?_) fun h => ?_
 ·refine P0 [] c fun _ c => ?_
  obtain rfl := Option.some.inj h
  exact wp_ret (tr (Rt c () [] []))
 refine K0 ?_
 refine P0 [] c fun _ c => ?_
 obtain rfl := Option.some.inj h
 exact wp_ret (Rt c () [] [])

theorem laws_szPath_ok {n : Nat} {p0 : D.Path} {p1 : Int} {ga0 : Option Addr} {gc1 : Nat} {ga2 : Option Addr} {gc3 : Nat} {ga4 : Option Addr} {gc5 : Nat} {ga6 : Option Addr} {gc7 : Nat} {ga8 : Option Addr} {gc9 : Nat} {ga10 : Option Addr} {gc11 : Nat} {r : Int} (h : laws_szPath n p0 p1 = some r) : Con Try.prog 17 [.agg #[I p0.Pc, L ga0 p0.Regs gc1, L ga2 p0.Mem gc3, L ga4 p0.Stack gc5, I p0.In, L ga6 p0.Out gc7, I p0.Code, I p0.Steps, L ga8 p0.Cond gc9, L ga10 p0.Turns gc11], I p1] [] [RO (L ga0 p0.Regs gc1) p0.Regs, RO (L ga2 p0.Mem gc3) p0.Mem, RO (L ga4 p0.Stack gc5) p0.Stack, RO (L ga6 p0.Out gc7) p0.Out, RO (L ga8 p0.Cond gc9) p0.Cond, RO (L ga10 p0.Turns gc11) p0.Turns] fun (_ : Unit) => ([I r], [], []) := by
 unfold laws_szPath at h
 refine En Try.func17 rfl Try.ntmps17 fun _ fr w c => ?_
 refine T0 ?_
 refine Ebx [I p0.Pc, L ga0 p0.Regs gc1, L ga2 p0.Mem gc3, L ga4 p0.Stack gc5, I p0.In, L ga6 p0.Out gc7, I p0.Code, I p0.Steps, L ga8 p0.Cond gc9, L ga10 p0.Turns gc11] c fun b1 _ _ c => ?_
 refine Fp [] 1 c fun _ c => ?_
 refine E0 ?_
 refine T0 ?_
 refine Fp [(1, 0)] 3 c fun _ c => ?_
 obtain ⟨x1, hx1, h⟩ := bindE h
 refine Ca [] c (laws_szTermS_ok hx1) ⟨.f 0, trivial⟩ Try.call48 fun _ _ _ c => ?_
 refine Fp [] 1 c fun _ c => ?_
 refine E0 ?_
 refine S0 ?_
 refine P0 [] c fun _ c => ?_
 refine I0 c h (fun h => ?_) fun h => ?_
 ·refine P0 [] c fun _ c => ?_
  obtain rfl := Option.some.inj h
  exact wp_ret (tr (Rt c () [] []))
 refine K0 ?_
 refine T0 ?_
 refine Fp [(1, 0)] 3 c fun _ c => ?_
 obtain ⟨x2, hx2, h⟩ := bindE h
 refine Ca [] c (laws_szTermS_ok hx2) ⟨.f 1, trivial⟩ Try.call48 fun _ _ _ c => ?_
 refine Fp [] 1 c fun _ c => ?_
 refine E0 ?_
 refine S0 ?_
 refine P0 [] c fun _ c => ?_
 refine I0 c h (fun h => ?_) fun h => ?_
 ·refine P0 [] c fun _ c => ?_
  obtain rfl := Option.some.inj h
  exact wp_ret (tr (Rt c () [] []))
 refine K0 ?_
 refine T0 ?_
 refine Fp [(1, 0)] 3 c fun _ c => ?_
 obtain ⟨x3, hx3, h⟩ := bindE h
 refine Ca [] c (laws_szIntS_ok hx3) ⟨.f 2, trivial⟩ Try.call49 fun _ _ _ c => ?_
 refine Fp [] 1 c fun _ c => ?_
 refine E0 ?_
 refine S0 ?_
 refine P0 [] c fun _ c => ?_
 refine I0 c h (fun h => ?_) fun h => ?_
 ·refine P0 [] c fun _ c => ?_
  obtain rfl := Option.some.inj h
  exact wp_ret (tr (Rt c () [] []))
 refine K0 ?_
 refine T0 ?_
 refine Fp [(1, 0)] 3 c fun _ c => ?_
 obtain ⟨x4, hx4, h⟩ := bindE h
 refine Ca [] c (laws_szTermS_ok hx4) ⟨.f 3, trivial⟩ Try.call48 fun _ _ _ c => ?_
 refine Fp [] 1 c fun _ c => ?_
 refine E0 ?_
 refine S0 ?_
 refine P0 [] c fun _ c => ?_
 refine I0 c h (fun h => ?_) fun h => ?_
 ·refine P0 [] c fun _ c => ?_
  obtain rfl := Option.some.inj h
  exact wp_ret (tr (Rt c () [] []))
 refine K0 ?_
 refine T0 ?_
 refine Fp [(1, 0)] 3 c fun _ c => ?_
 replace c := c.gm [BX b1 49 [I p0.Pc, L ga0 p0.Regs gc1, L ga2 p0.Mem gc3, L ga4 p0.Stack gc5, I p0.In, L ga6 p0.Out gc7, I p0.Code, I p0.Steps, L ga8 p0.Cond gc9, L ga10 p0.Turns gc11]]
 obtain ⟨x5, hx5, h⟩ := bindE h
 refine Ca [] c (laws_szTermS_ok hx5) ⟨.f 4, trivial⟩ Try.call48 fun _ _ _ c => ?_
 refine Fp [] 1 c fun _ c => ?_
 refine E0 ?_
 refine S0 ?_
 refine P0 [] c fun _ c => ?_
 refine I0 c h (fun h => ?_) fun h => ?_
 ·refine P0 [] c fun _ c => ?_
  obtain rfl := Option.some.inj h
  exact wp_ret (tr (Rt c () [] []))
 refine K0 ?_
 refine T0 ?_
 refine Fp [(1, 0)] 3 c fun _ c => ?_
 obtain ⟨x6, hx6, h⟩ := bindE h
 refine Ca [] c (laws_szIntS_ok hx6) ⟨.f 5, trivial⟩ Try.call49 fun _ _ _ c => ?_
 refine Fp [] 1 c fun _ c => ?_
 refine E0 ?_
 refine S0 ?_
 refine P0 [] c fun _ c => ?_
 refine I0 c h (fun h => ?_) fun h => ?_
 ·refine P0 [] c fun _ c => ?_
  obtain rfl := Option.some.inj h
  exact wp_ret (tr (Rt c () [] []))
 refine K0 ?_
 refine P0 [] c fun _ c => ?_
 obtain rfl := Option.some.inj h
 exact wp_ret (Rt c () [] [])

theorem laws_toIns_ok {p0 : D.Ins} {r : D.Ins} (h : laws_toIns p0 = some r) : Con Try.prog 87 [.agg #[I p0.Op, I p0.A, I p0.B, I p0.C]] [] [] fun (_ : Unit) => ([.agg #[I r.Op, I r.A, I r.B, I r.C]], [], []) := by
 unfold laws_toIns at h
 refine En Try.func87 rfl Try.ntmps87 fun _ fr w c => ?_
 refine T0 ?_
 refine Ebx [I p0.Op, I p0.A, I p0.B, I p0.C] c fun b1 _ _ c => ?_
 refine Eal [I 0, I 0, I 0, I 0] c fun b2 _ _ c => ?_
 refine E0 ?_
 refine T0 ?_
 refine Eal [I 0, I 0, I 0, I 0] c fun b3 _ _ c => ?_
 refine E0 ?_
 refine T0 ?_
 refine Fp [(1, 0)] 3 c fun _ c => ?_
 refine Esb 2 0 (I p0.Op) c fun _ c => ?_
 refine E0 ?_
 refine T0 ?_
 refine Fp [(1, 0)] 3 c fun _ c => ?_
 refine Esb 2 1 (I p0.A) c fun _ c => ?_
 refine E0 ?_
 refine T0 ?_
 refine Fp [(1, 0)] 3 c fun _ c => ?_
 replace c := c.gm [BX b1 136 [I p0.Op, I p0.A, I p0.B, I p0.C], BX b2 132 [I 0, I 0, I 0, I 0], BX b3 132 [I p0.Op, I p0.A, I 0, I 0]]
 refine Esb 2 2 (I p0.B) c fun _ c => ?_
 refine E0 ?_
 refine T0 ?_
 refine Fp [(1, 0)] 3 c fun _ c => ?_
 refine Esb 2 3 (I p0.C) c fun _ c => ?_
 refine E0 ?_
 refine T0 ?_
 refine Fp [(0, 2)] 1 c fun _ c => ?_
 refine Ess 1 [I p0.Op, I p0.A, I p0.B, I p0.C] c fun _ c => ?_
 refine E0 ?_
 obtain rfl := Option.some.inj h
 exact wp_ret (Rg c () [] [] (.cell (α := Agg 3) ⟨by kernel_rfl, by kernel_rfl⟩ (.b 1) .nil))

theorem laws_toInsS_ok {n : Nat} {p0 : List D.Ins} {ga0 : Option Addr} {gc1 : Nat} {r : (List D.Ins)} (h : laws_toInsS n p0 = some r) : Con Try.prog 52 [L ga0 p0 gc1] [] [RO (L ga0 p0 gc1) p0] fun (i : Option Addr × Nat) => ([L i.1 r i.2], [sl132 (L i.1 r i.2) r], []) := by
 unfold laws_toInsS at h
 refine En Try.func52 rfl Try.ntmps52 fun _ fr w c => ?_
 refine P0 [] c fun _ c => ?_
 refine T0 ?_
 refine Fp [] 2 c fun _ c => ?_
 obtain ⟨x1, hx1, h⟩ := bindE h
 refine Emk 132 c hx1 fun a1 c1 _ _ c => ?_
 refine Fp [] 1 c fun _ c => ?_
 refine E0 ?_
 refine S0 ?_
 refine P0 [] c fun _ c => ?_
 obtain ⟨rl1, hit1, h⟩ := bindE h
 refine Lp (fun s1  (_ : Unit) => ([(0, L ga0 p0 gc1), (3, L a1 x1 c1), (4, I s1.1)], fun Γ => Γ.set 0 (sl132 (L a1 x1 c1) s1.2), [])) (fun  (_ : Unit) => ([(3, L a1 x1 c1)], fun Γ => Γ.set 0 (sl132 (L a1 x1 c1) rl1), [])) hit1 c () (c.re [0] [0]) (fun s1 q1 _ _ _ c h hr1 => ?_) fun _ _ _ c => ?_
 ·refine S0 ?_
  refine P0 [] c fun _ c => ?_
  refine I0 c h (fun h => ?_) fun h => ?_
  ·refine K0 ?_
   refine S0 (wp_block ?_)
   refine T1 ?_
   refine Fp [] 4 c fun _ c => ?_
   obtain ⟨x2, hx2, h⟩ := bindE h
   refine Eel c (.f 0) hx2 fun _ _ c => ?_
   obtain ⟨x3, hx3, h⟩ := bindE h
   refine Ca [] c (laws_toIns_ok hx3) trivial Try.call87 fun _ _ _ c => ?_
   obtain ⟨x4, hx4, h⟩ := bindE h
   refine Eset 0 c hx4 fun _ _ _ c => ?_
   refine E1 ?_
   refine bk (tn ?_)
   refine P1 [] c fun _ c => ?_
   exact Nx h () (c.re [0] [0])
  refine wp_exit (te (te (be ?_)))
  obtain rfl := hr1 _ (Option.some.inj h).symm
  exact tn ⟨(), c.re [0] [0]⟩
 refine P0 [] c fun _ c => ?_
 obtain rfl := Option.some.inj h
 obtain ⟨he1, c⟩ := c.relen 0
 replace c := c.eqs (v := L a1 x1 c1) (u := L a1 rl1 c1) 2 (by simp only [L, he1])
 exact wp_ret (Rt c (a1, c1) [0] [])

theorem laws_toProgram_ok {n : Nat} {p0 : D.Program} {ga0 : Option Addr} {gc1 : Nat} {r : D.Program} (h : laws_toProgram n p0 = some r) : Con Try.prog 19 [.agg #[I p0.W, I p0.Mem, I p0.In, L ga0 p0.Code gc1]] [] [RO (L ga0 p0.Code gc1) p0.Code] fun (i : Option Addr × Nat) => ([.agg #[I r.W, I r.Mem, I r.In, L i.1 r.Code i.2]], [sl132 (L i.1 r.Code i.2) r.Code], []) := by
 unfold laws_toProgram at h
 refine En Try.func19 rfl Try.ntmps19 fun _ fr w c => ?_
 refine T0 ?_
 refine Ebx [I p0.W, I p0.Mem, I p0.In, L ga0 p0.Code gc1] c fun b1 _ _ c => ?_
 refine Eal [I 0, I 0, I 0, L none ([] : List D.Ins) 0] c fun b2 _ _ c => ?_
 refine E0 ?_
 refine T0 ?_
 refine Eal [I 0, I 0, I 0, L none ([] : List D.Ins) 0] c fun b3 _ _ c => ?_
 refine E0 ?_
 refine T0 ?_
 refine Fp [(1, 0)] 3 c fun _ c => ?_
 refine Esb 2 0 (I p0.W) c fun _ c => ?_
 refine E0 ?_
 refine T0 ?_
 refine Fp [(1, 0)] 3 c fun _ c => ?_
 refine Esb 2 1 (I p0.Mem) c fun _ c => ?_
 refine E0 ?_
 refine T0 ?_
 refine Fp [(1, 0)] 3 c fun _ c => ?_
 replace c := c.gm [BX b1 46 [I p0.W, I p0.Mem, I p0.In, L ga0 p0.Code gc1], BX b2 55 [I 0, I 0, I 0, L none ([] : List D.Ins) 0], BX b3 55 [I p0.W, I p0.Mem, I 0, L none ([] : List D.Ins) 0]]
 refine Esb 2 2 (I p0.In) c fun _ c => ?_
 refine E0 ?_
 refine T0 ?_
 refine Fp [(1, 0)] 2 c fun _ c => ?_
 obtain ⟨x1, hx1, h⟩ := bindE h
 refine Ca [] c (laws_toInsS_ok hx1) ⟨.f 0, trivial⟩ Try.call52 fun i1 _ _ c => ?_
 refine Fp [] 1 c fun _ c => ?_
 refine Esb 2 3 (L i1.1 x1 i1.2) c fun _ c => ?_
 refine E0 ?_
 refine T0 ?_
 refine Fp [(0, 2)] 1 c fun _ c => ?_
 refine Ess 1 [I p0.W, I p0.Mem, I p0.In, L i1.1 x1 i1.2] c fun _ c => ?_
 refine E0 ?_
 obtain rfl := Option.some.inj h
 exact wp_ret (Rg c (i1.1, i1.2) [3] [] (.cell (α := Agg 3) ⟨by kernel_rfl, by kernel_rfl⟩ (.b 1) .nil))

theorem laws_toTerm_laws_toTermS_rec (n : Nat) : (∀ {p0 : D.Term} {ga0 : Option Addr} {gc1 : Nat} {r : D.Term} (h : laws_toTerm n p0 = some r), Con Try.prog 88 [.agg #[I p0.Op, I p0.W, I p0.N, Str.val p0.Name, L ga0 p0.Kids gc1]] [] [RO (L ga0 p0.Kids gc1) p0.Kids] fun (i : Option Addr × Nat) => ([.agg #[I r.Op, I r.W, I r.N, Str.val r.Name, L i.1 r.Kids i.2]], [], [RO (L i.1 r.Kids i.2) r.Kids])) ∧
    (∀ {p0 : List D.Term} {ga0 : Option Addr} {gc1 : Nat} {r : (List D.Term)} (h : laws_toTermS n p0 = some r), Con Try.prog 53 [L ga0 p0 gc1] [] [RO (L ga0 p0 gc1) p0] fun (i : Option Addr × Nat) => ([L i.1 r i.2], [], [RO (L i.1 r i.2) r])) := by
 induction n with
 | zero => exact ⟨by intro p0 ga0 gc1 r h; simp [laws_toTerm] at h, by intro p0 ga0 gc1 r h; simp [laws_toTermS] at h⟩
 | succ n ih =>
 obtain ⟨ih0, ih1⟩ := ih
 refine ⟨?_, ?_⟩
 · intro p0 ga0 gc1 r h
   rw [laws_toTerm] at h
   refine En Try.func88 rfl Try.ntmps88 fun _ fr w c => ?_
   refine T0 ?_
   refine Ebx [I p0.Op, I p0.W, I p0.N, Str.val p0.Name, L ga0 p0.Kids gc1] c fun b1 _ _ c => ?_
   refine Eal [I 0, I 0, I 0, Str.val ⟨[]⟩, L none ([] : List D.Term) 0] c fun b2 _ _ c => ?_
   refine E0 ?_
   refine T0 ?_
   refine Eal [I 0, I 0, I 0, Str.val ⟨[]⟩, L none ([] : List D.Term) 0] c fun b3 _ _ c => ?_
   refine E0 ?_
   refine T0 ?_
   refine Fp [(1, 0)] 3 c fun _ c => ?_
   refine Esb 2 0 (I p0.Op) c fun _ c => ?_
   refine E0 ?_
   refine T0 ?_
   refine Fp [(1, 0)] 3 c fun _ c => ?_
   refine Esb 2 1 (I p0.W) c fun _ c => ?_
   refine E0 ?_
   refine T0 ?_
   refine Fp [(1, 0)] 3 c fun _ c => ?_
   replace c := c.gm [BX b1 130 [I p0.Op, I p0.W, I p0.N, Str.val p0.Name, L ga0 p0.Kids gc1], BX b2 65 [I 0, I 0, I 0, Str.val ⟨[]⟩, L none ([] : List D.Term) 0], BX b3 65 [I p0.Op, I p0.W, I 0, Str.val ⟨[]⟩, L none ([] : List D.Term) 0]]
   refine Esb 2 2 (I p0.N) c fun _ c => ?_
   refine E0 ?_
   refine T0 ?_
   refine Fp [(1, 0)] 3 c fun _ c => ?_
   refine Esb 2 3 (Str.val p0.Name) c fun _ c => ?_
   refine E0 ?_
   refine T0 ?_
   refine Fp [(1, 0)] 2 c fun _ c => ?_
   obtain ⟨x1, hx1, h⟩ := bindE h
   refine Cf [] c (ih1 hx1) ⟨.f 0, trivial⟩ Try.call53 fun i1 _ _ c => ?_
   refine Fp [] 1 c fun _ c => ?_
   refine Esb 2 4 (L i1.1 x1 i1.2) c fun _ c => ?_
   refine E0 ?_
   refine T0 ?_
   refine Fp [(0, 2)] 1 c fun _ c => ?_
   refine Ess 1 [I p0.Op, I p0.W, I p0.N, Str.val p0.Name, L i1.1 x1 i1.2] c fun _ c => ?_
   refine E0 ?_
   obtain rfl := Option.some.inj h
   exact wp_ret (Rg c (i1.1, i1.2) [] [1] (.cell (α := Agg 4) ⟨by kernel_rfl, by kernel_rfl⟩ (.b 1) .nil))
 · intro p0 ga0 gc1 r h
   rw [laws_toTermS] at h
   refine En Try.func53 rfl Try.ntmps53 fun _ fr w c => ?_
   refine P0 [] c fun _ c => ?_
   refine T0 ?_
   refine Fp [] 2 c fun _ c => ?_
   obtain ⟨x1, hx1, h⟩ := bindE h
   refine Emkr 65 (⟨0, 0, 0, ⟨[]⟩, ⟨none, 0, 0⟩⟩ : Rw.Term) (fun w F => rz_Term w F) c hx1 fun a1 c1 _ _ c => ?_
   refine Fp [] 1 c fun _ c => ?_
   refine E0 ?_
   refine S0 ?_
   refine P0 [] c fun _ c => ?_
   obtain ⟨rl1, hit1, h⟩ := bindE h
   refine Lp (fun s1  (i : List Rw.Term) => ([(0, L ga0 p0 gc1), (3, L a1 x1 c1), (4, I s1.1)], fun Γ => Γ.set 0 (sl65 (L a1 x1 c1) (i)), [CS (i) s1.2])) (fun  (i : List Rw.Term) => ([(3, L a1 x1 c1)], fun Γ => Γ.set 0 (sl65 (L a1 x1 c1) (i)), [CS (i) rl1])) hit1 c ((List.replicate (List.length x1) (⟨0, 0, 0, ⟨[]⟩, ⟨none, 0, 0⟩⟩ : Rw.Term))) (c.re [0] [0, 1, 1]) (fun s1 q1 i1 _ _ c h hr1 => ?_) fun k1 _ _ c => ?_
   ·refine S0 ?_
    refine P0 [] c fun _ c => ?_
    refine I0 c h (fun h => ?_) fun h => ?_
    ·refine K0 ?_
     refine S0 (wp_block ?_)
     refine T1 ?_
     refine Fp [] 4 c fun _ c => ?_
     obtain ⟨x2, hx2, h⟩ := bindE h
     refine Eem c (.f 0) hx2 fun _ u1 _ c => ?_
     obtain ⟨a2, c2, rfl, c⟩ := c.o_Term 3
     obtain ⟨x3, hx3, h⟩ := bindE h
     refine Cf [] c (ih0 hx3) ⟨.f 4, trivial⟩ Try.call88 fun i2 _ _ c => ?_
     obtain ⟨x4, hx4, h⟩ := bindE h
     refine Esetr (q := (Rw.Term.mk x3.Op x3.W x3.N x3.Name ⟨i2.1, List.length x3.Kids, i2.2⟩)) 0 2 c ((Ava.mk_Term x3 (.f 5))) hx4 fun _ _ _ c => ?_
     refine E1 ?_
     refine bk (tn ?_)
     refine P1 [] c fun _ c => ?_
     exact Nx h ((List.set i1 (s1.1).toNat (Rw.Term.mk x3.Op x3.W x3.N x3.Name ⟨i2.1, List.length x3.Kids, i2.2⟩))) (c.re [0] [0, 1, 6])
    refine wp_exit (te (te (be ?_)))
    obtain rfl := hr1 _ (Option.some.inj h).symm
    exact tn ⟨(i1), c.re [0] [0, 1, 2]⟩
   refine P0 [] c fun _ c => ?_
   obtain ⟨he1, c⟩ := c.relenr 0 2
   replace c := c.eqs (v := L a1 x1 c1) (u := L a1 rl1 c1) 2 (by simp only [L, he1])
   replace c := c.fzr 0 2
   obtain rfl := Option.some.inj h
   exact wp_ret (Rt c (a1, c1) [] [3])
theorem laws_toTerm_ok {n : Nat} : ∀ {p0 : D.Term} {ga0 : Option Addr} {gc1 : Nat} {r : D.Term} (h : laws_toTerm n p0 = some r), Con Try.prog 88 [.agg #[I p0.Op, I p0.W, I p0.N, Str.val p0.Name, L ga0 p0.Kids gc1]] [] [RO (L ga0 p0.Kids gc1) p0.Kids] fun (i : Option Addr × Nat) => ([.agg #[I r.Op, I r.W, I r.N, Str.val r.Name, L i.1 r.Kids i.2]], [], [RO (L i.1 r.Kids i.2) r.Kids]) := (laws_toTerm_laws_toTermS_rec n).1
theorem laws_toTermS_ok {n : Nat} : ∀ {p0 : List D.Term} {ga0 : Option Addr} {gc1 : Nat} {r : (List D.Term)} (h : laws_toTermS n p0 = some r), Con Try.prog 53 [L ga0 p0 gc1] [] [RO (L ga0 p0 gc1) p0] fun (i : Option Addr × Nat) => ([L i.1 r i.2], [], [RO (L i.1 r i.2) r]) := (laws_toTerm_laws_toTermS_rec n).2

theorem laws_toIntS_ok {n : Nat} {p0 : List Int} {ga0 : Option Addr} {gc1 : Nat} {r : (List Int)} (h : laws_toIntS n p0 = some r) : Con Try.prog 54 [L ga0 p0 gc1] [] [RO (L ga0 p0 gc1) p0] fun (i : Option Addr × Nat) => ([L i.1 r i.2], [sl3 (L i.1 r i.2) r], []) := by
 unfold laws_toIntS at h
 refine En Try.func54 rfl Try.ntmps54 fun _ fr w c => ?_
 refine P0 [] c fun _ c => ?_
 refine T0 ?_
 refine Fp [] 2 c fun _ c => ?_
 obtain ⟨x1, hx1, h⟩ := bindE h
 refine Emk 3 c hx1 fun a1 c1 _ _ c => ?_
 refine Fp [] 1 c fun _ c => ?_
 refine E0 ?_
 refine S0 ?_
 refine P0 [] c fun _ c => ?_
 obtain ⟨rl1, hit1, h⟩ := bindE h
 refine Lp (fun s1  (_ : Unit) => ([(0, L ga0 p0 gc1), (3, L a1 x1 c1), (4, I s1.1)], fun Γ => Γ.set 0 (sl3 (L a1 x1 c1) s1.2), [])) (fun  (_ : Unit) => ([(3, L a1 x1 c1)], fun Γ => Γ.set 0 (sl3 (L a1 x1 c1) rl1), [])) hit1 c () (c.re [0] [0]) (fun s1 q1 _ _ _ c h hr1 => ?_) fun _ _ _ c => ?_
 ·refine S0 ?_
  refine P0 [] c fun _ c => ?_
  refine I0 c h (fun h => ?_) fun h => ?_
  ·refine K0 ?_
   refine S0 (wp_block ?_)
   refine T1 ?_
   refine Fp [] 4 c fun _ c => ?_
   obtain ⟨x2, hx2, h⟩ := bindE h
   refine Eel c (.f 0) hx2 fun _ _ c => ?_
   obtain ⟨x3, hx3, h⟩ := bindE h
   refine Eset 0 c hx3 fun _ _ _ c => ?_
   refine E1 ?_
   refine bk (tn ?_)
   refine P1 [] c fun _ c => ?_
   exact Nx h () (c.re [0] [0])
  refine wp_exit (te (te (be ?_)))
  obtain rfl := hr1 _ (Option.some.inj h).symm
  exact tn ⟨(), c.re [0] [0]⟩
 refine P0 [] c fun _ c => ?_
 obtain rfl := Option.some.inj h
 obtain ⟨he1, c⟩ := c.relen 0
 replace c := c.eqs (v := L a1 x1 c1) (u := L a1 rl1 c1) 2 (by simp only [L, he1])
 exact wp_ret (Rt c (a1, c1) [0] [])

theorem laws_toPath_ok {n : Nat} {p0 : D.Path} {ga0 : Option Addr} {gc1 : Nat} {ga2 : Option Addr} {gc3 : Nat} {ga4 : Option Addr} {gc5 : Nat} {ga6 : Option Addr} {gc7 : Nat} {ga8 : Option Addr} {gc9 : Nat} {ga10 : Option Addr} {gc11 : Nat} {r : D.Path} (h : laws_toPath n p0 = some r) : Con Try.prog 20 [.agg #[I p0.Pc, L ga0 p0.Regs gc1, L ga2 p0.Mem gc3, L ga4 p0.Stack gc5, I p0.In, L ga6 p0.Out gc7, I p0.Code, I p0.Steps, L ga8 p0.Cond gc9, L ga10 p0.Turns gc11]] [] [RO (L ga0 p0.Regs gc1) p0.Regs, RO (L ga2 p0.Mem gc3) p0.Mem, RO (L ga4 p0.Stack gc5) p0.Stack, RO (L ga6 p0.Out gc7) p0.Out, RO (L ga8 p0.Cond gc9) p0.Cond, RO (L ga10 p0.Turns gc11) p0.Turns] fun (i : Option Addr × Nat × Option Addr × Nat × Option Addr × Nat × Option Addr × Nat × Option Addr × Nat × Option Addr × Nat) => ([.agg #[I r.Pc, L i.1 r.Regs i.2.1, L i.2.2.1 r.Mem i.2.2.2.1, L i.2.2.2.2.1 r.Stack i.2.2.2.2.2.1, I r.In, L i.2.2.2.2.2.2.1 r.Out i.2.2.2.2.2.2.2.1, I r.Code, I r.Steps, L i.2.2.2.2.2.2.2.2.1 r.Cond i.2.2.2.2.2.2.2.2.2.1, L i.2.2.2.2.2.2.2.2.2.2.1 r.Turns i.2.2.2.2.2.2.2.2.2.2.2]], [], [RO (L i.1 r.Regs i.2.1) r.Regs, RO (L i.2.2.1 r.Mem i.2.2.2.1) r.Mem, RO (L i.2.2.2.2.1 r.Stack i.2.2.2.2.2.1) r.Stack, RO (L i.2.2.2.2.2.2.1 r.Out i.2.2.2.2.2.2.2.1) r.Out, RO (L i.2.2.2.2.2.2.2.2.1 r.Cond i.2.2.2.2.2.2.2.2.2.1) r.Cond, RO (L i.2.2.2.2.2.2.2.2.2.2.1 r.Turns i.2.2.2.2.2.2.2.2.2.2.2) r.Turns]) := by
 unfold laws_toPath at h
 refine En Try.func20 rfl Try.ntmps20 fun _ fr w c => ?_
 refine T0 ?_
 refine Ebx [I p0.Pc, L ga0 p0.Regs gc1, L ga2 p0.Mem gc3, L ga4 p0.Stack gc5, I p0.In, L ga6 p0.Out gc7, I p0.Code, I p0.Steps, L ga8 p0.Cond gc9, L ga10 p0.Turns gc11] c fun b1 _ _ c => ?_
 refine Eal [I 0, L none ([] : List D.Term) 0, L none ([] : List D.Term) 0, L none ([] : List Int) 0, I 0, L none ([] : List D.Term) 0, I 0, I 0, L none ([] : List D.Term) 0, L none ([] : List Int) 0] c fun b2 _ _ c => ?_
 refine E0 ?_
 refine T0 ?_
 refine Eal [I 0, L none ([] : List D.Term) 0, L none ([] : List D.Term) 0, L none ([] : List Int) 0, I 0, L none ([] : List D.Term) 0, I 0, I 0, L none ([] : List D.Term) 0, L none ([] : List Int) 0] c fun b3 _ _ c => ?_
 refine E0 ?_
 refine T0 ?_
 refine Fp [(1, 0)] 3 c fun _ c => ?_
 refine Esb 2 0 (I p0.Pc) c fun _ c => ?_
 refine E0 ?_
 refine T0 ?_
 refine Fp [(1, 0)] 2 c fun _ c => ?_
 obtain ⟨x1, hx1, h⟩ := bindE h
 refine Cf [] c (laws_toTermS_ok hx1) ⟨.f 0, trivial⟩ Try.call53 fun i1 _ _ c => ?_
 refine Fp [] 1 c fun _ c => ?_
 replace c := c.gm [BX b1 49 [I p0.Pc, L ga0 p0.Regs gc1, L ga2 p0.Mem gc3, L ga4 p0.Stack gc5, I p0.In, L ga6 p0.Out gc7, I p0.Code, I p0.Steps, L ga8 p0.Cond gc9, L ga10 p0.Turns gc11], BX b2 59 [I 0, L none ([] : List D.Term) 0, L none ([] : List D.Term) 0, L none ([] : List Int) 0, I 0, L none ([] : List D.Term) 0, I 0, I 0, L none ([] : List D.Term) 0, L none ([] : List Int) 0], BX b3 59 [I p0.Pc, L none ([] : List D.Term) 0, L none ([] : List D.Term) 0, L none ([] : List Int) 0, I 0, L none ([] : List D.Term) 0, I 0, I 0, L none ([] : List D.Term) 0, L none ([] : List Int) 0]]
 refine Esb 2 1 (L i1.1 x1 i1.2) c fun _ c => ?_
 refine E0 ?_
 refine T0 ?_
 refine Fp [(1, 0)] 2 c fun _ c => ?_
 obtain ⟨x2, hx2, h⟩ := bindE h
 refine Cf [] c (laws_toTermS_ok hx2) ⟨.f 1, trivial⟩ Try.call53 fun i2 _ _ c => ?_
 refine Fp [] 1 c fun _ c => ?_
 refine Esb 2 2 (L i2.1 x2 i2.2) c fun _ c => ?_
 refine E0 ?_
 refine T0 ?_
 refine Fp [(1, 0)] 2 c fun _ c => ?_
 obtain ⟨x3, hx3, h⟩ := bindE h
 refine Ca [] c (laws_toIntS_ok hx3) ⟨.f 2, trivial⟩ Try.call54 fun i3 _ _ c => ?_
 refine Fp [] 1 c fun _ c => ?_
 refine Esb 2 3 (L i3.1 x3 i3.2) c fun _ c => ?_
 refine E0 ?_
 refine T0 ?_
 refine Fp [(1, 0)] 3 c fun _ c => ?_
 replace c := c.gm [BX b1 49 [I p0.Pc, L ga0 p0.Regs gc1, L ga2 p0.Mem gc3, L ga4 p0.Stack gc5, I p0.In, L ga6 p0.Out gc7, I p0.Code, I p0.Steps, L ga8 p0.Cond gc9, L ga10 p0.Turns gc11], BX b2 59 [I 0, L none ([] : List D.Term) 0, L none ([] : List D.Term) 0, L none ([] : List Int) 0, I 0, L none ([] : List D.Term) 0, I 0, I 0, L none ([] : List D.Term) 0, L none ([] : List Int) 0], BX b3 59 [I p0.Pc, L i1.1 x1 i1.2, L i2.1 x2 i2.2, L i3.1 x3 i3.2, I 0, L none ([] : List D.Term) 0, I 0, I 0, L none ([] : List D.Term) 0, L none ([] : List Int) 0], sl3 (L i3.1 x3 i3.2) x3]
 refine Esb 2 4 (I p0.In) c fun _ c => ?_
 refine E0 ?_
 refine T0 ?_
 refine Fp [(1, 0)] 2 c fun _ c => ?_
 obtain ⟨x4, hx4, h⟩ := bindE h
 refine Cf [] c (laws_toTermS_ok hx4) ⟨.f 3, trivial⟩ Try.call53 fun i4 _ _ c => ?_
 refine Fp [] 1 c fun _ c => ?_
 refine Esb 2 5 (L i4.1 x4 i4.2) c fun _ c => ?_
 refine E0 ?_
 refine T0 ?_
 refine Fp [(1, 0)] 3 c fun _ c => ?_
 refine Esb 2 6 (I p0.Code) c fun _ c => ?_
 refine E0 ?_
 refine T0 ?_
 refine Fp [(1, 0)] 3 c fun _ c => ?_
 refine Esb 2 7 (I p0.Steps) c fun _ c => ?_
 refine E0 ?_
 refine T0 ?_
 refine Fp [(1, 0)] 2 c fun _ c => ?_
 replace c := c.gm [BX b1 49 [I p0.Pc, L ga0 p0.Regs gc1, L ga2 p0.Mem gc3, L ga4 p0.Stack gc5, I p0.In, L ga6 p0.Out gc7, I p0.Code, I p0.Steps, L ga8 p0.Cond gc9, L ga10 p0.Turns gc11], BX b2 59 [I 0, L none ([] : List D.Term) 0, L none ([] : List D.Term) 0, L none ([] : List Int) 0, I 0, L none ([] : List D.Term) 0, I 0, I 0, L none ([] : List D.Term) 0, L none ([] : List Int) 0], BX b3 59 [I p0.Pc, L i1.1 x1 i1.2, L i2.1 x2 i2.2, L i3.1 x3 i3.2, I p0.In, L i4.1 x4 i4.2, I p0.Code, I p0.Steps, L none ([] : List D.Term) 0, L none ([] : List Int) 0], sl3 (L i3.1 x3 i3.2) x3]
 obtain ⟨x5, hx5, h⟩ := bindE h
 refine Cf [] c (laws_toTermS_ok hx5) ⟨.f 4, trivial⟩ Try.call53 fun i5 _ _ c => ?_
 refine Fp [] 1 c fun _ c => ?_
 refine Esb 2 8 (L i5.1 x5 i5.2) c fun _ c => ?_
 refine E0 ?_
 refine T0 ?_
 refine Fp [(1, 0)] 2 c fun _ c => ?_
 obtain ⟨x6, hx6, h⟩ := bindE h
 refine Ca [] c (laws_toIntS_ok hx6) ⟨.f 5, trivial⟩ Try.call54 fun i6 _ _ c => ?_
 refine Fp [] 1 c fun _ c => ?_
 refine Esb 2 9 (L i6.1 x6 i6.2) c fun _ c => ?_
 refine E0 ?_
 refine T0 ?_
 refine Fp [(0, 2)] 1 c fun _ c => ?_
 refine Ess 1 [I p0.Pc, L i1.1 x1 i1.2, L i2.1 x2 i2.2, L i3.1 x3 i3.2, I p0.In, L i4.1 x4 i4.2, I p0.Code, I p0.Steps, L i5.1 x5 i5.2, L i6.1 x6 i6.2] c fun _ c => ?_
 refine E0 ?_
 replace c := c.fz 3
 replace c := c.fz 3
 obtain rfl := Option.some.inj h
 exact wp_ret (Rg c (i1.1, i1.2, i2.1, i2.2, i3.1, i3.2, i4.1, i4.2, i5.1, i5.2, i6.1, i6.2) [] [6, 7, 10, 8, 9, 11] (.cell (α := Agg 9) ⟨by kernel_rfl, by kernel_rfl⟩ (.b 1) .nil))

theorem spec_l01In_ok {p0 : Int} {p1 : Int} {p2 : Int} {r : Bool} (h : spec_l01In p0 p1 p2 = some r) : Con Try.prog 37 [I p0, I p1, I p2] [] [] fun (_ : Unit) => ([.bool r], [], []) := by
 unfold spec_l01In at h
 refine En Try.func37 rfl Try.ntmps37 fun _ fr w c => ?_
 refine P0 [] c fun _ c => ?_
 refine S0 (Ry [] mix c fun _ _ c => ?_)
 obtain rfl := Option.some.inj h
 exact wp_ret (Rt c () [] [])

theorem spec_WordOk_ok {p0 : Int} {p1 : Int} {r : Bool} (h : spec_WordOk p0 p1 = some r) : Con Try.prog 84 [I p0, I p1] [] [] fun (_ : Unit) => ([.bool r], [], []) := by
 unfold spec_WordOk at h
 refine En Try.func84 rfl Try.ntmps84 fun _ fr w c => ?_
 refine P0 [] c fun _ c => ?_
 obtain ⟨x1, hx1, h⟩ := bindE h
 obtain ⟨x2, hx2, h⟩ := bindE h
 obtain ⟨x3, hx3, h⟩ := bindE h
 refine S0 (Rz [(1, .eq (.bool x1)), (5, .eq (I x2)), (7, .eq (.bool x3))] [] mix c ⟨Pd.mono_eq, Pd.mono_eq, Pd.mono_eq, trivial⟩ (fun hG => ⟨fun e => Ncl c (fun hg => spec_l01In_ok hx1) trivial Try.call37 hG e, fun e => Nshl c (fun hg => (iteT (gcT hg) hx2)) hG e, fun e => Ncl c (fun hg => spec_l01In_ok (iteT (gcT hg) hx3)) trivial Try.call37 hG e, trivial⟩) fun _ _ c => ?_)
 obtain rfl := Option.some.inj h
 exact wp_ret (Rt c () [] [])

theorem spec_l05Reg_ok {p0 : Int} {r : Bool} (h : spec_l05Reg p0 = some r) : Con Try.prog 108 [I p0] [] [] fun (_ : Unit) => ([.bool r], [], []) := by
 unfold spec_l05Reg at h
 refine En Try.func108 rfl Try.ntmps108 fun _ fr w c => ?_
 refine P0 [] c fun _ c => ?_
 refine T0 ?_
 refine Fp [] 1 c fun _ c => ?_
 obtain ⟨x1, hx1, h⟩ := bindE h
 refine Ca [] c (spec_l01In_ok hx1) trivial Try.call37 fun _ _ _ c => ?_
 refine Fp [] 1 c fun _ c => ?_
 refine E0 ?_
 obtain rfl := Option.some.inj h
 exact wp_ret (Rt c () [] [])

set_option maxHeartbeats 4000000 in
theorem spec_l05Ins_ok {p0 : D.Ins} {p1 : Int} {p2 : Int} {r : Bool} (h : spec_l05Ins p0 p1 p2 = some r) : Con Try.prog 85 [.agg #[I p0.Op, I p0.A, I p0.B, I p0.C], I p1, I p2] [] [] fun (_ : Unit) => ([.bool r], [], []) := by
 unfold spec_l05Ins at h
 refine En Try.func85 rfl Try.ntmps85 fun _ fr w c => ?_
 refine T0 ?_
 refine Ebx [I p0.Op, I p0.A, I p0.B, I p0.C] c fun b1 _ _ c => ?_
 refine Fp [] 1 c fun _ c => ?_
 refine E0 ?_
 refine T0 ?_
 refine Fp [(1, 0)] 3 c fun _ c => ?_
 obtain ⟨x1, hx1, h⟩ := bindE h
 refine Ca [] c (spec_l01In_ok hx1) trivial Try.call37 fun _ _ _ c => ?_
 refine Fp [] 1 c fun _ c => ?_
 refine E0 ?_
 refine S0 ?_
 refine P0 [(1, 0)] c fun _ c => ?_
 refine wp_block ?_
 refine P0 [] c fun _ c => ?_
 refine I0 c h (fun h => ?_) fun h => ?_
 ·obtain ⟨x2, hx2, h⟩ := bindE h
  obtain ⟨x3, hx3, h⟩ := bindE h
  refine S0 (Rz [(2, .eq (.bool x2)), (7, .eq (.bool x3))] [(1, 0), (6, 0), (11, 0)] mix c ⟨Pd.mono_eq, Pd.mono_eq, trivial⟩ (fun hG => ⟨fun e => Ncl c (fun hg => spec_l05Reg_ok hx2) trivial Try.call108 hG e, fun e => Ncl c (fun hg => spec_WordOk_ok (iteT (gcT hg) hx3)) trivial Try.call84 hG e, trivial⟩) fun _ _ c => ?_)
  obtain rfl := Option.some.inj h
  exact wp_ret (br (tr (Rt c () [] [])))
 refine S0 ?_
 refine P0 [] c fun _ c => ?_
 refine I0 c h (fun h => ?_) fun h => ?_
 ·refine K0 ?_
  refine I0 c h (fun h => ?_) fun h => ?_
  ·obtain ⟨x4, hx4, h⟩ := bindE h
   obtain ⟨x5, hx5, h⟩ := bindE h
   refine S0 (Rz [(2, .eq (.bool x4)), (6, .eq (.bool x5))] [(1, 0), (5, 0), (10, 0)] mix c ⟨Pd.mono_eq, Pd.mono_eq, trivial⟩ (fun hG => ⟨fun e => Ncl c (fun hg => spec_l05Reg_ok hx4) trivial Try.call108 hG e, fun e => Ncl c (fun hg => spec_l05Reg_ok (iteT (gcT hg) hx5)) trivial Try.call108 hG e, trivial⟩) fun _ _ c => ?_)
   obtain rfl := Option.some.inj h
   exact wp_ret (br (tr (Rt c () [] [])))
  refine P0 [] c fun _ c => ?_
  refine I0 c h (fun h => ?_) fun h => ?_
  ·obtain ⟨x6, hx6, h⟩ := bindE h
   obtain ⟨x7, hx7, h⟩ := bindE h
   obtain ⟨x8, hx8, h⟩ := bindE h
   refine S0 (Rz [(2, .eq (.bool x6)), (6, .eq (.bool x7)), (11, .eq (.bool x8))] [(1, 0), (5, 0), (10, 0)] mix c ⟨Pd.mono_eq, Pd.mono_eq, Pd.mono_eq, trivial⟩ (fun hG => ⟨fun e => Ncl c (fun hg => spec_l05Reg_ok hx6) trivial Try.call108 hG e, fun e => Ncl c (fun hg => spec_l05Reg_ok (iteT (gcT hg) hx7)) trivial Try.call108 hG e, fun e => Ncl c (fun hg => spec_l01In_ok (iteT (gcT hg) hx8)) trivial Try.call37 hG e, trivial⟩) fun _ _ c => ?_)
   obtain rfl := Option.some.inj h
   exact wp_ret (br (tr (Rt c () [] [])))
  refine S0 ?_
  refine P0 [] c fun _ c => ?_
  refine I0 c h (fun h => ?_) fun h => ?_
  ·refine K0 ?_
   refine I0 c h (fun h => ?_) fun h => ?_
   ·obtain ⟨x9, hx9, h⟩ := bindE h
    refine S0 (Rz [(2, .eq (.bool x9))] [(1, 0), (5, 0), (10, 0)] mix c ⟨Pd.mono_eq, trivial⟩ (fun hG => ⟨fun e => Ncl c (fun hg => spec_l05Reg_ok hx9) trivial Try.call108 hG e, trivial⟩) fun _ _ c => ?_)
    obtain rfl := Option.some.inj h
    exact wp_ret (br (tr (Rt c () [] [])))
   refine S0 ?_
   refine P0 [] c fun _ c => ?_
   refine Mp (p0.Op == 9) [(80, .bool (p0.Op == 9))] [(80, .bool (p0.Op == 11))] [(80, .bool ((p0.Op == 9) || (p0.Op == 11)))] [80, 82] c fun _ c => ?_
   refine I0 c h (fun h => ?_) fun h => ?_
   ·refine S0 (Ry [(1, 0), (8, 0)] mix c fun _ _ c => ?_)
    obtain rfl := Option.some.inj h
    exact wp_ret (br (tr (Rt c () [] [])))
   refine P0 [] c fun _ c => ?_
   refine I0 c h (fun h => ?_) fun h => ?_
   ·obtain ⟨x10, hx10, h⟩ := bindE h
    refine S0 (Rz [(2, .eq (.bool x10))] [(1, 0), (8, 0)] mix c ⟨Pd.mono_eq, trivial⟩ (fun hG => ⟨fun e => Ncl c (fun hg => spec_l05Reg_ok hx10) trivial Try.call108 hG e, trivial⟩) fun _ _ c => ?_)
    obtain rfl := Option.some.inj h
    exact wp_ret (br (tr (Rt c () [] [])))
   refine S0 ?_
   refine P0 [] c fun _ c => ?_
   refine Mp (p0.Op == 12) [(107, .bool (p0.Op == 12))] [(107, .bool (p0.Op == 14))] [(107, .bool ((p0.Op == 12) || (p0.Op == 14)))] [107, 109] c fun _ c => ?_
   refine I0 c h (fun h => ?_) fun h => ?_
   ·refine S0 (Ry [(1, 0), (5, 0), (10, 0)] mix c fun _ _ c => ?_)
    obtain rfl := Option.some.inj h
    exact wp_ret (br (tr (Rt c () [] [])))
   refine K1 ?_
   refine bk (tn ?_)
   refine P0 [] c fun _ c => ?_
   obtain rfl := Option.some.inj h
   exact wp_ret (Rt c () [] [])
  refine P0 [] c fun _ c => ?_
  refine I0 c h (fun h => ?_) fun h => ?_
  ·refine K0 ?_
   refine I0 c h (fun h => ?_) fun h => ?_
   ·obtain ⟨x11, hx11, h⟩ := bindE h
    refine S0 (Rz [(2, .eq (.bool x11))] [(1, 0), (5, 0), (10, 0)] mix c ⟨Pd.mono_eq, trivial⟩ (fun hG => ⟨fun e => Ncl c (fun hg => spec_l05Reg_ok hx11) trivial Try.call108 hG e, trivial⟩) fun _ _ c => ?_)
    obtain rfl := Option.some.inj h
    exact wp_ret (br (tr (Rt c () [] [])))
   refine S0 ?_
   refine P0 [] c fun _ c => ?_
   refine Mp (p0.Op == 9) [(80, .bool (p0.Op == 9))] [(80, .bool (p0.Op == 11))] [(80, .bool ((p0.Op == 9) || (p0.Op == 11)))] [80, 82] c fun _ c => ?_
   refine I0 c h (fun h => ?_) fun h => ?_
   ·refine S0 (Ry [(1, 0), (8, 0)] mix c fun _ _ c => ?_)
    obtain rfl := Option.some.inj h
    exact wp_ret (br (tr (Rt c () [] [])))
   refine P0 [] c fun _ c => ?_
   refine I0 c h (fun h => ?_) fun h => ?_
   ·obtain ⟨x12, hx12, h⟩ := bindE h
    refine S0 (Rz [(2, .eq (.bool x12))] [(1, 0), (8, 0)] mix c ⟨Pd.mono_eq, trivial⟩ (fun hG => ⟨fun e => Ncl c (fun hg => spec_l05Reg_ok hx12) trivial Try.call108 hG e, trivial⟩) fun _ _ c => ?_)
    obtain rfl := Option.some.inj h
    exact wp_ret (br (tr (Rt c () [] [])))
   refine S0 ?_
   refine P0 [] c fun _ c => ?_
   refine Mp (p0.Op == 12) [(107, .bool (p0.Op == 12))] [(107, .bool (p0.Op == 14))] [(107, .bool ((p0.Op == 12) || (p0.Op == 14)))] [107, 109] c fun _ c => ?_
   refine I0 c h (fun h => ?_) fun h => ?_
   ·refine S0 (Ry [(1, 0), (5, 0), (10, 0)] mix c fun _ _ c => ?_)
    obtain rfl := Option.some.inj h
    exact wp_ret (br (tr (Rt c () [] [])))
   refine K1 ?_
   refine bk (tn ?_)
   refine P0 [] c fun _ c => ?_
   obtain rfl := Option.some.inj h
   exact wp_ret (Rt c () [] [])
  refine P0 [] c fun _ c => ?_
  refine Mp (p0.Op == 6) [(62, .bool (p0.Op == 6))] [(62, .bool (p0.Op == 13))] [(62, .bool ((p0.Op == 6) || (p0.Op == 13)))] [62, 66] c fun _ c => ?_
  refine I0 c h (fun h => ?_) fun h => ?_
  ·obtain ⟨x13, hx13, h⟩ := bindE h
   refine S0 (Rz [(2, .eq (.bool x13))] [(1, 0), (5, 0), (10, 0)] mix c ⟨Pd.mono_eq, trivial⟩ (fun hG => ⟨fun e => Ncl c (fun hg => spec_l05Reg_ok hx13) trivial Try.call108 hG e, trivial⟩) fun _ _ c => ?_)
   obtain rfl := Option.some.inj h
   exact wp_ret (br (tr (Rt c () [] [])))
  refine S0 ?_
  refine P0 [] c fun _ c => ?_
  refine Mp (p0.Op == 9) [(80, .bool (p0.Op == 9))] [(80, .bool (p0.Op == 11))] [(80, .bool ((p0.Op == 9) || (p0.Op == 11)))] [80, 82] c fun _ c => ?_
  refine I0 c h (fun h => ?_) fun h => ?_
  ·refine S0 (Ry [(1, 0), (8, 0)] mix c fun _ _ c => ?_)
   obtain rfl := Option.some.inj h
   exact wp_ret (br (tr (Rt c () [] [])))
  refine P0 [] c fun _ c => ?_
  refine I0 c h (fun h => ?_) fun h => ?_
  ·obtain ⟨x14, hx14, h⟩ := bindE h
   refine S0 (Rz [(2, .eq (.bool x14))] [(1, 0), (8, 0)] mix c ⟨Pd.mono_eq, trivial⟩ (fun hG => ⟨fun e => Ncl c (fun hg => spec_l05Reg_ok hx14) trivial Try.call108 hG e, trivial⟩) fun _ _ c => ?_)
   obtain rfl := Option.some.inj h
   exact wp_ret (br (tr (Rt c () [] [])))
  refine S0 ?_
  refine P0 [] c fun _ c => ?_
  refine Mp (p0.Op == 12) [(107, .bool (p0.Op == 12))] [(107, .bool (p0.Op == 14))] [(107, .bool ((p0.Op == 12) || (p0.Op == 14)))] [107, 109] c fun _ c => ?_
  refine I0 c h (fun h => ?_) fun h => ?_
  ·refine S0 (Ry [(1, 0), (5, 0), (10, 0)] mix c fun _ _ c => ?_)
   obtain rfl := Option.some.inj h
   exact wp_ret (br (tr (Rt c () [] [])))
  refine K1 ?_
  refine bk (tn ?_)
  refine P0 [] c fun _ c => ?_
  obtain rfl := Option.some.inj h
  exact wp_ret (Rt c () [] [])
 refine P0 [] c fun _ c => ?_
 refine Mp (p0.Op == 7) [(30, .bool (p0.Op == 7))] [(30, .bool (p0.Op == 8))] [(30, .bool ((p0.Op == 7) || (p0.Op == 8)))] [30, 33] c fun _ c => ?_
 refine I0 c h (fun h => ?_) fun h => ?_
 ·obtain ⟨x15, hx15, h⟩ := bindE h
  obtain ⟨x16, hx16, h⟩ := bindE h
  refine S0 (Rz [(2, .eq (.bool x15)), (6, .eq (.bool x16))] [(1, 0), (5, 0), (10, 0)] mix c ⟨Pd.mono_eq, Pd.mono_eq, trivial⟩ (fun hG => ⟨fun e => Ncl c (fun hg => spec_l05Reg_ok hx15) trivial Try.call108 hG e, fun e => Ncl c (fun hg => spec_l05Reg_ok (iteT (gcT hg) hx16)) trivial Try.call108 hG e, trivial⟩) fun _ _ c => ?_)
  obtain rfl := Option.some.inj h
  exact wp_ret (br (tr (Rt c () [] [])))
 refine P0 [] c fun _ c => ?_
 refine I0 c h (fun h => ?_) fun h => ?_
 ·obtain ⟨x17, hx17, h⟩ := bindE h
  obtain ⟨x18, hx18, h⟩ := bindE h
  obtain ⟨x19, hx19, h⟩ := bindE h
  refine S0 (Rz [(2, .eq (.bool x17)), (6, .eq (.bool x18)), (11, .eq (.bool x19))] [(1, 0), (5, 0), (10, 0)] mix c ⟨Pd.mono_eq, Pd.mono_eq, Pd.mono_eq, trivial⟩ (fun hG => ⟨fun e => Ncl c (fun hg => spec_l05Reg_ok hx17) trivial Try.call108 hG e, fun e => Ncl c (fun hg => spec_l05Reg_ok (iteT (gcT hg) hx18)) trivial Try.call108 hG e, fun e => Ncl c (fun hg => spec_l01In_ok (iteT (gcT hg) hx19)) trivial Try.call37 hG e, trivial⟩) fun _ _ c => ?_)
  obtain rfl := Option.some.inj h
  exact wp_ret (br (tr (Rt c () [] [])))
 refine S0 ?_
 refine P0 [] c fun _ c => ?_
 refine I0 c h (fun h => ?_) fun h => ?_
 ·refine K0 ?_
  refine I0 c h (fun h => ?_) fun h => ?_
  ·obtain ⟨x20, hx20, h⟩ := bindE h
   refine S0 (Rz [(2, .eq (.bool x20))] [(1, 0), (5, 0), (10, 0)] mix c ⟨Pd.mono_eq, trivial⟩ (fun hG => ⟨fun e => Ncl c (fun hg => spec_l05Reg_ok hx20) trivial Try.call108 hG e, trivial⟩) fun _ _ c => ?_)
   obtain rfl := Option.some.inj h
   exact wp_ret (br (tr (Rt c () [] [])))
  refine S0 ?_
  refine P0 [] c fun _ c => ?_
  refine Mp (p0.Op == 9) [(80, .bool (p0.Op == 9))] [(80, .bool (p0.Op == 11))] [(80, .bool ((p0.Op == 9) || (p0.Op == 11)))] [80, 82] c fun _ c => ?_
  refine I0 c h (fun h => ?_) fun h => ?_
  ·refine S0 (Ry [(1, 0), (8, 0)] mix c fun _ _ c => ?_)
   obtain rfl := Option.some.inj h
   exact wp_ret (br (tr (Rt c () [] [])))
  refine P0 [] c fun _ c => ?_
  refine I0 c h (fun h => ?_) fun h => ?_
  ·obtain ⟨x21, hx21, h⟩ := bindE h
   refine S0 (Rz [(2, .eq (.bool x21))] [(1, 0), (8, 0)] mix c ⟨Pd.mono_eq, trivial⟩ (fun hG => ⟨fun e => Ncl c (fun hg => spec_l05Reg_ok hx21) trivial Try.call108 hG e, trivial⟩) fun _ _ c => ?_)
   obtain rfl := Option.some.inj h
   exact wp_ret (br (tr (Rt c () [] [])))
  refine S0 ?_
  refine P0 [] c fun _ c => ?_
  refine Mp (p0.Op == 12) [(107, .bool (p0.Op == 12))] [(107, .bool (p0.Op == 14))] [(107, .bool ((p0.Op == 12) || (p0.Op == 14)))] [107, 109] c fun _ c => ?_
  refine I0 c h (fun h => ?_) fun h => ?_
  ·refine S0 (Ry [(1, 0), (5, 0), (10, 0)] mix c fun _ _ c => ?_)
   obtain rfl := Option.some.inj h
   exact wp_ret (br (tr (Rt c () [] [])))
  refine K1 ?_
  refine bk (tn ?_)
  refine P0 [] c fun _ c => ?_
  obtain rfl := Option.some.inj h
  exact wp_ret (Rt c () [] [])
 refine P0 [] c fun _ c => ?_
 refine I0 c h (fun h => ?_) fun h => ?_
 ·refine K0 ?_
  refine I0 c h (fun h => ?_) fun h => ?_
  ·obtain ⟨x22, hx22, h⟩ := bindE h
   refine S0 (Rz [(2, .eq (.bool x22))] [(1, 0), (5, 0), (10, 0)] mix c ⟨Pd.mono_eq, trivial⟩ (fun hG => ⟨fun e => Ncl c (fun hg => spec_l05Reg_ok hx22) trivial Try.call108 hG e, trivial⟩) fun _ _ c => ?_)
   obtain rfl := Option.some.inj h
   exact wp_ret (br (tr (Rt c () [] [])))
  refine S0 ?_
  refine P0 [] c fun _ c => ?_
  refine Mp (p0.Op == 9) [(80, .bool (p0.Op == 9))] [(80, .bool (p0.Op == 11))] [(80, .bool ((p0.Op == 9) || (p0.Op == 11)))] [80, 82] c fun _ c => ?_
  refine I0 c h (fun h => ?_) fun h => ?_
  ·refine S0 (Ry [(1, 0), (8, 0)] mix c fun _ _ c => ?_)
   obtain rfl := Option.some.inj h
   exact wp_ret (br (tr (Rt c () [] [])))
  refine P0 [] c fun _ c => ?_
  refine I0 c h (fun h => ?_) fun h => ?_
  ·obtain ⟨x23, hx23, h⟩ := bindE h
   refine S0 (Rz [(2, .eq (.bool x23))] [(1, 0), (8, 0)] mix c ⟨Pd.mono_eq, trivial⟩ (fun hG => ⟨fun e => Ncl c (fun hg => spec_l05Reg_ok hx23) trivial Try.call108 hG e, trivial⟩) fun _ _ c => ?_)
   obtain rfl := Option.some.inj h
   exact wp_ret (br (tr (Rt c () [] [])))
  refine S0 ?_
  refine P0 [] c fun _ c => ?_
  refine Mp (p0.Op == 12) [(107, .bool (p0.Op == 12))] [(107, .bool (p0.Op == 14))] [(107, .bool ((p0.Op == 12) || (p0.Op == 14)))] [107, 109] c fun _ c => ?_
  refine I0 c h (fun h => ?_) fun h => ?_
  ·refine S0 (Ry [(1, 0), (5, 0), (10, 0)] mix c fun _ _ c => ?_)
   obtain rfl := Option.some.inj h
   exact wp_ret (br (tr (Rt c () [] [])))
  refine K1 ?_
  refine bk (tn ?_)
  refine P0 [] c fun _ c => ?_
  obtain rfl := Option.some.inj h
  exact wp_ret (Rt c () [] [])
 refine P0 [] c fun _ c => ?_
 refine Mp (p0.Op == 6) [(62, .bool (p0.Op == 6))] [(62, .bool (p0.Op == 13))] [(62, .bool ((p0.Op == 6) || (p0.Op == 13)))] [62, 66] c fun _ c => ?_
 refine I0 c h (fun h => ?_) fun h => ?_
 ·obtain ⟨x24, hx24, h⟩ := bindE h
  refine S0 (Rz [(2, .eq (.bool x24))] [(1, 0), (5, 0), (10, 0)] mix c ⟨Pd.mono_eq, trivial⟩ (fun hG => ⟨fun e => Ncl c (fun hg => spec_l05Reg_ok hx24) trivial Try.call108 hG e, trivial⟩) fun _ _ c => ?_)
  obtain rfl := Option.some.inj h
  exact wp_ret (br (tr (Rt c () [] [])))
 refine S0 ?_
 refine P0 [] c fun _ c => ?_
 refine Mp (p0.Op == 9) [(80, .bool (p0.Op == 9))] [(80, .bool (p0.Op == 11))] [(80, .bool ((p0.Op == 9) || (p0.Op == 11)))] [80, 82] c fun _ c => ?_
 refine I0 c h (fun h => ?_) fun h => ?_
 ·refine S0 (Ry [(1, 0), (8, 0)] mix c fun _ _ c => ?_)
  obtain rfl := Option.some.inj h
  exact wp_ret (br (tr (Rt c () [] [])))
 refine P0 [] c fun _ c => ?_
 refine I0 c h (fun h => ?_) fun h => ?_
 ·obtain ⟨x25, hx25, h⟩ := bindE h
  refine S0 (Rz [(2, .eq (.bool x25))] [(1, 0), (8, 0)] mix c ⟨Pd.mono_eq, trivial⟩ (fun hG => ⟨fun e => Ncl c (fun hg => spec_l05Reg_ok hx25) trivial Try.call108 hG e, trivial⟩) fun _ _ c => ?_)
  obtain rfl := Option.some.inj h
  exact wp_ret (br (tr (Rt c () [] [])))
 refine S0 ?_
 refine P0 [] c fun _ c => ?_
 refine Mp (p0.Op == 12) [(107, .bool (p0.Op == 12))] [(107, .bool (p0.Op == 14))] [(107, .bool ((p0.Op == 12) || (p0.Op == 14)))] [107, 109] c fun _ c => ?_
 refine I0 c h (fun h => ?_) fun h => ?_
 ·refine S0 (Ry [(1, 0), (5, 0), (10, 0)] mix c fun _ _ c => ?_)
  obtain rfl := Option.some.inj h
  exact wp_ret (br (tr (Rt c () [] [])))
 refine K1 ?_
 refine bk (tn ?_)
 refine P0 [] c fun _ c => ?_
 obtain rfl := Option.some.inj h
 exact wp_ret (Rt c () [] [])

theorem spec_ProgramOk_ok {n : Nat} {p0 : D.Program} {ga0 : Option Addr} {gc1 : Nat} {r : Bool} (h : spec_ProgramOk n p0 = some r) : Con Try.prog 50 [.agg #[I p0.W, I p0.Mem, I p0.In, L ga0 p0.Code gc1]] [] [RO (L ga0 p0.Code gc1) p0.Code] fun (_ : Unit) => ([.bool r], [], []) := by
 unfold spec_ProgramOk at h
 refine En Try.func50 rfl Try.ntmps50 fun _ fr w c => ?_
 refine T0 ?_
 refine Ebx [I p0.W, I p0.Mem, I p0.In, L ga0 p0.Code gc1] c fun b1 _ _ c => ?_
 refine Fp [] 1 c fun _ c => ?_
 refine E0 ?_
 refine S0 ?_
 obtain ⟨x1, hx1, h⟩ := bindE h
 obtain ⟨x2, hx2, h⟩ := bindE h
 obtain ⟨x3, hx3, h⟩ := bindE h
 obtain ⟨x4, hx4, h⟩ := bindE h
 obtain ⟨x5, hx5, h⟩ := bindE h
 refine S0 (Rz [(2, .eq (.bool x1)), (7, .eq (.bool x2)), (15, .eq (.bool x3)), (21, .eq (.bool x4)), (28, .eq (.bool x5))] [(1, 0), (6, 0), (12, 0), (14, 0), (20, 0), (26, 0)] mix c ⟨Pd.mono_eq, Pd.mono_eq, Pd.mono_eq, Pd.mono_eq, Pd.mono_eq, trivial⟩ (fun hG => ⟨fun e => Ncl c (fun hg => spec_l01In_ok hx1) trivial Try.call37 hG e, fun e => Ncl c (fun hg => spec_l01In_ok (iteF (gcF hg) hx2)) trivial Try.call37 hG e, fun e => Ncl c (fun hg => spec_WordOk_ok (iteF (gcF hg) hx3)) trivial Try.call84 hG e, fun e => Ncl c (fun hg => spec_l01In_ok (iteF (gcF hg) hx4)) trivial Try.call37 hG e, fun e => Ncl c (fun hg => spec_l01In_ok (iteF (gcF hg) hx5)) trivial Try.call37 hG e, trivial⟩) fun _ _ c => ?_)
 refine I0 c h (fun h => ?_) fun h => ?_
 ·refine P0 [] c fun _ c => ?_
  obtain rfl := Option.some.inj h
  exact wp_ret (tr (Rt c () [] []))
 refine K0 ?_
 refine S0 ?_
 refine P0 [(1, 0)] c fun _ c => ?_
 obtain ⟨rl1, hit1, h⟩ := bindE h
 have hk1 := h
 refine LpR (fun s1  (_ : Unit) => ([(1, B b1 0), (37, L ga0 p0.Code gc1), (38, I (len p0.Code)), (39, I s1)], id, [])) (fun s  (_ : Unit) => ([], id, [])) hit1 c () (c.re [0] [0]) (fun s1 q1 _ _ _ c h hr1 => ?_) fun s1r _ _ _ hrl c => ?_
 ·refine P0 [] c fun _ c => ?_
  refine S0 (I0 c h (fun h => ?_) fun h => ?_)
  ·refine K0 ?_
   refine S0 (wp_block ?_)
   refine T0 ?_
   obtain ⟨x6, hx6, h⟩ := bindE h
   refine Eel c (.f 0) hx6 fun _ _ c => ?_
   refine Eal [I 0, I 0, I 0, I 0] c fun b2 _ _ c => ?_
   refine Ess 1 [I x6.Op, I x6.A, I x6.B, I x6.C] c fun _ c => ?_
   refine E0 ?_
   refine T0 ?_
   refine Fp [(0, 1), (2, 0), (4, 0)] 6 c fun _ c => ?_
   obtain ⟨x7, hx7, h⟩ := bindE h
   refine Ca [] c (spec_l05Ins_ok hx7) trivial Try.call85 fun _ _ _ c => ?_
   refine Fp [] 1 c fun _ c => ?_
   refine E0 ?_
   refine I0 c h (fun h => ?_) fun h => ?_
   ·refine P0 [] c fun _ c => ?_
    obtain rfl := hr1 _ (Option.some.inj h).symm
    obtain rfl := Option.some.inj hk1
    exact wp_ret (br (tr (tr (br (tr (Rt c () [] []))))))
   refine K1 ?_
   refine bk (tn ?_)
   refine P1 [] c fun _ c => ?_
   exact Nx h () (c.re [0] [0])
  refine wp_exit (te (te (be ?_)))
  obtain rfl := hr1 _ (Option.some.inj h).symm
  exact tn ⟨_, (), rfl, c.re [0] [0]⟩
 subst hrl
 refine P0 [] c fun _ c => ?_
 obtain rfl := Option.some.inj h
 exact wp_ret (Rt c () [] [])

theorem spec_l02Few_ok {n : Nat} : ∀ {p0 : D.Term} {p1 : Int} {ga0 : Option Addr} {gc1 : Nat} {gb2 : Nat} {r : Bool × Int} (h : spec_l02Few n p0 p1 = some r), Con Try.prog 109 [.agg #[I p0.Op, I p0.W, I p0.N, Str.val p0.Name, L ga0 p0.Kids gc1], B gb2 0] [BX gb2 3 [I p1]] [RO (L ga0 p0.Kids gc1) p0.Kids] fun (_ : Unit) => ([.bool r.1], [BX gb2 3 [I r.2]], []) := by
 induction n with
 | zero => intro p0 p1 ga0 gc1 gb2 r h; simp [spec_l02Few] at h
 | succ n ih =>
 intro p0 p1 ga0 gc1 gb2 r h
 rw [spec_l02Few] at h
 refine En Try.func109 rfl Try.ntmps109 fun _ fr w c => ?_
 refine T0 ?_
 refine Ebx [I p0.Op, I p0.W, I p0.N, Str.val p0.Name, L ga0 p0.Kids gc1] c fun b1 _ _ c => ?_
 refine Fp [] 1 c fun _ c => ?_
 refine E0 ?_
 refine T0 ?_
 refine Fp [(3, 0)] 6 c fun _ c => ?_
 refine Esb 0 0 (I (w64 (p1 - 1))) c fun _ c => ?_
 refine E0 ?_
 refine S0 ?_
 refine P0 [] c fun _ c => ?_
 obtain ⟨rl1, hit1, h⟩ := bindE h
 refine Lp (fun s1  (_ : Unit) => ([(1, B gb2 0), (2, B b1 0), (5, I s1.1)], fun Γ => Γ.set 0 (BX gb2 3 [I s1.2]), [])) (fun  (_ : Unit) => ([(1, B gb2 0)], fun Γ => Γ.set 0 (BX gb2 3 [I rl1]), [])) hit1 c () (c.re [0, 1] [0]) (fun s1 q1 _ _ _ c h hr1 => ?_) fun _ _ _ c => ?_
 ·refine S0 ?_
  refine S0 (Ry [(2, 1), (8, 0)] mix c fun _ _ c => ?_)
  refine I0 c h (fun h => ?_) fun h => ?_
  ·refine K0 ?_
   refine S0 (wp_block ?_)
   refine T1 ?_
   refine Fp [(1, 1)] 3 c fun _ c => ?_
   obtain ⟨x1, hx1, h⟩ := bindE h
   refine Eem c (.f 0) hx1 fun _ u1 _ c => ?_
   obtain ⟨a1, c1, rfl, c⟩ := c.o_Term 1
   refine Fp [] 1 c fun _ c => ?_
   obtain ⟨x2, hx2, h⟩ := bindE h
   refine Ca [0] c (ih hx2) ⟨.f 2, trivial⟩ Try.call109 fun _ _ _ c => ?_
   refine E1 ?_
   refine bk (tn ?_)
   refine P1 [] c fun _ c => ?_
   exact Nx h () (c.re [1, 0] [0])
  refine wp_exit (te (te (be ?_)))
  obtain rfl := hr1 _ (Option.some.inj h).symm
  exact tn ⟨(), c.re [0, 1] [0]⟩
 refine P0 [(2, 0)] c fun _ c => ?_
 obtain rfl := Option.some.inj h
 exact wp_ret (Rt c () [0] [])

theorem spec_IsName_ok {n : Nat} {p0 : Str} {r : Bool} (h : spec_IsName n p0 = some r) : Con Try.prog 131 [Str.val p0] [] [] fun (_ : Unit) => ([.bool r], [], []) := by
 unfold spec_IsName at h
 refine En Try.func131 rfl Try.ntmps131 fun _ fr w c => ?_
 refine P0 [] c fun _ c => ?_
 refine S0 ?_
 refine P0 [] c fun _ c => ?_
 obtain ⟨rl1, hit1, h⟩ := bindE h
 have hk1 := h
 refine LpR (fun s1  (_ : Unit) => ([(0, Str.val p0), (3, I s1)], id, [])) (fun s  (_ : Unit) => ([(0, Str.val p0)], id, [])) hit1 c () (c.re [] []) (fun s1 q1 _ _ _ c h hr1 => ?_) fun s1r _ _ _ hrl c => ?_
 ·refine S0 ?_
  refine P0 [] c fun _ c => ?_
  refine I0 c h (fun h => ?_) fun h => ?_
  ·refine K0 ?_
   refine S0 (wp_block ?_)
   refine T0 ?_
   refine Fp [] 2 c fun _ c => ?_
   obtain ⟨x1, hx1, h⟩ := bindE h
   refine Eix (kd := .i64) c hx1 fun _ c => ?_
   refine Fp [] 1 c fun _ c => ?_
   obtain ⟨x2, hx2, h⟩ := bindE h
   refine Ca [] c (spec_l01In_ok hx2) trivial Try.call37 fun _ _ _ c => ?_
   refine Fp [] 1 c fun _ c => ?_
   refine E0 ?_
   refine T0 ?_
   refine Fp [] 1 c fun _ c => ?_
   refine Fp [] 1 c fun _ c => ?_
   refine Fp [] 1 c fun _ c => ?_
   rcases ite_split (b := (!x2)) h with ⟨hg1, h⟩ | ⟨hg1, h⟩
   ·replace c := c.eqs (v := .bool (!x2)) (u := .bool true) 18 (by rw [hg1])
    refine Gt c ?_
    dsimp only [List.set]
    refine Fp [] 1 c fun _ c => ?_
    refine Gt c ?_
    dsimp only [List.set]
    refine Fp [] 1 c fun _ c => ?_
    refine Gt c ?_
    dsimp only [List.set]
    refine Fp [] 1 c fun _ c => ?_
    rcases ite_split (b := (s1 == 0)) h with ⟨hg2, h⟩ | ⟨hg2, h⟩
    ·replace c := c.eqs (v := .bool (s1 == 0)) (u := .bool true) 21 (by rw [hg2])
     refine Gs c fun _ c => ?_
     refine Gs c fun _ c => ?_
     refine Gs c fun _ c => ?_
     refine Gs c fun _ c => ?_
     refine Gs c fun _ c => ?_
     refine Gs c fun _ c => ?_
     refine Gt c ?_
     dsimp only [List.set]
     refine Epk (b := true) (v := .bool true) c fun _ c => ?_
     refine Epk (b := true) (v := .bool true) c fun _ c => ?_
     refine E0 ?_
     refine I0 c h (fun h => ?_) fun h => ?_
     ·refine P0 [] c fun _ c => ?_
      obtain rfl := hr1 _ (Option.some.inj h).symm
      obtain rfl := Option.some.inj hk1
      exact wp_ret (br (tr (tr (br (tr (Rt c () [] []))))))
     refine K1 ?_
     refine bk (tn ?_)
     refine P1 [] c fun _ c => ?_
     exact Nx h () (c.re [] [])
    replace c := c.eqs (v := .bool (s1 == 0)) (u := .bool false) 21 (by rw [hg2])
    refine Gt c ?_
    dsimp only [List.set]
    refine Fp [] 1 c fun _ c => ?_
    refine Gt c ?_
    dsimp only [List.set]
    refine Fp [] 1 c fun _ c => ?_
    refine Gt c ?_
    dsimp only [List.set]
    obtain ⟨x3, hx3, h⟩ := bindE h
    refine Eix (kd := .i64) c hx3 fun _ c => ?_
    refine Gt c ?_
    dsimp only [List.set]
    refine Fp [] 1 c fun _ c => ?_
    refine Gt c ?_
    dsimp only [List.set]
    obtain ⟨x4, hx4, h⟩ := bindE h
    refine Ca [] c (spec_l01In_ok hx4) trivial Try.call37 fun _ _ _ c => ?_
    refine Gt c ?_
    dsimp only [List.set]
    refine Fp [] 1 c fun _ c => ?_
    refine Gt c ?_
    dsimp only [List.set]
    refine Epk (b := false) (v := .bool (!x4)) c fun _ c => ?_
    refine Epk (b := true) (v := .bool (!x4)) c fun _ c => ?_
    refine E0 ?_
    refine I0 c h (fun h => ?_) fun h => ?_
    ·refine P0 [] c fun _ c => ?_
     obtain rfl := hr1 _ (Option.some.inj h).symm
     obtain rfl := Option.some.inj hk1
     exact wp_ret (br (tr (tr (br (tr (Rt c () [] []))))))
    refine K1 ?_
    refine bk (tn ?_)
    refine P1 [] c fun _ c => ?_
    exact Nx h () (c.re [] [])
   replace c := c.eqs (v := .bool (!x2)) (u := .bool false) 18 (by rw [hg1])
   refine Gs c fun _ c => ?_
   refine Gs c fun _ c => ?_
   refine Gs c fun _ c => ?_
   refine Gu c fun _ c => ?_
   refine Gu c fun _ c => ?_
   refine Gu c fun _ c => ?_
   refine Gu c fun _ c => ?_
   refine Gu c fun _ c => ?_
   refine Gu c fun _ c => ?_
   refine Gs c fun _ c => ?_
   refine Epk (b := false) (v := .bool false) c fun _ c => ?_
   refine E0 ?_
   refine I0 c h (fun h => ?_) fun h => ?_
   ·refine P0 [] c fun _ c => ?_
    obtain rfl := hr1 _ (Option.some.inj h).symm
    obtain rfl := Option.some.inj hk1
    exact wp_ret (br (tr (tr (br (tr (Rt c () [] []))))))
   refine K1 ?_
   refine bk (tn ?_)
   refine P1 [] c fun _ c => ?_
   exact Nx h () (c.re [] [])
  refine wp_exit (te (te (be ?_)))
  obtain rfl := hr1 _ (Option.some.inj h).symm
  exact tn ⟨_, (), rfl, c.re [] []⟩
 subst hrl
 refine T0 ?_
 refine Fp [] 2 c fun _ c => ?_
 obtain ⟨x5, hx5, h⟩ := bindE h
 refine Ca [] c (spec_l01In_ok hx5) trivial Try.call37 fun _ _ _ c => ?_
 refine Fp [] 1 c fun _ c => ?_
 refine E0 ?_
 obtain rfl := Option.some.inj h
 exact wp_ret (Rt c () [] [])

set_option maxHeartbeats 4000000 in
theorem spec_l02Node_ok {n : Nat} : ∀ {p0 : D.Term} {ga0 : Option Addr} {gc1 : Nat} {r : Bool} (h : spec_l02Node n p0 = some r), Con Try.prog 110 [.agg #[I p0.Op, I p0.W, I p0.N, Str.val p0.Name, L ga0 p0.Kids gc1]] [] [RO (L ga0 p0.Kids gc1) p0.Kids] fun (_ : Unit) => ([.bool r], [], []) := by
 induction n with
 | zero => intro p0 ga0 gc1 r h; simp [spec_l02Node] at h
 | succ n ih =>
 intro p0 ga0 gc1 r h
 rw [spec_l02Node] at h
 refine En Try.func110 rfl Try.ntmps110 fun _ fr w c => ?_
 refine T0 ?_
 refine Ebx [I p0.Op, I p0.W, I p0.N, Str.val p0.Name, L ga0 p0.Kids gc1] c fun b1 _ _ c => ?_
 refine Fp [] 1 c fun _ c => ?_
 refine E0 ?_
 refine P0 [(1, 0)] c fun _ c => ?_
 refine S0 ?_
 refine T0 ?_
 refine Fp [] 1 c fun _ c => ?_
 refine Fp [(1, 0)] 1 c fun _ c => ?_
 obtain ⟨x1, hx1, h⟩ := bindE h
 refine Ca [] c (spec_l01In_ok hx1) trivial Try.call37 fun _ _ _ c => ?_
 refine Fp [] 1 c fun _ c => ?_
 refine Fp [] 1 c fun _ c => ?_
 rcases ite_split (b := (!x1)) h with ⟨hg1, h⟩ | ⟨hg1, h⟩
 ·replace c := c.eqs (v := .bool (!x1)) (u := .bool true) 15 (by rw [hg1])
  refine Gs c fun _ c => ?_
  refine Gs c fun _ c => ?_
  refine Gs c fun _ c => ?_
  refine Gs c fun _ c => ?_
  refine Gu c fun _ c => ?_
  refine Gu c fun _ c => ?_
  refine Gu c fun _ c => ?_
  refine Gs c fun _ c => ?_
  refine Epk (b := true) (v := .bool true) c fun _ c => ?_
  refine Fp [] 1 c fun _ c => ?_
  refine Gs c fun _ c => ?_
  refine Gs c fun _ c => ?_
  refine Gs c fun _ c => ?_
  refine Gs c fun _ c => ?_
  refine Gu c fun _ c => ?_
  refine Gu c fun _ c => ?_
  refine Gu c fun _ c => ?_
  refine Gs c fun _ c => ?_
  refine Gs c fun _ c => ?_
  refine Gu c fun _ c => ?_
  refine Gu c fun _ c => ?_
  refine Gu c fun _ c => ?_
  refine Gs c fun _ c => ?_
  refine Epk (b := true) (v := .bool true) c fun _ c => ?_
  refine E0 ?_
  refine I0 c h (fun h => ?_) fun h => ?_
  ·refine P0 [] c fun _ c => ?_
   obtain rfl := Option.some.inj h
   exact wp_ret (tr (Rt c () [] []))
  refine K0 ?_
  refine S0 ?_
  refine P0 [(1, 0)] c fun _ c => ?_
  obtain ⟨rl1, hit1, h⟩ := bindE h
  have hk1 := h
  refine LpR (fun s1  (_ : Unit) => ([(1, B b1 0), (3, I (len p0.Kids)), (41, L ga0 p0.Kids gc1), (42, I (len p0.Kids)), (43, I s1)], id, [])) (fun s  (_ : Unit) => ([(1, B b1 0), (3, I (len p0.Kids))], id, [])) hit1 c () (c.re [0] [0]) (fun s1 q1 _ _ _ c h hr1 => ?_) fun s1r _ _ _ hrl c => ?_
  ·refine P0 [] c fun _ c => ?_
   refine S0 (I0 c h (fun h => ?_) fun h => ?_)
   ·refine K0 ?_
    refine S0 (wp_block ?_)
    refine T0 ?_
    obtain ⟨x2, hx2, h⟩ := bindE h
    refine Eem c (.f 0) hx2 fun _ u1 _ c => ?_
    obtain ⟨a1, c1, rfl, c⟩ := c.o_Term 1
    refine Eal [I 0, I 0, I 0, Str.val ⟨[]⟩, L none ([] : List D.Term) 0] c fun b2 _ _ c => ?_
    refine Ess 1 [I x2.Op, I x2.W, I x2.N, Str.val x2.Name, L a1 x2.Kids c1] c fun _ c => ?_
    refine E0 ?_
    refine T0 ?_
    refine Fp [(0, 1)] 1 c fun _ c => ?_
    replace c := c.gm [BX b1 65 [I p0.Op, I p0.W, I p0.N, Str.val p0.Name, L ga0 p0.Kids gc1], BX b2 65 [I x2.Op, I x2.W, I x2.N, Str.val x2.Name, L a1 x2.Kids c1]]
    obtain ⟨x3, hx3, h⟩ := bindE h
    refine Ca [] c (ih hx3) ⟨.f 2, trivial⟩ Try.call110 fun _ _ _ c => ?_
    refine Fp [] 1 c fun _ c => ?_
    refine E0 ?_
    refine I0 c h (fun h => ?_) fun h => ?_
    ·refine P0 [] c fun _ c => ?_
     obtain rfl := hr1 _ (Option.some.inj h).symm
     obtain rfl := Option.some.inj hk1
     exact wp_ret (br (tr (tr (br (tr (Rt c () [] []))))))
    refine K1 ?_
    refine bk (tn ?_)
    refine P1 [] c fun _ c => ?_
    exact Nx h () (c.re [0] [0])
   refine wp_exit (te (te (be ?_)))
   obtain rfl := hr1 _ (Option.some.inj h).symm
   exact tn ⟨_, (), rfl, c.re [0] [0]⟩
  subst hrl
  refine T0 ?_
  refine Elt 3 ([0, 0, 0] : List Int) c fun a2 c2 _ _ c => ?_
  refine Fp [] 1 c fun _ c => ?_
  refine E0 ?_
  refine S0 ?_
  refine P0 [] c fun _ c => ?_
  obtain ⟨rl2, hit2, h⟩ := bindE h
  refine Lp (fun s2  (_ : Unit) => ([(1, B b1 0), (3, I (len p0.Kids)), (6, L a2 ([0, 0, 0] : List Int) c2), (7, I s2.1)], fun Γ => Γ.set 1 (sl3 (L a2 ([0, 0, 0] : List Int) c2) s2.2), [])) (fun  (_ : Unit) => ([(1, B b1 0), (3, I (len p0.Kids)), (6, L a2 ([0, 0, 0] : List Int) c2)], fun Γ => Γ.set 1 (sl3 (L a2 ([0, 0, 0] : List Int) c2) rl2), [])) hit2 c () (c.re [0, 1] [0]) (fun s2 q2 _ _ _ c h hr2 => ?_) fun _ _ _ c => ?_
  ·refine S0 ?_
   refine S0 (Ry [] mix c fun _ _ c => ?_)
   refine I0 c h (fun h => ?_) fun h => ?_
   ·refine K0 ?_
    refine S0 (wp_block ?_)
    refine T1 ?_
    refine Fp [(3, 0)] 5 c fun _ c => ?_
    obtain ⟨x4, hx4, h⟩ := bindE h
    refine Eef c (.f 0) hx4 fc65_1 fun _ _ _ c => ?_
    obtain ⟨x5, hx5, h⟩ := bindE h
    refine Eset 1 c hx5 fun _ _ _ c => ?_
    refine E1 ?_
    refine bk (tn ?_)
    refine P1 [] c fun _ c => ?_
    exact Nx h () (c.re [0, 1] [0])
   refine wp_exit (te (te (be ?_)))
   obtain rfl := hr2 _ (Option.some.inj h).symm
   exact tn ⟨(), c.re [0, 1] [0]⟩
  refine S0 (wp_block ?_)
  refine P0 [(1, 0)] c fun _ c => ?_
  refine I0 c h (fun h => ?_) fun h => ?_
  ·obtain ⟨x6, hx6, h⟩ := bindE h
   refine S0 (Rz [(7, .eq (.bool x6))] [(4, 0), (6, 0)] mix c ⟨Pd.mono_eq, trivial⟩ (fun hG => ⟨fun e => Ncl c (fun hg => spec_WordOk_ok (iteT (gcT hg) hx6)) trivial Try.call84 hG e, trivial⟩) fun _ _ c => ?_)
   obtain rfl := Option.some.inj h
   exact wp_ret (br (tr (Rt c () [] [])))
  refine P0 [(1, 0)] c fun _ c => ?_
  refine I0 c h (fun h => ?_) fun h => ?_
  ·obtain ⟨x7, hx7, h⟩ := bindE h
   refine S0 (Rz [(5, .eq (.bool x7))] [(4, 0)] mix c ⟨Pd.mono_eq, trivial⟩ (fun hG => ⟨fun e => Ncl c (fun hg => spec_IsName_ok (iteT (gcT hg) hx7)) trivial Try.call131 hG e, trivial⟩) fun _ _ c => ?_)
   obtain rfl := Option.some.inj h
   exact wp_ret (br (tr (Rt c () [] [])))
  refine T0 ?_
  refine Fp [(1, 0)] 2 c fun _ c => ?_
  obtain ⟨x8, hx8, h⟩ := bindE h
  refine Ca [] c (spec_l01In_ok hx8) trivial Try.call37 fun _ _ _ c => ?_
  refine Fp [] 1 c fun _ c => ?_
  refine E0 ?_
  refine I0 c h (fun h => ?_) fun h => ?_
  ·obtain ⟨x9, hx9, h⟩ := bindE h
   refine S0 (Rz [(4, Pd.el (x9 : Int)), (5, .eq (I x9))] [(7, 0)] mix c ⟨elM, Pd.mono_eq, trivial⟩ (fun hG => ⟨fun e => Nid c (.g 1) (fun hg => (iteT (gcT hg) hx9)) hG e, fun e => Nld c 4 (q := x9) (atN 4) hG e, trivial⟩) fun _ _ c => ?_)
   obtain rfl := Option.some.inj h
   exact wp_ret (br (tr (Rt c () [] [])))
  refine T0 ?_
  refine Fp [(1, 0)] 2 c fun _ c => ?_
  obtain ⟨x10, hx10, h⟩ := bindE h
  refine Ca [] c (spec_l01In_ok hx10) trivial Try.call37 fun _ _ _ c => ?_
  refine Fp [] 1 c fun _ c => ?_
  refine E0 ?_
  refine I0 c h (fun h => ?_) fun h => ?_
  ·obtain ⟨x11, hx11, h⟩ := bindE h
   obtain ⟨x12, hx12, h⟩ := bindE h
   refine S0 (Rz [(4, Pd.el (x11 : Int)), (5, .eq (I x11)), (12, Pd.el (x12 : Int)), (13, .eq (I x12))] [(7, 0), (15, 0)] mix c ⟨elM, Pd.mono_eq, elM, Pd.mono_eq, trivial⟩ (fun hG => ⟨fun e => Nid c (.g 1) (fun hg => (iteT (gcT hg) hx11)) hG e, fun e => Nld c 4 (q := x11) (atN 4) hG e, fun e => Nid c (.g 1) (fun hg => (iteT (gcT hg) hx12)) hG e, fun e => Nld c 12 (q := x12) (atN 12) hG e, trivial⟩) fun _ _ c => ?_)
   obtain rfl := Option.some.inj h
   exact wp_ret (br (tr (Rt c () [] [])))
  refine T0 ?_
  refine Fp [(1, 0)] 2 c fun _ c => ?_
  replace c := c.gm [BX b1 65 [I p0.Op, I p0.W, I p0.N, Str.val p0.Name, L ga0 p0.Kids gc1], sl3 (L a2 ([0, 0, 0] : List Int) c2) rl2]
  obtain ⟨x13, hx13, h⟩ := bindE h
  refine Ca [] c (spec_l01In_ok hx13) trivial Try.call37 fun _ _ _ c => ?_
  refine Fp [] 1 c fun _ c => ?_
  refine E0 ?_
  refine I0 c h (fun h => ?_) fun h => ?_
  ·obtain ⟨x14, hx14, h⟩ := bindE h
   obtain ⟨x15, hx15, h⟩ := bindE h
   refine S0 (Rz [(4, Pd.el (x14 : Int)), (5, .eq (I x14)), (7, Pd.el (x15 : Int)), (8, .eq (I x15))] [(13, 0)] mix c ⟨elM, Pd.mono_eq, elM, Pd.mono_eq, trivial⟩ (fun hG => ⟨fun e => Nid c (.g 1) (fun hg => (iteT (gcT hg) hx14)) hG e, fun e => Nld c 4 (q := x14) (atN 4) hG e, fun e => Nid c (.g 1) (fun hg => (iteT (gcT hg) hx15)) hG e, fun e => Nld c 7 (q := x15) (atN 7) hG e, trivial⟩) fun _ _ c => ?_)
   obtain rfl := Option.some.inj h
   exact wp_ret (br (tr (Rt c () [] [])))
  refine P0 [(1, 0)] c fun _ c => ?_
  refine I0 c h (fun h => ?_) fun h => ?_
  ·obtain ⟨x16, hx16, h⟩ := bindE h
   obtain ⟨x17, hx17, h⟩ := bindE h
   obtain ⟨x18, hx18, h⟩ := bindE h
   refine S0 (Rz [(4, Pd.el (x16 : Int)), (5, .eq (I x16)), (10, Pd.el (x17 : Int)), (11, .eq (I x17)), (18, Pd.el (x18 : Int)), (19, .eq (I x18))] [(13, 0), (21, 0)] mix c ⟨elM, Pd.mono_eq, elM, Pd.mono_eq, elM, Pd.mono_eq, trivial⟩ (fun hG => ⟨fun e => Nid c (.g 1) (fun hg => (iteT (gcT hg) hx16)) hG e, fun e => Nld c 4 (q := x16) (atN 4) hG e, fun e => Nid c (.g 1) (fun hg => (iteT (gcT hg) hx17)) hG e, fun e => Nld c 10 (q := x17) (atN 10) hG e, fun e => Nid c (.g 1) (fun hg => (iteT (gcT hg) hx18)) hG e, fun e => Nld c 18 (q := x18) (atN 18) hG e, trivial⟩) fun _ _ c => ?_)
   obtain rfl := Option.some.inj h
   exact wp_ret (br (tr (Rt c () [] [])))
  refine P0 [(1, 0)] c fun _ c => ?_
  refine I0 c h (fun h => ?_) fun h => ?_
  ·obtain ⟨x19, hx19, h⟩ := bindE h
   obtain ⟨x20, hx20, h⟩ := bindE h
   refine S0 (Rz [(4, Pd.el (x19 : Int)), (5, .eq (I x19)), (7, Pd.el (x20 : Int)), (8, .eq (I x20))] [(11, 0)] mix c ⟨elM, Pd.mono_eq, elM, Pd.mono_eq, trivial⟩ (fun hG => ⟨fun e => Nid c (.g 1) (fun hg => (iteT (gcT hg) hx19)) hG e, fun e => Nld c 4 (q := x19) (atN 4) hG e, fun e => Nid c (.g 1) (fun hg => (iteT (gcT hg) hx20)) hG e, fun e => Nld c 7 (q := x20) (atN 7) hG e, trivial⟩) fun _ _ c => ?_)
   obtain rfl := Option.some.inj h
   exact wp_ret (br (tr (Rt c () [] [])))
  refine P0 [(1, 0)] c fun _ c => ?_
  refine I0 c h (fun h => ?_) fun h => ?_
  ·obtain ⟨x21, hx21, h⟩ := bindE h
   obtain ⟨x22, hx22, h⟩ := bindE h
   refine S0 (Rz [(5, .eq (.bool x21)), (14, Pd.el (x22 : Int)), (15, .eq (I x22))] [(4, 0), (9, 0), (11, 0)] mix c ⟨Pd.mono_eq, elM, Pd.mono_eq, trivial⟩ (fun hG => ⟨fun e => Ncl c (fun hg => spec_l01In_ok (iteT (gcT hg) hx21)) trivial Try.call37 hG e, fun e => Nid c (.g 1) (fun hg => (iteT (gcT hg) hx22)) hG e, fun e => Nld c 14 (q := x22) (atN 14) hG e, trivial⟩) fun _ _ c => ?_)
   obtain rfl := Option.some.inj h
   exact wp_ret (br (tr (Rt c () [] [])))
  refine K1 ?_
  refine bk (tn ?_)
  obtain ⟨x23, hx23, h⟩ := bindE h
  obtain ⟨x24, hx24, h⟩ := bindE h
  refine S0 (Rz [(2, .eq (.bool x23)), (9, Pd.el (x24 : Int)), (10, .eq (I x24))] [(1, 0), (12, 0)] mix c ⟨Pd.mono_eq, elM, Pd.mono_eq, trivial⟩ (fun hG => ⟨fun e => Ncl c (fun hg => spec_l01In_ok hx23) trivial Try.call37 hG e, fun e => Nid c (.g 1) (fun hg => (iteT (gcT hg) hx24)) hG e, fun e => Nld c 9 (q := x24) (atN 9) hG e, trivial⟩) fun _ _ c => ?_)
  obtain rfl := Option.some.inj h
  exact wp_ret (Rt c () [] [])
 replace c := c.eqs (v := .bool (!x1)) (u := .bool false) 15 (by rw [hg1])
 refine Gt c ?_
 dsimp only [List.set]
 refine Fp [] 1 c fun _ c => ?_
 refine Gt c ?_
 dsimp only [List.set]
 refine Fp [(6, 0)] 1 c fun _ c => ?_
 refine Gt c ?_
 dsimp only [List.set]
 refine Fp [] 1 c fun _ c => ?_
 refine Gt c ?_
 dsimp only [List.set]
 refine Fp [] 1 c fun _ c => ?_
 rcases ite_split (b := (!(Str.eqb p0.Name ⟨[]⟩))) h with ⟨hg2, h⟩ | ⟨hg2, h⟩
 ·replace c := c.eqs (v := .bool (!(Str.eqb p0.Name ⟨[]⟩))) (u := .bool true) 19 (by rw [hg2])
  refine Gt c ?_
  dsimp only [List.set]
  refine Fp [] 1 c fun _ c => ?_
  refine Gt c ?_
  dsimp only [List.set]
  refine Fp [(10, 0)] 1 c fun _ c => ?_
  refine Gt c ?_
  dsimp only [List.set]
  refine Fp [] 1 c fun _ c => ?_
  refine Gt c ?_
  dsimp only [List.set]
  refine Epk (b := true) (v := .bool (p0.Op != 22)) c fun _ c => ?_
  refine Epk (b := false) (v := .bool (p0.Op != 22)) c fun _ c => ?_
  refine Fp [] 1 c fun _ c => ?_
  rcases ite_split (b := (p0.Op != 22)) h with ⟨hg3, h⟩ | ⟨hg3, h⟩
  ·replace c := c.eqs (v := .bool (p0.Op != 22)) (u := .bool true) 25 (by rw [hg3])
   refine Gs c fun _ c => ?_
   refine Gs c fun _ c => ?_
   refine Gs c fun _ c => ?_
   refine Gs c fun _ c => ?_
   refine Gu c fun _ c => ?_
   refine Gu c fun _ c => ?_
   refine Gu c fun _ c => ?_
   refine Gs c fun _ c => ?_
   refine Gs c fun _ c => ?_
   refine Gu c fun _ c => ?_
   refine Gu c fun _ c => ?_
   refine Gu c fun _ c => ?_
   refine Gs c fun _ c => ?_
   refine Epk (b := true) (v := .bool true) c fun _ c => ?_
   refine E0 ?_
   refine I0 c h (fun h => ?_) fun h => ?_
   ·refine P0 [] c fun _ c => ?_
    obtain rfl := Option.some.inj h
    exact wp_ret (tr (Rt c () [] []))
   refine K0 ?_
   refine S0 ?_
   refine P0 [(1, 0)] c fun _ c => ?_
   obtain ⟨rl3, hit3, h⟩ := bindE h
   have hk3 := h
   refine LpR (fun s3  (_ : Unit) => ([(1, B b1 0), (3, I (len p0.Kids)), (41, L ga0 p0.Kids gc1), (42, I (len p0.Kids)), (43, I s3)], id, [])) (fun s  (_ : Unit) => ([(1, B b1 0), (3, I (len p0.Kids))], id, [])) hit3 c () (c.re [0] [0]) (fun s3 q3 _ _ _ c h hr3 => ?_) fun s3r _ _ _ hrl c => ?_
   ·refine P0 [] c fun _ c => ?_
    refine S0 (I0 c h (fun h => ?_) fun h => ?_)
    ·refine K0 ?_
     refine S0 (wp_block ?_)
     refine T0 ?_
     obtain ⟨x25, hx25, h⟩ := bindE h
     refine Eem c (.f 0) hx25 fun _ u2 _ c => ?_
     obtain ⟨a3, c3, rfl, c⟩ := c.o_Term 1
     refine Eal [I 0, I 0, I 0, Str.val ⟨[]⟩, L none ([] : List D.Term) 0] c fun b3 _ _ c => ?_
     refine Ess 1 [I x25.Op, I x25.W, I x25.N, Str.val x25.Name, L a3 x25.Kids c3] c fun _ c => ?_
     refine E0 ?_
     refine T0 ?_
     refine Fp [(0, 1)] 1 c fun _ c => ?_
     replace c := c.gm [BX b1 65 [I p0.Op, I p0.W, I p0.N, Str.val p0.Name, L ga0 p0.Kids gc1], BX b3 65 [I x25.Op, I x25.W, I x25.N, Str.val x25.Name, L a3 x25.Kids c3]]
     obtain ⟨x26, hx26, h⟩ := bindE h
     refine Ca [] c (ih hx26) ⟨.f 2, trivial⟩ Try.call110 fun _ _ _ c => ?_
     refine Fp [] 1 c fun _ c => ?_
     refine E0 ?_
     refine I0 c h (fun h => ?_) fun h => ?_
     ·refine P0 [] c fun _ c => ?_
      obtain rfl := hr3 _ (Option.some.inj h).symm
      obtain rfl := Option.some.inj hk3
      exact wp_ret (br (tr (tr (br (tr (Rt c () [] []))))))
     refine K1 ?_
     refine bk (tn ?_)
     refine P1 [] c fun _ c => ?_
     exact Nx h () (c.re [0] [0])
    refine wp_exit (te (te (be ?_)))
    obtain rfl := hr3 _ (Option.some.inj h).symm
    exact tn ⟨_, (), rfl, c.re [0] [0]⟩
   subst hrl
   refine T0 ?_
   refine Elt 3 ([0, 0, 0] : List Int) c fun a4 c4 _ _ c => ?_
   refine Fp [] 1 c fun _ c => ?_
   refine E0 ?_
   refine S0 ?_
   refine P0 [] c fun _ c => ?_
   obtain ⟨rl4, hit4, h⟩ := bindE h
   refine Lp (fun s4  (_ : Unit) => ([(1, B b1 0), (3, I (len p0.Kids)), (6, L a4 ([0, 0, 0] : List Int) c4), (7, I s4.1)], fun Γ => Γ.set 1 (sl3 (L a4 ([0, 0, 0] : List Int) c4) s4.2), [])) (fun  (_ : Unit) => ([(1, B b1 0), (3, I (len p0.Kids)), (6, L a4 ([0, 0, 0] : List Int) c4)], fun Γ => Γ.set 1 (sl3 (L a4 ([0, 0, 0] : List Int) c4) rl4), [])) hit4 c () (c.re [0, 1] [0]) (fun s4 q4 _ _ _ c h hr4 => ?_) fun _ _ _ c => ?_
   ·refine S0 ?_
    refine S0 (Ry [] mix c fun _ _ c => ?_)
    refine I0 c h (fun h => ?_) fun h => ?_
    ·refine K0 ?_
     refine S0 (wp_block ?_)
     refine T1 ?_
     refine Fp [(3, 0)] 5 c fun _ c => ?_
     obtain ⟨x27, hx27, h⟩ := bindE h
     refine Eef c (.f 0) hx27 fc65_1 fun _ _ _ c => ?_
     obtain ⟨x28, hx28, h⟩ := bindE h
     refine Eset 1 c hx28 fun _ _ _ c => ?_
     refine E1 ?_
     refine bk (tn ?_)
     refine P1 [] c fun _ c => ?_
     exact Nx h () (c.re [0, 1] [0])
    refine wp_exit (te (te (be ?_)))
    obtain rfl := hr4 _ (Option.some.inj h).symm
    exact tn ⟨(), c.re [0, 1] [0]⟩
   refine S0 (wp_block ?_)
   refine P0 [(1, 0)] c fun _ c => ?_
   refine I0 c h (fun h => ?_) fun h => ?_
   ·obtain ⟨x29, hx29, h⟩ := bindE h
    refine S0 (Rz [(7, .eq (.bool x29))] [(4, 0), (6, 0)] mix c ⟨Pd.mono_eq, trivial⟩ (fun hG => ⟨fun e => Ncl c (fun hg => spec_WordOk_ok (iteT (gcT hg) hx29)) trivial Try.call84 hG e, trivial⟩) fun _ _ c => ?_)
    obtain rfl := Option.some.inj h
    exact wp_ret (br (tr (Rt c () [] [])))
   refine P0 [(1, 0)] c fun _ c => ?_
   refine I0 c h (fun h => ?_) fun h => ?_
   ·obtain ⟨x30, hx30, h⟩ := bindE h
    refine S0 (Rz [(5, .eq (.bool x30))] [(4, 0)] mix c ⟨Pd.mono_eq, trivial⟩ (fun hG => ⟨fun e => Ncl c (fun hg => spec_IsName_ok (iteT (gcT hg) hx30)) trivial Try.call131 hG e, trivial⟩) fun _ _ c => ?_)
    obtain rfl := Option.some.inj h
    exact wp_ret (br (tr (Rt c () [] [])))
   refine T0 ?_
   refine Fp [(1, 0)] 2 c fun _ c => ?_
   obtain ⟨x31, hx31, h⟩ := bindE h
   refine Ca [] c (spec_l01In_ok hx31) trivial Try.call37 fun _ _ _ c => ?_
   refine Fp [] 1 c fun _ c => ?_
   refine E0 ?_
   refine I0 c h (fun h => ?_) fun h => ?_
   ·obtain ⟨x32, hx32, h⟩ := bindE h
    refine S0 (Rz [(4, Pd.el (x32 : Int)), (5, .eq (I x32))] [(7, 0)] mix c ⟨elM, Pd.mono_eq, trivial⟩ (fun hG => ⟨fun e => Nid c (.g 1) (fun hg => (iteT (gcT hg) hx32)) hG e, fun e => Nld c 4 (q := x32) (atN 4) hG e, trivial⟩) fun _ _ c => ?_)
    obtain rfl := Option.some.inj h
    exact wp_ret (br (tr (Rt c () [] [])))
   refine T0 ?_
   refine Fp [(1, 0)] 2 c fun _ c => ?_
   obtain ⟨x33, hx33, h⟩ := bindE h
   refine Ca [] c (spec_l01In_ok hx33) trivial Try.call37 fun _ _ _ c => ?_
   refine Fp [] 1 c fun _ c => ?_
   refine E0 ?_
   refine I0 c h (fun h => ?_) fun h => ?_
   ·obtain ⟨x34, hx34, h⟩ := bindE h
    obtain ⟨x35, hx35, h⟩ := bindE h
    refine S0 (Rz [(4, Pd.el (x34 : Int)), (5, .eq (I x34)), (12, Pd.el (x35 : Int)), (13, .eq (I x35))] [(7, 0), (15, 0)] mix c ⟨elM, Pd.mono_eq, elM, Pd.mono_eq, trivial⟩ (fun hG => ⟨fun e => Nid c (.g 1) (fun hg => (iteT (gcT hg) hx34)) hG e, fun e => Nld c 4 (q := x34) (atN 4) hG e, fun e => Nid c (.g 1) (fun hg => (iteT (gcT hg) hx35)) hG e, fun e => Nld c 12 (q := x35) (atN 12) hG e, trivial⟩) fun _ _ c => ?_)
    obtain rfl := Option.some.inj h
    exact wp_ret (br (tr (Rt c () [] [])))
   refine T0 ?_
   refine Fp [(1, 0)] 2 c fun _ c => ?_
   replace c := c.gm [BX b1 65 [I p0.Op, I p0.W, I p0.N, Str.val p0.Name, L ga0 p0.Kids gc1], sl3 (L a4 ([0, 0, 0] : List Int) c4) rl4]
   obtain ⟨x36, hx36, h⟩ := bindE h
   refine Ca [] c (spec_l01In_ok hx36) trivial Try.call37 fun _ _ _ c => ?_
   refine Fp [] 1 c fun _ c => ?_
   refine E0 ?_
   refine I0 c h (fun h => ?_) fun h => ?_
   ·obtain ⟨x37, hx37, h⟩ := bindE h
    obtain ⟨x38, hx38, h⟩ := bindE h
    refine S0 (Rz [(4, Pd.el (x37 : Int)), (5, .eq (I x37)), (7, Pd.el (x38 : Int)), (8, .eq (I x38))] [(13, 0)] mix c ⟨elM, Pd.mono_eq, elM, Pd.mono_eq, trivial⟩ (fun hG => ⟨fun e => Nid c (.g 1) (fun hg => (iteT (gcT hg) hx37)) hG e, fun e => Nld c 4 (q := x37) (atN 4) hG e, fun e => Nid c (.g 1) (fun hg => (iteT (gcT hg) hx38)) hG e, fun e => Nld c 7 (q := x38) (atN 7) hG e, trivial⟩) fun _ _ c => ?_)
    obtain rfl := Option.some.inj h
    exact wp_ret (br (tr (Rt c () [] [])))
   refine P0 [(1, 0)] c fun _ c => ?_
   refine I0 c h (fun h => ?_) fun h => ?_
   ·obtain ⟨x39, hx39, h⟩ := bindE h
    obtain ⟨x40, hx40, h⟩ := bindE h
    obtain ⟨x41, hx41, h⟩ := bindE h
    refine S0 (Rz [(4, Pd.el (x39 : Int)), (5, .eq (I x39)), (10, Pd.el (x40 : Int)), (11, .eq (I x40)), (18, Pd.el (x41 : Int)), (19, .eq (I x41))] [(13, 0), (21, 0)] mix c ⟨elM, Pd.mono_eq, elM, Pd.mono_eq, elM, Pd.mono_eq, trivial⟩ (fun hG => ⟨fun e => Nid c (.g 1) (fun hg => (iteT (gcT hg) hx39)) hG e, fun e => Nld c 4 (q := x39) (atN 4) hG e, fun e => Nid c (.g 1) (fun hg => (iteT (gcT hg) hx40)) hG e, fun e => Nld c 10 (q := x40) (atN 10) hG e, fun e => Nid c (.g 1) (fun hg => (iteT (gcT hg) hx41)) hG e, fun e => Nld c 18 (q := x41) (atN 18) hG e, trivial⟩) fun _ _ c => ?_)
    obtain rfl := Option.some.inj h
    exact wp_ret (br (tr (Rt c () [] [])))
   refine P0 [(1, 0)] c fun _ c => ?_
   refine I0 c h (fun h => ?_) fun h => ?_
   ·obtain ⟨x42, hx42, h⟩ := bindE h
    obtain ⟨x43, hx43, h⟩ := bindE h
    refine S0 (Rz [(4, Pd.el (x42 : Int)), (5, .eq (I x42)), (7, Pd.el (x43 : Int)), (8, .eq (I x43))] [(11, 0)] mix c ⟨elM, Pd.mono_eq, elM, Pd.mono_eq, trivial⟩ (fun hG => ⟨fun e => Nid c (.g 1) (fun hg => (iteT (gcT hg) hx42)) hG e, fun e => Nld c 4 (q := x42) (atN 4) hG e, fun e => Nid c (.g 1) (fun hg => (iteT (gcT hg) hx43)) hG e, fun e => Nld c 7 (q := x43) (atN 7) hG e, trivial⟩) fun _ _ c => ?_)
    obtain rfl := Option.some.inj h
    exact wp_ret (br (tr (Rt c () [] [])))
   refine P0 [(1, 0)] c fun _ c => ?_
   refine I0 c h (fun h => ?_) fun h => ?_
   ·obtain ⟨x44, hx44, h⟩ := bindE h
    obtain ⟨x45, hx45, h⟩ := bindE h
    refine S0 (Rz [(5, .eq (.bool x44)), (14, Pd.el (x45 : Int)), (15, .eq (I x45))] [(4, 0), (9, 0), (11, 0)] mix c ⟨Pd.mono_eq, elM, Pd.mono_eq, trivial⟩ (fun hG => ⟨fun e => Ncl c (fun hg => spec_l01In_ok (iteT (gcT hg) hx44)) trivial Try.call37 hG e, fun e => Nid c (.g 1) (fun hg => (iteT (gcT hg) hx45)) hG e, fun e => Nld c 14 (q := x45) (atN 14) hG e, trivial⟩) fun _ _ c => ?_)
    obtain rfl := Option.some.inj h
    exact wp_ret (br (tr (Rt c () [] [])))
   refine K1 ?_
   refine bk (tn ?_)
   obtain ⟨x46, hx46, h⟩ := bindE h
   obtain ⟨x47, hx47, h⟩ := bindE h
   refine S0 (Rz [(2, .eq (.bool x46)), (9, Pd.el (x47 : Int)), (10, .eq (I x47))] [(1, 0), (12, 0)] mix c ⟨Pd.mono_eq, elM, Pd.mono_eq, trivial⟩ (fun hG => ⟨fun e => Ncl c (fun hg => spec_l01In_ok hx46) trivial Try.call37 hG e, fun e => Nid c (.g 1) (fun hg => (iteT (gcT hg) hx47)) hG e, fun e => Nld c 9 (q := x47) (atN 9) hG e, trivial⟩) fun _ _ c => ?_)
   obtain rfl := Option.some.inj h
   exact wp_ret (Rt c () [] [])
  replace c := c.eqs (v := .bool (p0.Op != 22)) (u := .bool false) 25 (by rw [hg3])
  refine Gt c ?_
  dsimp only [List.set]
  refine Fp [] 1 c fun _ c => ?_
  refine Gt c ?_
  dsimp only [List.set]
  refine Fp [(16, 0)] 1 c fun _ c => ?_
  refine Gt c ?_
  dsimp only [List.set]
  refine Fp [] 1 c fun _ c => ?_
  refine Gt c ?_
  dsimp only [List.set]
  refine Fp [] 1 c fun _ c => ?_
  rcases ite_split (b := (p0.N != 0)) h with ⟨hg4, h⟩ | ⟨hg4, h⟩
  ·replace c := c.eqs (v := .bool (p0.N != 0)) (u := .bool true) 29 (by rw [hg4])
   refine Gt c ?_
   dsimp only [List.set]
   refine Fp [] 1 c fun _ c => ?_
   refine Gt c ?_
   dsimp only [List.set]
   refine Fp [(20, 0)] 1 c fun _ c => ?_
   refine Gt c ?_
   dsimp only [List.set]
   refine Fp [] 1 c fun _ c => ?_
   refine Gt c ?_
   dsimp only [List.set]
   refine Epk (b := true) (v := .bool (p0.Op != 0)) c fun _ c => ?_
   refine Gt c ?_
   dsimp only [List.set]
   refine Fp [] 1 c fun _ c => ?_
   rcases ite_split (b := (p0.Op != 0)) h with ⟨hg5, h⟩ | ⟨hg5, h⟩
   ·replace c := c.eqs (v := .bool (p0.Op != 0)) (u := .bool true) 34 (by rw [hg5])
    refine Gt c ?_
    dsimp only [List.set]
    refine Fp [] 1 c fun _ c => ?_
    refine Gt c ?_
    dsimp only [List.set]
    refine Fp [(25, 0)] 1 c fun _ c => ?_
    refine Gt c ?_
    dsimp only [List.set]
    refine Fp [] 1 c fun _ c => ?_
    refine Gt c ?_
    dsimp only [List.set]
    refine Epk (b := true) (v := .bool (p0.Op != 19)) c fun _ c => ?_
    refine Epk (b := false) (v := .bool (p0.Op != 19)) c fun _ c => ?_
    refine E0 ?_
    refine I0 c h (fun h => ?_) fun h => ?_
    ·refine P0 [] c fun _ c => ?_
     obtain rfl := Option.some.inj h
     exact wp_ret (tr (Rt c () [] []))
    refine K0 ?_
    refine S0 ?_
    refine P0 [(1, 0)] c fun _ c => ?_
    obtain ⟨rl5, hit5, h⟩ := bindE h
    have hk5 := h
    refine LpR (fun s5  (_ : Unit) => ([(1, B b1 0), (3, I (len p0.Kids)), (41, L ga0 p0.Kids gc1), (42, I (len p0.Kids)), (43, I s5)], id, [])) (fun s  (_ : Unit) => ([(1, B b1 0), (3, I (len p0.Kids))], id, [])) hit5 c () (c.re [0] [0]) (fun s5 q5 _ _ _ c h hr5 => ?_) fun s5r _ _ _ hrl c => ?_
    ·refine P0 [] c fun _ c => ?_
     refine S0 (I0 c h (fun h => ?_) fun h => ?_)
     ·refine K0 ?_
      refine S0 (wp_block ?_)
      refine T0 ?_
      obtain ⟨x48, hx48, h⟩ := bindE h
      refine Eem c (.f 0) hx48 fun _ u3 _ c => ?_
      obtain ⟨a5, c5, rfl, c⟩ := c.o_Term 1
      refine Eal [I 0, I 0, I 0, Str.val ⟨[]⟩, L none ([] : List D.Term) 0] c fun b4 _ _ c => ?_
      refine Ess 1 [I x48.Op, I x48.W, I x48.N, Str.val x48.Name, L a5 x48.Kids c5] c fun _ c => ?_
      refine E0 ?_
      refine T0 ?_
      refine Fp [(0, 1)] 1 c fun _ c => ?_
      replace c := c.gm [BX b1 65 [I p0.Op, I p0.W, I p0.N, Str.val p0.Name, L ga0 p0.Kids gc1], BX b4 65 [I x48.Op, I x48.W, I x48.N, Str.val x48.Name, L a5 x48.Kids c5]]
      obtain ⟨x49, hx49, h⟩ := bindE h
      refine Ca [] c (ih hx49) ⟨.f 2, trivial⟩ Try.call110 fun _ _ _ c => ?_
      refine Fp [] 1 c fun _ c => ?_
      refine E0 ?_
      refine I0 c h (fun h => ?_) fun h => ?_
      ·refine P0 [] c fun _ c => ?_
       obtain rfl := hr5 _ (Option.some.inj h).symm
       obtain rfl := Option.some.inj hk5
       exact wp_ret (br (tr (tr (br (tr (Rt c () [] []))))))
      refine K1 ?_
      refine bk (tn ?_)
      refine P1 [] c fun _ c => ?_
      exact Nx h () (c.re [0] [0])
     refine wp_exit (te (te (be ?_)))
     obtain rfl := hr5 _ (Option.some.inj h).symm
     exact tn ⟨_, (), rfl, c.re [0] [0]⟩
    subst hrl
    refine T0 ?_
    refine Elt 3 ([0, 0, 0] : List Int) c fun a6 c6 _ _ c => ?_
    refine Fp [] 1 c fun _ c => ?_
    refine E0 ?_
    refine S0 ?_
    refine P0 [] c fun _ c => ?_
    obtain ⟨rl6, hit6, h⟩ := bindE h
    refine Lp (fun s6  (_ : Unit) => ([(1, B b1 0), (3, I (len p0.Kids)), (6, L a6 ([0, 0, 0] : List Int) c6), (7, I s6.1)], fun Γ => Γ.set 1 (sl3 (L a6 ([0, 0, 0] : List Int) c6) s6.2), [])) (fun  (_ : Unit) => ([(1, B b1 0), (3, I (len p0.Kids)), (6, L a6 ([0, 0, 0] : List Int) c6)], fun Γ => Γ.set 1 (sl3 (L a6 ([0, 0, 0] : List Int) c6) rl6), [])) hit6 c () (c.re [0, 1] [0]) (fun s6 q6 _ _ _ c h hr6 => ?_) fun _ _ _ c => ?_
    ·refine S0 ?_
     refine S0 (Ry [] mix c fun _ _ c => ?_)
     refine I0 c h (fun h => ?_) fun h => ?_
     ·refine K0 ?_
      refine S0 (wp_block ?_)
      refine T1 ?_
      refine Fp [(3, 0)] 5 c fun _ c => ?_
      obtain ⟨x50, hx50, h⟩ := bindE h
      refine Eef c (.f 0) hx50 fc65_1 fun _ _ _ c => ?_
      obtain ⟨x51, hx51, h⟩ := bindE h
      refine Eset 1 c hx51 fun _ _ _ c => ?_
      refine E1 ?_
      refine bk (tn ?_)
      refine P1 [] c fun _ c => ?_
      exact Nx h () (c.re [0, 1] [0])
     refine wp_exit (te (te (be ?_)))
     obtain rfl := hr6 _ (Option.some.inj h).symm
     exact tn ⟨(), c.re [0, 1] [0]⟩
    refine S0 (wp_block ?_)
    refine P0 [(1, 0)] c fun _ c => ?_
    refine I0 c h (fun h => ?_) fun h => ?_
    ·obtain ⟨x52, hx52, h⟩ := bindE h
     refine S0 (Rz [(7, .eq (.bool x52))] [(4, 0), (6, 0)] mix c ⟨Pd.mono_eq, trivial⟩ (fun hG => ⟨fun e => Ncl c (fun hg => spec_WordOk_ok (iteT (gcT hg) hx52)) trivial Try.call84 hG e, trivial⟩) fun _ _ c => ?_)
     obtain rfl := Option.some.inj h
     exact wp_ret (br (tr (Rt c () [] [])))
    refine P0 [(1, 0)] c fun _ c => ?_
    refine I0 c h (fun h => ?_) fun h => ?_
    ·obtain ⟨x53, hx53, h⟩ := bindE h
     refine S0 (Rz [(5, .eq (.bool x53))] [(4, 0)] mix c ⟨Pd.mono_eq, trivial⟩ (fun hG => ⟨fun e => Ncl c (fun hg => spec_IsName_ok (iteT (gcT hg) hx53)) trivial Try.call131 hG e, trivial⟩) fun _ _ c => ?_)
     obtain rfl := Option.some.inj h
     exact wp_ret (br (tr (Rt c () [] [])))
    refine T0 ?_
    refine Fp [(1, 0)] 2 c fun _ c => ?_
    obtain ⟨x54, hx54, h⟩ := bindE h
    refine Ca [] c (spec_l01In_ok hx54) trivial Try.call37 fun _ _ _ c => ?_
    refine Fp [] 1 c fun _ c => ?_
    refine E0 ?_
    refine I0 c h (fun h => ?_) fun h => ?_
    ·obtain ⟨x55, hx55, h⟩ := bindE h
     refine S0 (Rz [(4, Pd.el (x55 : Int)), (5, .eq (I x55))] [(7, 0)] mix c ⟨elM, Pd.mono_eq, trivial⟩ (fun hG => ⟨fun e => Nid c (.g 1) (fun hg => (iteT (gcT hg) hx55)) hG e, fun e => Nld c 4 (q := x55) (atN 4) hG e, trivial⟩) fun _ _ c => ?_)
     obtain rfl := Option.some.inj h
     exact wp_ret (br (tr (Rt c () [] [])))
    refine T0 ?_
    refine Fp [(1, 0)] 2 c fun _ c => ?_
    obtain ⟨x56, hx56, h⟩ := bindE h
    refine Ca [] c (spec_l01In_ok hx56) trivial Try.call37 fun _ _ _ c => ?_
    refine Fp [] 1 c fun _ c => ?_
    refine E0 ?_
    refine I0 c h (fun h => ?_) fun h => ?_
    ·obtain ⟨x57, hx57, h⟩ := bindE h
     obtain ⟨x58, hx58, h⟩ := bindE h
     refine S0 (Rz [(4, Pd.el (x57 : Int)), (5, .eq (I x57)), (12, Pd.el (x58 : Int)), (13, .eq (I x58))] [(7, 0), (15, 0)] mix c ⟨elM, Pd.mono_eq, elM, Pd.mono_eq, trivial⟩ (fun hG => ⟨fun e => Nid c (.g 1) (fun hg => (iteT (gcT hg) hx57)) hG e, fun e => Nld c 4 (q := x57) (atN 4) hG e, fun e => Nid c (.g 1) (fun hg => (iteT (gcT hg) hx58)) hG e, fun e => Nld c 12 (q := x58) (atN 12) hG e, trivial⟩) fun _ _ c => ?_)
     obtain rfl := Option.some.inj h
     exact wp_ret (br (tr (Rt c () [] [])))
    refine T0 ?_
    refine Fp [(1, 0)] 2 c fun _ c => ?_
    replace c := c.gm [BX b1 65 [I p0.Op, I p0.W, I p0.N, Str.val p0.Name, L ga0 p0.Kids gc1], sl3 (L a6 ([0, 0, 0] : List Int) c6) rl6]
    obtain ⟨x59, hx59, h⟩ := bindE h
    refine Ca [] c (spec_l01In_ok hx59) trivial Try.call37 fun _ _ _ c => ?_
    refine Fp [] 1 c fun _ c => ?_
    refine E0 ?_
    refine I0 c h (fun h => ?_) fun h => ?_
    ·obtain ⟨x60, hx60, h⟩ := bindE h
     obtain ⟨x61, hx61, h⟩ := bindE h
     refine S0 (Rz [(4, Pd.el (x60 : Int)), (5, .eq (I x60)), (7, Pd.el (x61 : Int)), (8, .eq (I x61))] [(13, 0)] mix c ⟨elM, Pd.mono_eq, elM, Pd.mono_eq, trivial⟩ (fun hG => ⟨fun e => Nid c (.g 1) (fun hg => (iteT (gcT hg) hx60)) hG e, fun e => Nld c 4 (q := x60) (atN 4) hG e, fun e => Nid c (.g 1) (fun hg => (iteT (gcT hg) hx61)) hG e, fun e => Nld c 7 (q := x61) (atN 7) hG e, trivial⟩) fun _ _ c => ?_)
     obtain rfl := Option.some.inj h
     exact wp_ret (br (tr (Rt c () [] [])))
    refine P0 [(1, 0)] c fun _ c => ?_
    refine I0 c h (fun h => ?_) fun h => ?_
    ·obtain ⟨x62, hx62, h⟩ := bindE h
     obtain ⟨x63, hx63, h⟩ := bindE h
     obtain ⟨x64, hx64, h⟩ := bindE h
     refine S0 (Rz [(4, Pd.el (x62 : Int)), (5, .eq (I x62)), (10, Pd.el (x63 : Int)), (11, .eq (I x63)), (18, Pd.el (x64 : Int)), (19, .eq (I x64))] [(13, 0), (21, 0)] mix c ⟨elM, Pd.mono_eq, elM, Pd.mono_eq, elM, Pd.mono_eq, trivial⟩ (fun hG => ⟨fun e => Nid c (.g 1) (fun hg => (iteT (gcT hg) hx62)) hG e, fun e => Nld c 4 (q := x62) (atN 4) hG e, fun e => Nid c (.g 1) (fun hg => (iteT (gcT hg) hx63)) hG e, fun e => Nld c 10 (q := x63) (atN 10) hG e, fun e => Nid c (.g 1) (fun hg => (iteT (gcT hg) hx64)) hG e, fun e => Nld c 18 (q := x64) (atN 18) hG e, trivial⟩) fun _ _ c => ?_)
     obtain rfl := Option.some.inj h
     exact wp_ret (br (tr (Rt c () [] [])))
    refine P0 [(1, 0)] c fun _ c => ?_
    refine I0 c h (fun h => ?_) fun h => ?_
    ·obtain ⟨x65, hx65, h⟩ := bindE h
     obtain ⟨x66, hx66, h⟩ := bindE h
     refine S0 (Rz [(4, Pd.el (x65 : Int)), (5, .eq (I x65)), (7, Pd.el (x66 : Int)), (8, .eq (I x66))] [(11, 0)] mix c ⟨elM, Pd.mono_eq, elM, Pd.mono_eq, trivial⟩ (fun hG => ⟨fun e => Nid c (.g 1) (fun hg => (iteT (gcT hg) hx65)) hG e, fun e => Nld c 4 (q := x65) (atN 4) hG e, fun e => Nid c (.g 1) (fun hg => (iteT (gcT hg) hx66)) hG e, fun e => Nld c 7 (q := x66) (atN 7) hG e, trivial⟩) fun _ _ c => ?_)
     obtain rfl := Option.some.inj h
     exact wp_ret (br (tr (Rt c () [] [])))
    refine P0 [(1, 0)] c fun _ c => ?_
    refine I0 c h (fun h => ?_) fun h => ?_
    ·obtain ⟨x67, hx67, h⟩ := bindE h
     obtain ⟨x68, hx68, h⟩ := bindE h
     refine S0 (Rz [(5, .eq (.bool x67)), (14, Pd.el (x68 : Int)), (15, .eq (I x68))] [(4, 0), (9, 0), (11, 0)] mix c ⟨Pd.mono_eq, elM, Pd.mono_eq, trivial⟩ (fun hG => ⟨fun e => Ncl c (fun hg => spec_l01In_ok (iteT (gcT hg) hx67)) trivial Try.call37 hG e, fun e => Nid c (.g 1) (fun hg => (iteT (gcT hg) hx68)) hG e, fun e => Nld c 14 (q := x68) (atN 14) hG e, trivial⟩) fun _ _ c => ?_)
     obtain rfl := Option.some.inj h
     exact wp_ret (br (tr (Rt c () [] [])))
    refine K1 ?_
    refine bk (tn ?_)
    obtain ⟨x69, hx69, h⟩ := bindE h
    obtain ⟨x70, hx70, h⟩ := bindE h
    refine S0 (Rz [(2, .eq (.bool x69)), (9, Pd.el (x70 : Int)), (10, .eq (I x70))] [(1, 0), (12, 0)] mix c ⟨Pd.mono_eq, elM, Pd.mono_eq, trivial⟩ (fun hG => ⟨fun e => Ncl c (fun hg => spec_l01In_ok hx69) trivial Try.call37 hG e, fun e => Nid c (.g 1) (fun hg => (iteT (gcT hg) hx70)) hG e, fun e => Nld c 9 (q := x70) (atN 9) hG e, trivial⟩) fun _ _ c => ?_)
    obtain rfl := Option.some.inj h
    exact wp_ret (Rt c () [] [])
   replace c := c.eqs (v := .bool (p0.Op != 0)) (u := .bool false) 34 (by rw [hg5])
   refine Gs c fun _ c => ?_
   refine Gs c fun _ c => ?_
   refine Gs c fun _ c => ?_
   refine Gt c ?_
   dsimp only [List.set]
   refine Epk (b := false) (v := .bool false) c fun _ c => ?_
   refine Epk (b := false) (v := .bool false) c fun _ c => ?_
   refine E0 ?_
   refine I0 c h (fun h => ?_) fun h => ?_
   ·refine P0 [] c fun _ c => ?_
    obtain rfl := Option.some.inj h
    exact wp_ret (tr (Rt c () [] []))
   refine K0 ?_
   refine S0 ?_
   refine P0 [(1, 0)] c fun _ c => ?_
   obtain ⟨rl7, hit7, h⟩ := bindE h
   have hk7 := h
   refine LpR (fun s7  (_ : Unit) => ([(1, B b1 0), (3, I (len p0.Kids)), (41, L ga0 p0.Kids gc1), (42, I (len p0.Kids)), (43, I s7)], id, [])) (fun s  (_ : Unit) => ([(1, B b1 0), (3, I (len p0.Kids))], id, [])) hit7 c () (c.re [0] [0]) (fun s7 q7 _ _ _ c h hr7 => ?_) fun s7r _ _ _ hrl c => ?_
   ·refine P0 [] c fun _ c => ?_
    refine S0 (I0 c h (fun h => ?_) fun h => ?_)
    ·refine K0 ?_
     refine S0 (wp_block ?_)
     refine T0 ?_
     obtain ⟨x71, hx71, h⟩ := bindE h
     refine Eem c (.f 0) hx71 fun _ u4 _ c => ?_
     obtain ⟨a7, c7, rfl, c⟩ := c.o_Term 1
     refine Eal [I 0, I 0, I 0, Str.val ⟨[]⟩, L none ([] : List D.Term) 0] c fun b5 _ _ c => ?_
     refine Ess 1 [I x71.Op, I x71.W, I x71.N, Str.val x71.Name, L a7 x71.Kids c7] c fun _ c => ?_
     refine E0 ?_
     refine T0 ?_
     refine Fp [(0, 1)] 1 c fun _ c => ?_
     replace c := c.gm [BX b1 65 [I p0.Op, I p0.W, I p0.N, Str.val p0.Name, L ga0 p0.Kids gc1], BX b5 65 [I x71.Op, I x71.W, I x71.N, Str.val x71.Name, L a7 x71.Kids c7]]
     obtain ⟨x72, hx72, h⟩ := bindE h
     refine Ca [] c (ih hx72) ⟨.f 2, trivial⟩ Try.call110 fun _ _ _ c => ?_
     refine Fp [] 1 c fun _ c => ?_
     refine E0 ?_
     refine I0 c h (fun h => ?_) fun h => ?_
     ·refine P0 [] c fun _ c => ?_
      obtain rfl := hr7 _ (Option.some.inj h).symm
      obtain rfl := Option.some.inj hk7
      exact wp_ret (br (tr (tr (br (tr (Rt c () [] []))))))
     refine K1 ?_
     refine bk (tn ?_)
     refine P1 [] c fun _ c => ?_
     exact Nx h () (c.re [0] [0])
    refine wp_exit (te (te (be ?_)))
    obtain rfl := hr7 _ (Option.some.inj h).symm
    exact tn ⟨_, (), rfl, c.re [0] [0]⟩
   subst hrl
   refine T0 ?_
   refine Elt 3 ([0, 0, 0] : List Int) c fun a8 c8 _ _ c => ?_
   refine Fp [] 1 c fun _ c => ?_
   refine E0 ?_
   refine S0 ?_
   refine P0 [] c fun _ c => ?_
   obtain ⟨rl8, hit8, h⟩ := bindE h
   refine Lp (fun s8  (_ : Unit) => ([(1, B b1 0), (3, I (len p0.Kids)), (6, L a8 ([0, 0, 0] : List Int) c8), (7, I s8.1)], fun Γ => Γ.set 1 (sl3 (L a8 ([0, 0, 0] : List Int) c8) s8.2), [])) (fun  (_ : Unit) => ([(1, B b1 0), (3, I (len p0.Kids)), (6, L a8 ([0, 0, 0] : List Int) c8)], fun Γ => Γ.set 1 (sl3 (L a8 ([0, 0, 0] : List Int) c8) rl8), [])) hit8 c () (c.re [0, 1] [0]) (fun s8 q8 _ _ _ c h hr8 => ?_) fun _ _ _ c => ?_
   ·refine S0 ?_
    refine S0 (Ry [] mix c fun _ _ c => ?_)
    refine I0 c h (fun h => ?_) fun h => ?_
    ·refine K0 ?_
     refine S0 (wp_block ?_)
     refine T1 ?_
     refine Fp [(3, 0)] 5 c fun _ c => ?_
     obtain ⟨x73, hx73, h⟩ := bindE h
     refine Eef c (.f 0) hx73 fc65_1 fun _ _ _ c => ?_
     obtain ⟨x74, hx74, h⟩ := bindE h
     refine Eset 1 c hx74 fun _ _ _ c => ?_
     refine E1 ?_
     refine bk (tn ?_)
     refine P1 [] c fun _ c => ?_
     exact Nx h () (c.re [0, 1] [0])
    refine wp_exit (te (te (be ?_)))
    obtain rfl := hr8 _ (Option.some.inj h).symm
    exact tn ⟨(), c.re [0, 1] [0]⟩
   refine S0 (wp_block ?_)
   refine P0 [(1, 0)] c fun _ c => ?_
   refine I0 c h (fun h => ?_) fun h => ?_
   ·obtain ⟨x75, hx75, h⟩ := bindE h
    refine S0 (Rz [(7, .eq (.bool x75))] [(4, 0), (6, 0)] mix c ⟨Pd.mono_eq, trivial⟩ (fun hG => ⟨fun e => Ncl c (fun hg => spec_WordOk_ok (iteT (gcT hg) hx75)) trivial Try.call84 hG e, trivial⟩) fun _ _ c => ?_)
    obtain rfl := Option.some.inj h
    exact wp_ret (br (tr (Rt c () [] [])))
   refine P0 [(1, 0)] c fun _ c => ?_
   refine I0 c h (fun h => ?_) fun h => ?_
   ·obtain ⟨x76, hx76, h⟩ := bindE h
    refine S0 (Rz [(5, .eq (.bool x76))] [(4, 0)] mix c ⟨Pd.mono_eq, trivial⟩ (fun hG => ⟨fun e => Ncl c (fun hg => spec_IsName_ok (iteT (gcT hg) hx76)) trivial Try.call131 hG e, trivial⟩) fun _ _ c => ?_)
    obtain rfl := Option.some.inj h
    exact wp_ret (br (tr (Rt c () [] [])))
   refine T0 ?_
   refine Fp [(1, 0)] 2 c fun _ c => ?_
   obtain ⟨x77, hx77, h⟩ := bindE h
   refine Ca [] c (spec_l01In_ok hx77) trivial Try.call37 fun _ _ _ c => ?_
   refine Fp [] 1 c fun _ c => ?_
   refine E0 ?_
   refine I0 c h (fun h => ?_) fun h => ?_
   ·obtain ⟨x78, hx78, h⟩ := bindE h
    refine S0 (Rz [(4, Pd.el (x78 : Int)), (5, .eq (I x78))] [(7, 0)] mix c ⟨elM, Pd.mono_eq, trivial⟩ (fun hG => ⟨fun e => Nid c (.g 1) (fun hg => (iteT (gcT hg) hx78)) hG e, fun e => Nld c 4 (q := x78) (atN 4) hG e, trivial⟩) fun _ _ c => ?_)
    obtain rfl := Option.some.inj h
    exact wp_ret (br (tr (Rt c () [] [])))
   refine T0 ?_
   refine Fp [(1, 0)] 2 c fun _ c => ?_
   obtain ⟨x79, hx79, h⟩ := bindE h
   refine Ca [] c (spec_l01In_ok hx79) trivial Try.call37 fun _ _ _ c => ?_
   refine Fp [] 1 c fun _ c => ?_
   refine E0 ?_
   refine I0 c h (fun h => ?_) fun h => ?_
   ·obtain ⟨x80, hx80, h⟩ := bindE h
    obtain ⟨x81, hx81, h⟩ := bindE h
    refine S0 (Rz [(4, Pd.el (x80 : Int)), (5, .eq (I x80)), (12, Pd.el (x81 : Int)), (13, .eq (I x81))] [(7, 0), (15, 0)] mix c ⟨elM, Pd.mono_eq, elM, Pd.mono_eq, trivial⟩ (fun hG => ⟨fun e => Nid c (.g 1) (fun hg => (iteT (gcT hg) hx80)) hG e, fun e => Nld c 4 (q := x80) (atN 4) hG e, fun e => Nid c (.g 1) (fun hg => (iteT (gcT hg) hx81)) hG e, fun e => Nld c 12 (q := x81) (atN 12) hG e, trivial⟩) fun _ _ c => ?_)
    obtain rfl := Option.some.inj h
    exact wp_ret (br (tr (Rt c () [] [])))
   refine T0 ?_
   refine Fp [(1, 0)] 2 c fun _ c => ?_
   replace c := c.gm [BX b1 65 [I p0.Op, I p0.W, I p0.N, Str.val p0.Name, L ga0 p0.Kids gc1], sl3 (L a8 ([0, 0, 0] : List Int) c8) rl8]
   obtain ⟨x82, hx82, h⟩ := bindE h
   refine Ca [] c (spec_l01In_ok hx82) trivial Try.call37 fun _ _ _ c => ?_
   refine Fp [] 1 c fun _ c => ?_
   refine E0 ?_
   refine I0 c h (fun h => ?_) fun h => ?_
   ·obtain ⟨x83, hx83, h⟩ := bindE h
    obtain ⟨x84, hx84, h⟩ := bindE h
    refine S0 (Rz [(4, Pd.el (x83 : Int)), (5, .eq (I x83)), (7, Pd.el (x84 : Int)), (8, .eq (I x84))] [(13, 0)] mix c ⟨elM, Pd.mono_eq, elM, Pd.mono_eq, trivial⟩ (fun hG => ⟨fun e => Nid c (.g 1) (fun hg => (iteT (gcT hg) hx83)) hG e, fun e => Nld c 4 (q := x83) (atN 4) hG e, fun e => Nid c (.g 1) (fun hg => (iteT (gcT hg) hx84)) hG e, fun e => Nld c 7 (q := x84) (atN 7) hG e, trivial⟩) fun _ _ c => ?_)
    obtain rfl := Option.some.inj h
    exact wp_ret (br (tr (Rt c () [] [])))
   refine P0 [(1, 0)] c fun _ c => ?_
   refine I0 c h (fun h => ?_) fun h => ?_
   ·obtain ⟨x85, hx85, h⟩ := bindE h
    obtain ⟨x86, hx86, h⟩ := bindE h
    obtain ⟨x87, hx87, h⟩ := bindE h
    refine S0 (Rz [(4, Pd.el (x85 : Int)), (5, .eq (I x85)), (10, Pd.el (x86 : Int)), (11, .eq (I x86)), (18, Pd.el (x87 : Int)), (19, .eq (I x87))] [(13, 0), (21, 0)] mix c ⟨elM, Pd.mono_eq, elM, Pd.mono_eq, elM, Pd.mono_eq, trivial⟩ (fun hG => ⟨fun e => Nid c (.g 1) (fun hg => (iteT (gcT hg) hx85)) hG e, fun e => Nld c 4 (q := x85) (atN 4) hG e, fun e => Nid c (.g 1) (fun hg => (iteT (gcT hg) hx86)) hG e, fun e => Nld c 10 (q := x86) (atN 10) hG e, fun e => Nid c (.g 1) (fun hg => (iteT (gcT hg) hx87)) hG e, fun e => Nld c 18 (q := x87) (atN 18) hG e, trivial⟩) fun _ _ c => ?_)
    obtain rfl := Option.some.inj h
    exact wp_ret (br (tr (Rt c () [] [])))
   refine P0 [(1, 0)] c fun _ c => ?_
   refine I0 c h (fun h => ?_) fun h => ?_
   ·obtain ⟨x88, hx88, h⟩ := bindE h
    obtain ⟨x89, hx89, h⟩ := bindE h
    refine S0 (Rz [(4, Pd.el (x88 : Int)), (5, .eq (I x88)), (7, Pd.el (x89 : Int)), (8, .eq (I x89))] [(11, 0)] mix c ⟨elM, Pd.mono_eq, elM, Pd.mono_eq, trivial⟩ (fun hG => ⟨fun e => Nid c (.g 1) (fun hg => (iteT (gcT hg) hx88)) hG e, fun e => Nld c 4 (q := x88) (atN 4) hG e, fun e => Nid c (.g 1) (fun hg => (iteT (gcT hg) hx89)) hG e, fun e => Nld c 7 (q := x89) (atN 7) hG e, trivial⟩) fun _ _ c => ?_)
    obtain rfl := Option.some.inj h
    exact wp_ret (br (tr (Rt c () [] [])))
   refine P0 [(1, 0)] c fun _ c => ?_
   refine I0 c h (fun h => ?_) fun h => ?_
   ·obtain ⟨x90, hx90, h⟩ := bindE h
    obtain ⟨x91, hx91, h⟩ := bindE h
    refine S0 (Rz [(5, .eq (.bool x90)), (14, Pd.el (x91 : Int)), (15, .eq (I x91))] [(4, 0), (9, 0), (11, 0)] mix c ⟨Pd.mono_eq, elM, Pd.mono_eq, trivial⟩ (fun hG => ⟨fun e => Ncl c (fun hg => spec_l01In_ok (iteT (gcT hg) hx90)) trivial Try.call37 hG e, fun e => Nid c (.g 1) (fun hg => (iteT (gcT hg) hx91)) hG e, fun e => Nld c 14 (q := x91) (atN 14) hG e, trivial⟩) fun _ _ c => ?_)
    obtain rfl := Option.some.inj h
    exact wp_ret (br (tr (Rt c () [] [])))
   refine K1 ?_
   refine bk (tn ?_)
   obtain ⟨x92, hx92, h⟩ := bindE h
   obtain ⟨x93, hx93, h⟩ := bindE h
   refine S0 (Rz [(2, .eq (.bool x92)), (9, Pd.el (x93 : Int)), (10, .eq (I x93))] [(1, 0), (12, 0)] mix c ⟨Pd.mono_eq, elM, Pd.mono_eq, trivial⟩ (fun hG => ⟨fun e => Ncl c (fun hg => spec_l01In_ok hx92) trivial Try.call37 hG e, fun e => Nid c (.g 1) (fun hg => (iteT (gcT hg) hx93)) hG e, fun e => Nld c 9 (q := x93) (atN 9) hG e, trivial⟩) fun _ _ c => ?_)
   obtain rfl := Option.some.inj h
   exact wp_ret (Rt c () [] [])
  replace c := c.eqs (v := .bool (p0.N != 0)) (u := .bool false) 29 (by rw [hg4])
  refine Gs c fun _ c => ?_
  refine Gs c fun _ c => ?_
  refine Gs c fun _ c => ?_
  refine Gt c ?_
  dsimp only [List.set]
  refine Epk (b := false) (v := .bool false) c fun _ c => ?_
  refine Gt c ?_
  dsimp only [List.set]
  refine Fp [] 1 c fun _ c => ?_
  refine Gs c fun _ c => ?_
  refine Gs c fun _ c => ?_
  refine Gs c fun _ c => ?_
  refine Gt c ?_
  dsimp only [List.set]
  refine Epk (b := false) (v := .bool false) c fun _ c => ?_
  refine Epk (b := false) (v := .bool false) c fun _ c => ?_
  refine E0 ?_
  refine I0 c h (fun h => ?_) fun h => ?_
  ·refine P0 [] c fun _ c => ?_
   obtain rfl := Option.some.inj h
   exact wp_ret (tr (Rt c () [] []))
  refine K0 ?_
  refine S0 ?_
  refine P0 [(1, 0)] c fun _ c => ?_
  obtain ⟨rl9, hit9, h⟩ := bindE h
  have hk9 := h
  refine LpR (fun s9  (_ : Unit) => ([(1, B b1 0), (3, I (len p0.Kids)), (41, L ga0 p0.Kids gc1), (42, I (len p0.Kids)), (43, I s9)], id, [])) (fun s  (_ : Unit) => ([(1, B b1 0), (3, I (len p0.Kids))], id, [])) hit9 c () (c.re [0] [0]) (fun s9 q9 _ _ _ c h hr9 => ?_) fun s9r _ _ _ hrl c => ?_
  ·refine P0 [] c fun _ c => ?_
   refine S0 (I0 c h (fun h => ?_) fun h => ?_)
   ·refine K0 ?_
    refine S0 (wp_block ?_)
    refine T0 ?_
    obtain ⟨x94, hx94, h⟩ := bindE h
    refine Eem c (.f 0) hx94 fun _ u5 _ c => ?_
    obtain ⟨a9, c9, rfl, c⟩ := c.o_Term 1
    refine Eal [I 0, I 0, I 0, Str.val ⟨[]⟩, L none ([] : List D.Term) 0] c fun b6 _ _ c => ?_
    refine Ess 1 [I x94.Op, I x94.W, I x94.N, Str.val x94.Name, L a9 x94.Kids c9] c fun _ c => ?_
    refine E0 ?_
    refine T0 ?_
    refine Fp [(0, 1)] 1 c fun _ c => ?_
    replace c := c.gm [BX b1 65 [I p0.Op, I p0.W, I p0.N, Str.val p0.Name, L ga0 p0.Kids gc1], BX b6 65 [I x94.Op, I x94.W, I x94.N, Str.val x94.Name, L a9 x94.Kids c9]]
    obtain ⟨x95, hx95, h⟩ := bindE h
    refine Ca [] c (ih hx95) ⟨.f 2, trivial⟩ Try.call110 fun _ _ _ c => ?_
    refine Fp [] 1 c fun _ c => ?_
    refine E0 ?_
    refine I0 c h (fun h => ?_) fun h => ?_
    ·refine P0 [] c fun _ c => ?_
     obtain rfl := hr9 _ (Option.some.inj h).symm
     obtain rfl := Option.some.inj hk9
     exact wp_ret (br (tr (tr (br (tr (Rt c () [] []))))))
    refine K1 ?_
    refine bk (tn ?_)
    refine P1 [] c fun _ c => ?_
    exact Nx h () (c.re [0] [0])
   refine wp_exit (te (te (be ?_)))
   obtain rfl := hr9 _ (Option.some.inj h).symm
   exact tn ⟨_, (), rfl, c.re [0] [0]⟩
  subst hrl
  refine T0 ?_
  refine Elt 3 ([0, 0, 0] : List Int) c fun a10 c10 _ _ c => ?_
  refine Fp [] 1 c fun _ c => ?_
  refine E0 ?_
  refine S0 ?_
  refine P0 [] c fun _ c => ?_
  obtain ⟨rl10, hit10, h⟩ := bindE h
  refine Lp (fun s10  (_ : Unit) => ([(1, B b1 0), (3, I (len p0.Kids)), (6, L a10 ([0, 0, 0] : List Int) c10), (7, I s10.1)], fun Γ => Γ.set 1 (sl3 (L a10 ([0, 0, 0] : List Int) c10) s10.2), [])) (fun  (_ : Unit) => ([(1, B b1 0), (3, I (len p0.Kids)), (6, L a10 ([0, 0, 0] : List Int) c10)], fun Γ => Γ.set 1 (sl3 (L a10 ([0, 0, 0] : List Int) c10) rl10), [])) hit10 c () (c.re [0, 1] [0]) (fun s10 q10 _ _ _ c h hr10 => ?_) fun _ _ _ c => ?_
  ·refine S0 ?_
   refine S0 (Ry [] mix c fun _ _ c => ?_)
   refine I0 c h (fun h => ?_) fun h => ?_
   ·refine K0 ?_
    refine S0 (wp_block ?_)
    refine T1 ?_
    refine Fp [(3, 0)] 5 c fun _ c => ?_
    obtain ⟨x96, hx96, h⟩ := bindE h
    refine Eef c (.f 0) hx96 fc65_1 fun _ _ _ c => ?_
    obtain ⟨x97, hx97, h⟩ := bindE h
    refine Eset 1 c hx97 fun _ _ _ c => ?_
    refine E1 ?_
    refine bk (tn ?_)
    refine P1 [] c fun _ c => ?_
    exact Nx h () (c.re [0, 1] [0])
   refine wp_exit (te (te (be ?_)))
   obtain rfl := hr10 _ (Option.some.inj h).symm
   exact tn ⟨(), c.re [0, 1] [0]⟩
  refine S0 (wp_block ?_)
  refine P0 [(1, 0)] c fun _ c => ?_
  refine I0 c h (fun h => ?_) fun h => ?_
  ·obtain ⟨x98, hx98, h⟩ := bindE h
   refine S0 (Rz [(7, .eq (.bool x98))] [(4, 0), (6, 0)] mix c ⟨Pd.mono_eq, trivial⟩ (fun hG => ⟨fun e => Ncl c (fun hg => spec_WordOk_ok (iteT (gcT hg) hx98)) trivial Try.call84 hG e, trivial⟩) fun _ _ c => ?_)
   obtain rfl := Option.some.inj h
   exact wp_ret (br (tr (Rt c () [] [])))
  refine P0 [(1, 0)] c fun _ c => ?_
  refine I0 c h (fun h => ?_) fun h => ?_
  ·obtain ⟨x99, hx99, h⟩ := bindE h
   refine S0 (Rz [(5, .eq (.bool x99))] [(4, 0)] mix c ⟨Pd.mono_eq, trivial⟩ (fun hG => ⟨fun e => Ncl c (fun hg => spec_IsName_ok (iteT (gcT hg) hx99)) trivial Try.call131 hG e, trivial⟩) fun _ _ c => ?_)
   obtain rfl := Option.some.inj h
   exact wp_ret (br (tr (Rt c () [] [])))
  refine T0 ?_
  refine Fp [(1, 0)] 2 c fun _ c => ?_
  obtain ⟨x100, hx100, h⟩ := bindE h
  refine Ca [] c (spec_l01In_ok hx100) trivial Try.call37 fun _ _ _ c => ?_
  refine Fp [] 1 c fun _ c => ?_
  refine E0 ?_
  refine I0 c h (fun h => ?_) fun h => ?_
  ·obtain ⟨x101, hx101, h⟩ := bindE h
   refine S0 (Rz [(4, Pd.el (x101 : Int)), (5, .eq (I x101))] [(7, 0)] mix c ⟨elM, Pd.mono_eq, trivial⟩ (fun hG => ⟨fun e => Nid c (.g 1) (fun hg => (iteT (gcT hg) hx101)) hG e, fun e => Nld c 4 (q := x101) (atN 4) hG e, trivial⟩) fun _ _ c => ?_)
   obtain rfl := Option.some.inj h
   exact wp_ret (br (tr (Rt c () [] [])))
  refine T0 ?_
  refine Fp [(1, 0)] 2 c fun _ c => ?_
  obtain ⟨x102, hx102, h⟩ := bindE h
  refine Ca [] c (spec_l01In_ok hx102) trivial Try.call37 fun _ _ _ c => ?_
  refine Fp [] 1 c fun _ c => ?_
  refine E0 ?_
  refine I0 c h (fun h => ?_) fun h => ?_
  ·obtain ⟨x103, hx103, h⟩ := bindE h
   obtain ⟨x104, hx104, h⟩ := bindE h
   refine S0 (Rz [(4, Pd.el (x103 : Int)), (5, .eq (I x103)), (12, Pd.el (x104 : Int)), (13, .eq (I x104))] [(7, 0), (15, 0)] mix c ⟨elM, Pd.mono_eq, elM, Pd.mono_eq, trivial⟩ (fun hG => ⟨fun e => Nid c (.g 1) (fun hg => (iteT (gcT hg) hx103)) hG e, fun e => Nld c 4 (q := x103) (atN 4) hG e, fun e => Nid c (.g 1) (fun hg => (iteT (gcT hg) hx104)) hG e, fun e => Nld c 12 (q := x104) (atN 12) hG e, trivial⟩) fun _ _ c => ?_)
   obtain rfl := Option.some.inj h
   exact wp_ret (br (tr (Rt c () [] [])))
  refine T0 ?_
  refine Fp [(1, 0)] 2 c fun _ c => ?_
  replace c := c.gm [BX b1 65 [I p0.Op, I p0.W, I p0.N, Str.val p0.Name, L ga0 p0.Kids gc1], sl3 (L a10 ([0, 0, 0] : List Int) c10) rl10]
  obtain ⟨x105, hx105, h⟩ := bindE h
  refine Ca [] c (spec_l01In_ok hx105) trivial Try.call37 fun _ _ _ c => ?_
  refine Fp [] 1 c fun _ c => ?_
  refine E0 ?_
  refine I0 c h (fun h => ?_) fun h => ?_
  ·obtain ⟨x106, hx106, h⟩ := bindE h
   obtain ⟨x107, hx107, h⟩ := bindE h
   refine S0 (Rz [(4, Pd.el (x106 : Int)), (5, .eq (I x106)), (7, Pd.el (x107 : Int)), (8, .eq (I x107))] [(13, 0)] mix c ⟨elM, Pd.mono_eq, elM, Pd.mono_eq, trivial⟩ (fun hG => ⟨fun e => Nid c (.g 1) (fun hg => (iteT (gcT hg) hx106)) hG e, fun e => Nld c 4 (q := x106) (atN 4) hG e, fun e => Nid c (.g 1) (fun hg => (iteT (gcT hg) hx107)) hG e, fun e => Nld c 7 (q := x107) (atN 7) hG e, trivial⟩) fun _ _ c => ?_)
   obtain rfl := Option.some.inj h
   exact wp_ret (br (tr (Rt c () [] [])))
  refine P0 [(1, 0)] c fun _ c => ?_
  refine I0 c h (fun h => ?_) fun h => ?_
  ·obtain ⟨x108, hx108, h⟩ := bindE h
   obtain ⟨x109, hx109, h⟩ := bindE h
   obtain ⟨x110, hx110, h⟩ := bindE h
   refine S0 (Rz [(4, Pd.el (x108 : Int)), (5, .eq (I x108)), (10, Pd.el (x109 : Int)), (11, .eq (I x109)), (18, Pd.el (x110 : Int)), (19, .eq (I x110))] [(13, 0), (21, 0)] mix c ⟨elM, Pd.mono_eq, elM, Pd.mono_eq, elM, Pd.mono_eq, trivial⟩ (fun hG => ⟨fun e => Nid c (.g 1) (fun hg => (iteT (gcT hg) hx108)) hG e, fun e => Nld c 4 (q := x108) (atN 4) hG e, fun e => Nid c (.g 1) (fun hg => (iteT (gcT hg) hx109)) hG e, fun e => Nld c 10 (q := x109) (atN 10) hG e, fun e => Nid c (.g 1) (fun hg => (iteT (gcT hg) hx110)) hG e, fun e => Nld c 18 (q := x110) (atN 18) hG e, trivial⟩) fun _ _ c => ?_)
   obtain rfl := Option.some.inj h
   exact wp_ret (br (tr (Rt c () [] [])))
  refine P0 [(1, 0)] c fun _ c => ?_
  refine I0 c h (fun h => ?_) fun h => ?_
  ·obtain ⟨x111, hx111, h⟩ := bindE h
   obtain ⟨x112, hx112, h⟩ := bindE h
   refine S0 (Rz [(4, Pd.el (x111 : Int)), (5, .eq (I x111)), (7, Pd.el (x112 : Int)), (8, .eq (I x112))] [(11, 0)] mix c ⟨elM, Pd.mono_eq, elM, Pd.mono_eq, trivial⟩ (fun hG => ⟨fun e => Nid c (.g 1) (fun hg => (iteT (gcT hg) hx111)) hG e, fun e => Nld c 4 (q := x111) (atN 4) hG e, fun e => Nid c (.g 1) (fun hg => (iteT (gcT hg) hx112)) hG e, fun e => Nld c 7 (q := x112) (atN 7) hG e, trivial⟩) fun _ _ c => ?_)
   obtain rfl := Option.some.inj h
   exact wp_ret (br (tr (Rt c () [] [])))
  refine P0 [(1, 0)] c fun _ c => ?_
  refine I0 c h (fun h => ?_) fun h => ?_
  ·obtain ⟨x113, hx113, h⟩ := bindE h
   obtain ⟨x114, hx114, h⟩ := bindE h
   refine S0 (Rz [(5, .eq (.bool x113)), (14, Pd.el (x114 : Int)), (15, .eq (I x114))] [(4, 0), (9, 0), (11, 0)] mix c ⟨Pd.mono_eq, elM, Pd.mono_eq, trivial⟩ (fun hG => ⟨fun e => Ncl c (fun hg => spec_l01In_ok (iteT (gcT hg) hx113)) trivial Try.call37 hG e, fun e => Nid c (.g 1) (fun hg => (iteT (gcT hg) hx114)) hG e, fun e => Nld c 14 (q := x114) (atN 14) hG e, trivial⟩) fun _ _ c => ?_)
   obtain rfl := Option.some.inj h
   exact wp_ret (br (tr (Rt c () [] [])))
  refine K1 ?_
  refine bk (tn ?_)
  obtain ⟨x115, hx115, h⟩ := bindE h
  obtain ⟨x116, hx116, h⟩ := bindE h
  refine S0 (Rz [(2, .eq (.bool x115)), (9, Pd.el (x116 : Int)), (10, .eq (I x116))] [(1, 0), (12, 0)] mix c ⟨Pd.mono_eq, elM, Pd.mono_eq, trivial⟩ (fun hG => ⟨fun e => Ncl c (fun hg => spec_l01In_ok hx115) trivial Try.call37 hG e, fun e => Nid c (.g 1) (fun hg => (iteT (gcT hg) hx116)) hG e, fun e => Nld c 9 (q := x116) (atN 9) hG e, trivial⟩) fun _ _ c => ?_)
  obtain rfl := Option.some.inj h
  exact wp_ret (Rt c () [] [])
 replace c := c.eqs (v := .bool (!(Str.eqb p0.Name ⟨[]⟩))) (u := .bool false) 19 (by rw [hg2])
 refine Gs c fun _ c => ?_
 refine Gs c fun _ c => ?_
 refine Gs c fun _ c => ?_
 refine Gt c ?_
 dsimp only [List.set]
 refine Epk (b := false) (v := .bool false) c fun _ c => ?_
 refine Epk (b := false) (v := .bool false) c fun _ c => ?_
 refine Fp [] 1 c fun _ c => ?_
 refine Gt c ?_
 dsimp only [List.set]
 refine Fp [] 1 c fun _ c => ?_
 refine Gt c ?_
 dsimp only [List.set]
 refine Fp [(16, 0)] 1 c fun _ c => ?_
 refine Gt c ?_
 dsimp only [List.set]
 refine Fp [] 1 c fun _ c => ?_
 refine Gt c ?_
 dsimp only [List.set]
 refine Fp [] 1 c fun _ c => ?_
 rcases ite_split (b := (p0.N != 0)) h with ⟨hg6, h⟩ | ⟨hg6, h⟩
 ·replace c := c.eqs (v := .bool (p0.N != 0)) (u := .bool true) 29 (by rw [hg6])
  refine Gt c ?_
  dsimp only [List.set]
  refine Fp [] 1 c fun _ c => ?_
  refine Gt c ?_
  dsimp only [List.set]
  refine Fp [(20, 0)] 1 c fun _ c => ?_
  refine Gt c ?_
  dsimp only [List.set]
  refine Fp [] 1 c fun _ c => ?_
  refine Gt c ?_
  dsimp only [List.set]
  refine Epk (b := true) (v := .bool (p0.Op != 0)) c fun _ c => ?_
  refine Gt c ?_
  dsimp only [List.set]
  refine Fp [] 1 c fun _ c => ?_
  rcases ite_split (b := (p0.Op != 0)) h with ⟨hg7, h⟩ | ⟨hg7, h⟩
  ·replace c := c.eqs (v := .bool (p0.Op != 0)) (u := .bool true) 34 (by rw [hg7])
   refine Gt c ?_
   dsimp only [List.set]
   refine Fp [] 1 c fun _ c => ?_
   refine Gt c ?_
   dsimp only [List.set]
   refine Fp [(25, 0)] 1 c fun _ c => ?_
   refine Gt c ?_
   dsimp only [List.set]
   refine Fp [] 1 c fun _ c => ?_
   refine Gt c ?_
   dsimp only [List.set]
   refine Epk (b := true) (v := .bool (p0.Op != 19)) c fun _ c => ?_
   refine Epk (b := false) (v := .bool (p0.Op != 19)) c fun _ c => ?_
   refine E0 ?_
   refine I0 c h (fun h => ?_) fun h => ?_
   ·refine P0 [] c fun _ c => ?_
    obtain rfl := Option.some.inj h
    exact wp_ret (tr (Rt c () [] []))
   refine K0 ?_
   refine S0 ?_
   refine P0 [(1, 0)] c fun _ c => ?_
   obtain ⟨rl11, hit11, h⟩ := bindE h
   have hk11 := h
   refine LpR (fun s11  (_ : Unit) => ([(1, B b1 0), (3, I (len p0.Kids)), (41, L ga0 p0.Kids gc1), (42, I (len p0.Kids)), (43, I s11)], id, [])) (fun s  (_ : Unit) => ([(1, B b1 0), (3, I (len p0.Kids))], id, [])) hit11 c () (c.re [0] [0]) (fun s11 q11 _ _ _ c h hr11 => ?_) fun s11r _ _ _ hrl c => ?_
   ·refine P0 [] c fun _ c => ?_
    refine S0 (I0 c h (fun h => ?_) fun h => ?_)
    ·refine K0 ?_
     refine S0 (wp_block ?_)
     refine T0 ?_
     obtain ⟨x117, hx117, h⟩ := bindE h
     refine Eem c (.f 0) hx117 fun _ u6 _ c => ?_
     obtain ⟨a11, c11, rfl, c⟩ := c.o_Term 1
     refine Eal [I 0, I 0, I 0, Str.val ⟨[]⟩, L none ([] : List D.Term) 0] c fun b7 _ _ c => ?_
     refine Ess 1 [I x117.Op, I x117.W, I x117.N, Str.val x117.Name, L a11 x117.Kids c11] c fun _ c => ?_
     refine E0 ?_
     refine T0 ?_
     refine Fp [(0, 1)] 1 c fun _ c => ?_
     replace c := c.gm [BX b1 65 [I p0.Op, I p0.W, I p0.N, Str.val p0.Name, L ga0 p0.Kids gc1], BX b7 65 [I x117.Op, I x117.W, I x117.N, Str.val x117.Name, L a11 x117.Kids c11]]
     obtain ⟨x118, hx118, h⟩ := bindE h
     refine Ca [] c (ih hx118) ⟨.f 2, trivial⟩ Try.call110 fun _ _ _ c => ?_
     refine Fp [] 1 c fun _ c => ?_
     refine E0 ?_
     refine I0 c h (fun h => ?_) fun h => ?_
     ·refine P0 [] c fun _ c => ?_
      obtain rfl := hr11 _ (Option.some.inj h).symm
      obtain rfl := Option.some.inj hk11
      exact wp_ret (br (tr (tr (br (tr (Rt c () [] []))))))
     refine K1 ?_
     refine bk (tn ?_)
     refine P1 [] c fun _ c => ?_
     exact Nx h () (c.re [0] [0])
    refine wp_exit (te (te (be ?_)))
    obtain rfl := hr11 _ (Option.some.inj h).symm
    exact tn ⟨_, (), rfl, c.re [0] [0]⟩
   subst hrl
   refine T0 ?_
   refine Elt 3 ([0, 0, 0] : List Int) c fun a12 c12 _ _ c => ?_
   refine Fp [] 1 c fun _ c => ?_
   refine E0 ?_
   refine S0 ?_
   refine P0 [] c fun _ c => ?_
   obtain ⟨rl12, hit12, h⟩ := bindE h
   refine Lp (fun s12  (_ : Unit) => ([(1, B b1 0), (3, I (len p0.Kids)), (6, L a12 ([0, 0, 0] : List Int) c12), (7, I s12.1)], fun Γ => Γ.set 1 (sl3 (L a12 ([0, 0, 0] : List Int) c12) s12.2), [])) (fun  (_ : Unit) => ([(1, B b1 0), (3, I (len p0.Kids)), (6, L a12 ([0, 0, 0] : List Int) c12)], fun Γ => Γ.set 1 (sl3 (L a12 ([0, 0, 0] : List Int) c12) rl12), [])) hit12 c () (c.re [0, 1] [0]) (fun s12 q12 _ _ _ c h hr12 => ?_) fun _ _ _ c => ?_
   ·refine S0 ?_
    refine S0 (Ry [] mix c fun _ _ c => ?_)
    refine I0 c h (fun h => ?_) fun h => ?_
    ·refine K0 ?_
     refine S0 (wp_block ?_)
     refine T1 ?_
     refine Fp [(3, 0)] 5 c fun _ c => ?_
     obtain ⟨x119, hx119, h⟩ := bindE h
     refine Eef c (.f 0) hx119 fc65_1 fun _ _ _ c => ?_
     obtain ⟨x120, hx120, h⟩ := bindE h
     refine Eset 1 c hx120 fun _ _ _ c => ?_
     refine E1 ?_
     refine bk (tn ?_)
     refine P1 [] c fun _ c => ?_
     exact Nx h () (c.re [0, 1] [0])
    refine wp_exit (te (te (be ?_)))
    obtain rfl := hr12 _ (Option.some.inj h).symm
    exact tn ⟨(), c.re [0, 1] [0]⟩
   refine S0 (wp_block ?_)
   refine P0 [(1, 0)] c fun _ c => ?_
   refine I0 c h (fun h => ?_) fun h => ?_
   ·obtain ⟨x121, hx121, h⟩ := bindE h
    refine S0 (Rz [(7, .eq (.bool x121))] [(4, 0), (6, 0)] mix c ⟨Pd.mono_eq, trivial⟩ (fun hG => ⟨fun e => Ncl c (fun hg => spec_WordOk_ok (iteT (gcT hg) hx121)) trivial Try.call84 hG e, trivial⟩) fun _ _ c => ?_)
    obtain rfl := Option.some.inj h
    exact wp_ret (br (tr (Rt c () [] [])))
   refine P0 [(1, 0)] c fun _ c => ?_
   refine I0 c h (fun h => ?_) fun h => ?_
   ·obtain ⟨x122, hx122, h⟩ := bindE h
    refine S0 (Rz [(5, .eq (.bool x122))] [(4, 0)] mix c ⟨Pd.mono_eq, trivial⟩ (fun hG => ⟨fun e => Ncl c (fun hg => spec_IsName_ok (iteT (gcT hg) hx122)) trivial Try.call131 hG e, trivial⟩) fun _ _ c => ?_)
    obtain rfl := Option.some.inj h
    exact wp_ret (br (tr (Rt c () [] [])))
   refine T0 ?_
   refine Fp [(1, 0)] 2 c fun _ c => ?_
   obtain ⟨x123, hx123, h⟩ := bindE h
   refine Ca [] c (spec_l01In_ok hx123) trivial Try.call37 fun _ _ _ c => ?_
   refine Fp [] 1 c fun _ c => ?_
   refine E0 ?_
   refine I0 c h (fun h => ?_) fun h => ?_
   ·obtain ⟨x124, hx124, h⟩ := bindE h
    refine S0 (Rz [(4, Pd.el (x124 : Int)), (5, .eq (I x124))] [(7, 0)] mix c ⟨elM, Pd.mono_eq, trivial⟩ (fun hG => ⟨fun e => Nid c (.g 1) (fun hg => (iteT (gcT hg) hx124)) hG e, fun e => Nld c 4 (q := x124) (atN 4) hG e, trivial⟩) fun _ _ c => ?_)
    obtain rfl := Option.some.inj h
    exact wp_ret (br (tr (Rt c () [] [])))
   refine T0 ?_
   refine Fp [(1, 0)] 2 c fun _ c => ?_
   obtain ⟨x125, hx125, h⟩ := bindE h
   refine Ca [] c (spec_l01In_ok hx125) trivial Try.call37 fun _ _ _ c => ?_
   refine Fp [] 1 c fun _ c => ?_
   refine E0 ?_
   refine I0 c h (fun h => ?_) fun h => ?_
   ·obtain ⟨x126, hx126, h⟩ := bindE h
    obtain ⟨x127, hx127, h⟩ := bindE h
    refine S0 (Rz [(4, Pd.el (x126 : Int)), (5, .eq (I x126)), (12, Pd.el (x127 : Int)), (13, .eq (I x127))] [(7, 0), (15, 0)] mix c ⟨elM, Pd.mono_eq, elM, Pd.mono_eq, trivial⟩ (fun hG => ⟨fun e => Nid c (.g 1) (fun hg => (iteT (gcT hg) hx126)) hG e, fun e => Nld c 4 (q := x126) (atN 4) hG e, fun e => Nid c (.g 1) (fun hg => (iteT (gcT hg) hx127)) hG e, fun e => Nld c 12 (q := x127) (atN 12) hG e, trivial⟩) fun _ _ c => ?_)
    obtain rfl := Option.some.inj h
    exact wp_ret (br (tr (Rt c () [] [])))
   refine T0 ?_
   refine Fp [(1, 0)] 2 c fun _ c => ?_
   replace c := c.gm [BX b1 65 [I p0.Op, I p0.W, I p0.N, Str.val p0.Name, L ga0 p0.Kids gc1], sl3 (L a12 ([0, 0, 0] : List Int) c12) rl12]
   obtain ⟨x128, hx128, h⟩ := bindE h
   refine Ca [] c (spec_l01In_ok hx128) trivial Try.call37 fun _ _ _ c => ?_
   refine Fp [] 1 c fun _ c => ?_
   refine E0 ?_
   refine I0 c h (fun h => ?_) fun h => ?_
   ·obtain ⟨x129, hx129, h⟩ := bindE h
    obtain ⟨x130, hx130, h⟩ := bindE h
    refine S0 (Rz [(4, Pd.el (x129 : Int)), (5, .eq (I x129)), (7, Pd.el (x130 : Int)), (8, .eq (I x130))] [(13, 0)] mix c ⟨elM, Pd.mono_eq, elM, Pd.mono_eq, trivial⟩ (fun hG => ⟨fun e => Nid c (.g 1) (fun hg => (iteT (gcT hg) hx129)) hG e, fun e => Nld c 4 (q := x129) (atN 4) hG e, fun e => Nid c (.g 1) (fun hg => (iteT (gcT hg) hx130)) hG e, fun e => Nld c 7 (q := x130) (atN 7) hG e, trivial⟩) fun _ _ c => ?_)
    obtain rfl := Option.some.inj h
    exact wp_ret (br (tr (Rt c () [] [])))
   refine P0 [(1, 0)] c fun _ c => ?_
   refine I0 c h (fun h => ?_) fun h => ?_
   ·obtain ⟨x131, hx131, h⟩ := bindE h
    obtain ⟨x132, hx132, h⟩ := bindE h
    obtain ⟨x133, hx133, h⟩ := bindE h
    refine S0 (Rz [(4, Pd.el (x131 : Int)), (5, .eq (I x131)), (10, Pd.el (x132 : Int)), (11, .eq (I x132)), (18, Pd.el (x133 : Int)), (19, .eq (I x133))] [(13, 0), (21, 0)] mix c ⟨elM, Pd.mono_eq, elM, Pd.mono_eq, elM, Pd.mono_eq, trivial⟩ (fun hG => ⟨fun e => Nid c (.g 1) (fun hg => (iteT (gcT hg) hx131)) hG e, fun e => Nld c 4 (q := x131) (atN 4) hG e, fun e => Nid c (.g 1) (fun hg => (iteT (gcT hg) hx132)) hG e, fun e => Nld c 10 (q := x132) (atN 10) hG e, fun e => Nid c (.g 1) (fun hg => (iteT (gcT hg) hx133)) hG e, fun e => Nld c 18 (q := x133) (atN 18) hG e, trivial⟩) fun _ _ c => ?_)
    obtain rfl := Option.some.inj h
    exact wp_ret (br (tr (Rt c () [] [])))
   refine P0 [(1, 0)] c fun _ c => ?_
   refine I0 c h (fun h => ?_) fun h => ?_
   ·obtain ⟨x134, hx134, h⟩ := bindE h
    obtain ⟨x135, hx135, h⟩ := bindE h
    refine S0 (Rz [(4, Pd.el (x134 : Int)), (5, .eq (I x134)), (7, Pd.el (x135 : Int)), (8, .eq (I x135))] [(11, 0)] mix c ⟨elM, Pd.mono_eq, elM, Pd.mono_eq, trivial⟩ (fun hG => ⟨fun e => Nid c (.g 1) (fun hg => (iteT (gcT hg) hx134)) hG e, fun e => Nld c 4 (q := x134) (atN 4) hG e, fun e => Nid c (.g 1) (fun hg => (iteT (gcT hg) hx135)) hG e, fun e => Nld c 7 (q := x135) (atN 7) hG e, trivial⟩) fun _ _ c => ?_)
    obtain rfl := Option.some.inj h
    exact wp_ret (br (tr (Rt c () [] [])))
   refine P0 [(1, 0)] c fun _ c => ?_
   refine I0 c h (fun h => ?_) fun h => ?_
   ·obtain ⟨x136, hx136, h⟩ := bindE h
    obtain ⟨x137, hx137, h⟩ := bindE h
    refine S0 (Rz [(5, .eq (.bool x136)), (14, Pd.el (x137 : Int)), (15, .eq (I x137))] [(4, 0), (9, 0), (11, 0)] mix c ⟨Pd.mono_eq, elM, Pd.mono_eq, trivial⟩ (fun hG => ⟨fun e => Ncl c (fun hg => spec_l01In_ok (iteT (gcT hg) hx136)) trivial Try.call37 hG e, fun e => Nid c (.g 1) (fun hg => (iteT (gcT hg) hx137)) hG e, fun e => Nld c 14 (q := x137) (atN 14) hG e, trivial⟩) fun _ _ c => ?_)
    obtain rfl := Option.some.inj h
    exact wp_ret (br (tr (Rt c () [] [])))
   refine K1 ?_
   refine bk (tn ?_)
   obtain ⟨x138, hx138, h⟩ := bindE h
   obtain ⟨x139, hx139, h⟩ := bindE h
   refine S0 (Rz [(2, .eq (.bool x138)), (9, Pd.el (x139 : Int)), (10, .eq (I x139))] [(1, 0), (12, 0)] mix c ⟨Pd.mono_eq, elM, Pd.mono_eq, trivial⟩ (fun hG => ⟨fun e => Ncl c (fun hg => spec_l01In_ok hx138) trivial Try.call37 hG e, fun e => Nid c (.g 1) (fun hg => (iteT (gcT hg) hx139)) hG e, fun e => Nld c 9 (q := x139) (atN 9) hG e, trivial⟩) fun _ _ c => ?_)
   obtain rfl := Option.some.inj h
   exact wp_ret (Rt c () [] [])
  replace c := c.eqs (v := .bool (p0.Op != 0)) (u := .bool false) 34 (by rw [hg7])
  refine Gs c fun _ c => ?_
  refine Gs c fun _ c => ?_
  refine Gs c fun _ c => ?_
  refine Gt c ?_
  dsimp only [List.set]
  refine Epk (b := false) (v := .bool false) c fun _ c => ?_
  refine Epk (b := false) (v := .bool false) c fun _ c => ?_
  refine E0 ?_
  refine I0 c h (fun h => ?_) fun h => ?_
  ·refine P0 [] c fun _ c => ?_
   obtain rfl := Option.some.inj h
   exact wp_ret (tr (Rt c () [] []))
  refine K0 ?_
  refine S0 ?_
  refine P0 [(1, 0)] c fun _ c => ?_
  obtain ⟨rl13, hit13, h⟩ := bindE h
  have hk13 := h
  refine LpR (fun s13  (_ : Unit) => ([(1, B b1 0), (3, I (len p0.Kids)), (41, L ga0 p0.Kids gc1), (42, I (len p0.Kids)), (43, I s13)], id, [])) (fun s  (_ : Unit) => ([(1, B b1 0), (3, I (len p0.Kids))], id, [])) hit13 c () (c.re [0] [0]) (fun s13 q13 _ _ _ c h hr13 => ?_) fun s13r _ _ _ hrl c => ?_
  ·refine P0 [] c fun _ c => ?_
   refine S0 (I0 c h (fun h => ?_) fun h => ?_)
   ·refine K0 ?_
    refine S0 (wp_block ?_)
    refine T0 ?_
    obtain ⟨x140, hx140, h⟩ := bindE h
    refine Eem c (.f 0) hx140 fun _ u7 _ c => ?_
    obtain ⟨a13, c13, rfl, c⟩ := c.o_Term 1
    refine Eal [I 0, I 0, I 0, Str.val ⟨[]⟩, L none ([] : List D.Term) 0] c fun b8 _ _ c => ?_
    refine Ess 1 [I x140.Op, I x140.W, I x140.N, Str.val x140.Name, L a13 x140.Kids c13] c fun _ c => ?_
    refine E0 ?_
    refine T0 ?_
    refine Fp [(0, 1)] 1 c fun _ c => ?_
    replace c := c.gm [BX b1 65 [I p0.Op, I p0.W, I p0.N, Str.val p0.Name, L ga0 p0.Kids gc1], BX b8 65 [I x140.Op, I x140.W, I x140.N, Str.val x140.Name, L a13 x140.Kids c13]]
    obtain ⟨x141, hx141, h⟩ := bindE h
    refine Ca [] c (ih hx141) ⟨.f 2, trivial⟩ Try.call110 fun _ _ _ c => ?_
    refine Fp [] 1 c fun _ c => ?_
    refine E0 ?_
    refine I0 c h (fun h => ?_) fun h => ?_
    ·refine P0 [] c fun _ c => ?_
     obtain rfl := hr13 _ (Option.some.inj h).symm
     obtain rfl := Option.some.inj hk13
     exact wp_ret (br (tr (tr (br (tr (Rt c () [] []))))))
    refine K1 ?_
    refine bk (tn ?_)
    refine P1 [] c fun _ c => ?_
    exact Nx h () (c.re [0] [0])
   refine wp_exit (te (te (be ?_)))
   obtain rfl := hr13 _ (Option.some.inj h).symm
   exact tn ⟨_, (), rfl, c.re [0] [0]⟩
  subst hrl
  refine T0 ?_
  refine Elt 3 ([0, 0, 0] : List Int) c fun a14 c14 _ _ c => ?_
  refine Fp [] 1 c fun _ c => ?_
  refine E0 ?_
  refine S0 ?_
  refine P0 [] c fun _ c => ?_
  obtain ⟨rl14, hit14, h⟩ := bindE h
  refine Lp (fun s14  (_ : Unit) => ([(1, B b1 0), (3, I (len p0.Kids)), (6, L a14 ([0, 0, 0] : List Int) c14), (7, I s14.1)], fun Γ => Γ.set 1 (sl3 (L a14 ([0, 0, 0] : List Int) c14) s14.2), [])) (fun  (_ : Unit) => ([(1, B b1 0), (3, I (len p0.Kids)), (6, L a14 ([0, 0, 0] : List Int) c14)], fun Γ => Γ.set 1 (sl3 (L a14 ([0, 0, 0] : List Int) c14) rl14), [])) hit14 c () (c.re [0, 1] [0]) (fun s14 q14 _ _ _ c h hr14 => ?_) fun _ _ _ c => ?_
  ·refine S0 ?_
   refine S0 (Ry [] mix c fun _ _ c => ?_)
   refine I0 c h (fun h => ?_) fun h => ?_
   ·refine K0 ?_
    refine S0 (wp_block ?_)
    refine T1 ?_
    refine Fp [(3, 0)] 5 c fun _ c => ?_
    obtain ⟨x142, hx142, h⟩ := bindE h
    refine Eef c (.f 0) hx142 fc65_1 fun _ _ _ c => ?_
    obtain ⟨x143, hx143, h⟩ := bindE h
    refine Eset 1 c hx143 fun _ _ _ c => ?_
    refine E1 ?_
    refine bk (tn ?_)
    refine P1 [] c fun _ c => ?_
    exact Nx h () (c.re [0, 1] [0])
   refine wp_exit (te (te (be ?_)))
   obtain rfl := hr14 _ (Option.some.inj h).symm
   exact tn ⟨(), c.re [0, 1] [0]⟩
  refine S0 (wp_block ?_)
  refine P0 [(1, 0)] c fun _ c => ?_
  refine I0 c h (fun h => ?_) fun h => ?_
  ·obtain ⟨x144, hx144, h⟩ := bindE h
   refine S0 (Rz [(7, .eq (.bool x144))] [(4, 0), (6, 0)] mix c ⟨Pd.mono_eq, trivial⟩ (fun hG => ⟨fun e => Ncl c (fun hg => spec_WordOk_ok (iteT (gcT hg) hx144)) trivial Try.call84 hG e, trivial⟩) fun _ _ c => ?_)
   obtain rfl := Option.some.inj h
   exact wp_ret (br (tr (Rt c () [] [])))
  refine P0 [(1, 0)] c fun _ c => ?_
  refine I0 c h (fun h => ?_) fun h => ?_
  ·obtain ⟨x145, hx145, h⟩ := bindE h
   refine S0 (Rz [(5, .eq (.bool x145))] [(4, 0)] mix c ⟨Pd.mono_eq, trivial⟩ (fun hG => ⟨fun e => Ncl c (fun hg => spec_IsName_ok (iteT (gcT hg) hx145)) trivial Try.call131 hG e, trivial⟩) fun _ _ c => ?_)
   obtain rfl := Option.some.inj h
   exact wp_ret (br (tr (Rt c () [] [])))
  refine T0 ?_
  refine Fp [(1, 0)] 2 c fun _ c => ?_
  obtain ⟨x146, hx146, h⟩ := bindE h
  refine Ca [] c (spec_l01In_ok hx146) trivial Try.call37 fun _ _ _ c => ?_
  refine Fp [] 1 c fun _ c => ?_
  refine E0 ?_
  refine I0 c h (fun h => ?_) fun h => ?_
  ·obtain ⟨x147, hx147, h⟩ := bindE h
   refine S0 (Rz [(4, Pd.el (x147 : Int)), (5, .eq (I x147))] [(7, 0)] mix c ⟨elM, Pd.mono_eq, trivial⟩ (fun hG => ⟨fun e => Nid c (.g 1) (fun hg => (iteT (gcT hg) hx147)) hG e, fun e => Nld c 4 (q := x147) (atN 4) hG e, trivial⟩) fun _ _ c => ?_)
   obtain rfl := Option.some.inj h
   exact wp_ret (br (tr (Rt c () [] [])))
  refine T0 ?_
  refine Fp [(1, 0)] 2 c fun _ c => ?_
  obtain ⟨x148, hx148, h⟩ := bindE h
  refine Ca [] c (spec_l01In_ok hx148) trivial Try.call37 fun _ _ _ c => ?_
  refine Fp [] 1 c fun _ c => ?_
  refine E0 ?_
  refine I0 c h (fun h => ?_) fun h => ?_
  ·obtain ⟨x149, hx149, h⟩ := bindE h
   obtain ⟨x150, hx150, h⟩ := bindE h
   refine S0 (Rz [(4, Pd.el (x149 : Int)), (5, .eq (I x149)), (12, Pd.el (x150 : Int)), (13, .eq (I x150))] [(7, 0), (15, 0)] mix c ⟨elM, Pd.mono_eq, elM, Pd.mono_eq, trivial⟩ (fun hG => ⟨fun e => Nid c (.g 1) (fun hg => (iteT (gcT hg) hx149)) hG e, fun e => Nld c 4 (q := x149) (atN 4) hG e, fun e => Nid c (.g 1) (fun hg => (iteT (gcT hg) hx150)) hG e, fun e => Nld c 12 (q := x150) (atN 12) hG e, trivial⟩) fun _ _ c => ?_)
   obtain rfl := Option.some.inj h
   exact wp_ret (br (tr (Rt c () [] [])))
  refine T0 ?_
  refine Fp [(1, 0)] 2 c fun _ c => ?_
  replace c := c.gm [BX b1 65 [I p0.Op, I p0.W, I p0.N, Str.val p0.Name, L ga0 p0.Kids gc1], sl3 (L a14 ([0, 0, 0] : List Int) c14) rl14]
  obtain ⟨x151, hx151, h⟩ := bindE h
  refine Ca [] c (spec_l01In_ok hx151) trivial Try.call37 fun _ _ _ c => ?_
  refine Fp [] 1 c fun _ c => ?_
  refine E0 ?_
  refine I0 c h (fun h => ?_) fun h => ?_
  ·obtain ⟨x152, hx152, h⟩ := bindE h
   obtain ⟨x153, hx153, h⟩ := bindE h
   refine S0 (Rz [(4, Pd.el (x152 : Int)), (5, .eq (I x152)), (7, Pd.el (x153 : Int)), (8, .eq (I x153))] [(13, 0)] mix c ⟨elM, Pd.mono_eq, elM, Pd.mono_eq, trivial⟩ (fun hG => ⟨fun e => Nid c (.g 1) (fun hg => (iteT (gcT hg) hx152)) hG e, fun e => Nld c 4 (q := x152) (atN 4) hG e, fun e => Nid c (.g 1) (fun hg => (iteT (gcT hg) hx153)) hG e, fun e => Nld c 7 (q := x153) (atN 7) hG e, trivial⟩) fun _ _ c => ?_)
   obtain rfl := Option.some.inj h
   exact wp_ret (br (tr (Rt c () [] [])))
  refine P0 [(1, 0)] c fun _ c => ?_
  refine I0 c h (fun h => ?_) fun h => ?_
  ·obtain ⟨x154, hx154, h⟩ := bindE h
   obtain ⟨x155, hx155, h⟩ := bindE h
   obtain ⟨x156, hx156, h⟩ := bindE h
   refine S0 (Rz [(4, Pd.el (x154 : Int)), (5, .eq (I x154)), (10, Pd.el (x155 : Int)), (11, .eq (I x155)), (18, Pd.el (x156 : Int)), (19, .eq (I x156))] [(13, 0), (21, 0)] mix c ⟨elM, Pd.mono_eq, elM, Pd.mono_eq, elM, Pd.mono_eq, trivial⟩ (fun hG => ⟨fun e => Nid c (.g 1) (fun hg => (iteT (gcT hg) hx154)) hG e, fun e => Nld c 4 (q := x154) (atN 4) hG e, fun e => Nid c (.g 1) (fun hg => (iteT (gcT hg) hx155)) hG e, fun e => Nld c 10 (q := x155) (atN 10) hG e, fun e => Nid c (.g 1) (fun hg => (iteT (gcT hg) hx156)) hG e, fun e => Nld c 18 (q := x156) (atN 18) hG e, trivial⟩) fun _ _ c => ?_)
   obtain rfl := Option.some.inj h
   exact wp_ret (br (tr (Rt c () [] [])))
  refine P0 [(1, 0)] c fun _ c => ?_
  refine I0 c h (fun h => ?_) fun h => ?_
  ·obtain ⟨x157, hx157, h⟩ := bindE h
   obtain ⟨x158, hx158, h⟩ := bindE h
   refine S0 (Rz [(4, Pd.el (x157 : Int)), (5, .eq (I x157)), (7, Pd.el (x158 : Int)), (8, .eq (I x158))] [(11, 0)] mix c ⟨elM, Pd.mono_eq, elM, Pd.mono_eq, trivial⟩ (fun hG => ⟨fun e => Nid c (.g 1) (fun hg => (iteT (gcT hg) hx157)) hG e, fun e => Nld c 4 (q := x157) (atN 4) hG e, fun e => Nid c (.g 1) (fun hg => (iteT (gcT hg) hx158)) hG e, fun e => Nld c 7 (q := x158) (atN 7) hG e, trivial⟩) fun _ _ c => ?_)
   obtain rfl := Option.some.inj h
   exact wp_ret (br (tr (Rt c () [] [])))
  refine P0 [(1, 0)] c fun _ c => ?_
  refine I0 c h (fun h => ?_) fun h => ?_
  ·obtain ⟨x159, hx159, h⟩ := bindE h
   obtain ⟨x160, hx160, h⟩ := bindE h
   refine S0 (Rz [(5, .eq (.bool x159)), (14, Pd.el (x160 : Int)), (15, .eq (I x160))] [(4, 0), (9, 0), (11, 0)] mix c ⟨Pd.mono_eq, elM, Pd.mono_eq, trivial⟩ (fun hG => ⟨fun e => Ncl c (fun hg => spec_l01In_ok (iteT (gcT hg) hx159)) trivial Try.call37 hG e, fun e => Nid c (.g 1) (fun hg => (iteT (gcT hg) hx160)) hG e, fun e => Nld c 14 (q := x160) (atN 14) hG e, trivial⟩) fun _ _ c => ?_)
   obtain rfl := Option.some.inj h
   exact wp_ret (br (tr (Rt c () [] [])))
  refine K1 ?_
  refine bk (tn ?_)
  obtain ⟨x161, hx161, h⟩ := bindE h
  obtain ⟨x162, hx162, h⟩ := bindE h
  refine S0 (Rz [(2, .eq (.bool x161)), (9, Pd.el (x162 : Int)), (10, .eq (I x162))] [(1, 0), (12, 0)] mix c ⟨Pd.mono_eq, elM, Pd.mono_eq, trivial⟩ (fun hG => ⟨fun e => Ncl c (fun hg => spec_l01In_ok hx161) trivial Try.call37 hG e, fun e => Nid c (.g 1) (fun hg => (iteT (gcT hg) hx162)) hG e, fun e => Nld c 9 (q := x162) (atN 9) hG e, trivial⟩) fun _ _ c => ?_)
  obtain rfl := Option.some.inj h
  exact wp_ret (Rt c () [] [])
 replace c := c.eqs (v := .bool (p0.N != 0)) (u := .bool false) 29 (by rw [hg6])
 refine Gs c fun _ c => ?_
 refine Gs c fun _ c => ?_
 refine Gs c fun _ c => ?_
 refine Gt c ?_
 dsimp only [List.set]
 refine Epk (b := false) (v := .bool false) c fun _ c => ?_
 refine Gt c ?_
 dsimp only [List.set]
 refine Fp [] 1 c fun _ c => ?_
 refine Gs c fun _ c => ?_
 refine Gs c fun _ c => ?_
 refine Gs c fun _ c => ?_
 refine Gt c ?_
 dsimp only [List.set]
 refine Epk (b := false) (v := .bool false) c fun _ c => ?_
 refine Epk (b := false) (v := .bool false) c fun _ c => ?_
 refine E0 ?_
 refine I0 c h (fun h => ?_) fun h => ?_
 ·refine P0 [] c fun _ c => ?_
  obtain rfl := Option.some.inj h
  exact wp_ret (tr (Rt c () [] []))
 refine K0 ?_
 refine S0 ?_
 refine P0 [(1, 0)] c fun _ c => ?_
 obtain ⟨rl15, hit15, h⟩ := bindE h
 have hk15 := h
 refine LpR (fun s15  (_ : Unit) => ([(1, B b1 0), (3, I (len p0.Kids)), (41, L ga0 p0.Kids gc1), (42, I (len p0.Kids)), (43, I s15)], id, [])) (fun s  (_ : Unit) => ([(1, B b1 0), (3, I (len p0.Kids))], id, [])) hit15 c () (c.re [0] [0]) (fun s15 q15 _ _ _ c h hr15 => ?_) fun s15r _ _ _ hrl c => ?_
 ·refine P0 [] c fun _ c => ?_
  refine S0 (I0 c h (fun h => ?_) fun h => ?_)
  ·refine K0 ?_
   refine S0 (wp_block ?_)
   refine T0 ?_
   obtain ⟨x163, hx163, h⟩ := bindE h
   refine Eem c (.f 0) hx163 fun _ u8 _ c => ?_
   obtain ⟨a15, c15, rfl, c⟩ := c.o_Term 1
   refine Eal [I 0, I 0, I 0, Str.val ⟨[]⟩, L none ([] : List D.Term) 0] c fun b9 _ _ c => ?_
   refine Ess 1 [I x163.Op, I x163.W, I x163.N, Str.val x163.Name, L a15 x163.Kids c15] c fun _ c => ?_
   refine E0 ?_
   refine T0 ?_
   refine Fp [(0, 1)] 1 c fun _ c => ?_
   replace c := c.gm [BX b1 65 [I p0.Op, I p0.W, I p0.N, Str.val p0.Name, L ga0 p0.Kids gc1], BX b9 65 [I x163.Op, I x163.W, I x163.N, Str.val x163.Name, L a15 x163.Kids c15]]
   obtain ⟨x164, hx164, h⟩ := bindE h
   refine Ca [] c (ih hx164) ⟨.f 2, trivial⟩ Try.call110 fun _ _ _ c => ?_
   refine Fp [] 1 c fun _ c => ?_
   refine E0 ?_
   refine I0 c h (fun h => ?_) fun h => ?_
   ·refine P0 [] c fun _ c => ?_
    obtain rfl := hr15 _ (Option.some.inj h).symm
    obtain rfl := Option.some.inj hk15
    exact wp_ret (br (tr (tr (br (tr (Rt c () [] []))))))
   refine K1 ?_
   refine bk (tn ?_)
   refine P1 [] c fun _ c => ?_
   exact Nx h () (c.re [0] [0])
  refine wp_exit (te (te (be ?_)))
  obtain rfl := hr15 _ (Option.some.inj h).symm
  exact tn ⟨_, (), rfl, c.re [0] [0]⟩
 subst hrl
 refine T0 ?_
 refine Elt 3 ([0, 0, 0] : List Int) c fun a16 c16 _ _ c => ?_
 refine Fp [] 1 c fun _ c => ?_
 refine E0 ?_
 refine S0 ?_
 refine P0 [] c fun _ c => ?_
 obtain ⟨rl16, hit16, h⟩ := bindE h
 refine Lp (fun s16  (_ : Unit) => ([(1, B b1 0), (3, I (len p0.Kids)), (6, L a16 ([0, 0, 0] : List Int) c16), (7, I s16.1)], fun Γ => Γ.set 1 (sl3 (L a16 ([0, 0, 0] : List Int) c16) s16.2), [])) (fun  (_ : Unit) => ([(1, B b1 0), (3, I (len p0.Kids)), (6, L a16 ([0, 0, 0] : List Int) c16)], fun Γ => Γ.set 1 (sl3 (L a16 ([0, 0, 0] : List Int) c16) rl16), [])) hit16 c () (c.re [0, 1] [0]) (fun s16 q16 _ _ _ c h hr16 => ?_) fun _ _ _ c => ?_
 ·refine S0 ?_
  refine S0 (Ry [] mix c fun _ _ c => ?_)
  refine I0 c h (fun h => ?_) fun h => ?_
  ·refine K0 ?_
   refine S0 (wp_block ?_)
   refine T1 ?_
   refine Fp [(3, 0)] 5 c fun _ c => ?_
   obtain ⟨x165, hx165, h⟩ := bindE h
   refine Eef c (.f 0) hx165 fc65_1 fun _ _ _ c => ?_
   obtain ⟨x166, hx166, h⟩ := bindE h
   refine Eset 1 c hx166 fun _ _ _ c => ?_
   refine E1 ?_
   refine bk (tn ?_)
   refine P1 [] c fun _ c => ?_
   exact Nx h () (c.re [0, 1] [0])
  refine wp_exit (te (te (be ?_)))
  obtain rfl := hr16 _ (Option.some.inj h).symm
  exact tn ⟨(), c.re [0, 1] [0]⟩
 refine S0 (wp_block ?_)
 refine P0 [(1, 0)] c fun _ c => ?_
 refine I0 c h (fun h => ?_) fun h => ?_
 ·obtain ⟨x167, hx167, h⟩ := bindE h
  refine S0 (Rz [(7, .eq (.bool x167))] [(4, 0), (6, 0)] mix c ⟨Pd.mono_eq, trivial⟩ (fun hG => ⟨fun e => Ncl c (fun hg => spec_WordOk_ok (iteT (gcT hg) hx167)) trivial Try.call84 hG e, trivial⟩) fun _ _ c => ?_)
  obtain rfl := Option.some.inj h
  exact wp_ret (br (tr (Rt c () [] [])))
 refine P0 [(1, 0)] c fun _ c => ?_
 refine I0 c h (fun h => ?_) fun h => ?_
 ·obtain ⟨x168, hx168, h⟩ := bindE h
  refine S0 (Rz [(5, .eq (.bool x168))] [(4, 0)] mix c ⟨Pd.mono_eq, trivial⟩ (fun hG => ⟨fun e => Ncl c (fun hg => spec_IsName_ok (iteT (gcT hg) hx168)) trivial Try.call131 hG e, trivial⟩) fun _ _ c => ?_)
  obtain rfl := Option.some.inj h
  exact wp_ret (br (tr (Rt c () [] [])))
 refine T0 ?_
 refine Fp [(1, 0)] 2 c fun _ c => ?_
 obtain ⟨x169, hx169, h⟩ := bindE h
 refine Ca [] c (spec_l01In_ok hx169) trivial Try.call37 fun _ _ _ c => ?_
 refine Fp [] 1 c fun _ c => ?_
 refine E0 ?_
 refine I0 c h (fun h => ?_) fun h => ?_
 ·obtain ⟨x170, hx170, h⟩ := bindE h
  refine S0 (Rz [(4, Pd.el (x170 : Int)), (5, .eq (I x170))] [(7, 0)] mix c ⟨elM, Pd.mono_eq, trivial⟩ (fun hG => ⟨fun e => Nid c (.g 1) (fun hg => (iteT (gcT hg) hx170)) hG e, fun e => Nld c 4 (q := x170) (atN 4) hG e, trivial⟩) fun _ _ c => ?_)
  obtain rfl := Option.some.inj h
  exact wp_ret (br (tr (Rt c () [] [])))
 refine T0 ?_
 refine Fp [(1, 0)] 2 c fun _ c => ?_
 obtain ⟨x171, hx171, h⟩ := bindE h
 refine Ca [] c (spec_l01In_ok hx171) trivial Try.call37 fun _ _ _ c => ?_
 refine Fp [] 1 c fun _ c => ?_
 refine E0 ?_
 refine I0 c h (fun h => ?_) fun h => ?_
 ·obtain ⟨x172, hx172, h⟩ := bindE h
  obtain ⟨x173, hx173, h⟩ := bindE h
  refine S0 (Rz [(4, Pd.el (x172 : Int)), (5, .eq (I x172)), (12, Pd.el (x173 : Int)), (13, .eq (I x173))] [(7, 0), (15, 0)] mix c ⟨elM, Pd.mono_eq, elM, Pd.mono_eq, trivial⟩ (fun hG => ⟨fun e => Nid c (.g 1) (fun hg => (iteT (gcT hg) hx172)) hG e, fun e => Nld c 4 (q := x172) (atN 4) hG e, fun e => Nid c (.g 1) (fun hg => (iteT (gcT hg) hx173)) hG e, fun e => Nld c 12 (q := x173) (atN 12) hG e, trivial⟩) fun _ _ c => ?_)
  obtain rfl := Option.some.inj h
  exact wp_ret (br (tr (Rt c () [] [])))
 refine T0 ?_
 refine Fp [(1, 0)] 2 c fun _ c => ?_
 replace c := c.gm [BX b1 65 [I p0.Op, I p0.W, I p0.N, Str.val p0.Name, L ga0 p0.Kids gc1], sl3 (L a16 ([0, 0, 0] : List Int) c16) rl16]
 obtain ⟨x174, hx174, h⟩ := bindE h
 refine Ca [] c (spec_l01In_ok hx174) trivial Try.call37 fun _ _ _ c => ?_
 refine Fp [] 1 c fun _ c => ?_
 refine E0 ?_
 refine I0 c h (fun h => ?_) fun h => ?_
 ·obtain ⟨x175, hx175, h⟩ := bindE h
  obtain ⟨x176, hx176, h⟩ := bindE h
  refine S0 (Rz [(4, Pd.el (x175 : Int)), (5, .eq (I x175)), (7, Pd.el (x176 : Int)), (8, .eq (I x176))] [(13, 0)] mix c ⟨elM, Pd.mono_eq, elM, Pd.mono_eq, trivial⟩ (fun hG => ⟨fun e => Nid c (.g 1) (fun hg => (iteT (gcT hg) hx175)) hG e, fun e => Nld c 4 (q := x175) (atN 4) hG e, fun e => Nid c (.g 1) (fun hg => (iteT (gcT hg) hx176)) hG e, fun e => Nld c 7 (q := x176) (atN 7) hG e, trivial⟩) fun _ _ c => ?_)
  obtain rfl := Option.some.inj h
  exact wp_ret (br (tr (Rt c () [] [])))
 refine P0 [(1, 0)] c fun _ c => ?_
 refine I0 c h (fun h => ?_) fun h => ?_
 ·obtain ⟨x177, hx177, h⟩ := bindE h
  obtain ⟨x178, hx178, h⟩ := bindE h
  obtain ⟨x179, hx179, h⟩ := bindE h
  refine S0 (Rz [(4, Pd.el (x177 : Int)), (5, .eq (I x177)), (10, Pd.el (x178 : Int)), (11, .eq (I x178)), (18, Pd.el (x179 : Int)), (19, .eq (I x179))] [(13, 0), (21, 0)] mix c ⟨elM, Pd.mono_eq, elM, Pd.mono_eq, elM, Pd.mono_eq, trivial⟩ (fun hG => ⟨fun e => Nid c (.g 1) (fun hg => (iteT (gcT hg) hx177)) hG e, fun e => Nld c 4 (q := x177) (atN 4) hG e, fun e => Nid c (.g 1) (fun hg => (iteT (gcT hg) hx178)) hG e, fun e => Nld c 10 (q := x178) (atN 10) hG e, fun e => Nid c (.g 1) (fun hg => (iteT (gcT hg) hx179)) hG e, fun e => Nld c 18 (q := x179) (atN 18) hG e, trivial⟩) fun _ _ c => ?_)
  obtain rfl := Option.some.inj h
  exact wp_ret (br (tr (Rt c () [] [])))
 refine P0 [(1, 0)] c fun _ c => ?_
 refine I0 c h (fun h => ?_) fun h => ?_
 ·obtain ⟨x180, hx180, h⟩ := bindE h
  obtain ⟨x181, hx181, h⟩ := bindE h
  refine S0 (Rz [(4, Pd.el (x180 : Int)), (5, .eq (I x180)), (7, Pd.el (x181 : Int)), (8, .eq (I x181))] [(11, 0)] mix c ⟨elM, Pd.mono_eq, elM, Pd.mono_eq, trivial⟩ (fun hG => ⟨fun e => Nid c (.g 1) (fun hg => (iteT (gcT hg) hx180)) hG e, fun e => Nld c 4 (q := x180) (atN 4) hG e, fun e => Nid c (.g 1) (fun hg => (iteT (gcT hg) hx181)) hG e, fun e => Nld c 7 (q := x181) (atN 7) hG e, trivial⟩) fun _ _ c => ?_)
  obtain rfl := Option.some.inj h
  exact wp_ret (br (tr (Rt c () [] [])))
 refine P0 [(1, 0)] c fun _ c => ?_
 refine I0 c h (fun h => ?_) fun h => ?_
 ·obtain ⟨x182, hx182, h⟩ := bindE h
  obtain ⟨x183, hx183, h⟩ := bindE h
  refine S0 (Rz [(5, .eq (.bool x182)), (14, Pd.el (x183 : Int)), (15, .eq (I x183))] [(4, 0), (9, 0), (11, 0)] mix c ⟨Pd.mono_eq, elM, Pd.mono_eq, trivial⟩ (fun hG => ⟨fun e => Ncl c (fun hg => spec_l01In_ok (iteT (gcT hg) hx182)) trivial Try.call37 hG e, fun e => Nid c (.g 1) (fun hg => (iteT (gcT hg) hx183)) hG e, fun e => Nld c 14 (q := x183) (atN 14) hG e, trivial⟩) fun _ _ c => ?_)
  obtain rfl := Option.some.inj h
  exact wp_ret (br (tr (Rt c () [] [])))
 refine K1 ?_
 refine bk (tn ?_)
 obtain ⟨x184, hx184, h⟩ := bindE h
 obtain ⟨x185, hx185, h⟩ := bindE h
 refine S0 (Rz [(2, .eq (.bool x184)), (9, Pd.el (x185 : Int)), (10, .eq (I x185))] [(1, 0), (12, 0)] mix c ⟨Pd.mono_eq, elM, Pd.mono_eq, trivial⟩ (fun hG => ⟨fun e => Ncl c (fun hg => spec_l01In_ok hx184) trivial Try.call37 hG e, fun e => Nid c (.g 1) (fun hg => (iteT (gcT hg) hx185)) hG e, fun e => Nld c 9 (q := x185) (atN 9) hG e, trivial⟩) fun _ _ c => ?_)
 obtain rfl := Option.some.inj h
 exact wp_ret (Rt c () [] [])

theorem spec_l02Vars_ok {n : Nat} : ∀ {p0 : D.Term} {p1 : List D.Value} {ga0 : Option Addr} {gc1 : Nat} {ga2 : Option Addr} {gc3 : Nat} {r : (List D.Value) × Bool} (h : spec_l02Vars n p0 p1 = some r), Con Try.prog 111 [.agg #[I p0.Op, I p0.W, I p0.N, Str.val p0.Name, L ga0 p0.Kids gc1], L ga2 p1 gc3] [] [RO (L ga0 p0.Kids gc1) p0.Kids, RO (L ga2 p1 gc3) p1] fun (i : Option Addr × Nat) => ([L i.1 r.1 i.2, .bool r.2], [], [RO (L i.1 r.1 i.2) r.1]) := by
 induction n with
 | zero => intro p0 p1 ga0 gc1 ga2 gc3 r h; simp [spec_l02Vars] at h
 | succ n ih =>
 intro p0 p1 ga0 gc1 ga2 gc3 r h
 rw [spec_l02Vars] at h
 refine En Try.func111 rfl Try.ntmps111 fun _ fr w c => ?_
 refine T0 ?_
 refine Ebx [I p0.Op, I p0.W, I p0.N, Str.val p0.Name, L ga0 p0.Kids gc1] c fun b1 _ _ c => ?_
 refine Fp [] 2 c fun _ c => ?_
 refine E0 ?_
 refine S0 ?_
 refine P0 [(1, 0)] c fun _ c => ?_
 refine I0 c h (fun h => ?_) fun h => ?_
 ·refine P0 [] c fun _ c => ?_
  obtain ⟨rl1, hit1, h⟩ := bindE h
  refine S0 (Lp (fun s1  (_ : Unit) => ([(1, L ga2 p1 gc3), (2, B b1 0), (6, I s1)], id, [])) (fun  (_ : Unit) => ([(1, L ga2 p1 gc3), (2, B b1 0), (6, I rl1)], id, [])) hit1 c () (c.re [0] [0, 1]) (fun s1 q1 _ _ _ c h hr1 => ?_) fun _ _ _ c => ?_)
  ·refine S0 ?_
   obtain ⟨x1, hx1, h⟩ := bindE h
   refine S0 (Rz [(7, Pd.el (x1 : D.Value)), (8, Pd.fl (Str.val x1.Name)), (9, .eq (Str.val x1.Name))] [(11, 0)] mix c ⟨elM, flM, Pd.mono_eq, trivial⟩ (fun hG => ⟨fun e => Nid c (.f 1) (fun hg => (iteT (gcT hg) hx1)) hG e, fun e => Nfa c 7 (atN 7) fc177_0 hG e, fun e => Nlf c 8 (atN 8) hG e, trivial⟩) fun _ _ c => ?_)
   refine I0 c h (fun h => ?_) fun h => ?_
   ·refine K0 ?_
    refine wp_block ?_
    refine Tq (P1 [] c fun _ c => ?_)
    refine bk (tn ?_)
    exact Nx h () (c.re [0] [0, 1])
   refine wp_exit (te (te (be ?_)))
   obtain rfl := hr1 _ (Option.some.inj h).symm
   exact tn ⟨(), c.re [0] [0, 1]⟩
  refine S0 ?_
  obtain ⟨x2, hx2, h⟩ := bindE h
  refine S0 (Rz [(7, Pd.el (x2 : D.Value)), (8, Pd.fl (Str.val x2.Name)), (9, .eq (Str.val x2.Name))] [(11, 0)] mix c ⟨elM, flM, Pd.mono_eq, trivial⟩ (fun hG => ⟨fun e => Nid c (.f 1) (fun hg => (iteT (gcT hg) hx2)) hG e, fun e => Nfa c 7 (atN 7) fc177_0 hG e, fun e => Nlf c 8 (atN 8) hG e, trivial⟩) fun _ _ c => ?_)
  refine I0 c h (fun h => ?_) fun h => ?_
  ·obtain ⟨x3, hx3, h⟩ := bindE h
   refine S0 (Rz [(3, Pd.el (x3 : D.Value)), (4, Pd.fl (I x3.W)), (5, .eq (I x3.W))] [(7, 0)] mix c ⟨elM, flM, Pd.mono_eq, trivial⟩ (fun hG => ⟨fun e => Nid c (.f 1) (fun hg => hx3) hG e, fun e => Nfa c 3 (atN 3) fc177_1 hG e, fun e => Nlf c 4 (atN 4) hG e, trivial⟩) fun _ _ c => ?_)
   obtain rfl := Option.some.inj h
   exact wp_ret (tr (tr (Rg c (ga2, gc3) [] [1] (.tmp (.tmp .nil)))))
  refine K0 ?_
  refine T0 ?_
  refine Elt 177 ([] : List D.Value) c fun a1 c1 _ _ c => ?_
  refine Fp [] 2 c fun _ c => ?_
  obtain ⟨x4, hx4, h⟩ := bindE h
  refine Esl 177 c (.f 1) hx4 fun u1 _ c => ?_
  obtain ⟨a2, c2, rfl⟩ := c.sl 2
  obtain ⟨x5, hx5, h⟩ := bindE h
  refine Eap 1 c (.f 2) hx5 fun a3 c3 _ _ c => ?_
  refine Fp [] 1 c fun _ c => ?_
  refine E0 ?_
  refine T0 ?_
  refine Fp [(2, 0), (4, 0)] 6 c fun _ c => ?_
  refine Elt 177 ([(D.Value.mk p0.Name p0.W 0)] : List D.Value) c fun a4 c4 _ _ c => ?_
  obtain ⟨x6, hx6, h⟩ := bindE h
  refine Eap 1 c (.g 2) hx6 fun a5 c5 _ _ c => ?_
  refine Fp [] 1 c fun _ c => ?_
  refine E0 ?_
  refine T0 ?_
  refine Fp [] 3 c fun _ c => ?_
  replace c := c.gm [BX b1 65 [I p0.Op, I p0.W, I p0.N, Str.val p0.Name, L ga0 p0.Kids gc1], sl177 (L a5 x6 c5) x6, sl177 (L a4 ([(D.Value.mk p0.Name p0.W 0)] : List D.Value) c4) ([(D.Value.mk p0.Name p0.W 0)] : List D.Value)]
  obtain ⟨x7, hx7, h⟩ := bindE h
  refine Esl 177 c (.f 1) hx7 fun u2 _ c => ?_
  obtain ⟨a6, c6, rfl⟩ := c.sl 3
  obtain ⟨x8, hx8, h⟩ := bindE h
  refine Eap 1 c (.f 3) hx8 fun a7 c7 _ _ c => ?_
  refine Fp [] 2 c fun _ c => ?_
  refine E0 ?_
  replace c := c.fz 1
  obtain rfl := Option.some.inj h
  exact wp_ret (tr (Rg c (a7, c7) [] [4] (.tmp (.tmp .nil))))
 refine K0 ?_
 refine S0 ?_
 refine P0 [(1, 0)] c fun _ c => ?_
 obtain ⟨rl2, hit2, h⟩ := bindE h
 have hk2 := h
 refine LpR (fun s2  (i : Option Addr × Nat) => ([(1, L i.1 s2.1 i.2), (73, L ga0 p0.Kids gc1), (74, I (len p0.Kids)), (75, I s2.2)], id, [RO (L i.1 s2.1 i.2) s2.1])) (fun s  (i : Option Addr × Nat) => ([(1, L i.1 s i.2)], id, [RO (L i.1 s i.2) s])) hit2 c (ga2, gc3) (c.re [0] [0, 1, 1]) (fun s2 q2 i1 _ _ c h hr2 => ?_) fun s2r k1 _ _ hrl c => ?_
 ·refine P0 [] c fun _ c => ?_
  refine S0 (I0 c h (fun h => ?_) fun h => ?_)
  ·refine K0 ?_
   refine S0 (wp_block ?_)
   refine T0 ?_
   obtain ⟨x9, hx9, h⟩ := bindE h
   refine Eem c (.f 0) hx9 fun _ u3 _ c => ?_
   obtain ⟨a8, c8, rfl, c⟩ := c.o_Term 3
   refine Eal [I 0, I 0, I 0, Str.val ⟨[]⟩, L none ([] : List D.Term) 0] c fun b2 _ _ c => ?_
   refine Ess 1 [I x9.Op, I x9.W, I x9.N, Str.val x9.Name, L a8 x9.Kids c8] c fun _ c => ?_
   refine E0 ?_
   refine T0 ?_
   refine Fp [(0, 1)] 2 c fun _ c => ?_
   obtain ⟨x10, hx10, h⟩ := bindE h
   refine Cf [] c (ih hx10) ⟨.f 4, .f 2, trivial⟩ Try.call111 fun i2 _ _ c => ?_
   refine Fp [] 5 c fun _ c => ?_
   refine E0 ?_
   refine S0 ?_
   refine P0 [] c fun _ c => ?_
   refine I0 c h (fun h => ?_) fun h => ?_
   ·refine P0 [] c fun _ c => ?_
    obtain rfl := hr2 _ (Option.some.inj h).symm
    obtain rfl := Option.some.inj hk2
    replace c := c.nilf (α := D.Value)
    exact wp_ret (tr (br (tr (tr (br (tr (Rg c (none, 0) [] [6] (.tmp (.tmp .nil)))))))))
   refine K0 ?_
   refine Tq (P1 [] c fun _ c => ?_)
   refine bk (tn ?_)
   refine P1 [] c fun _ c => ?_
   exact Nx h (i2.1, i2.2) (c.re [0] [0, 1, 5])
  refine wp_exit (te (te (be ?_)))
  obtain rfl := hr2 _ (Option.some.inj h).symm
  exact tn ⟨_, (i1.1, i1.2), rfl, c.re [0] [0, 1, 2]⟩
 subst hrl
 refine P0 [] c fun _ c => ?_
 obtain rfl := Option.some.inj h
 exact wp_ret (Rg c (k1.1, k1.2) [] [2] (.tmp (.tmp .nil)))

theorem spec_TermOk_ok {n : Nat} {p0 : D.Term} {ga0 : Option Addr} {gc1 : Nat} {r : Bool} (h : spec_TermOk n p0 = some r) : Con Try.prog 86 [.agg #[I p0.Op, I p0.W, I p0.N, Str.val p0.Name, L ga0 p0.Kids gc1]] [] [RO (L ga0 p0.Kids gc1) p0.Kids] fun (_ : Unit) => ([.bool r], [], []) := by
 unfold spec_TermOk at h
 refine En Try.func86 rfl Try.ntmps86 fun _ fr w c => ?_
 refine T0 ?_
 refine Ebx [I p0.Op, I p0.W, I p0.N, Str.val p0.Name, L ga0 p0.Kids gc1] c fun b1 _ _ c => ?_
 refine Fp [] 1 c fun _ c => ?_
 refine E0 ?_
 refine T0 ?_
 refine Eal [I 0] c fun b2 _ _ c => ?_
 refine Esb 1 0 (I 240) c fun _ c => ?_
 refine E0 ?_
 refine S0 ?_
 refine T0 ?_
 refine Fp [(0, 0)] 1 c fun _ c => ?_
 obtain ⟨x1, hx1, h⟩ := bindE h
 refine Ca [1] c (spec_l02Few_ok hx1) ⟨.f 0, trivial⟩ Try.call109 fun _ _ _ c => ?_
 refine Fp [] 1 c fun _ c => ?_
 refine Fp [] 1 c fun _ c => ?_
 rcases ite_split (b := (!x1.1)) h with ⟨hg1, h⟩ | ⟨hg1, h⟩
 ·replace c := c.eqs (v := .bool (!x1.1)) (u := .bool true) 9 (by rw [hg1])
  refine Gs c fun _ c => ?_
  refine Gs c fun _ c => ?_
  refine Gs c fun _ c => ?_
  refine Epk (b := true) (v := .bool true) c fun _ c => ?_
  refine E0 ?_
  refine I0 c h (fun h => ?_) fun h => ?_
  ·refine P0 [] c fun _ c => ?_
   obtain rfl := Option.some.inj h
   exact wp_ret (tr (Rt c () [] []))
  refine K0 ?_
  refine T0 ?_
  refine Fp [(0, 0)] 1 c fun _ c => ?_
  obtain ⟨x2, hx2, h⟩ := bindE h
  refine Cf [] c (spec_l02Vars_ok hx2) ⟨.f 0, .nil, trivial⟩ Try.call111 fun i1 _ _ c => ?_
  refine Fp [] 5 c fun _ c => ?_
  refine E0 ?_
  refine P0 [] c fun _ c => ?_
  obtain rfl := Option.some.inj h
  exact wp_ret (Rt c () [] [])
 replace c := c.eqs (v := .bool (!x1.1)) (u := .bool false) 9 (by rw [hg1])
 refine Gt c ?_
 dsimp only [List.set]
 refine Fp [(4, 0)] 1 c fun _ c => ?_
 refine Gt c ?_
 dsimp only [List.set]
 obtain ⟨x3, hx3, h⟩ := bindE h
 refine Ca [] c (spec_l02Node_ok hx3) ⟨.f 0, trivial⟩ Try.call110 fun _ _ _ c => ?_
 refine Gt c ?_
 dsimp only [List.set]
 refine Fp [] 1 c fun _ c => ?_
 refine Epk (b := false) (v := .bool (!x3)) c fun _ c => ?_
 refine E0 ?_
 refine I0 c h (fun h => ?_) fun h => ?_
 ·refine P0 [] c fun _ c => ?_
  obtain rfl := Option.some.inj h
  exact wp_ret (tr (Rt c () [] []))
 refine K0 ?_
 refine T0 ?_
 refine Fp [(0, 0)] 1 c fun _ c => ?_
 replace c := c.gm [BX b1 65 [I p0.Op, I p0.W, I p0.N, Str.val p0.Name, L ga0 p0.Kids gc1], BX b2 3 [I x1.2]]
 obtain ⟨x4, hx4, h⟩ := bindE h
 refine Cf [] c (spec_l02Vars_ok hx4) ⟨.f 0, .nil, trivial⟩ Try.call111 fun i2 _ _ c => ?_
 refine Fp [] 5 c fun _ c => ?_
 refine E0 ?_
 refine P0 [] c fun _ c => ?_
 obtain rfl := Option.some.inj h
 exact wp_ret (Rt c () [] [])

theorem spec_l06Terms_ok {n : Nat} {p0 : List D.Term} {p1 : Int} {ga0 : Option Addr} {gc1 : Nat} {r : Bool} (h : spec_l06Terms n p0 p1 = some r) : Con Try.prog 51 [L ga0 p0 gc1, I p1] [] [RO (L ga0 p0 gc1) p0] fun (_ : Unit) => ([.bool r], [], []) := by
 unfold spec_l06Terms at h
 refine En Try.func51 rfl Try.ntmps51 fun _ fr w c => ?_
 refine P0 [] c fun _ c => ?_
 refine S0 ?_
 refine P0 [] c fun _ c => ?_
 obtain ⟨rl1, hit1, h⟩ := bindE h
 have hk1 := h
 refine LpR (fun s1  (_ : Unit) => ([(1, I p1), (7, L ga0 p0 gc1), (8, I (len p0)), (9, I s1)], id, [])) (fun s  (_ : Unit) => ([], id, [])) hit1 c () (c.re [] [0]) (fun s1 q1 _ _ _ c h hr1 => ?_) fun s1r _ _ _ hrl c => ?_
 ·refine P0 [] c fun _ c => ?_
  refine S0 (I0 c h (fun h => ?_) fun h => ?_)
  ·refine K0 ?_
   refine S0 (wp_block ?_)
   refine T0 ?_
   obtain ⟨x1, hx1, h⟩ := bindE h
   refine Eem c (.f 0) hx1 fun _ u1 _ c => ?_
   obtain ⟨a1, c1, rfl, c⟩ := c.o_Term 1
   refine Eal [I 0, I 0, I 0, Str.val ⟨[]⟩, L none ([] : List D.Term) 0] c fun b1 _ _ c => ?_
   refine Ess 0 [I x1.Op, I x1.W, I x1.N, Str.val x1.Name, L a1 x1.Kids c1] c fun _ c => ?_
   refine E0 ?_
   obtain ⟨x2, hx2, h⟩ := bindE h
   refine S0 (Rz [(1, .eq (.bool x2))] [(0, 0), (5, 0)] mix c ⟨Pd.mono_eq, trivial⟩ (fun hG => ⟨fun e => Ncl c (fun hg => spec_TermOk_ok hx2) ⟨.f 2, trivial⟩ Try.call86 hG e, trivial⟩) fun _ _ c => ?_)
   refine I0 c h (fun h => ?_) fun h => ?_
   ·refine P0 [] c fun _ c => ?_
    obtain rfl := hr1 _ (Option.some.inj h).symm
    obtain rfl := Option.some.inj hk1
    exact wp_ret (br (tr (tr (br (tr (Rt c () [] []))))))
   refine K1 ?_
   refine bk (tn ?_)
   refine P1 [] c fun _ c => ?_
   exact Nx h () (c.re [] [0])
  refine wp_exit (te (te (be ?_)))
  obtain rfl := hr1 _ (Option.some.inj h).symm
  exact tn ⟨_, (), rfl, c.re [] [0]⟩
 subst hrl
 refine P0 [] c fun _ c => ?_
 obtain rfl := Option.some.inj h
 exact wp_ret (Rt c () [] [])

theorem spec_PathOk_ok {n : Nat} {p0 : D.Program} {p1 : D.Path} {ga0 : Option Addr} {gc1 : Nat} {ga2 : Option Addr} {gc3 : Nat} {ga4 : Option Addr} {gc5 : Nat} {ga6 : Option Addr} {gc7 : Nat} {ga8 : Option Addr} {gc9 : Nat} {ga10 : Option Addr} {gc11 : Nat} {ga12 : Option Addr} {gc13 : Nat} {r : Bool} (h : spec_PathOk n p0 p1 = some r) : Con Try.prog 18 [.agg #[I p0.W, I p0.Mem, I p0.In, L ga0 p0.Code gc1], .agg #[I p1.Pc, L ga2 p1.Regs gc3, L ga4 p1.Mem gc5, L ga6 p1.Stack gc7, I p1.In, L ga8 p1.Out gc9, I p1.Code, I p1.Steps, L ga10 p1.Cond gc11, L ga12 p1.Turns gc13]] [] [RO (L ga0 p0.Code gc1) p0.Code, RO (L ga2 p1.Regs gc3) p1.Regs, RO (L ga4 p1.Mem gc5) p1.Mem, RO (L ga6 p1.Stack gc7) p1.Stack, RO (L ga8 p1.Out gc9) p1.Out, RO (L ga10 p1.Cond gc11) p1.Cond, RO (L ga12 p1.Turns gc13) p1.Turns] fun (_ : Unit) => ([.bool r], [], []) := by
 unfold spec_PathOk at h
 refine En Try.func18 rfl Try.ntmps18 fun _ fr w c => ?_
 refine T0 ?_
 refine Ebx [I p0.W, I p0.Mem, I p0.In, L ga0 p0.Code gc1] c fun b1 _ _ c => ?_
 refine Ebx [I p1.Pc, L ga2 p1.Regs gc3, L ga4 p1.Mem gc5, L ga6 p1.Stack gc7, I p1.In, L ga8 p1.Out gc9, I p1.Code, I p1.Steps, L ga10 p1.Cond gc11, L ga12 p1.Turns gc13] c fun b2 _ _ c => ?_
 refine Fp [] 1 c fun _ c => ?_
 refine E0 ?_
 refine S0 ?_
 obtain ⟨x1, hx1, h⟩ := bindE h
 obtain ⟨x2, hx2, h⟩ := bindE h
 obtain ⟨x3, hx3, h⟩ := bindE h
 obtain ⟨x4, hx4, h⟩ := bindE h
 obtain ⟨x5, hx5, h⟩ := bindE h
 refine S0 (Rz [(1, .eq (.bool x1)), (9, .eq (.bool x2)), (37, .eq (.bool x3)), (49, .eq (.bool x4)), (55, .eq (.bool x5))] [(0, 0), (5, 1), (7, 0), (14, 1), (20, 1), (23, 0), (28, 1), (34, 1), (36, 0), (42, 1), (48, 1), (54, 1), (60, 1), (66, 1)] mix c ⟨Pd.mono_eq, Pd.mono_eq, Pd.mono_eq, Pd.mono_eq, Pd.mono_eq, trivial⟩ (fun hG => ⟨fun e => Ncl c (fun hg => spec_ProgramOk_ok hx1) ⟨.f 0, trivial⟩ Try.call50 hG e, fun e => Ncl c (fun hg => spec_l01In_ok (iteF (gcF hg) hx2)) trivial Try.call37 hG e, fun e => Ncl c (fun hg => spec_l01In_ok (iteF (gcF hg) hx3)) trivial Try.call37 hG e, fun e => Ncl c (fun hg => spec_l01In_ok (iteF (gcF hg) hx4)) trivial Try.call37 hG e, fun e => Ncl c (fun hg => spec_l01In_ok (iteF (gcF hg) hx5)) trivial Try.call37 hG e, trivial⟩) fun _ _ c => ?_)
 refine I0 c h (fun h => ?_) fun h => ?_
 ·refine P0 [] c fun _ c => ?_
  obtain rfl := Option.some.inj h
  exact wp_ret (tr (Rt c () [] []))
 refine K0 ?_
 refine S0 ?_
 refine P0 [(1, 1)] c fun _ c => ?_
 obtain ⟨rl1, hit1, h⟩ := bindE h
 have hk1 := h
 refine LpR (fun s1  (_ : Unit) => ([(2, B b1 0), (3, B b2 0), (80, L ga6 p1.Stack gc7), (81, I (len p1.Stack)), (82, I s1)], id, [])) (fun s  (_ : Unit) => ([(2, B b1 0), (3, B b2 0)], id, [])) hit1 c () (c.re [0, 1] (rg 7)) (fun s1 q1 _ _ _ c h hr1 => ?_) fun s1r _ _ _ hrl c => ?_
 ·refine P0 [] c fun _ c => ?_
  refine S0 (I0 c h (fun h => ?_) fun h => ?_)
  ·refine K0 ?_
   refine S0 (wp_block ?_)
   refine T0 ?_
   obtain ⟨x6, hx6, h⟩ := bindE h
   refine Eel c (.f 3) hx6 fun _ _ c => ?_
   refine Fp [] 1 c fun _ c => ?_
   refine E0 ?_
   refine T0 ?_
   refine Fp [(2, 0)] 4 c fun _ c => ?_
   obtain ⟨x7, hx7, h⟩ := bindE h
   refine Ca [] c (spec_l01In_ok hx7) trivial Try.call37 fun _ _ _ c => ?_
   refine Fp [] 1 c fun _ c => ?_
   refine E0 ?_
   refine I0 c h (fun h => ?_) fun h => ?_
   ·refine P0 [] c fun _ c => ?_
    obtain rfl := hr1 _ (Option.some.inj h).symm
    obtain rfl := Option.some.inj hk1
    exact wp_ret (br (tr (tr (br (tr (Rt c () [] []))))))
   refine K1 ?_
   refine bk (tn ?_)
   refine P1 [] c fun _ c => ?_
   exact Nx h () (c.re [0, 1] (rg 7))
  refine wp_exit (te (te (be ?_)))
  obtain rfl := hr1 _ (Option.some.inj h).symm
  exact tn ⟨_, (), rfl, c.re [0, 1] (rg 7)⟩
 subst hrl
 refine S0 ?_
 refine P0 [(1, 1)] c fun _ c => ?_
 obtain ⟨rl2, hit2, h⟩ := bindE h
 have hk2 := h
 refine LpR (fun s2  (_ : Unit) => ([(2, B b1 0), (3, B b2 0), (94, L ga12 p1.Turns gc13), (95, I (len p1.Turns)), (96, I s2)], id, [])) (fun s  (_ : Unit) => ([(2, B b1 0), (3, B b2 0)], id, [])) hit2 c () (c.re [0, 1] (rg 7)) (fun s2 q2 _ _ _ c h hr2 => ?_) fun s2r _ _ _ hrl c => ?_
 ·refine P0 [] c fun _ c => ?_
  refine S0 (I0 c h (fun h => ?_) fun h => ?_)
  ·refine K0 ?_
   refine S0 (wp_block ?_)
   refine T0 ?_
   obtain ⟨x8, hx8, h⟩ := bindE h
   refine Eel c (.f 6) hx8 fun _ _ c => ?_
   refine Fp [] 1 c fun _ c => ?_
   refine E0 ?_
   refine T0 ?_
   refine Fp [] 1 c fun _ c => ?_
   obtain ⟨x9, hx9, h⟩ := bindE h
   refine Ca [] c (spec_l01In_ok hx9) trivial Try.call37 fun _ _ _ c => ?_
   refine Fp [] 1 c fun _ c => ?_
   refine E0 ?_
   refine I0 c h (fun h => ?_) fun h => ?_
   ·refine P0 [] c fun _ c => ?_
    obtain rfl := hr2 _ (Option.some.inj h).symm
    obtain rfl := Option.some.inj hk2
    exact wp_ret (br (tr (tr (br (tr (Rt c () [] []))))))
   refine K1 ?_
   refine bk (tn ?_)
   refine P1 [] c fun _ c => ?_
   exact Nx h () (c.re [0, 1] (rg 7))
  refine wp_exit (te (te (be ?_)))
  obtain rfl := hr2 _ (Option.some.inj h).symm
  exact tn ⟨_, (), rfl, c.re [0, 1] (rg 7)⟩
 subst hrl
 obtain ⟨x10, hx10, h⟩ := bindE h
 obtain ⟨x11, hx11, h⟩ := bindE h
 obtain ⟨x12, hx12, h⟩ := bindE h
 obtain ⟨x13, hx13, h⟩ := bindE h
 refine S0 (Rz [(4, .eq (.bool x10)), (10, .eq (.bool x11)), (17, .eq (.bool x12)), (22, .eq (.bool x13))] [(1, 1), (3, 0), (7, 1), (9, 0), (14, 1), (16, 0), (21, 1)] mix c ⟨Pd.mono_eq, Pd.mono_eq, Pd.mono_eq, Pd.mono_eq, trivial⟩ (fun hG => ⟨fun e => Ncl c (fun hg => spec_l06Terms_ok hx10) ⟨.f 1, trivial⟩ Try.call51 hG e, fun e => Ncl c (fun hg => spec_l06Terms_ok (iteT (gcT hg) hx11)) ⟨.f 2, trivial⟩ Try.call51 hG e, fun e => Ncl c (fun hg => spec_l06Terms_ok (iteT (gcT hg) hx12)) ⟨.f 4, trivial⟩ Try.call51 hG e, fun e => Ncl c (fun hg => spec_l06Terms_ok (iteT (gcT hg) hx13)) ⟨.f 5, trivial⟩ Try.call51 hG e, trivial⟩) fun _ _ c => ?_)
 obtain rfl := Option.some.inj h
 exact wp_ret (Rt c () [] [])

theorem impl_shapeOk_ok {p0 : Int} {p1 : Int} {r : Bool} (h : impl_shapeOk p0 p1 = some r) : Con Try.prog 89 [I p0, I p1] [] [] fun (_ : Unit) => ([.bool r], [], []) := by
 unfold impl_shapeOk at h
 refine En Try.func89 rfl Try.ntmps89 fun _ fr w c => ?_
 refine P0 [] c fun _ c => ?_
 refine S0 (Ry [] mix c fun _ _ c => ?_)
 obtain rfl := Option.some.inj h
 exact wp_ret (Rt c () [] [])

theorem impl_isWidth_ok {p0 : Int} {r : Bool} (h : impl_isWidth p0 = some r) : Con Try.prog 112 [I p0] [] [] fun (_ : Unit) => ([.bool r], [], []) := by
 unfold impl_isWidth at h
 refine En Try.func112 rfl Try.ntmps112 fun _ fr w c => ?_
 refine P0 [] c fun _ c => ?_
 refine S0 (Ry [] mix c fun _ _ c => ?_)
 obtain rfl := Option.some.inj h
 exact wp_ret (Rt c () [] [])

theorem impl_WordOk_ok {p0 : Int} {p1 : Int} {r : Bool} (h : impl_WordOk p0 p1 = some r) : Con Try.prog 90 [I p0, I p1] [] [] fun (_ : Unit) => ([.bool r], [], []) := by
 unfold impl_WordOk at h
 refine En Try.func90 rfl Try.ntmps90 fun _ fr w c => ?_
 refine P0 [] c fun _ c => ?_
 obtain ⟨x1, hx1, h⟩ := bindE h
 obtain ⟨x2, hx2, h⟩ := bindE h
 refine S0 (Rz [(1, .eq (.bool x1)), (10, .eq (I x2))] [] mix c ⟨Pd.mono_eq, Pd.mono_eq, trivial⟩ (fun hG => ⟨fun e => Ncl c (fun hg => impl_isWidth_ok hx1) trivial Try.call112 hG e, fun e => Nshl c (fun hg => (iteT (gcT hg) hx2)) hG e, trivial⟩) fun _ _ c => ?_)
 obtain rfl := Option.some.inj h
 exact wp_ret (Rt c () [] [])

theorem impl_isReg_ok {p0 : Int} {r : Bool} (h : impl_isReg p0 = some r) : Con Try.prog 113 [I p0] [] [] fun (_ : Unit) => ([.bool r], [], []) := by
 unfold impl_isReg at h
 refine En Try.func113 rfl Try.ntmps113 fun _ fr w c => ?_
 refine P0 [] c fun _ c => ?_
 refine S0 (Ry [] mix c fun _ _ c => ?_)
 obtain rfl := Option.some.inj h
 exact wp_ret (Rt c () [] [])

theorem impl_isTwoWords_ok {p0 : Int} {r : Bool} (h : impl_isTwoWords p0 = some r) : Con Try.prog 114 [I p0] [] [] fun (_ : Unit) => ([.bool r], [], []) := by
 unfold impl_isTwoWords at h
 refine En Try.func114 rfl Try.ntmps114 fun _ fr w c => ?_
 refine P0 [] c fun _ c => ?_
 refine S0 (Ry [] mix c fun _ _ c => ?_)
 obtain rfl := Option.some.inj h
 exact wp_ret (Rt c () [] [])

set_option maxHeartbeats 4000000 in
theorem impl_insOk_ok {p0 : D.Ins} {p1 : Int} {p2 : Int} {r : Bool} (h : impl_insOk p0 p1 p2 = some r) : Con Try.prog 91 [.agg #[I p0.Op, I p0.A, I p0.B, I p0.C], I p1, I p2] [] [] fun (_ : Unit) => ([.bool r], [], []) := by
 unfold impl_insOk at h
 refine En Try.func91 rfl Try.ntmps91 fun _ fr w c => ?_
 refine T0 ?_
 refine Ebx [I p0.Op, I p0.A, I p0.B, I p0.C] c fun b1 _ _ c => ?_
 refine Fp [] 1 c fun _ c => ?_
 refine E0 ?_
 refine S0 (Ry [(1, 0), (5, 0)] mix c fun _ _ c => ?_)
 refine S0 ?_
 refine P0 [(1, 0)] c fun _ c => ?_
 refine I0 c h (fun h => ?_) fun h => ?_
 ·obtain ⟨x1, hx1, h⟩ := bindE h
  obtain ⟨x2, hx2, h⟩ := bindE h
  obtain ⟨x3, hx3, h⟩ := bindE h
  refine S0 (Rz [(2, .eq (.bool x1)), (6, .eq (.bool x2)), (11, .eq (.bool x3))] [(1, 0), (5, 0), (10, 0)] mix c ⟨Pd.mono_eq, Pd.mono_eq, Pd.mono_eq, trivial⟩ (fun hG => ⟨fun e => Ncl c (fun hg => impl_isReg_ok hx1) trivial Try.call113 hG e, fun e => Ncl c (fun hg => impl_isReg_ok (iteT (gcT hg) hx2)) trivial Try.call113 hG e, fun e => Ncl c (fun hg => impl_isTwoWords_ok (iteT (gcT hg) hx3)) trivial Try.call114 hG e, trivial⟩) fun _ _ c => ?_)
  obtain rfl := Option.some.inj h
  exact wp_ret (tr (Rt c () [] []))
 refine K0 ?_
 refine S0 ?_
 refine P0 [(1, 0)] c fun _ c => ?_
 refine I0 c h (fun h => ?_) fun h => ?_
 ·refine P0 [] c fun _ c => ?_
  obtain rfl := Option.some.inj h
  exact wp_ret (tr (Rt c () [] []))
 refine K0 ?_
 refine S0 ?_
 refine P0 [(1, 0)] c fun _ c => ?_
 refine wp_block ?_
 refine P0 [] c fun _ c => ?_
 refine I0 c h (fun h => ?_) fun h => ?_
 ·obtain ⟨x4, hx4, h⟩ := bindE h
  obtain ⟨x5, hx5, h⟩ := bindE h
  refine S0 (Rz [(2, .eq (.bool x4)), (7, .eq (.bool x5))] [(1, 0), (6, 0)] mix c ⟨Pd.mono_eq, Pd.mono_eq, trivial⟩ (fun hG => ⟨fun e => Ncl c (fun hg => impl_isReg_ok hx4) trivial Try.call113 hG e, fun e => Ncl c (fun hg => impl_WordOk_ok (iteT (gcT hg) hx5)) trivial Try.call90 hG e, trivial⟩) fun _ _ c => ?_)
  obtain rfl := Option.some.inj h
  exact wp_ret (br (tr (Rt c () [] [])))
 refine S0 ?_
 refine P0 [] c fun _ c => ?_
 refine I0 c h (fun h => ?_) fun h => ?_
 ·refine K0 ?_
  refine I0 c h (fun h => ?_) fun h => ?_
  ·obtain ⟨x6, hx6, h⟩ := bindE h
   obtain ⟨x7, hx7, h⟩ := bindE h
   refine S0 (Rz [(2, .eq (.bool x6)), (6, .eq (.bool x7))] [(1, 0), (5, 0)] mix c ⟨Pd.mono_eq, Pd.mono_eq, trivial⟩ (fun hG => ⟨fun e => Ncl c (fun hg => impl_isReg_ok hx6) trivial Try.call113 hG e, fun e => Ncl c (fun hg => impl_isReg_ok (iteT (gcT hg) hx7)) trivial Try.call113 hG e, trivial⟩) fun _ _ c => ?_)
   obtain rfl := Option.some.inj h
   exact wp_ret (br (tr (Rt c () [] [])))
  refine S0 ?_
  refine P0 [] c fun _ c => ?_
  refine I0 c h (fun h => ?_) fun h => ?_
  ·refine K0 ?_
   refine I0 c h (fun h => ?_) fun h => ?_
   ·obtain ⟨x8, hx8, h⟩ := bindE h
    refine S0 (Rz [(2, .eq (.bool x8))] [(1, 0), (5, 0)] mix c ⟨Pd.mono_eq, trivial⟩ (fun hG => ⟨fun e => Ncl c (fun hg => impl_isReg_ok hx8) trivial Try.call113 hG e, trivial⟩) fun _ _ c => ?_)
    obtain rfl := Option.some.inj h
    exact wp_ret (br (tr (Rt c () [] [])))
   refine S0 ?_
   refine P0 [] c fun _ c => ?_
   refine Mp (p0.Op == 9) [(74, .bool (p0.Op == 9))] [(74, .bool (p0.Op == 11))] [(74, .bool ((p0.Op == 9) || (p0.Op == 11)))] [74, 76] c fun _ c => ?_
   refine I0 c h (fun h => ?_) fun h => ?_
   ·refine S0 (Ry [(1, 0)] mix c fun _ _ c => ?_)
    obtain rfl := Option.some.inj h
    exact wp_ret (br (tr (Rt c () [] [])))
   refine P0 [] c fun _ c => ?_
   refine I0 c h (fun h => ?_) fun h => ?_
   ·obtain ⟨x9, hx9, h⟩ := bindE h
    refine S0 (Rz [(2, .eq (.bool x9))] [(1, 0)] mix c ⟨Pd.mono_eq, trivial⟩ (fun hG => ⟨fun e => Ncl c (fun hg => impl_isReg_ok hx9) trivial Try.call113 hG e, trivial⟩) fun _ _ c => ?_)
    obtain rfl := Option.some.inj h
    exact wp_ret (br (tr (Rt c () [] [])))
   refine S0 ?_
   refine P0 [] c fun _ c => ?_
   refine Mp (p0.Op == 12) [(91, .bool (p0.Op == 12))] [(91, .bool (p0.Op == 14))] [(91, .bool ((p0.Op == 12) || (p0.Op == 14)))] [91, 93] c fun _ c => ?_
   refine I0 c h (fun h => ?_) fun h => ?_
   ·refine S0 (Ry [(1, 0), (5, 0)] mix c fun _ _ c => ?_)
    obtain rfl := Option.some.inj h
    exact wp_ret (br (tr (Rt c () [] [])))
   refine K1 ?_
   refine bk (tn ?_)
   refine P0 [] c fun _ c => ?_
   obtain rfl := Option.some.inj h
   exact wp_ret (Rt c () [] [])
  refine P0 [] c fun _ c => ?_
  refine I0 c h (fun h => ?_) fun h => ?_
  ·refine K0 ?_
   refine I0 c h (fun h => ?_) fun h => ?_
   ·obtain ⟨x10, hx10, h⟩ := bindE h
    refine S0 (Rz [(2, .eq (.bool x10))] [(1, 0), (5, 0)] mix c ⟨Pd.mono_eq, trivial⟩ (fun hG => ⟨fun e => Ncl c (fun hg => impl_isReg_ok hx10) trivial Try.call113 hG e, trivial⟩) fun _ _ c => ?_)
    obtain rfl := Option.some.inj h
    exact wp_ret (br (tr (Rt c () [] [])))
   refine S0 ?_
   refine P0 [] c fun _ c => ?_
   refine Mp (p0.Op == 9) [(74, .bool (p0.Op == 9))] [(74, .bool (p0.Op == 11))] [(74, .bool ((p0.Op == 9) || (p0.Op == 11)))] [74, 76] c fun _ c => ?_
   refine I0 c h (fun h => ?_) fun h => ?_
   ·refine S0 (Ry [(1, 0)] mix c fun _ _ c => ?_)
    obtain rfl := Option.some.inj h
    exact wp_ret (br (tr (Rt c () [] [])))
   refine P0 [] c fun _ c => ?_
   refine I0 c h (fun h => ?_) fun h => ?_
   ·obtain ⟨x11, hx11, h⟩ := bindE h
    refine S0 (Rz [(2, .eq (.bool x11))] [(1, 0)] mix c ⟨Pd.mono_eq, trivial⟩ (fun hG => ⟨fun e => Ncl c (fun hg => impl_isReg_ok hx11) trivial Try.call113 hG e, trivial⟩) fun _ _ c => ?_)
    obtain rfl := Option.some.inj h
    exact wp_ret (br (tr (Rt c () [] [])))
   refine S0 ?_
   refine P0 [] c fun _ c => ?_
   refine Mp (p0.Op == 12) [(91, .bool (p0.Op == 12))] [(91, .bool (p0.Op == 14))] [(91, .bool ((p0.Op == 12) || (p0.Op == 14)))] [91, 93] c fun _ c => ?_
   refine I0 c h (fun h => ?_) fun h => ?_
   ·refine S0 (Ry [(1, 0), (5, 0)] mix c fun _ _ c => ?_)
    obtain rfl := Option.some.inj h
    exact wp_ret (br (tr (Rt c () [] [])))
   refine K1 ?_
   refine bk (tn ?_)
   refine P0 [] c fun _ c => ?_
   obtain rfl := Option.some.inj h
   exact wp_ret (Rt c () [] [])
  refine P0 [] c fun _ c => ?_
  refine Mp (p0.Op == 6) [(61, .bool (p0.Op == 6))] [(61, .bool (p0.Op == 13))] [(61, .bool ((p0.Op == 6) || (p0.Op == 13)))] [61, 65] c fun _ c => ?_
  refine I0 c h (fun h => ?_) fun h => ?_
  ·obtain ⟨x12, hx12, h⟩ := bindE h
   refine S0 (Rz [(2, .eq (.bool x12))] [(1, 0), (5, 0)] mix c ⟨Pd.mono_eq, trivial⟩ (fun hG => ⟨fun e => Ncl c (fun hg => impl_isReg_ok hx12) trivial Try.call113 hG e, trivial⟩) fun _ _ c => ?_)
   obtain rfl := Option.some.inj h
   exact wp_ret (br (tr (Rt c () [] [])))
  refine S0 ?_
  refine P0 [] c fun _ c => ?_
  refine Mp (p0.Op == 9) [(74, .bool (p0.Op == 9))] [(74, .bool (p0.Op == 11))] [(74, .bool ((p0.Op == 9) || (p0.Op == 11)))] [74, 76] c fun _ c => ?_
  refine I0 c h (fun h => ?_) fun h => ?_
  ·refine S0 (Ry [(1, 0)] mix c fun _ _ c => ?_)
   obtain rfl := Option.some.inj h
   exact wp_ret (br (tr (Rt c () [] [])))
  refine P0 [] c fun _ c => ?_
  refine I0 c h (fun h => ?_) fun h => ?_
  ·obtain ⟨x13, hx13, h⟩ := bindE h
   refine S0 (Rz [(2, .eq (.bool x13))] [(1, 0)] mix c ⟨Pd.mono_eq, trivial⟩ (fun hG => ⟨fun e => Ncl c (fun hg => impl_isReg_ok hx13) trivial Try.call113 hG e, trivial⟩) fun _ _ c => ?_)
   obtain rfl := Option.some.inj h
   exact wp_ret (br (tr (Rt c () [] [])))
  refine S0 ?_
  refine P0 [] c fun _ c => ?_
  refine Mp (p0.Op == 12) [(91, .bool (p0.Op == 12))] [(91, .bool (p0.Op == 14))] [(91, .bool ((p0.Op == 12) || (p0.Op == 14)))] [91, 93] c fun _ c => ?_
  refine I0 c h (fun h => ?_) fun h => ?_
  ·refine S0 (Ry [(1, 0), (5, 0)] mix c fun _ _ c => ?_)
   obtain rfl := Option.some.inj h
   exact wp_ret (br (tr (Rt c () [] [])))
  refine K1 ?_
  refine bk (tn ?_)
  refine P0 [] c fun _ c => ?_
  obtain rfl := Option.some.inj h
  exact wp_ret (Rt c () [] [])
 refine P0 [] c fun _ c => ?_
 refine Mp (p0.Op == 7) [(49, .bool (p0.Op == 7))] [(49, .bool (p0.Op == 8))] [(49, .bool ((p0.Op == 7) || (p0.Op == 8)))] [49, 52] c fun _ c => ?_
 refine I0 c h (fun h => ?_) fun h => ?_
 ·obtain ⟨x14, hx14, h⟩ := bindE h
  obtain ⟨x15, hx15, h⟩ := bindE h
  refine S0 (Rz [(2, .eq (.bool x14)), (6, .eq (.bool x15))] [(1, 0), (5, 0)] mix c ⟨Pd.mono_eq, Pd.mono_eq, trivial⟩ (fun hG => ⟨fun e => Ncl c (fun hg => impl_isReg_ok hx14) trivial Try.call113 hG e, fun e => Ncl c (fun hg => impl_isReg_ok (iteT (gcT hg) hx15)) trivial Try.call113 hG e, trivial⟩) fun _ _ c => ?_)
  obtain rfl := Option.some.inj h
  exact wp_ret (br (tr (Rt c () [] [])))
 refine S0 ?_
 refine P0 [] c fun _ c => ?_
 refine I0 c h (fun h => ?_) fun h => ?_
 ·refine K0 ?_
  refine I0 c h (fun h => ?_) fun h => ?_
  ·obtain ⟨x16, hx16, h⟩ := bindE h
   refine S0 (Rz [(2, .eq (.bool x16))] [(1, 0), (5, 0)] mix c ⟨Pd.mono_eq, trivial⟩ (fun hG => ⟨fun e => Ncl c (fun hg => impl_isReg_ok hx16) trivial Try.call113 hG e, trivial⟩) fun _ _ c => ?_)
   obtain rfl := Option.some.inj h
   exact wp_ret (br (tr (Rt c () [] [])))
  refine S0 ?_
  refine P0 [] c fun _ c => ?_
  refine Mp (p0.Op == 9) [(74, .bool (p0.Op == 9))] [(74, .bool (p0.Op == 11))] [(74, .bool ((p0.Op == 9) || (p0.Op == 11)))] [74, 76] c fun _ c => ?_
  refine I0 c h (fun h => ?_) fun h => ?_
  ·refine S0 (Ry [(1, 0)] mix c fun _ _ c => ?_)
   obtain rfl := Option.some.inj h
   exact wp_ret (br (tr (Rt c () [] [])))
  refine P0 [] c fun _ c => ?_
  refine I0 c h (fun h => ?_) fun h => ?_
  ·obtain ⟨x17, hx17, h⟩ := bindE h
   refine S0 (Rz [(2, .eq (.bool x17))] [(1, 0)] mix c ⟨Pd.mono_eq, trivial⟩ (fun hG => ⟨fun e => Ncl c (fun hg => impl_isReg_ok hx17) trivial Try.call113 hG e, trivial⟩) fun _ _ c => ?_)
   obtain rfl := Option.some.inj h
   exact wp_ret (br (tr (Rt c () [] [])))
  refine S0 ?_
  refine P0 [] c fun _ c => ?_
  refine Mp (p0.Op == 12) [(91, .bool (p0.Op == 12))] [(91, .bool (p0.Op == 14))] [(91, .bool ((p0.Op == 12) || (p0.Op == 14)))] [91, 93] c fun _ c => ?_
  refine I0 c h (fun h => ?_) fun h => ?_
  ·refine S0 (Ry [(1, 0), (5, 0)] mix c fun _ _ c => ?_)
   obtain rfl := Option.some.inj h
   exact wp_ret (br (tr (Rt c () [] [])))
  refine K1 ?_
  refine bk (tn ?_)
  refine P0 [] c fun _ c => ?_
  obtain rfl := Option.some.inj h
  exact wp_ret (Rt c () [] [])
 refine P0 [] c fun _ c => ?_
 refine I0 c h (fun h => ?_) fun h => ?_
 ·refine K0 ?_
  refine I0 c h (fun h => ?_) fun h => ?_
  ·obtain ⟨x18, hx18, h⟩ := bindE h
   refine S0 (Rz [(2, .eq (.bool x18))] [(1, 0), (5, 0)] mix c ⟨Pd.mono_eq, trivial⟩ (fun hG => ⟨fun e => Ncl c (fun hg => impl_isReg_ok hx18) trivial Try.call113 hG e, trivial⟩) fun _ _ c => ?_)
   obtain rfl := Option.some.inj h
   exact wp_ret (br (tr (Rt c () [] [])))
  refine S0 ?_
  refine P0 [] c fun _ c => ?_
  refine Mp (p0.Op == 9) [(74, .bool (p0.Op == 9))] [(74, .bool (p0.Op == 11))] [(74, .bool ((p0.Op == 9) || (p0.Op == 11)))] [74, 76] c fun _ c => ?_
  refine I0 c h (fun h => ?_) fun h => ?_
  ·refine S0 (Ry [(1, 0)] mix c fun _ _ c => ?_)
   obtain rfl := Option.some.inj h
   exact wp_ret (br (tr (Rt c () [] [])))
  refine P0 [] c fun _ c => ?_
  refine I0 c h (fun h => ?_) fun h => ?_
  ·obtain ⟨x19, hx19, h⟩ := bindE h
   refine S0 (Rz [(2, .eq (.bool x19))] [(1, 0)] mix c ⟨Pd.mono_eq, trivial⟩ (fun hG => ⟨fun e => Ncl c (fun hg => impl_isReg_ok hx19) trivial Try.call113 hG e, trivial⟩) fun _ _ c => ?_)
   obtain rfl := Option.some.inj h
   exact wp_ret (br (tr (Rt c () [] [])))
  refine S0 ?_
  refine P0 [] c fun _ c => ?_
  refine Mp (p0.Op == 12) [(91, .bool (p0.Op == 12))] [(91, .bool (p0.Op == 14))] [(91, .bool ((p0.Op == 12) || (p0.Op == 14)))] [91, 93] c fun _ c => ?_
  refine I0 c h (fun h => ?_) fun h => ?_
  ·refine S0 (Ry [(1, 0), (5, 0)] mix c fun _ _ c => ?_)
   obtain rfl := Option.some.inj h
   exact wp_ret (br (tr (Rt c () [] [])))
  refine K1 ?_
  refine bk (tn ?_)
  refine P0 [] c fun _ c => ?_
  obtain rfl := Option.some.inj h
  exact wp_ret (Rt c () [] [])
 refine P0 [] c fun _ c => ?_
 refine Mp (p0.Op == 6) [(61, .bool (p0.Op == 6))] [(61, .bool (p0.Op == 13))] [(61, .bool ((p0.Op == 6) || (p0.Op == 13)))] [61, 65] c fun _ c => ?_
 refine I0 c h (fun h => ?_) fun h => ?_
 ·obtain ⟨x20, hx20, h⟩ := bindE h
  refine S0 (Rz [(2, .eq (.bool x20))] [(1, 0), (5, 0)] mix c ⟨Pd.mono_eq, trivial⟩ (fun hG => ⟨fun e => Ncl c (fun hg => impl_isReg_ok hx20) trivial Try.call113 hG e, trivial⟩) fun _ _ c => ?_)
  obtain rfl := Option.some.inj h
  exact wp_ret (br (tr (Rt c () [] [])))
 refine S0 ?_
 refine P0 [] c fun _ c => ?_
 refine Mp (p0.Op == 9) [(74, .bool (p0.Op == 9))] [(74, .bool (p0.Op == 11))] [(74, .bool ((p0.Op == 9) || (p0.Op == 11)))] [74, 76] c fun _ c => ?_
 refine I0 c h (fun h => ?_) fun h => ?_
 ·refine S0 (Ry [(1, 0)] mix c fun _ _ c => ?_)
  obtain rfl := Option.some.inj h
  exact wp_ret (br (tr (Rt c () [] [])))
 refine P0 [] c fun _ c => ?_
 refine I0 c h (fun h => ?_) fun h => ?_
 ·obtain ⟨x21, hx21, h⟩ := bindE h
  refine S0 (Rz [(2, .eq (.bool x21))] [(1, 0)] mix c ⟨Pd.mono_eq, trivial⟩ (fun hG => ⟨fun e => Ncl c (fun hg => impl_isReg_ok hx21) trivial Try.call113 hG e, trivial⟩) fun _ _ c => ?_)
  obtain rfl := Option.some.inj h
  exact wp_ret (br (tr (Rt c () [] [])))
 refine S0 ?_
 refine P0 [] c fun _ c => ?_
 refine Mp (p0.Op == 12) [(91, .bool (p0.Op == 12))] [(91, .bool (p0.Op == 14))] [(91, .bool ((p0.Op == 12) || (p0.Op == 14)))] [91, 93] c fun _ c => ?_
 refine I0 c h (fun h => ?_) fun h => ?_
 ·refine S0 (Ry [(1, 0), (5, 0)] mix c fun _ _ c => ?_)
  obtain rfl := Option.some.inj h
  exact wp_ret (br (tr (Rt c () [] [])))
 refine K1 ?_
 refine bk (tn ?_)
 refine P0 [] c fun _ c => ?_
 obtain rfl := Option.some.inj h
 exact wp_ret (Rt c () [] [])

theorem impl_ProgramOk_ok {n : Nat} {p0 : D.Program} {ga0 : Option Addr} {gc1 : Nat} {r : Bool} (h : impl_ProgramOk n p0 = some r) : Con Try.prog 55 [.agg #[I p0.W, I p0.Mem, I p0.In, L ga0 p0.Code gc1]] [] [RO (L ga0 p0.Code gc1) p0.Code] fun (_ : Unit) => ([.bool r], [], []) := by
 unfold impl_ProgramOk at h
 refine En Try.func55 rfl Try.ntmps55 fun _ fr w c => ?_
 refine T0 ?_
 refine Ebx [I p0.W, I p0.Mem, I p0.In, L ga0 p0.Code gc1] c fun b1 _ _ c => ?_
 refine Fp [] 1 c fun _ c => ?_
 refine E0 ?_
 refine S0 ?_
 obtain ⟨x1, hx1, h⟩ := bindE h
 obtain ⟨x2, hx2, h⟩ := bindE h
 refine S0 (Rz [(5, .eq (.bool x1)), (22, .eq (.bool x2))] [(1, 0), (3, 0), (9, 0), (14, 0), (19, 0), (21, 0)] mix c ⟨Pd.mono_eq, Pd.mono_eq, trivial⟩ (fun hG => ⟨fun e => Ncl c (fun hg => impl_shapeOk_ok hx1) trivial Try.call89 hG e, fun e => Ncl c (fun hg => impl_WordOk_ok (iteF (gcF hg) hx2)) trivial Try.call90 hG e, trivial⟩) fun _ _ c => ?_)
 refine I0 c h (fun h => ?_) fun h => ?_
 ·refine P0 [] c fun _ c => ?_
  obtain rfl := Option.some.inj h
  exact wp_ret (tr (Rt c () [] []))
 refine K0 ?_
 refine S0 ?_
 refine S0 (Ry [(1, 0), (5, 0)] mix c fun _ _ c => ?_)
 refine I0 c h (fun h => ?_) fun h => ?_
 ·refine P0 [] c fun _ c => ?_
  obtain rfl := Option.some.inj h
  exact wp_ret (tr (Rt c () [] []))
 refine K0 ?_
 refine S0 ?_
 refine P0 [(1, 0)] c fun _ c => ?_
 obtain ⟨rl1, hit1, h⟩ := bindE h
 have hk1 := h
 refine LpR (fun s1  (_ : Unit) => ([(1, B b1 0), (39, L ga0 p0.Code gc1), (40, I (len p0.Code)), (41, I s1)], id, [])) (fun s  (_ : Unit) => ([], id, [])) hit1 c () (c.re [0] [0]) (fun s1 q1 _ _ _ c h hr1 => ?_) fun s1r _ _ _ hrl c => ?_
 ·refine P0 [] c fun _ c => ?_
  refine S0 (I0 c h (fun h => ?_) fun h => ?_)
  ·refine K0 ?_
   refine S0 (wp_block ?_)
   refine T0 ?_
   obtain ⟨x3, hx3, h⟩ := bindE h
   refine Eel c (.f 0) hx3 fun _ _ c => ?_
   refine Eal [I 0, I 0, I 0, I 0] c fun b2 _ _ c => ?_
   refine Ess 1 [I x3.Op, I x3.A, I x3.B, I x3.C] c fun _ c => ?_
   refine E0 ?_
   refine T0 ?_
   refine Fp [(0, 1), (2, 0), (4, 0)] 6 c fun _ c => ?_
   obtain ⟨x4, hx4, h⟩ := bindE h
   refine Ca [] c (impl_insOk_ok hx4) trivial Try.call91 fun _ _ _ c => ?_
   refine Fp [] 1 c fun _ c => ?_
   refine E0 ?_
   refine I0 c h (fun h => ?_) fun h => ?_
   ·refine P0 [] c fun _ c => ?_
    obtain rfl := hr1 _ (Option.some.inj h).symm
    obtain rfl := Option.some.inj hk1
    exact wp_ret (br (tr (tr (br (tr (Rt c () [] []))))))
   refine K1 ?_
   refine bk (tn ?_)
   refine P1 [] c fun _ c => ?_
   exact Nx h () (c.re [0] [0])
  refine wp_exit (te (te (be ?_)))
  obtain rfl := hr1 _ (Option.some.inj h).symm
  exact tn ⟨_, (), rfl, c.re [0] [0]⟩
 subst hrl
 refine P0 [] c fun _ c => ?_
 obtain rfl := Option.some.inj h
 exact wp_ret (Rt c () [] [])

theorem impl_isPlace_ok {p0 : D.Program} {p1 : Int} {ga0 : Option Addr} {gc1 : Nat} {r : Bool} (h : impl_isPlace p0 p1 = some r) : Con Try.prog 56 [.agg #[I p0.W, I p0.Mem, I p0.In, L ga0 p0.Code gc1], I p1] [] [RO (L ga0 p0.Code gc1) p0.Code] fun (_ : Unit) => ([.bool r], [], []) := by
 unfold impl_isPlace at h
 refine En Try.func56 rfl Try.ntmps56 fun _ fr w c => ?_
 refine T0 ?_
 refine Ebx [I p0.W, I p0.Mem, I p0.In, L ga0 p0.Code gc1] c fun b1 _ _ c => ?_
 refine Fp [] 1 c fun _ c => ?_
 refine E0 ?_
 refine S0 (Ry [(5, 0)] mix c fun _ _ c => ?_)
 obtain rfl := Option.some.inj h
 exact wp_ret (Rt c () [] [])

theorem impl_fuelOk_ok {p0 : Int} {r : Bool} (h : impl_fuelOk p0 = some r) : Con Try.prog 57 [I p0] [] [] fun (_ : Unit) => ([.bool r], [], []) := by
 unfold impl_fuelOk at h
 refine En Try.func57 rfl Try.ntmps57 fun _ fr w c => ?_
 refine P0 [] c fun _ c => ?_
 refine S0 (Ry [] mix c fun _ _ c => ?_)
 obtain rfl := Option.some.inj h
 exact wp_ret (Rt c () [] [])

theorem impl_turnsOk_ok {n : Nat} {p0 : List Int} {ga0 : Option Addr} {gc1 : Nat} {r : Bool} (h : impl_turnsOk n p0 = some r) : Con Try.prog 58 [L ga0 p0 gc1] [] [RO (L ga0 p0 gc1) p0] fun (_ : Unit) => ([.bool r], [], []) := by
 unfold impl_turnsOk at h
 refine En Try.func58 rfl Try.ntmps58 fun _ fr w c => ?_
 refine P0 [] c fun _ c => ?_
 refine S0 ?_
 refine P0 [] c fun _ c => ?_
 obtain ⟨rl1, hit1, h⟩ := bindE h
 have hk1 := h
 refine LpR (fun s1  (_ : Unit) => ([(5, L ga0 p0 gc1), (6, I (len p0)), (7, I s1)], id, [])) (fun s  (_ : Unit) => ([], id, [])) hit1 c () (c.re [] [0]) (fun s1 q1 _ _ _ c h hr1 => ?_) fun s1r _ _ _ hrl c => ?_
 ·refine P0 [] c fun _ c => ?_
  refine S0 (I0 c h (fun h => ?_) fun h => ?_)
  ·refine K0 ?_
   refine S0 (wp_block ?_)
   refine T0 ?_
   obtain ⟨x1, hx1, h⟩ := bindE h
   refine Eel c (.f 0) hx1 fun _ _ c => ?_
   refine Fp [] 1 c fun _ c => ?_
   refine E0 ?_
   refine S0 (Ry [] mix c fun _ _ c => ?_)
   refine I0 c h (fun h => ?_) fun h => ?_
   ·refine P0 [] c fun _ c => ?_
    obtain rfl := hr1 _ (Option.some.inj h).symm
    obtain rfl := Option.some.inj hk1
    exact wp_ret (br (tr (tr (br (tr (Rt c () [] []))))))
   refine K1 ?_
   refine bk (tn ?_)
   refine P1 [] c fun _ c => ?_
   exact Nx h () (c.re [] [0])
  refine wp_exit (te (te (be ?_)))
  obtain rfl := hr1 _ (Option.some.inj h).symm
  exact tn ⟨_, (), rfl, c.re [] [0]⟩
 subst hrl
 refine P0 [] c fun _ c => ?_
 obtain rfl := Option.some.inj h
 exact wp_ret (Rt c () [] [])

theorem impl_kidCount_ok {p0 : Int} {r : Int} (h : impl_kidCount p0 = some r) : Con Try.prog 132 [I p0] [] [] fun (_ : Unit) => ([I r], [], []) := by
 unfold impl_kidCount at h
 refine En Try.func132 rfl Try.ntmps132 fun _ fr w c => ?_
 refine P0 [] c fun _ c => ?_
 refine S0 (wp_block ?_)
 refine S0 (Ry [] mix c fun _ _ c => ?_)
 refine I0 c h (fun h => ?_) fun h => ?_
 ·refine P0 [] c fun _ c => ?_
  obtain rfl := Option.some.inj h
  exact wp_ret (br (tr (Rt c () [] [])))
 refine S0 (Ry [] mix c fun _ _ c => ?_)
 refine I0 c h (fun h => ?_) fun h => ?_
 ·refine P0 [] c fun _ c => ?_
  obtain rfl := Option.some.inj h
  exact wp_ret (br (tr (Rt c () [] [])))
 refine S0 (Ry [] mix c fun _ _ c => ?_)
 refine I0 c h (fun h => ?_) fun h => ?_
 ·refine P0 [] c fun _ c => ?_
  obtain rfl := Option.some.inj h
  exact wp_ret (br (tr (Rt c () [] [])))
 refine P0 [] c fun _ c => ?_
 refine I0 c h (fun h => ?_) fun h => ?_
 ·refine P0 [] c fun _ c => ?_
  obtain rfl := Option.some.inj h
  exact wp_ret (br (tr (Rt c () [] [])))
 refine K1 ?_
 refine bk (tn ?_)
 refine P0 [] c fun _ c => ?_
 obtain rfl := Option.some.inj h
 exact wp_ret (Rt c () [] [])

theorem impl_widthsFit_ok {p0 : D.Term} {ga0 : Option Addr} {gc1 : Nat} {r : Bool} (h : impl_widthsFit p0 = some r) : Con Try.prog 133 [.agg #[I p0.Op, I p0.W, I p0.N, Str.val p0.Name, L ga0 p0.Kids gc1]] [] [RO (L ga0 p0.Kids gc1) p0.Kids] fun (_ : Unit) => ([.bool r], [], []) := by
 unfold impl_widthsFit at h
 refine En Try.func133 rfl Try.ntmps133 fun _ fr w c => ?_
 refine T0 ?_
 refine Ebx [I p0.Op, I p0.W, I p0.N, Str.val p0.Name, L ga0 p0.Kids gc1] c fun b1 _ _ c => ?_
 refine Fp [] 1 c fun _ c => ?_
 refine E0 ?_
 refine P0 [(1, 0)] c fun _ c => ?_
 refine S0 (wp_block ?_)
 refine S0 (Ry [(1, 0), (5, 0)] mix c fun _ _ c => ?_)
 refine I0 c h (fun h => ?_) fun h => ?_
 ·refine P0 [] c fun _ c => ?_
  obtain rfl := Option.some.inj h
  exact wp_ret (br (tr (Rt c () [] [])))
 refine S0 (Ry [(1, 0), (5, 0)] mix c fun _ _ c => ?_)
 refine I0 c h (fun h => ?_) fun h => ?_
 ·obtain ⟨x1, hx1, h⟩ := bindE h
  refine S0 (Rz [(1, Pd.el (x1 : D.Term)), (2, Pd.fl (I x1.W)), (3, .eq (I x1.W))] [(5, 0)] mix c ⟨elM, flM, Pd.mono_eq, trivial⟩ (fun hG => ⟨fun e => Nid c (.f 0) (fun hg => hx1) hG e, fun e => Nfa c 1 (atN 1) fc65_1 hG e, fun e => Nlf c 2 (atN 2) hG e, trivial⟩) fun _ _ c => ?_)
  obtain rfl := Option.some.inj h
  exact wp_ret (br (tr (Rt c () [] [])))
 refine S0 (Ry [(1, 0), (5, 0)] mix c fun _ _ c => ?_)
 refine I0 c h (fun h => ?_) fun h => ?_
 ·obtain ⟨x2, hx2, h⟩ := bindE h
  obtain ⟨x3, hx3, h⟩ := bindE h
  refine S0 (Rz [(1, Pd.el (x2 : D.Term)), (2, Pd.fl (I x2.W)), (3, .eq (I x2.W)), (9, Pd.el (x3 : D.Term)), (10, Pd.fl (I x3.W)), (11, .eq (I x3.W))] [(5, 0), (13, 0)] mix c ⟨elM, flM, Pd.mono_eq, elM, flM, Pd.mono_eq, trivial⟩ (fun hG => ⟨fun e => Nid c (.f 0) (fun hg => hx2) hG e, fun e => Nfa c 1 (atN 1) fc65_1 hG e, fun e => Nlf c 2 (atN 2) hG e, fun e => Nid c (.f 0) (fun hg => (iteT (gcT hg) hx3)) hG e, fun e => Nfa c 9 (atN 9) fc65_1 hG e, fun e => Nlf c 10 (atN 10) hG e, trivial⟩) fun _ _ c => ?_)
  obtain rfl := Option.some.inj h
  exact wp_ret (br (tr (Rt c () [] [])))
 refine S0 (Ry [(1, 0), (5, 0)] mix c fun _ _ c => ?_)
 refine I0 c h (fun h => ?_) fun h => ?_
 ·obtain ⟨x4, hx4, h⟩ := bindE h
  obtain ⟨x5, hx5, h⟩ := bindE h
  refine S0 (Rz [(1, Pd.el (x4 : D.Term)), (2, Pd.fl (I x4.W)), (3, .eq (I x4.W)), (5, Pd.el (x5 : D.Term)), (6, Pd.fl (I x5.W)), (7, .eq (I x5.W))] [(11, 0)] mix c ⟨elM, flM, Pd.mono_eq, elM, flM, Pd.mono_eq, trivial⟩ (fun hG => ⟨fun e => Nid c (.f 0) (fun hg => hx4) hG e, fun e => Nfa c 1 (atN 1) fc65_1 hG e, fun e => Nlf c 2 (atN 2) hG e, fun e => Nid c (.f 0) (fun hg => hx5) hG e, fun e => Nfa c 5 (atN 5) fc65_1 hG e, fun e => Nlf c 6 (atN 6) hG e, trivial⟩) fun _ _ c => ?_)
  obtain rfl := Option.some.inj h
  exact wp_ret (br (tr (Rt c () [] [])))
 refine P0 [(1, 0)] c fun _ c => ?_
 refine I0 c h (fun h => ?_) fun h => ?_
 ·obtain ⟨x6, hx6, h⟩ := bindE h
  obtain ⟨x7, hx7, h⟩ := bindE h
  obtain ⟨x8, hx8, h⟩ := bindE h
  refine S0 (Rz [(1, Pd.el (x6 : D.Term)), (2, Pd.fl (I x6.W)), (3, .eq (I x6.W)), (7, Pd.el (x7 : D.Term)), (8, Pd.fl (I x7.W)), (9, .eq (I x7.W)), (16, Pd.el (x8 : D.Term)), (17, Pd.fl (I x8.W)), (18, .eq (I x8.W))] [(11, 0), (20, 0)] mix c ⟨elM, flM, Pd.mono_eq, elM, flM, Pd.mono_eq, elM, flM, Pd.mono_eq, trivial⟩ (fun hG => ⟨fun e => Nid c (.f 0) (fun hg => hx6) hG e, fun e => Nfa c 1 (atN 1) fc65_1 hG e, fun e => Nlf c 2 (atN 2) hG e, fun e => Nid c (.f 0) (fun hg => (iteT (gcT hg) hx7)) hG e, fun e => Nfa c 7 (atN 7) fc65_1 hG e, fun e => Nlf c 8 (atN 8) hG e, fun e => Nid c (.f 0) (fun hg => (iteT (gcT hg) hx8)) hG e, fun e => Nfa c 16 (atN 16) fc65_1 hG e, fun e => Nlf c 17 (atN 17) hG e, trivial⟩) fun _ _ c => ?_)
  obtain rfl := Option.some.inj h
  exact wp_ret (br (tr (Rt c () [] [])))
 refine P0 [(1, 0)] c fun _ c => ?_
 refine I0 c h (fun h => ?_) fun h => ?_
 ·obtain ⟨x9, hx9, h⟩ := bindE h
  obtain ⟨x10, hx10, h⟩ := bindE h
  refine S0 (Rz [(1, Pd.el (x9 : D.Term)), (2, Pd.fl (I x9.W)), (3, .eq (I x9.W)), (5, Pd.el (x10 : D.Term)), (6, Pd.fl (I x10.W)), (7, .eq (I x10.W))] [(10, 0)] mix c ⟨elM, flM, Pd.mono_eq, elM, flM, Pd.mono_eq, trivial⟩ (fun hG => ⟨fun e => Nid c (.f 0) (fun hg => hx9) hG e, fun e => Nfa c 1 (atN 1) fc65_1 hG e, fun e => Nlf c 2 (atN 2) hG e, fun e => Nid c (.f 0) (fun hg => hx10) hG e, fun e => Nfa c 5 (atN 5) fc65_1 hG e, fun e => Nlf c 6 (atN 6) hG e, trivial⟩) fun _ _ c => ?_)
  obtain rfl := Option.some.inj h
  exact wp_ret (br (tr (Rt c () [] [])))
 refine P0 [(1, 0)] c fun _ c => ?_
 refine I0 c h (fun h => ?_) fun h => ?_
 ·obtain ⟨x11, hx11, h⟩ := bindE h
  refine S0 (Rz [(7, Pd.el (x11 : D.Term)), (8, Pd.fl (I x11.W)), (9, .eq (I x11.W))] [(1, 0), (5, 0), (11, 0)] mix c ⟨elM, flM, Pd.mono_eq, trivial⟩ (fun hG => ⟨fun e => Nid c (.f 0) (fun hg => (iteT (gcT hg) hx11)) hG e, fun e => Nfa c 7 (atN 7) fc65_1 hG e, fun e => Nlf c 8 (atN 8) hG e, trivial⟩) fun _ _ c => ?_)
  obtain rfl := Option.some.inj h
  exact wp_ret (br (tr (Rt c () [] [])))
 refine K1 ?_
 refine bk (tn ?_)
 obtain ⟨x12, hx12, h⟩ := bindE h
 refine S0 (Rz [(1, Pd.el (x12 : D.Term)), (2, Pd.fl (I x12.W)), (3, .eq (I x12.W))] [(5, 0)] mix c ⟨elM, flM, Pd.mono_eq, trivial⟩ (fun hG => ⟨fun e => Nid c (.f 0) (fun hg => hx12) hG e, fun e => Nfa c 1 (atN 1) fc65_1 hG e, fun e => Nlf c 2 (atN 2) hG e, trivial⟩) fun _ _ c => ?_)
 obtain rfl := Option.some.inj h
 exact wp_ret (Rt c () [] [])

theorem impl_IsName_ok {n : Nat} {p0 : Str} {r : Bool} (h : impl_IsName n p0 = some r) : Con Try.prog 146 [Str.val p0] [] [] fun (_ : Unit) => ([.bool r], [], []) := by
 unfold impl_IsName at h
 refine En Try.func146 rfl Try.ntmps146 fun _ fr w c => ?_
 refine P0 [] c fun _ c => ?_
 refine S0 ?_
 refine S0 (Ry [] mix c fun _ _ c => ?_)
 refine I0 c h (fun h => ?_) fun h => ?_
 ·refine P0 [] c fun _ c => ?_
  obtain rfl := Option.some.inj h
  exact wp_ret (tr (Rt c () [] []))
 refine K0 ?_
 refine S0 ?_
 refine P0 [] c fun _ c => ?_
 obtain ⟨rl1, hit1, h⟩ := bindE h
 have hk1 := h
 refine LpR (fun s1  (_ : Unit) => ([(0, Str.val p0), (3, I s1)], id, [])) (fun s  (_ : Unit) => ([], id, [])) hit1 c () (c.re [] []) (fun s1 q1 _ _ _ c h hr1 => ?_) fun s1r _ _ _ hrl c => ?_
 ·refine S0 ?_
  refine P0 [] c fun _ c => ?_
  refine I0 c h (fun h => ?_) fun h => ?_
  ·refine K0 ?_
   refine S0 (wp_block ?_)
   obtain ⟨x1, hx1, h⟩ := bindE h
   obtain ⟨x2, hx2, h⟩ := bindE h
   refine S0 (Rz [(2, .eq (.int .u8 x1)), (7, .eq (.int .u8 x2))] [] mix c ⟨Pd.mono_eq, Pd.mono_eq, trivial⟩ (fun hG => ⟨fun e => Nix c (fun hg => hx1) hG e, fun e => Nix c (fun hg => (iteT (gcT hg) hx2)) hG e, trivial⟩) fun _ _ c => ?_)
   obtain ⟨x3, hx3, h⟩ := bindE h
   obtain ⟨x4, hx4, h⟩ := bindE h
   refine S0 (Rz [(2, .eq (.int .u8 x3)), (7, .eq (.int .u8 x4))] [] mix c ⟨Pd.mono_eq, Pd.mono_eq, trivial⟩ (fun hG => ⟨fun e => Nix c (fun hg => hx3) hG e, fun e => Nix c (fun hg => (iteT (gcT hg) hx4)) hG e, trivial⟩) fun _ _ c => ?_)
   refine T0 ?_
   refine Fp [] 1 c fun _ c => ?_
   refine Fp [] 1 c fun _ c => ?_
   refine Fp [] 1 c fun _ c => ?_
   rcases ite_split (b := (!((decide (x1 ≥ 97)) && (decide (x2 ≤ 122))))) h with ⟨hg1, h⟩ | ⟨hg1, h⟩
   ·replace c := c.eqs (v := .bool (!((decide (x1 ≥ 97)) && (decide (x2 ≤ 122))))) (u := .bool true) 42 (by rw [hg1])
    refine Gt c ?_
    dsimp only [List.set]
    refine Fp [] 1 c fun _ c => ?_
    refine Gt c ?_
    dsimp only [List.set]
    refine Fp [] 1 c fun _ c => ?_
    rcases ite_split (b := ((decide (x3 ≥ 48)) && (decide (x4 ≤ 57)))) h with ⟨hg2, h⟩ | ⟨hg2, h⟩
    ·replace c := c.eqs (v := .bool ((decide (x3 ≥ 48)) && (decide (x4 ≤ 57)))) (u := .bool true) 44 (by rw [hg2])
     refine Gt c ?_
     dsimp only [List.set]
     refine Fp [] 1 c fun _ c => ?_
     refine Gt c ?_
     dsimp only [List.set]
     refine Fp [] 1 c fun _ c => ?_
     refine Gt c ?_
     dsimp only [List.set]
     refine Epk (b := true) (v := .bool (decide (s1 > 0))) c fun _ c => ?_
     refine Gt c ?_
     dsimp only [List.set]
     refine Fp [] 1 c fun _ c => ?_
     refine Epk (b := true) (v := .bool (!(decide (s1 > 0)))) c fun _ c => ?_
     refine E0 ?_
     refine I0 c h (fun h => ?_) fun h => ?_
     ·refine P0 [] c fun _ c => ?_
      obtain rfl := hr1 _ (Option.some.inj h).symm
      obtain rfl := Option.some.inj hk1
      exact wp_ret (br (tr (tr (br (tr (Rt c () [] []))))))
     refine K1 ?_
     refine bk (tn ?_)
     refine P1 [] c fun _ c => ?_
     exact Nx h () (c.re [] [])
    replace c := c.eqs (v := .bool ((decide (x3 ≥ 48)) && (decide (x4 ≤ 57)))) (u := .bool false) 44 (by rw [hg2])
    refine Gs c fun _ c => ?_
    refine Gs c fun _ c => ?_
    refine Gt c ?_
    dsimp only [List.set]
    refine Epk (b := false) (v := .bool false) c fun _ c => ?_
    refine Gt c ?_
    dsimp only [List.set]
    refine Fp [] 1 c fun _ c => ?_
    refine Epk (b := true) (v := .bool (!false)) c fun _ c => ?_
    refine E0 ?_
    refine I0 c h (fun h => ?_) fun h => ?_
    ·refine P0 [] c fun _ c => ?_
     obtain rfl := hr1 _ (Option.some.inj h).symm
     obtain rfl := Option.some.inj hk1
     exact wp_ret (br (tr (tr (br (tr (Rt c () [] []))))))
    refine K1 ?_
    refine bk (tn ?_)
    refine P1 [] c fun _ c => ?_
    exact Nx h () (c.re [] [])
   replace c := c.eqs (v := .bool (!((decide (x1 ≥ 97)) && (decide (x2 ≤ 122))))) (u := .bool false) 42 (by rw [hg1])
   refine Gs c fun _ c => ?_
   refine Gs c fun _ c => ?_
   refine Gu c fun _ c => ?_
   refine Gu c fun _ c => ?_
   refine Gs c fun _ c => ?_
   refine Gs c fun _ c => ?_
   refine Epk (b := false) (v := .bool false) c fun _ c => ?_
   refine E0 ?_
   refine I0 c h (fun h => ?_) fun h => ?_
   ·refine P0 [] c fun _ c => ?_
    obtain rfl := hr1 _ (Option.some.inj h).symm
    obtain rfl := Option.some.inj hk1
    exact wp_ret (br (tr (tr (br (tr (Rt c () [] []))))))
   refine K1 ?_
   refine bk (tn ?_)
   refine P1 [] c fun _ c => ?_
   exact Nx h () (c.re [] [])
  refine wp_exit (te (te (be ?_)))
  obtain rfl := hr1 _ (Option.some.inj h).symm
  exact tn ⟨_, (), rfl, c.re [] []⟩
 subst hrl
 refine P0 [] c fun _ c => ?_
 obtain rfl := Option.some.inj h
 exact wp_ret (Rt c () [] [])

theorem impl_termCheck_variable_ok {n : Nat} {p0 : D.termCheck} {p1 : D.Term} {gb0 : Nat} {gu1 : Value} {ga2 : Option Addr} {gc3 : Nat} {r : Bool × D.termCheck} (h : impl_termCheck_variable n p0 p1 = some r) : Con Try.prog 134 [B gb0 0, .agg #[I p1.Op, I p1.W, I p1.N, Str.val p1.Name, L ga2 p1.Kids gc3]] [BX gb0 160 [I p0.count, gu1], OM map158 (gu1) p0.widths] [RO (L ga2 p1.Kids gc3) p1.Kids] fun (i : Value) => ([.bool r.1], [BX gb0 160 [I r.2.count, i], OM map158 (i) r.2.widths], []) := by
 unfold impl_termCheck_variable at h
 refine En Try.func134 rfl Try.ntmps134 fun _ fr w c => ?_
 refine T0 ?_
 refine Ebx [I p1.Op, I p1.W, I p1.N, Str.val p1.Name, L ga2 p1.Kids gc3] c fun b1 _ _ c => ?_
 refine Fp [] 1 c fun _ c => ?_
 refine E0 ?_
 refine S0 ?_
 refine T0 ?_
 refine Fp [(1, 1)] 2 c fun _ c => ?_
 obtain ⟨x1, hx1, h⟩ := bindE h
 refine Ca [] c (impl_IsName_ok hx1) trivial Try.call146 fun _ _ _ c => ?_
 refine Fp [] 1 c fun _ c => ?_
 refine E0 ?_
 refine I0 c h (fun h => ?_) fun h => ?_
 ·refine P0 [] c fun _ c => ?_
  obtain rfl := Option.some.inj h
  exact wp_ret (tr (Rt c (gu1) [0, 1] []))
 refine K0 ?_
 refine S0 ?_
 refine T0 ?_
 refine Fp [(3, 0)] 4 c fun _ c => ?_
 refine Enm 1 c fun _ c => ?_
 refine E0 ?_
 refine If c (b := (Option.isNone p0.widths)) (fun hb => ?_) fun hb => ?_
 ·replace h := iteT hb h
  obtain rfl := c.nom 1 hb
  replace c := c.dp [1]
  refine T1 ?_
  refine Fp [] 1 c fun _ c => ?_
  refine Emm map158 c fun b2 _ _ c => ?_
  refine Fp [] 2 c fun _ c => ?_
  refine Esb 0 1 (.map (some b2)) c fun _ c => ?_
  refine E0 ?_
  refine S0 ?_
  obtain ⟨x2, hx2, h⟩ := bindE h
  refine S0 (Rz [(6, .eq (.tuple #[I x2.1, .bool x2.2]))] [(3, 0), (5, 1)] mix c ⟨Pd.mono_eq, trivial⟩ (fun hG => ⟨fun e => Nmg2 2 c (fun hg => hx2) hG e, trivial⟩) fun _ _ c => ?_)
  refine P0 [] c fun _ c => ?_
  refine I0 c h (fun h => ?_) fun h => ?_
  ·refine P0 [(2, 1)] c fun _ c => ?_
   replace c := c.om 2
   obtain rfl := Option.some.inj h
   exact wp_ret (tr (Rt c (.map (some b2)) [0, 2] []))
  refine K0 ?_
  refine S0 (wp_ra mix (Rm 8 [] [(3, 0), (5, 1), (7, 1)] c trivial (fun ow hG => trivial) fun _ _ _ _ _ c => ?_))
  obtain ⟨x3, hx3, h⟩ := bindE h
  refine Emp 2 c hx3 fun _ c => ?_
  refine E0 ?_
  refine P0 [] c fun _ c => ?_
  replace c := c.om 2
  obtain rfl := Option.some.inj h
  exact wp_ret (Rt c (.map (some b2)) [0, 2] [])
 replace h := iteF hb h
 obtain ⟨b3, rfl, c⟩ := c.som 1 hb
 refine K0 ?_
 refine S0 ?_
 obtain ⟨x4, hx4, h⟩ := bindE h
 refine S0 (Rz [(6, .eq (.tuple #[I x4.1, .bool x4.2]))] [(3, 0), (5, 1)] mix c ⟨Pd.mono_eq, trivial⟩ (fun hG => ⟨fun e => Nmg2 1 c (fun hg => hx4) hG e, trivial⟩) fun _ _ c => ?_)
 refine P0 [] c fun _ c => ?_
 refine I0 c h (fun h => ?_) fun h => ?_
 ·refine P0 [(2, 1)] c fun _ c => ?_
  replace c := c.om 1
  obtain rfl := Option.some.inj h
  exact wp_ret (tr (Rt c (.map (some b3)) [0, 1] []))
 refine K0 ?_
 refine S0 (wp_ra mix (Rm 8 [] [(3, 0), (5, 1), (7, 1)] c trivial (fun ow hG => trivial) fun _ _ _ _ _ c => ?_))
 obtain ⟨x5, hx5, h⟩ := bindE h
 refine Emp 1 c hx5 fun _ c => ?_
 refine E0 ?_
 refine P0 [] c fun _ c => ?_
 replace c := c.om 1
 obtain rfl := Option.some.inj h
 exact wp_ret (Rt c (.map (some b3)) [0, 1] [])

set_option maxHeartbeats 4000000 in
theorem impl_termCheck_node_ok {n : Nat} : ∀ {p0 : D.termCheck} {p1 : D.Term} {gb0 : Nat} {gu1 : Value} {ga2 : Option Addr} {gc3 : Nat} {r : Bool × D.termCheck} (h : impl_termCheck_node n p0 p1 = some r), Con Try.prog 115 [B gb0 0, .agg #[I p1.Op, I p1.W, I p1.N, Str.val p1.Name, L ga2 p1.Kids gc3]] [BX gb0 160 [I p0.count, gu1], OM map158 (gu1) p0.widths] [RO (L ga2 p1.Kids gc3) p1.Kids] fun (i : Value) => ([.bool r.1], [BX gb0 160 [I r.2.count, i], OM map158 (i) r.2.widths], []) := by
 induction n with
 | zero => intro p0 p1 gb0 gu1 ga2 gc3 r h; simp [impl_termCheck_node] at h
 | succ n ih =>
 intro p0 p1 gb0 gu1 ga2 gc3 r h
 rw [impl_termCheck_node] at h
 refine En Try.func115 rfl Try.ntmps115 fun _ fr w c => ?_
 refine T0 ?_
 refine Ebx [I p1.Op, I p1.W, I p1.N, Str.val p1.Name, L ga2 p1.Kids gc3] c fun b1 _ _ c => ?_
 refine Fp [] 1 c fun _ c => ?_
 refine E0 ?_
 refine T0 ?_
 refine Fp [(3, 0)] 7 c fun _ c => ?_
 refine Esb 0 0 (I (w64 (p0.count + 1))) c fun _ c => ?_
 refine E0 ?_
 refine S0 ?_
 obtain ⟨x1, hx1, h⟩ := bindE h
 obtain ⟨x2, hx2, h⟩ := bindE h
 refine S0 (Rz [(8, .eq (.bool x1)), (17, .eq (I x2))] [(3, 0), (7, 1), (13, 1), (16, 1)] mix c ⟨Pd.mono_eq, Pd.mono_eq, trivial⟩ (fun hG => ⟨fun e => Ncl c (fun hg => impl_isWidth_ok (iteF (gcF hg) hx1)) trivial Try.call112 hG e, fun e => Ncl c (fun hg => impl_kidCount_ok (iteF (gcF hg) hx2)) trivial Try.call132 hG e, trivial⟩) fun _ _ c => ?_)
 refine I0 c h (fun h => ?_) fun h => ?_
 ·refine P0 [] c fun _ c => ?_
  obtain rfl := Option.some.inj h
  exact wp_ret (tr (Rt c (gu1) [0, 1] []))
 refine K0 ?_
 refine S0 ?_
 refine P0 [(1, 1)] c fun _ c => ?_
 obtain ⟨rl1, hit1, h⟩ := bindE h
 have hk1 := h
 refine LpR (fun s1  (_ : Unit) => ([(0, B gb0 0), (3, B b1 0), (36, I (len p1.Kids)), (37, I s1)], id, [])) (fun s  (_ : Unit) => ([(0, B gb0 0), (3, B b1 0)], id, [])) hit1 c () (c.re [0, 1, 2] [0]) (fun s1 q1 _ _ _ c h hr1 => ?_) fun s1r _ _ _ hrl c => ?_
 ·refine P0 [] c fun _ c => ?_
  refine S0 (I0 c h (fun h => ?_) fun h => ?_)
  ·refine K0 ?_
   refine S0 (wp_block ?_)
   refine P0 [] c fun _ c => ?_
   refine T0 ?_
   refine Fp [(1, 1)] 3 c fun _ c => ?_
   obtain ⟨x3, hx3, h⟩ := bindE h
   refine Eef c (.f 0) hx3 fc65_1 fun _ _ _ c => ?_
   obtain ⟨x4, hx4, h⟩ := bindE h
   refine Ca [] c (impl_isWidth_ok hx4) trivial Try.call112 fun _ _ _ c => ?_
   refine Fp [] 1 c fun _ c => ?_
   refine E0 ?_
   refine I0 c h (fun h => ?_) fun h => ?_
   ·refine P0 [] c fun _ c => ?_
    obtain rfl := hr1 _ (Option.some.inj h).symm
    obtain rfl := Option.some.inj hk1
    exact wp_ret (br (tr (tr (br (tr (Rt c (gu1) [0, 1] []))))))
   refine K1 ?_
   refine bk (tn ?_)
   refine P1 [] c fun _ c => ?_
   exact Nx h () (c.re [0, 1, 2] [0])
  refine wp_exit (te (te (be ?_)))
  obtain rfl := hr1 _ (Option.some.inj h).symm
  exact tn ⟨_, (), rfl, c.re [0, 1, 2] [0]⟩
 subst hrl
 refine S0 ?_
 refine T0 ?_
 refine Fp [(0, 1)] 1 c fun _ c => ?_
 obtain ⟨x5, hx5, h⟩ := bindE h
 refine Ca [] c (impl_widthsFit_ok hx5) ⟨.f 0, trivial⟩ Try.call133 fun _ _ _ c => ?_
 refine Fp [] 1 c fun _ c => ?_
 refine E0 ?_
 refine I0 c h (fun h => ?_) fun h => ?_
 ·refine P0 [] c fun _ c => ?_
  obtain rfl := Option.some.inj h
  exact wp_ret (tr (Rt c (gu1) [0, 1] []))
 refine K0 ?_
 refine S0 ?_
 obtain ⟨x6, hx6, h⟩ := bindE h
 refine S0 (Rz [(8, .eq (.bool x6))] [(1, 1), (5, 1), (7, 1)] mix c ⟨Pd.mono_eq, trivial⟩ (fun hG => ⟨fun e => Ncl c (fun hg => impl_WordOk_ok (iteT (gcT hg) hx6)) trivial Try.call90 hG e, trivial⟩) fun _ _ c => ?_)
 refine I0 c h (fun h => ?_) fun h => ?_
 ·refine P0 [] c fun _ c => ?_
  obtain rfl := Option.some.inj h
  exact wp_ret (tr (Rt c (gu1) [0, 1] []))
 refine K0 ?_
 refine S0 ?_
 refine S0 (Ry [(1, 1), (5, 1), (10, 1)] mix c fun _ _ c => ?_)
 refine I0 c h (fun h => ?_) fun h => ?_
 ·refine P0 [] c fun _ c => ?_
  obtain rfl := Option.some.inj h
  exact wp_ret (tr (Rt c (gu1) [0, 1] []))
 refine K0 ?_
 refine S0 ?_
 refine P0 [(1, 1)] c fun _ c => ?_
 refine I0 c h (fun h => ?_) fun h => ?_
 ·refine P0 [(1, 1)] c fun _ c => ?_
  refine I0 c h (fun h => ?_) fun h => ?_
  ·refine P0 [] c fun _ c => ?_
   obtain rfl := Option.some.inj h
   exact wp_ret (tr (Rt c (gu1) [0, 1] []))
  refine K0 ?_
  refine S0 ?_
  refine P0 [(1, 1)] c fun _ c => ?_
  obtain ⟨rl2, hit2, h⟩ := bindE h
  have hk2 := h
  refine LpR (fun s2  (i : Value) => ([(0, B gb0 0), (3, B b1 0), (88, I (len p1.Kids)), (89, I s2.1)], fun Γ => (Γ.set 0 (BX gb0 160 [I s2.2.1, i])).set 1 (OM map158 (i) s2.2.2), [])) (fun s  (i : Value) => ([], fun Γ => (Γ.set 0 (BX gb0 160 [I s.1, i])).set 1 (OM map158 (i) s.2), [])) hit2 c (gu1) (c.re [0, 1, 2] [0]) (fun s2 q2 i1 _ _ c h hr2 => ?_) fun s2r k1 _ _ hrl c => ?_
  ·refine P0 [] c fun _ c => ?_
   refine S0 (I0 c h (fun h => ?_) fun h => ?_)
   ·refine K0 ?_
    refine S0 (wp_block ?_)
    refine P0 [] c fun _ c => ?_
    refine T0 ?_
    refine Fp [(2, 1)] 4 c fun _ c => ?_
    obtain ⟨x7, hx7, h⟩ := bindE h
    refine Eem c (.f 0) hx7 fun _ u1 _ c => ?_
    obtain ⟨a1, c1, rfl, c⟩ := c.o_Term 1
    obtain ⟨x8, hx8, h⟩ := bindE h
    refine Ca [0, 1] c (ih hx8) ⟨.f 2, trivial⟩ Try.call115 fun i2 _ _ c => ?_
    refine Fp [] 1 c fun _ c => ?_
    refine E0 ?_
    refine I0 c h (fun h => ?_) fun h => ?_
    ·refine P0 [] c fun _ c => ?_
     obtain rfl := hr2 _ (Option.some.inj h).symm
     obtain rfl := Option.some.inj hk2
     exact wp_ret (br (tr (tr (br (tr (Rt c (i2) [1, 2] []))))))
    refine K1 ?_
    refine bk (tn ?_)
    refine P1 [] c fun _ c => ?_
    exact Nx h (i2) (c.re [1, 2, 0] [0])
   refine wp_exit (te (te (be ?_)))
   obtain rfl := hr2 _ (Option.some.inj h).symm
   exact tn ⟨_, (i1), rfl, c.re [0, 1, 2] [0]⟩
  subst hrl
  refine P0 [] c fun _ c => ?_
  obtain rfl := Option.some.inj h
  exact wp_ret (Rt c (k1) [0, 1] [])
 refine T0 ?_
 refine Fp [(1, 1)] 2 c fun _ c => ?_
 obtain ⟨x9, hx9, h⟩ := bindE h
 refine Ca [0, 1] c (impl_termCheck_variable_ok hx9) ⟨.f 0, trivial⟩ Try.call134 fun i3 _ _ c => ?_
 refine Fp [] 1 c fun _ c => ?_
 refine E0 ?_
 refine I0 c h (fun h => ?_) fun h => ?_
 ·refine P0 [] c fun _ c => ?_
  obtain rfl := Option.some.inj h
  exact wp_ret (tr (Rt c (i3) [1, 2] []))
 refine K0 ?_
 refine S0 ?_
 refine P0 [(1, 0)] c fun _ c => ?_
 obtain ⟨rl3, hit3, h⟩ := bindE h
 have hk3 := h
 refine LpR (fun s3  (i : Value) => ([(0, B gb0 0), (3, B b1 0), (88, I (len p1.Kids)), (89, I s3.1)], fun Γ => (Γ.set 1 (BX gb0 160 [I s3.2.1, i])).set 2 (OM map158 (i) s3.2.2), [])) (fun s  (i : Value) => ([], fun Γ => (Γ.set 1 (BX gb0 160 [I s.1, i])).set 2 (OM map158 (i) s.2), [])) hit3 c (i3) (c.re [0, 1, 2] [0]) (fun s3 q3 i4 _ _ c h hr3 => ?_) fun s3r k2 _ _ hrl c => ?_
 ·refine P0 [] c fun _ c => ?_
  refine S0 (I0 c h (fun h => ?_) fun h => ?_)
  ·refine K0 ?_
   refine S0 (wp_block ?_)
   refine P0 [] c fun _ c => ?_
   refine T0 ?_
   refine Fp [(2, 0)] 4 c fun _ c => ?_
   obtain ⟨x10, hx10, h⟩ := bindE h
   refine Eem c (.f 0) hx10 fun _ u2 _ c => ?_
   obtain ⟨a2, c2, rfl, c⟩ := c.o_Term 1
   replace c := c.gm [BX b1 65 [I p1.Op, I p1.W, I p1.N, Str.val p1.Name, L ga2 p1.Kids gc3], BX gb0 160 [I s3.2.1, i4], OM map158 (i4) s3.2.2]
   obtain ⟨x11, hx11, h⟩ := bindE h
   refine Ca [1, 2] c (ih hx11) ⟨.f 2, trivial⟩ Try.call115 fun i5 _ _ c => ?_
   refine Fp [] 1 c fun _ c => ?_
   refine E0 ?_
   refine I0 c h (fun h => ?_) fun h => ?_
   ·refine P0 [] c fun _ c => ?_
    obtain rfl := hr3 _ (Option.some.inj h).symm
    obtain rfl := Option.some.inj hk3
    exact wp_ret (br (tr (tr (br (tr (Rt c (i5) [1, 2] []))))))
   refine K1 ?_
   refine bk (tn ?_)
   refine P1 [] c fun _ c => ?_
   exact Nx h (i5) (c.re [0, 1, 2] [0])
  refine wp_exit (te (te (be ?_)))
  obtain rfl := hr3 _ (Option.some.inj h).symm
  exact tn ⟨_, (i4), rfl, c.re [0, 1, 2] [0]⟩
 subst hrl
 refine P0 [] c fun _ c => ?_
 obtain rfl := Option.some.inj h
 exact wp_ret (Rt c (k2) [1, 2] [])

theorem impl_TermOk_ok {n : Nat} {p0 : D.Term} {ga0 : Option Addr} {gc1 : Nat} {r : Bool} (h : impl_TermOk n p0 = some r) : Con Try.prog 92 [.agg #[I p0.Op, I p0.W, I p0.N, Str.val p0.Name, L ga0 p0.Kids gc1]] [] [RO (L ga0 p0.Kids gc1) p0.Kids] fun (_ : Unit) => ([.bool r], [], []) := by
 unfold impl_TermOk at h
 refine En Try.func92 rfl Try.ntmps92 fun _ fr w c => ?_
 refine T0 ?_
 refine Ebx [I p0.Op, I p0.W, I p0.N, Str.val p0.Name, L ga0 p0.Kids gc1] c fun b1 _ _ c => ?_
 refine Fp [] 1 c fun _ c => ?_
 refine E0 ?_
 refine T0 ?_
 refine Eal [I 0, .map none] c fun b2 _ _ c => ?_
 refine E0 ?_
 refine T0 ?_
 refine Fp [(0, 0)] 1 c fun _ c => ?_
 replace c := c.nilm map158
 obtain ⟨x1, hx1, h⟩ := bindE h
 refine Ca [1, 2] c (impl_termCheck_node_ok hx1) ⟨.f 0, trivial⟩ Try.call115 fun i1 _ _ c => ?_
 refine Fp [] 1 c fun _ c => ?_
 refine E0 ?_
 obtain rfl := Option.some.inj h
 exact wp_ret (Rt c () [] [])

theorem impl_termsOk_ok {n : Nat} {p0 : Int} {p1 : List D.Term} {ga0 : Option Addr} {gc1 : Nat} {r : Bool} (h : impl_termsOk n p0 p1 = some r) : Con Try.prog 59 [I p0, L ga0 p1 gc1] [] [RO (L ga0 p1 gc1) p1] fun (_ : Unit) => ([.bool r], [], []) := by
 unfold impl_termsOk at h
 refine En Try.func59 rfl Try.ntmps59 fun _ fr w c => ?_
 refine P0 [] c fun _ c => ?_
 refine S0 ?_
 refine P0 [] c fun _ c => ?_
 obtain ⟨rl1, hit1, h⟩ := bindE h
 have hk1 := h
 refine LpR (fun s1  (_ : Unit) => ([(0, I p0), (1, L ga0 p1 gc1), (7, I (len p1)), (8, I s1)], id, [])) (fun s  (_ : Unit) => ([], id, [])) hit1 c () (c.re [] [0]) (fun s1 q1 _ _ _ c h hr1 => ?_) fun s1r _ _ _ hrl c => ?_
 ·refine P0 [] c fun _ c => ?_
  refine S0 (I0 c h (fun h => ?_) fun h => ?_)
  ·refine K0 ?_
   refine S0 (wp_block ?_)
   refine P0 [] c fun _ c => ?_
   obtain ⟨x1, hx1, h⟩ := bindE h
   obtain ⟨x2, hx2, h⟩ := bindE h
   obtain ⟨x3, hx3, h⟩ := bindE h
   refine S0 (Rz [(2, Pd.el (x1 : D.Term)), (3, Pd.fl (I x1.W)), (4, .eq (I x1.W)), (10, Pd.el (x2 : D.Term)), (11, Pd.rd (x2 : D.Term)), (12, .eq (.bool x3))] [] mix c ⟨elM, flM, Pd.mono_eq, elM, rdM, Pd.mono_eq, trivial⟩ (fun hG => ⟨fun e => Nid c (.f 0) (fun hg => hx1) hG e, fun e => Nfa c 2 (atN 2) fc65_1 hG e, fun e => Nlf c 3 (atN 3) hG e, fun e => Nid c (.f 0) (fun hg => (iteF (gcF hg) hx2)) hG e, fun e => Nrd c 10 (atN 10) hG e, fun e => Ncd (Ψ := []) [.r 11 (fun v => RO v (x2 : D.Term))] c ⟨(atN 11), trivial⟩ trivial (fun hg _ _ ga gp => by obtain ⟨u1, _, rfl, g1, rfl⟩ := ga; obtain ⟨k1, rfl, f1⟩ := Opn.opn g1; exact ⟨_, f1, impl_TermOk_ok (iteF (gcF hg) hx3)⟩) Try.call92 hG e, trivial⟩) fun _ _ c => ?_)
   refine I0 c h (fun h => ?_) fun h => ?_
   ·refine P0 [] c fun _ c => ?_
    obtain rfl := hr1 _ (Option.some.inj h).symm
    obtain rfl := Option.some.inj hk1
    exact wp_ret (br (tr (tr (br (tr (Rt c () [] []))))))
   refine K1 ?_
   refine bk (tn ?_)
   refine P1 [] c fun _ c => ?_
   exact Nx h () (c.re [] [0])
  refine wp_exit (te (te (be ?_)))
  obtain rfl := hr1 _ (Option.some.inj h).symm
  exact tn ⟨_, (), rfl, c.re [] [0]⟩
 subst hrl
 refine P0 [] c fun _ c => ?_
 obtain rfl := Option.some.inj h
 exact wp_ret (Rt c () [] [])

theorem impl_PathOk_ok {n : Nat} {p0 : D.Program} {p1 : D.Path} {ga0 : Option Addr} {gc1 : Nat} {ga2 : Option Addr} {gc3 : Nat} {ga4 : Option Addr} {gc5 : Nat} {ga6 : Option Addr} {gc7 : Nat} {ga8 : Option Addr} {gc9 : Nat} {ga10 : Option Addr} {gc11 : Nat} {ga12 : Option Addr} {gc13 : Nat} {r : Bool} (h : impl_PathOk n p0 p1 = some r) : Con Try.prog 21 [.agg #[I p0.W, I p0.Mem, I p0.In, L ga0 p0.Code gc1], .agg #[I p1.Pc, L ga2 p1.Regs gc3, L ga4 p1.Mem gc5, L ga6 p1.Stack gc7, I p1.In, L ga8 p1.Out gc9, I p1.Code, I p1.Steps, L ga10 p1.Cond gc11, L ga12 p1.Turns gc13]] [] [RO (L ga0 p0.Code gc1) p0.Code, RO (L ga2 p1.Regs gc3) p1.Regs, RO (L ga4 p1.Mem gc5) p1.Mem, RO (L ga6 p1.Stack gc7) p1.Stack, RO (L ga8 p1.Out gc9) p1.Out, RO (L ga10 p1.Cond gc11) p1.Cond, RO (L ga12 p1.Turns gc13) p1.Turns] fun (_ : Unit) => ([.bool r], [], []) := by
 unfold impl_PathOk at h
 refine En Try.func21 rfl Try.ntmps21 fun _ fr w c => ?_
 refine T0 ?_
 refine Ebx [I p0.W, I p0.Mem, I p0.In, L ga0 p0.Code gc1] c fun b1 _ _ c => ?_
 refine Ebx [I p1.Pc, L ga2 p1.Regs gc3, L ga4 p1.Mem gc5, L ga6 p1.Stack gc7, I p1.In, L ga8 p1.Out gc9, I p1.Code, I p1.Steps, L ga10 p1.Cond gc11, L ga12 p1.Turns gc13] c fun b2 _ _ c => ?_
 refine Fp [] 1 c fun _ c => ?_
 refine E0 ?_
 refine S0 ?_
 obtain ⟨x1, hx1, h⟩ := bindE h
 obtain ⟨x2, hx2, h⟩ := bindE h
 refine S0 (Rz [(1, .eq (.bool x1)), (7, .eq (.bool x2))] [(0, 0), (4, 0), (6, 1), (12, 1), (18, 1), (21, 0)] mix c ⟨Pd.mono_eq, Pd.mono_eq, trivial⟩ (fun hG => ⟨fun e => Ncl c (fun hg => impl_ProgramOk_ok hx1) ⟨.f 0, trivial⟩ Try.call55 hG e, fun e => Ncl c (fun hg => impl_isPlace_ok (iteF (gcF hg) hx2)) ⟨.f 0, trivial⟩ Try.call56 hG e, trivial⟩) fun _ _ c => ?_)
 refine I0 c h (fun h => ?_) fun h => ?_
 ·refine P0 [] c fun _ c => ?_
  obtain rfl := Option.some.inj h
  exact wp_ret (tr (Rt c () [] []))
 refine K0 ?_
 refine S0 ?_
 refine S0 (Ry [(1, 1), (6, 1), (11, 1), (13, 0), (18, 1)] mix c fun _ _ c => ?_)
 refine I0 c h (fun h => ?_) fun h => ?_
 ·refine P0 [] c fun _ c => ?_
  obtain rfl := Option.some.inj h
  exact wp_ret (tr (Rt c () [] []))
 refine K0 ?_
 refine S0 ?_
 refine P0 [(1, 1)] c fun _ c => ?_
 obtain ⟨rl1, hit1, h⟩ := bindE h
 have hk1 := h
 refine LpR (fun s1  (_ : Unit) => ([(2, B b1 0), (3, B b2 0), (54, L ga6 p1.Stack gc7), (55, I (len p1.Stack)), (56, I s1)], id, [])) (fun s  (_ : Unit) => ([(2, B b1 0), (3, B b2 0)], id, [])) hit1 c () (c.re [0, 1] (rg 7)) (fun s1 q1 _ _ _ c h hr1 => ?_) fun s1r _ _ _ hrl c => ?_
 ·refine P0 [] c fun _ c => ?_
  refine S0 (I0 c h (fun h => ?_) fun h => ?_)
  ·refine K0 ?_
   refine S0 (wp_block ?_)
   refine T0 ?_
   obtain ⟨x3, hx3, h⟩ := bindE h
   refine Eel c (.f 3) hx3 fun _ _ c => ?_
   refine Fp [] 1 c fun _ c => ?_
   refine E0 ?_
   refine T0 ?_
   refine Fp [(0, 0)] 2 c fun _ c => ?_
   obtain ⟨x4, hx4, h⟩ := bindE h
   refine Ca [] c (impl_isPlace_ok hx4) ⟨.f 0, trivial⟩ Try.call56 fun _ _ _ c => ?_
   refine Fp [] 1 c fun _ c => ?_
   refine E0 ?_
   refine I0 c h (fun h => ?_) fun h => ?_
   ·refine P0 [] c fun _ c => ?_
    obtain rfl := hr1 _ (Option.some.inj h).symm
    obtain rfl := Option.some.inj hk1
    exact wp_ret (br (tr (tr (br (tr (Rt c () [] []))))))
   refine K1 ?_
   refine bk (tn ?_)
   refine P1 [] c fun _ c => ?_
   exact Nx h () (c.re [0, 1] (rg 7))
  refine wp_exit (te (te (be ?_)))
  obtain rfl := hr1 _ (Option.some.inj h).symm
  exact tn ⟨_, (), rfl, c.re [0, 1] (rg 7)⟩
 subst hrl
 refine S0 ?_
 obtain ⟨x5, hx5, h⟩ := bindE h
 refine S0 (Rz [(11, .eq (.bool x5))] [(1, 1), (5, 1), (10, 1)] mix c ⟨Pd.mono_eq, trivial⟩ (fun hG => ⟨fun e => Ncl c (fun hg => impl_fuelOk_ok (iteF (gcF hg) hx5)) trivial Try.call57 hG e, trivial⟩) fun _ _ c => ?_)
 refine I0 c h (fun h => ?_) fun h => ?_
 ·refine P0 [] c fun _ c => ?_
  obtain rfl := Option.some.inj h
  exact wp_ret (tr (Rt c () [] []))
 refine K0 ?_
 refine S0 ?_
 obtain ⟨x6, hx6, h⟩ := bindE h
 refine S0 (Rz [(13, .eq (.bool x6))] [(1, 1), (6, 1), (12, 1)] mix c ⟨Pd.mono_eq, trivial⟩ (fun hG => ⟨fun e => Ncl c (fun hg => impl_turnsOk_ok (iteF (gcF hg) hx6)) ⟨.f 6, trivial⟩ Try.call58 hG e, trivial⟩) fun _ _ c => ?_)
 refine I0 c h (fun h => ?_) fun h => ?_
 ·refine P0 [] c fun _ c => ?_
  obtain rfl := Option.some.inj h
  exact wp_ret (tr (Rt c () [] []))
 refine K0 ?_
 obtain ⟨x7, hx7, h⟩ := bindE h
 obtain ⟨x8, hx8, h⟩ := bindE h
 obtain ⟨x9, hx9, h⟩ := bindE h
 obtain ⟨x10, hx10, h⟩ := bindE h
 refine S0 (Rz [(4, .eq (.bool x7)), (10, .eq (.bool x8)), (17, .eq (.bool x9)), (22, .eq (.bool x10))] [(1, 0), (3, 1), (7, 0), (9, 1), (14, 0), (16, 1), (21, 1)] mix c ⟨Pd.mono_eq, Pd.mono_eq, Pd.mono_eq, Pd.mono_eq, trivial⟩ (fun hG => ⟨fun e => Ncl c (fun hg => impl_termsOk_ok hx7) ⟨.f 1, trivial⟩ Try.call59 hG e, fun e => Ncl c (fun hg => impl_termsOk_ok (iteT (gcT hg) hx8)) ⟨.f 2, trivial⟩ Try.call59 hG e, fun e => Ncl c (fun hg => impl_termsOk_ok (iteT (gcT hg) hx9)) ⟨.f 4, trivial⟩ Try.call59 hG e, fun e => Ncl c (fun hg => impl_termsOk_ok (iteT (gcT hg) hx10)) ⟨.f 5, trivial⟩ Try.call59 hG e, trivial⟩) fun _ _ c => ?_)
 obtain rfl := Option.some.inj h
 exact wp_ret (Rt c () [] [])

theorem laws_eqIns_ok {p0 : D.Ins} {p1 : D.Ins} {r : Bool} (h : laws_eqIns p0 p1 = some r) : Con Try.prog 93 [.agg #[I p0.Op, I p0.A, I p0.B, I p0.C], .agg #[I p1.Op, I p1.A, I p1.B, I p1.C]] [] [] fun (_ : Unit) => ([.bool r], [], []) := by
 unfold laws_eqIns at h
 refine En Try.func93 rfl Try.ntmps93 fun _ fr w c => ?_
 refine T0 ?_
 refine Ebx [I p0.Op, I p0.A, I p0.B, I p0.C] c fun b1 _ _ c => ?_
 refine Ebx [I p1.Op, I p1.A, I p1.B, I p1.C] c fun b2 _ _ c => ?_
 refine Fp [] 1 c fun _ c => ?_
 refine E0 ?_
 refine S0 ?_
 refine P0 [(1, 0), (3, 1)] c fun _ c => ?_
 refine I0 c h (fun h => ?_) fun h => ?_
 ·refine P0 [] c fun _ c => ?_
  obtain rfl := Option.some.inj h
  exact wp_ret (tr (Rt c () [] []))
 refine K0 ?_
 refine S0 ?_
 refine P0 [(1, 0), (3, 1)] c fun _ c => ?_
 refine I0 c h (fun h => ?_) fun h => ?_
 ·refine P0 [] c fun _ c => ?_
  obtain rfl := Option.some.inj h
  exact wp_ret (tr (Rt c () [] []))
 refine K0 ?_
 refine S0 ?_
 refine P0 [(1, 0), (3, 1)] c fun _ c => ?_
 refine I0 c h (fun h => ?_) fun h => ?_
 ·refine P0 [] c fun _ c => ?_
  obtain rfl := Option.some.inj h
  exact wp_ret (tr (Rt c () [] []))
 refine K0 ?_
 refine S0 ?_
 refine P0 [(1, 0), (3, 1)] c fun _ c => ?_
 refine I0 c h (fun h => ?_) fun h => ?_
 ·refine P0 [] c fun _ c => ?_
  obtain rfl := Option.some.inj h
  exact wp_ret (tr (Rt c () [] []))
 refine K0 ?_
 refine P0 [] c fun _ c => ?_
 obtain rfl := Option.some.inj h
 exact wp_ret (Rt c () [] [])

theorem laws_eqInsS_ok {n : Nat} {p0 : List D.Ins} {p1 : List D.Ins} {ga0 : Option Addr} {gc1 : Nat} {ga2 : Option Addr} {gc3 : Nat} {r : Bool} (h : laws_eqInsS n p0 p1 = some r) : Con Try.prog 60 [L ga0 p0 gc1, L ga2 p1 gc3] [] [RO (L ga0 p0 gc1) p0, RO (L ga2 p1 gc3) p1] fun (_ : Unit) => ([.bool r], [], []) := by
 unfold laws_eqInsS at h
 refine En Try.func60 rfl Try.ntmps60 fun _ fr w c => ?_
 refine P0 [] c fun _ c => ?_
 refine S0 ?_
 refine P0 [] c fun _ c => ?_
 refine I0 c h (fun h => ?_) fun h => ?_
 ·refine P0 [] c fun _ c => ?_
  obtain rfl := Option.some.inj h
  exact wp_ret (tr (Rt c () [] []))
 refine K0 ?_
 refine S0 ?_
 refine P0 [] c fun _ c => ?_
 obtain ⟨rl1, hit1, h⟩ := bindE h
 have hk1 := h
 refine LpR (fun s1  (_ : Unit) => ([(0, L ga0 p0 gc1), (1, L ga2 p1 gc3), (5, I s1)], id, [])) (fun s  (_ : Unit) => ([], id, [])) hit1 c () (c.re [] [0, 1]) (fun s1 q1 _ _ _ c h hr1 => ?_) fun s1r _ _ _ hrl c => ?_
 ·refine S0 ?_
  refine P0 [] c fun _ c => ?_
  refine I0 c h (fun h => ?_) fun h => ?_
  ·refine K0 ?_
   refine S0 (wp_block ?_)
   obtain ⟨x1, hx1, h⟩ := bindE h
   obtain ⟨x2, hx2, h⟩ := bindE h
   obtain ⟨x3, hx3, h⟩ := bindE h
   refine S0 (Rz [(2, Pd.el (x1 : D.Ins)), (3, .eq (.agg #[I x1.Op, I x1.A, I x1.B, I x1.C])), (6, Pd.el (x2 : D.Ins)), (7, .eq (.agg #[I x2.Op, I x2.A, I x2.B, I x2.C])), (8, .eq (.bool x3))] [] mix c ⟨elM, Pd.mono_eq, elM, Pd.mono_eq, Pd.mono_eq, trivial⟩ (fun hG => ⟨fun e => Nid c (.f 0) (fun hg => hx1) hG e, fun e => Nld c 2 (q := x1) (atN 2) hG e, fun e => Nid c (.f 1) (fun hg => hx2) hG e, fun e => Nld c 6 (q := x2) (atN 6) hG e, fun e => Ncl c (fun hg => laws_eqIns_ok hx3) trivial Try.call93 hG e, trivial⟩) fun _ _ c => ?_)
   refine I0 c h (fun h => ?_) fun h => ?_
   ·refine P0 [] c fun _ c => ?_
    obtain rfl := hr1 _ (Option.some.inj h).symm
    obtain rfl := Option.some.inj hk1
    exact wp_ret (br (tr (tr (br (tr (Rt c () [] []))))))
   refine K1 ?_
   refine bk (tn ?_)
   refine P1 [] c fun _ c => ?_
   exact Nx h () (c.re [] [0, 1])
  refine wp_exit (te (te (be ?_)))
  obtain rfl := hr1 _ (Option.some.inj h).symm
  exact tn ⟨_, (), rfl, c.re [] [0, 1]⟩
 subst hrl
 refine P0 [] c fun _ c => ?_
 obtain rfl := Option.some.inj h
 exact wp_ret (Rt c () [] [])

theorem laws_eqProgram_ok {n : Nat} {p0 : D.Program} {p1 : D.Program} {ga0 : Option Addr} {gc1 : Nat} {ga2 : Option Addr} {gc3 : Nat} {r : Bool} (h : laws_eqProgram n p0 p1 = some r) : Con Try.prog 22 [.agg #[I p0.W, I p0.Mem, I p0.In, L ga0 p0.Code gc1], .agg #[I p1.W, I p1.Mem, I p1.In, L ga2 p1.Code gc3]] [] [RO (L ga0 p0.Code gc1) p0.Code, RO (L ga2 p1.Code gc3) p1.Code] fun (_ : Unit) => ([.bool r], [], []) := by
 unfold laws_eqProgram at h
 refine En Try.func22 rfl Try.ntmps22 fun _ fr w c => ?_
 refine T0 ?_
 refine Ebx [I p0.W, I p0.Mem, I p0.In, L ga0 p0.Code gc1] c fun b1 _ _ c => ?_
 refine Ebx [I p1.W, I p1.Mem, I p1.In, L ga2 p1.Code gc3] c fun b2 _ _ c => ?_
 refine Fp [] 1 c fun _ c => ?_
 refine E0 ?_
 refine S0 ?_
 refine P0 [(1, 0), (3, 1)] c fun _ c => ?_
 refine I0 c h (fun h => ?_) fun h => ?_
 ·refine P0 [] c fun _ c => ?_
  obtain rfl := Option.some.inj h
  exact wp_ret (tr (Rt c () [] []))
 refine K0 ?_
 refine S0 ?_
 refine P0 [(1, 0), (3, 1)] c fun _ c => ?_
 refine I0 c h (fun h => ?_) fun h => ?_
 ·refine P0 [] c fun _ c => ?_
  obtain rfl := Option.some.inj h
  exact wp_ret (tr (Rt c () [] []))
 refine K0 ?_
 refine S0 ?_
 refine P0 [(1, 0), (3, 1)] c fun _ c => ?_
 refine I0 c h (fun h => ?_) fun h => ?_
 ·refine P0 [] c fun _ c => ?_
  obtain rfl := Option.some.inj h
  exact wp_ret (tr (Rt c () [] []))
 refine K0 ?_
 refine S0 ?_
 refine T0 ?_
 refine Fp [(1, 0), (3, 1)] 4 c fun _ c => ?_
 obtain ⟨x1, hx1, h⟩ := bindE h
 refine Ca [] c (laws_eqInsS_ok hx1) ⟨.f 0, .f 1, trivial⟩ Try.call60 fun _ _ _ c => ?_
 refine Fp [] 1 c fun _ c => ?_
 refine E0 ?_
 refine I0 c h (fun h => ?_) fun h => ?_
 ·refine P0 [] c fun _ c => ?_
  obtain rfl := Option.some.inj h
  exact wp_ret (tr (Rt c () [] []))
 refine K0 ?_
 refine P0 [] c fun _ c => ?_
 obtain rfl := Option.some.inj h
 exact wp_ret (Rt c () [] [])

theorem laws_eqTerm_laws_eqTermS_rec (n : Nat) : (∀ {p0 : D.Term} {p1 : D.Term} {ga0 : Option Addr} {gc1 : Nat} {ga2 : Option Addr} {gc3 : Nat} {r : Bool} (h : laws_eqTerm n p0 p1 = some r), Con Try.prog 26 [.agg #[I p0.Op, I p0.W, I p0.N, Str.val p0.Name, L ga0 p0.Kids gc1], .agg #[I p1.Op, I p1.W, I p1.N, Str.val p1.Name, L ga2 p1.Kids gc3]] [] [RO (L ga0 p0.Kids gc1) p0.Kids, RO (L ga2 p1.Kids gc3) p1.Kids] fun (_ : Unit) => ([.bool r], [], [])) ∧
    (∀ {p0 : List D.Term} {p1 : List D.Term} {ga0 : Option Addr} {gc1 : Nat} {ga2 : Option Addr} {gc3 : Nat} {r : Bool} (h : laws_eqTermS n p0 p1 = some r), Con Try.prog 61 [L ga0 p0 gc1, L ga2 p1 gc3] [] [RO (L ga0 p0 gc1) p0, RO (L ga2 p1 gc3) p1] fun (_ : Unit) => ([.bool r], [], [])) := by
 induction n with
 | zero => exact ⟨by intro p0 p1 ga0 gc1 ga2 gc3 r h; simp [laws_eqTerm] at h, by intro p0 p1 ga0 gc1 ga2 gc3 r h; simp [laws_eqTermS] at h⟩
 | succ n ih =>
 obtain ⟨ih0, ih1⟩ := ih
 refine ⟨?_, ?_⟩
 · intro p0 p1 ga0 gc1 ga2 gc3 r h
   rw [laws_eqTerm] at h
   refine En Try.func26 rfl Try.ntmps26 fun _ fr w c => ?_
   refine T0 ?_
   refine Ebx [I p0.Op, I p0.W, I p0.N, Str.val p0.Name, L ga0 p0.Kids gc1] c fun b1 _ _ c => ?_
   refine Ebx [I p1.Op, I p1.W, I p1.N, Str.val p1.Name, L ga2 p1.Kids gc3] c fun b2 _ _ c => ?_
   refine Fp [] 1 c fun _ c => ?_
   refine E0 ?_
   refine S0 ?_
   refine P0 [(1, 0), (3, 1)] c fun _ c => ?_
   refine I0 c h (fun h => ?_) fun h => ?_
   ·refine P0 [] c fun _ c => ?_
    obtain rfl := Option.some.inj h
    exact wp_ret (tr (Rt c () [] []))
   refine K0 ?_
   refine S0 ?_
   refine P0 [(1, 0), (3, 1)] c fun _ c => ?_
   refine I0 c h (fun h => ?_) fun h => ?_
   ·refine P0 [] c fun _ c => ?_
    obtain rfl := Option.some.inj h
    exact wp_ret (tr (Rt c () [] []))
   refine K0 ?_
   refine S0 ?_
   refine P0 [(1, 0), (3, 1)] c fun _ c => ?_
   refine I0 c h (fun h => ?_) fun h => ?_
   ·refine P0 [] c fun _ c => ?_
    obtain rfl := Option.some.inj h
    exact wp_ret (tr (Rt c () [] []))
   refine K0 ?_
   refine S0 ?_
   refine P0 [(1, 0), (3, 1)] c fun _ c => ?_
   refine I0 c h (fun h => ?_) fun h => ?_
   ·refine P0 [] c fun _ c => ?_
    obtain rfl := Option.some.inj h
    exact wp_ret (tr (Rt c () [] []))
   refine K0 ?_
   refine S0 ?_
   refine T0 ?_
   refine Fp [(1, 0), (3, 1)] 4 c fun _ c => ?_
   obtain ⟨x1, hx1, h⟩ := bindE h
   refine Ca [] c (ih1 hx1) ⟨.f 0, .f 1, trivial⟩ Try.call61 fun _ _ _ c => ?_
   refine Fp [] 1 c fun _ c => ?_
   refine E0 ?_
   refine I0 c h (fun h => ?_) fun h => ?_
   ·refine P0 [] c fun _ c => ?_
    obtain rfl := Option.some.inj h
    exact wp_ret (tr (Rt c () [] []))
   refine K0 ?_
   refine P0 [] c fun _ c => ?_
   obtain rfl := Option.some.inj h
   exact wp_ret (Rt c () [] [])
 · intro p0 p1 ga0 gc1 ga2 gc3 r h
   rw [laws_eqTermS] at h
   refine En Try.func61 rfl Try.ntmps61 fun _ fr w c => ?_
   refine P0 [] c fun _ c => ?_
   refine S0 ?_
   refine P0 [] c fun _ c => ?_
   refine I0 c h (fun h => ?_) fun h => ?_
   ·refine P0 [] c fun _ c => ?_
    obtain rfl := Option.some.inj h
    exact wp_ret (tr (Rt c () [] []))
   refine K0 ?_
   refine S0 ?_
   refine P0 [] c fun _ c => ?_
   obtain ⟨rl1, hit1, h⟩ := bindE h
   have hk1 := h
   refine LpR (fun s1  (_ : Unit) => ([(0, L ga0 p0 gc1), (1, L ga2 p1 gc3), (5, I s1)], id, [])) (fun s  (_ : Unit) => ([], id, [])) hit1 c () (c.re [] [0, 1]) (fun s1 q1 _ _ _ c h hr1 => ?_) fun s1r _ _ _ hrl c => ?_
   ·refine S0 ?_
    refine P0 [] c fun _ c => ?_
    refine I0 c h (fun h => ?_) fun h => ?_
    ·refine K0 ?_
     refine S0 (wp_block ?_)
     obtain ⟨x1, hx1, h⟩ := bindE h
     obtain ⟨x2, hx2, h⟩ := bindE h
     obtain ⟨x3, hx3, h⟩ := bindE h
     refine S0 (Rz [(2, Pd.el (x1 : D.Term)), (3, Pd.rd (x1 : D.Term)), (6, Pd.el (x2 : D.Term)), (7, Pd.rd (x2 : D.Term)), (8, .eq (.bool x3))] [] mix c ⟨elM, rdM, elM, rdM, Pd.mono_eq, trivial⟩ (fun hG => ⟨fun e => Nid c (.f 0) (fun hg => hx1) hG e, fun e => Nrd c 2 (atN 2) hG e, fun e => Nid c (.f 1) (fun hg => hx2) hG e, fun e => Nrd c 6 (atN 6) hG e, fun e => Ncd (Ψ := []) [.r 3 (fun v => RO v (x1 : D.Term)), .r 7 (fun v => RO v (x2 : D.Term))] c ⟨(atN 3), (atN 7), trivial⟩ trivial (fun hg _ _ ga gp => by obtain ⟨u1, _, rfl, g1, u2, _, rfl, g2, rfl⟩ := ga; obtain ⟨k1, rfl, f1⟩ := Opn.opn g1; obtain ⟨k2, rfl, f2⟩ := Opn.opn g2; exact ⟨_, (f1.join f2), ih0 hx3⟩) Try.call26 hG e, trivial⟩) fun _ _ c => ?_)
     refine I0 c h (fun h => ?_) fun h => ?_
     ·refine P0 [] c fun _ c => ?_
      obtain rfl := hr1 _ (Option.some.inj h).symm
      obtain rfl := Option.some.inj hk1
      exact wp_ret (br (tr (tr (br (tr (Rt c () [] []))))))
     refine K1 ?_
     refine bk (tn ?_)
     refine P1 [] c fun _ c => ?_
     exact Nx h () (c.re [] [0, 1])
    refine wp_exit (te (te (be ?_)))
    obtain rfl := hr1 _ (Option.some.inj h).symm
    exact tn ⟨_, (), rfl, c.re [] [0, 1]⟩
   subst hrl
   refine P0 [] c fun _ c => ?_
   obtain rfl := Option.some.inj h
   exact wp_ret (Rt c () [] [])
theorem laws_eqTerm_ok {n : Nat} : ∀ {p0 : D.Term} {p1 : D.Term} {ga0 : Option Addr} {gc1 : Nat} {ga2 : Option Addr} {gc3 : Nat} {r : Bool} (h : laws_eqTerm n p0 p1 = some r), Con Try.prog 26 [.agg #[I p0.Op, I p0.W, I p0.N, Str.val p0.Name, L ga0 p0.Kids gc1], .agg #[I p1.Op, I p1.W, I p1.N, Str.val p1.Name, L ga2 p1.Kids gc3]] [] [RO (L ga0 p0.Kids gc1) p0.Kids, RO (L ga2 p1.Kids gc3) p1.Kids] fun (_ : Unit) => ([.bool r], [], []) := (laws_eqTerm_laws_eqTermS_rec n).1
theorem laws_eqTermS_ok {n : Nat} : ∀ {p0 : List D.Term} {p1 : List D.Term} {ga0 : Option Addr} {gc1 : Nat} {ga2 : Option Addr} {gc3 : Nat} {r : Bool} (h : laws_eqTermS n p0 p1 = some r), Con Try.prog 61 [L ga0 p0 gc1, L ga2 p1 gc3] [] [RO (L ga0 p0 gc1) p0, RO (L ga2 p1 gc3) p1] fun (_ : Unit) => ([.bool r], [], []) := (laws_eqTerm_laws_eqTermS_rec n).2

theorem laws_eqIntS_ok {n : Nat} {p0 : List Int} {p1 : List Int} {ga0 : Option Addr} {gc1 : Nat} {ga2 : Option Addr} {gc3 : Nat} {r : Bool} (h : laws_eqIntS n p0 p1 = some r) : Con Try.prog 62 [L ga0 p0 gc1, L ga2 p1 gc3] [] [RO (L ga0 p0 gc1) p0, RO (L ga2 p1 gc3) p1] fun (_ : Unit) => ([.bool r], [], []) := by
 unfold laws_eqIntS at h
 refine En Try.func62 rfl Try.ntmps62 fun _ fr w c => ?_
 refine P0 [] c fun _ c => ?_
 refine S0 ?_
 refine P0 [] c fun _ c => ?_
 refine I0 c h (fun h => ?_) fun h => ?_
 ·refine P0 [] c fun _ c => ?_
  obtain rfl := Option.some.inj h
  exact wp_ret (tr (Rt c () [] []))
 refine K0 ?_
 refine S0 ?_
 refine P0 [] c fun _ c => ?_
 obtain ⟨rl1, hit1, h⟩ := bindE h
 have hk1 := h
 refine LpR (fun s1  (_ : Unit) => ([(0, L ga0 p0 gc1), (1, L ga2 p1 gc3), (5, I s1)], id, [])) (fun s  (_ : Unit) => ([], id, [])) hit1 c () (c.re [] [0, 1]) (fun s1 q1 _ _ _ c h hr1 => ?_) fun s1r _ _ _ hrl c => ?_
 ·refine S0 ?_
  refine P0 [] c fun _ c => ?_
  refine I0 c h (fun h => ?_) fun h => ?_
  ·refine K0 ?_
   refine S0 (wp_block ?_)
   obtain ⟨x1, hx1, h⟩ := bindE h
   obtain ⟨x2, hx2, h⟩ := bindE h
   refine S0 (Rz [(2, Pd.el (x1 : Int)), (3, .eq (I x1)), (6, Pd.el (x2 : Int)), (7, .eq (I x2))] [] mix c ⟨elM, Pd.mono_eq, elM, Pd.mono_eq, trivial⟩ (fun hG => ⟨fun e => Nid c (.f 0) (fun hg => hx1) hG e, fun e => Nld c 2 (q := x1) (atN 2) hG e, fun e => Nid c (.f 1) (fun hg => hx2) hG e, fun e => Nld c 6 (q := x2) (atN 6) hG e, trivial⟩) fun _ _ c => ?_)
   refine I0 c h (fun h => ?_) fun h => ?_
   ·refine P0 [] c fun _ c => ?_
    obtain rfl := hr1 _ (Option.some.inj h).symm
    obtain rfl := Option.some.inj hk1
    exact wp_ret (br (tr (tr (br (tr (Rt c () [] []))))))
   refine K1 ?_
   refine bk (tn ?_)
   refine P1 [] c fun _ c => ?_
   exact Nx h () (c.re [] [0, 1])
  refine wp_exit (te (te (be ?_)))
  obtain rfl := hr1 _ (Option.some.inj h).symm
  exact tn ⟨_, (), rfl, c.re [] [0, 1]⟩
 subst hrl
 refine P0 [] c fun _ c => ?_
 obtain rfl := Option.some.inj h
 exact wp_ret (Rt c () [] [])

theorem laws_eqPath_ok {n : Nat} {p0 : D.Path} {p1 : D.Path} {ga0 : Option Addr} {gc1 : Nat} {ga2 : Option Addr} {gc3 : Nat} {ga4 : Option Addr} {gc5 : Nat} {ga6 : Option Addr} {gc7 : Nat} {ga8 : Option Addr} {gc9 : Nat} {ga10 : Option Addr} {gc11 : Nat} {ga12 : Option Addr} {gc13 : Nat} {ga14 : Option Addr} {gc15 : Nat} {ga16 : Option Addr} {gc17 : Nat} {ga18 : Option Addr} {gc19 : Nat} {ga20 : Option Addr} {gc21 : Nat} {ga22 : Option Addr} {gc23 : Nat} {r : Bool} (h : laws_eqPath n p0 p1 = some r) : Con Try.prog 23 [.agg #[I p0.Pc, L ga0 p0.Regs gc1, L ga2 p0.Mem gc3, L ga4 p0.Stack gc5, I p0.In, L ga6 p0.Out gc7, I p0.Code, I p0.Steps, L ga8 p0.Cond gc9, L ga10 p0.Turns gc11], .agg #[I p1.Pc, L ga12 p1.Regs gc13, L ga14 p1.Mem gc15, L ga16 p1.Stack gc17, I p1.In, L ga18 p1.Out gc19, I p1.Code, I p1.Steps, L ga20 p1.Cond gc21, L ga22 p1.Turns gc23]] [] [RO (L ga0 p0.Regs gc1) p0.Regs, RO (L ga2 p0.Mem gc3) p0.Mem, RO (L ga4 p0.Stack gc5) p0.Stack, RO (L ga6 p0.Out gc7) p0.Out, RO (L ga8 p0.Cond gc9) p0.Cond, RO (L ga10 p0.Turns gc11) p0.Turns, RO (L ga12 p1.Regs gc13) p1.Regs, RO (L ga14 p1.Mem gc15) p1.Mem, RO (L ga16 p1.Stack gc17) p1.Stack, RO (L ga18 p1.Out gc19) p1.Out, RO (L ga20 p1.Cond gc21) p1.Cond, RO (L ga22 p1.Turns gc23) p1.Turns] fun (_ : Unit) => ([.bool r], [], []) := by
 unfold laws_eqPath at h
 refine En Try.func23 rfl Try.ntmps23 fun _ fr w c => ?_
 refine T0 ?_
 refine Ebx [I p0.Pc, L ga0 p0.Regs gc1, L ga2 p0.Mem gc3, L ga4 p0.Stack gc5, I p0.In, L ga6 p0.Out gc7, I p0.Code, I p0.Steps, L ga8 p0.Cond gc9, L ga10 p0.Turns gc11] c fun b1 _ _ c => ?_
 refine Ebx [I p1.Pc, L ga12 p1.Regs gc13, L ga14 p1.Mem gc15, L ga16 p1.Stack gc17, I p1.In, L ga18 p1.Out gc19, I p1.Code, I p1.Steps, L ga20 p1.Cond gc21, L ga22 p1.Turns gc23] c fun b2 _ _ c => ?_
 refine Fp [] 1 c fun _ c => ?_
 refine E0 ?_
 refine S0 ?_
 refine P0 [(1, 0), (3, 1)] c fun _ c => ?_
 refine I0 c h (fun h => ?_) fun h => ?_
 ·refine P0 [] c fun _ c => ?_
  obtain rfl := Option.some.inj h
  exact wp_ret (tr (Rt c () [] []))
 refine K0 ?_
 refine S0 ?_
 refine T0 ?_
 refine Fp [(1, 0), (3, 1)] 4 c fun _ c => ?_
 obtain ⟨x1, hx1, h⟩ := bindE h
 refine Ca [] c (laws_eqTermS_ok hx1) ⟨.f 0, .f 6, trivial⟩ Try.call61 fun _ _ _ c => ?_
 refine Fp [] 1 c fun _ c => ?_
 refine E0 ?_
 refine I0 c h (fun h => ?_) fun h => ?_
 ·refine P0 [] c fun _ c => ?_
  obtain rfl := Option.some.inj h
  exact wp_ret (tr (Rt c () [] []))
 refine K0 ?_
 refine S0 ?_
 refine T0 ?_
 refine Fp [(1, 0), (3, 1)] 4 c fun _ c => ?_
 obtain ⟨x2, hx2, h⟩ := bindE h
 refine Ca [] c (laws_eqTermS_ok hx2) ⟨.f 1, .f 7, trivial⟩ Try.call61 fun _ _ _ c => ?_
 refine Fp [] 1 c fun _ c => ?_
 refine E0 ?_
 refine I0 c h (fun h => ?_) fun h => ?_
 ·refine P0 [] c fun _ c => ?_
  obtain rfl := Option.some.inj h
  exact wp_ret (tr (Rt c () [] []))
 refine K0 ?_
 refine S0 ?_
 refine T0 ?_
 refine Fp [(1, 0), (3, 1)] 4 c fun _ c => ?_
 obtain ⟨x3, hx3, h⟩ := bindE h
 refine Ca [] c (laws_eqIntS_ok hx3) ⟨.f 2, .f 8, trivial⟩ Try.call62 fun _ _ _ c => ?_
 refine Fp [] 1 c fun _ c => ?_
 refine E0 ?_
 refine I0 c h (fun h => ?_) fun h => ?_
 ·refine P0 [] c fun _ c => ?_
  obtain rfl := Option.some.inj h
  exact wp_ret (tr (Rt c () [] []))
 refine K0 ?_
 refine S0 ?_
 refine P0 [(1, 0), (3, 1)] c fun _ c => ?_
 refine I0 c h (fun h => ?_) fun h => ?_
 ·refine P0 [] c fun _ c => ?_
  obtain rfl := Option.some.inj h
  exact wp_ret (tr (Rt c () [] []))
 refine K0 ?_
 refine S0 ?_
 refine T0 ?_
 refine Fp [(1, 0), (3, 1)] 4 c fun _ c => ?_
 replace c := c.gm [BX b1 59 [I p0.Pc, L ga0 p0.Regs gc1, L ga2 p0.Mem gc3, L ga4 p0.Stack gc5, I p0.In, L ga6 p0.Out gc7, I p0.Code, I p0.Steps, L ga8 p0.Cond gc9, L ga10 p0.Turns gc11], BX b2 59 [I p1.Pc, L ga12 p1.Regs gc13, L ga14 p1.Mem gc15, L ga16 p1.Stack gc17, I p1.In, L ga18 p1.Out gc19, I p1.Code, I p1.Steps, L ga20 p1.Cond gc21, L ga22 p1.Turns gc23]]
 obtain ⟨x4, hx4, h⟩ := bindE h
 refine Ca [] c (laws_eqTermS_ok hx4) ⟨.f 3, .f 9, trivial⟩ Try.call61 fun _ _ _ c => ?_
 refine Fp [] 1 c fun _ c => ?_
 refine E0 ?_
 refine I0 c h (fun h => ?_) fun h => ?_
 ·refine P0 [] c fun _ c => ?_
  obtain rfl := Option.some.inj h
  exact wp_ret (tr (Rt c () [] []))
 refine K0 ?_
 refine S0 ?_
 refine P0 [(1, 0), (3, 1)] c fun _ c => ?_
 refine I0 c h (fun h => ?_) fun h => ?_
 ·refine P0 [] c fun _ c => ?_
  obtain rfl := Option.some.inj h
  exact wp_ret (tr (Rt c () [] []))
 refine K0 ?_
 refine S0 ?_
 refine P0 [(1, 0), (3, 1)] c fun _ c => ?_
 refine I0 c h (fun h => ?_) fun h => ?_
 ·refine P0 [] c fun _ c => ?_
  obtain rfl := Option.some.inj h
  exact wp_ret (tr (Rt c () [] []))
 refine K0 ?_
 refine S0 ?_
 refine T0 ?_
 refine Fp [(1, 0), (3, 1)] 4 c fun _ c => ?_
 obtain ⟨x5, hx5, h⟩ := bindE h
 refine Ca [] c (laws_eqTermS_ok hx5) ⟨.f 4, .f 10, trivial⟩ Try.call61 fun _ _ _ c => ?_
 refine Fp [] 1 c fun _ c => ?_
 refine E0 ?_
 refine I0 c h (fun h => ?_) fun h => ?_
 ·refine P0 [] c fun _ c => ?_
  obtain rfl := Option.some.inj h
  exact wp_ret (tr (Rt c () [] []))
 refine K0 ?_
 refine S0 ?_
 refine T0 ?_
 refine Fp [(1, 0), (3, 1)] 4 c fun _ c => ?_
 obtain ⟨x6, hx6, h⟩ := bindE h
 refine Ca [] c (laws_eqIntS_ok hx6) ⟨.f 5, .f 11, trivial⟩ Try.call62 fun _ _ _ c => ?_
 refine Fp [] 1 c fun _ c => ?_
 refine E0 ?_
 refine I0 c h (fun h => ?_) fun h => ?_
 ·refine P0 [] c fun _ c => ?_
  obtain rfl := Option.some.inj h
  exact wp_ret (tr (Rt c () [] []))
 refine K0 ?_
 refine P0 [] c fun _ c => ?_
 obtain rfl := Option.some.inj h
 exact wp_ret (Rt c () [] [])
end Go.Proofs.Ytdkfoghhjkjjlaa
