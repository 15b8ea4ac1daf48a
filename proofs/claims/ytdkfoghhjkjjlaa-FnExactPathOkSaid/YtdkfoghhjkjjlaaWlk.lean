/- The walks, printed by a program. -/
import Derived.Test.YtdkfoghhjkjjlaaWlkA
set_option linter.unusedVariables false
set_option maxRecDepth 100000
namespace Go.Proofs.Ytdkfoghhjkjjlaa
open Go.GL Go.Maps Go.WideMaps
set_option maxHeartbeats 4000000 in
theorem laws_FnExactPathOk_ok {n : Nat} {p0 : D.Program} {p1 : D.Path} {ga0 : Option Addr} {gc1 : Nat} {ga2 : Option Addr} {gc3 : Nat} {ga4 : Option Addr} {gc5 : Nat} {ga6 : Option Addr} {gc7 : Nat} {ga8 : Option Addr} {gc9 : Nat} {ga10 : Option Addr} {gc11 : Nat} {ga12 : Option Addr} {gc13 : Nat} {r : Bool} (h : laws_FnExactPathOk n p0 p1 = some r) : Con Try.prog 4 [.agg #[I p0.W, I p0.Mem, I p0.In, L ga0 p0.Code gc1], .agg #[I p1.Pc, L ga2 p1.Regs gc3, L ga4 p1.Mem gc5, L ga6 p1.Stack gc7, I p1.In, L ga8 p1.Out gc9, I p1.Code, I p1.Steps, L ga10 p1.Cond gc11, L ga12 p1.Turns gc13]] [] [RO (L ga0 p0.Code gc1) p0.Code, RO (L ga2 p1.Regs gc3) p1.Regs, RO (L ga4 p1.Mem gc5) p1.Mem, RO (L ga6 p1.Stack gc7) p1.Stack, RO (L ga8 p1.Out gc9) p1.Out, RO (L ga10 p1.Cond gc11) p1.Cond, RO (L ga12 p1.Turns gc13) p1.Turns] fun (_ : Unit) => ([.bool r], [], []) := by
 unfold laws_FnExactPathOk at h
 refine En Try.func4 rfl Try.ntmps4 fun _ fr w c => ?_
 refine T0 ?_
 refine Ebx [I p0.W, I p0.Mem, I p0.In, L ga0 p0.Code gc1] c fun b1 _ _ c => ?_
 refine Ebx [I p1.Pc, L ga2 p1.Regs gc3, L ga4 p1.Mem gc5, L ga6 p1.Stack gc7, I p1.In, L ga8 p1.Out gc9, I p1.Code, I p1.Steps, L ga10 p1.Cond gc11, L ga12 p1.Turns gc13] c fun b2 _ _ c => ?_
 refine Fp [] 1 c fun _ c => ?_
 refine E0 ?_
 refine P0 [] c fun _ c => ?_
 refine T0 ?_
 refine Fp [(0, 0)] 2 c fun _ c => ?_
 obtain ⟨x1, hx1, h⟩ := bindE h
 refine Ca [] c (laws_szProgram_ok hx1) ⟨.f 0, trivial⟩ Try.call16 fun _ _ _ c => ?_
 refine Fp [] 1 c fun _ c => ?_
 refine E0 ?_
 refine S0 ?_
 refine P0 [] c fun _ c => ?_
 refine I0 c h (fun h => ?_) fun h => ?_
 ·refine P0 [] c fun _ c => ?_
  obtain rfl := Option.some.inj h
  exact wp_ret (tr (Rt c () [] []))
 refine K0 ?_
 refine T0 ?_
 refine Fp [(0, 1)] 2 c fun _ c => ?_
 obtain ⟨x2, hx2, h⟩ := bindE h
 refine Ca [] c (laws_szPath_ok hx2) ⟨.f 1, .f 2, .f 3, .f 4, .f 5, .f 6, trivial⟩ Try.call17 fun _ _ _ c => ?_
 refine Fp [] 1 c fun _ c => ?_
 refine E0 ?_
 refine S0 ?_
 refine P0 [] c fun _ c => ?_
 refine I0 c h (fun h => ?_) fun h => ?_
 ·refine P0 [] c fun _ c => ?_
  obtain rfl := Option.some.inj h
  exact wp_ret (tr (Rt c () [] []))
 refine K0 ?_
 obtain ⟨x3, hx3, h⟩ := bindE h
 refine S0 (wp_ra mix (Rm 3 [(1, Pd.nw c.wd 1 (fun i : Option Addr × Nat => .agg #[I x3.W, I x3.Mem, I x3.In, L i.1 x3.Code i.2]) (fun i => HP.sep [sl132 (L i.1 x3.Code i.2) x3.Code]))] [(0, 0), (2, 1)] c ⟨nwM, trivial⟩ (fun ow hG => ⟨fun e => Ncn c (fun hg => laws_toProgram_ok hx3) ⟨.f 0, trivial⟩ Try.call19 hG e, trivial⟩) fun ow _ _ hE hc c1 => ?_))
 obtain ⟨i1, hi1⟩ := hE.nw 1 21
 replace c := Cx.newt c hc c1 [(1, 21, _, _)] ⟨hi1, trivial⟩
 replace c := c.flat 2
 obtain ⟨x4, hx4, h⟩ := bindE h
 refine Cf [] c (laws_toPath_ok hx4) ⟨.f 1, .f 2, .f 3, .f 4, .f 5, .f 6, trivial⟩ Try.call20 fun i2 _ _ c => ?_
 replace c := c.gm [BX b1 46 [I p0.W, I p0.Mem, I p0.In, L ga0 p0.Code gc1], BX b2 49 [I p1.Pc, L ga2 p1.Regs gc3, L ga4 p1.Mem gc5, L ga6 p1.Stack gc7, I p1.In, L ga8 p1.Out gc9, I p1.Code, I p1.Steps, L ga10 p1.Cond gc11, L ga12 p1.Turns gc13], sl132 (L i1.1 x3.Code i1.2) x3.Code]
 obtain ⟨x5, hx5, h⟩ := bindE h
 refine Ca [] c (spec_PathOk_ok hx5) ⟨.g 2, .f 7, .f 8, .f 9, .f 10, .f 11, .f 12, trivial⟩ Try.call18 fun _ _ _ c => ?_
 refine Fp [] 1 c fun _ c => ?_
 refine E0 ?_
 refine T0 ?_
 refine Fp [(0, 0)] 1 c fun _ c => ?_
 obtain ⟨x6, hx6, h⟩ := bindE h
 refine Ca [] c (laws_toProgram_ok hx6) ⟨.f 0, trivial⟩ Try.call19 fun i3 _ _ c => ?_
 refine Eal [I 0, I 0, I 0, L none ([] : List D.Ins) 0] c fun b3 _ _ c => ?_
 refine Ess 4 [I x6.W, I x6.Mem, I x6.In, L i3.1 x6.Code i3.2] c fun _ c => ?_
 refine E0 ?_
 refine T0 ?_
 refine Fp [(0, 1)] 1 c fun _ c => ?_
 obtain ⟨x7, hx7, h⟩ := bindE h
 refine Cf [] c (laws_toPath_ok hx7) ⟨.f 1, .f 2, .f 3, .f 4, .f 5, .f 6, trivial⟩ Try.call20 fun i4 _ _ c => ?_
 replace c := c.gm [BX b1 46 [I p0.W, I p0.Mem, I p0.In, L ga0 p0.Code gc1], BX b2 49 [I p1.Pc, L ga2 p1.Regs gc3, L ga4 p1.Mem gc5, L ga6 p1.Stack gc7, I p1.In, L ga8 p1.Out gc9, I p1.Code, I p1.Steps, L ga10 p1.Cond gc11, L ga12 p1.Turns gc13], sl132 (L i1.1 x3.Code i1.2) x3.Code, sl132 (L i3.1 x6.Code i3.2) x6.Code, BX b3 55 [I x6.W, I x6.Mem, I x6.In, L i3.1 x6.Code i3.2]]
 refine Eal [I 0, L none ([] : List D.Term) 0, L none ([] : List D.Term) 0, L none ([] : List Int) 0, I 0, L none ([] : List D.Term) 0, I 0, I 0, L none ([] : List D.Term) 0, L none ([] : List Int) 0] c fun b4 _ _ c => ?_
 refine Ess 5 [I x7.Pc, L i4.1 x7.Regs i4.2.1, L i4.2.2.1 x7.Mem i4.2.2.2.1, L i4.2.2.2.2.1 x7.Stack i4.2.2.2.2.2.1, I x7.In, L i4.2.2.2.2.2.2.1 x7.Out i4.2.2.2.2.2.2.2.1, I x7.Code, I x7.Steps, L i4.2.2.2.2.2.2.2.2.1 x7.Cond i4.2.2.2.2.2.2.2.2.2.1, L i4.2.2.2.2.2.2.2.2.2.2.1 x7.Turns i4.2.2.2.2.2.2.2.2.2.2.2] c fun _ c => ?_
 refine E0 ?_
 refine T0 ?_
 refine Fp [(0, 2), (1, 3)] 2 c fun _ c => ?_
 obtain ⟨x8, hx8, h⟩ := bindE h
 refine Ca [] c (impl_PathOk_ok hx8) ⟨.g 3, .f 13, .f 14, .f 15, .f 16, .f 17, .f 18, trivial⟩ Try.call21 fun _ _ _ c => ?_
 refine Fp [] 1 c fun _ c => ?_
 refine E0 ?_
 refine S0 ?_
 refine P0 [] c fun _ c => ?_
 refine I0 c h (fun h => ?_) fun h => ?_
 ·refine P0 [] c fun _ c => ?_
  obtain rfl := Option.some.inj h
  exact wp_ret (tr (Rt c () [] []))
 refine K0 ?_
 refine S0 ?_
 obtain ⟨x9, hx9, h⟩ := bindE h
 obtain ⟨x10, hx10, h⟩ := bindE h
 refine S0 (As mix c fun _ c => ?_)
 refine any_node (fuel := 4) [0, 1] (by kernel_rfl) (by simp) ⟨?_, ?_, trivial⟩
 · refine op_of _ rfl rfl ?_
   refine Fp [(0, 2)] 1 c fun _ c => ?_
   refine E0 ?_
   refine any_node (fuel := 3) [1] (by kernel_rfl) (by simp) ⟨?_, trivial⟩
   · refine op_of _ rfl rfl ?_
     refine Fp [(0, 0)] 1 c fun _ c => ?_
     refine E0 ?_
     refine any_node (fuel := 2) [2] (by kernel_rfl) (by simp) ⟨?_, trivial⟩
     · refine op_of _ rfl rfl ?_
       refine Ca [] c (laws_toProgram_ok hx9) ⟨.f 0, trivial⟩ Try.call19 fun i5 _ _ c => ?_
       refine E0 ?_
       refine any_node (fuel := 1) [3] (by kernel_rfl) (by simp) ⟨?_, trivial⟩
       · refine op_of _ rfl rfl ?_
         refine Ca [] c (laws_eqProgram_ok hx10) ⟨.g 3, .g 6, trivial⟩ Try.call22 fun _ _ _ c => ?_
         refine E0 ?_
         refine any_node (fuel := 0) [4] (by kernel_rfl) (by simp) ⟨?_, trivial⟩
         · refine op_of _ rfl rfl ?_
           refine Fp [] 1 c fun _ c => ?_
           refine E0 ?_
           refine any_leaf (by kernel_rfl) (tn ?_)
           refine I0 c h (fun h => ?_) fun h => ?_
           ·refine P0 [] c fun _ c => ?_
            obtain rfl := Option.some.inj h
            exact wp_ret (tr (Rt c () [] []))
           refine K0 ?_
           refine S0 ?_
           obtain ⟨x11, hx11, h⟩ := bindE h
           obtain ⟨x12, hx12, h⟩ := bindE h
           refine S0 (As mix c fun _ c => ?_)
           refine any_node (fuel := 4) [0, 1] (by kernel_rfl) (by simp) ⟨?_, ?_, trivial⟩
           · refine op_of _ rfl rfl ?_
             refine Fp [(0, 3)] 1 c fun _ c => ?_
             refine E0 ?_
             refine any_node (fuel := 3) [1] (by kernel_rfl) (by simp) ⟨?_, trivial⟩
             · refine op_of _ rfl rfl ?_
               refine Fp [(0, 1)] 1 c fun _ c => ?_
               refine E0 ?_
               refine any_node (fuel := 2) [2] (by kernel_rfl) (by simp) ⟨?_, trivial⟩
               · refine op_of _ rfl rfl ?_
                 replace c := c.gm [BX b1 46 [I p0.W, I p0.Mem, I p0.In, L ga0 p0.Code gc1], BX b2 49 [I p1.Pc, L ga2 p1.Regs gc3, L ga4 p1.Mem gc5, L ga6 p1.Stack gc7, I p1.In, L ga8 p1.Out gc9, I p1.Code, I p1.Steps, L ga10 p1.Cond gc11, L ga12 p1.Turns gc13], sl132 (L i1.1 x3.Code i1.2) x3.Code, sl132 (L i3.1 x6.Code i3.2) x6.Code, BX b3 55 [I x6.W, I x6.Mem, I x6.In, L i3.1 x6.Code i3.2], BX b4 59 [I x7.Pc, L i4.1 x7.Regs i4.2.1, L i4.2.2.1 x7.Mem i4.2.2.2.1, L i4.2.2.2.2.1 x7.Stack i4.2.2.2.2.2.1, I x7.In, L i4.2.2.2.2.2.2.1 x7.Out i4.2.2.2.2.2.2.2.1, I x7.Code, I x7.Steps, L i4.2.2.2.2.2.2.2.2.1 x7.Cond i4.2.2.2.2.2.2.2.2.2.1, L i4.2.2.2.2.2.2.2.2.2.2.1 x7.Turns i4.2.2.2.2.2.2.2.2.2.2.2], sl132 (L i5.1 x9.Code i5.2) x9.Code]
                 refine Cf [] c (laws_toPath_ok hx11) ⟨.f 1, .f 2, .f 3, .f 4, .f 5, .f 6, trivial⟩ Try.call20 fun i6 _ _ c => ?_
                 refine E0 ?_
                 refine any_node (fuel := 1) [3] (by kernel_rfl) (by simp) ⟨?_, trivial⟩
                 · refine op_of _ rfl rfl ?_
                   refine Ca [] c (laws_eqPath_ok hx12) ⟨.f 13, .f 14, .f 15, .f 16, .f 17, .f 18, .f 19, .f 20, .f 21, .f 22, .f 23, .f 24, trivial⟩ Try.call23 fun _ _ _ c => ?_
                   refine E0 ?_
                   refine any_node (fuel := 0) [4] (by kernel_rfl) (by simp) ⟨?_, trivial⟩
                   · refine op_of _ rfl rfl ?_
                     refine Fp [] 1 c fun _ c => ?_
                     refine E0 ?_
                     refine any_leaf (by kernel_rfl) (tn ?_)
                     refine I0 c h (fun h => ?_) fun h => ?_
                     ·refine P0 [] c fun _ c => ?_
                      obtain rfl := Option.some.inj h
                      exact wp_ret (tr (Rt c () [] []))
                     refine K0 ?_
                     refine P0 [] c fun _ c => ?_
                     obtain rfl := Option.some.inj h
                     exact wp_ret (Rt c () [] [])
           · refine op_of _ rfl rfl ?_
             refine Fp [(0, 1)] 1 c fun _ c => ?_
             refine E0 ?_
             refine any_node (fuel := 3) [0, 2] (by kernel_rfl) (by simp) ⟨?_, ?_, trivial⟩
             · refine op_of _ rfl rfl ?_
               refine Fp [(0, 3)] 1 c fun _ c => ?_
               refine E0 ?_
               refine any_node (fuel := 2) [2] (by kernel_rfl) (by simp) ⟨?_, trivial⟩
               · refine op_of _ rfl rfl ?_
                 replace c := c.gm [BX b1 46 [I p0.W, I p0.Mem, I p0.In, L ga0 p0.Code gc1], BX b2 49 [I p1.Pc, L ga2 p1.Regs gc3, L ga4 p1.Mem gc5, L ga6 p1.Stack gc7, I p1.In, L ga8 p1.Out gc9, I p1.Code, I p1.Steps, L ga10 p1.Cond gc11, L ga12 p1.Turns gc13], sl132 (L i1.1 x3.Code i1.2) x3.Code, sl132 (L i3.1 x6.Code i3.2) x6.Code, BX b3 55 [I x6.W, I x6.Mem, I x6.In, L i3.1 x6.Code i3.2], BX b4 59 [I x7.Pc, L i4.1 x7.Regs i4.2.1, L i4.2.2.1 x7.Mem i4.2.2.2.1, L i4.2.2.2.2.1 x7.Stack i4.2.2.2.2.2.1, I x7.In, L i4.2.2.2.2.2.2.1 x7.Out i4.2.2.2.2.2.2.2.1, I x7.Code, I x7.Steps, L i4.2.2.2.2.2.2.2.2.1 x7.Cond i4.2.2.2.2.2.2.2.2.2.1, L i4.2.2.2.2.2.2.2.2.2.2.1 x7.Turns i4.2.2.2.2.2.2.2.2.2.2.2], sl132 (L i5.1 x9.Code i5.2) x9.Code]
                 refine Cf [] c (laws_toPath_ok hx11) ⟨.f 1, .f 2, .f 3, .f 4, .f 5, .f 6, trivial⟩ Try.call20 fun i7 _ _ c => ?_
                 refine E0 ?_
                 refine any_node (fuel := 1) [3] (by kernel_rfl) (by simp) ⟨?_, trivial⟩
                 · refine op_of _ rfl rfl ?_
                   refine Ca [] c (laws_eqPath_ok hx12) ⟨.f 13, .f 14, .f 15, .f 16, .f 17, .f 18, .f 19, .f 20, .f 21, .f 22, .f 23, .f 24, trivial⟩ Try.call23 fun _ _ _ c => ?_
                   refine E0 ?_
                   refine any_node (fuel := 0) [4] (by kernel_rfl) (by simp) ⟨?_, trivial⟩
                   · refine op_of _ rfl rfl ?_
                     refine Fp [] 1 c fun _ c => ?_
                     refine E0 ?_
                     refine any_leaf (by kernel_rfl) (tn ?_)
                     refine I0 c h (fun h => ?_) fun h => ?_
                     ·refine P0 [] c fun _ c => ?_
                      obtain rfl := Option.some.inj h
                      exact wp_ret (tr (Rt c () [] []))
                     refine K0 ?_
                     refine P0 [] c fun _ c => ?_
                     obtain rfl := Option.some.inj h
                     exact wp_ret (Rt c () [] [])
             · refine op_of _ rfl rfl ?_
               replace c := c.gm [BX b1 46 [I p0.W, I p0.Mem, I p0.In, L ga0 p0.Code gc1], BX b2 49 [I p1.Pc, L ga2 p1.Regs gc3, L ga4 p1.Mem gc5, L ga6 p1.Stack gc7, I p1.In, L ga8 p1.Out gc9, I p1.Code, I p1.Steps, L ga10 p1.Cond gc11, L ga12 p1.Turns gc13], sl132 (L i1.1 x3.Code i1.2) x3.Code, sl132 (L i3.1 x6.Code i3.2) x6.Code, BX b3 55 [I x6.W, I x6.Mem, I x6.In, L i3.1 x6.Code i3.2], BX b4 59 [I x7.Pc, L i4.1 x7.Regs i4.2.1, L i4.2.2.1 x7.Mem i4.2.2.2.1, L i4.2.2.2.2.1 x7.Stack i4.2.2.2.2.2.1, I x7.In, L i4.2.2.2.2.2.2.1 x7.Out i4.2.2.2.2.2.2.2.1, I x7.Code, I x7.Steps, L i4.2.2.2.2.2.2.2.2.1 x7.Cond i4.2.2.2.2.2.2.2.2.2.1, L i4.2.2.2.2.2.2.2.2.2.2.1 x7.Turns i4.2.2.2.2.2.2.2.2.2.2.2], sl132 (L i5.1 x9.Code i5.2) x9.Code]
               refine Cf [] c (laws_toPath_ok hx11) ⟨.f 1, .f 2, .f 3, .f 4, .f 5, .f 6, trivial⟩ Try.call20 fun i8 _ _ c => ?_
               refine E0 ?_
               refine any_node (fuel := 2) [0] (by kernel_rfl) (by simp) ⟨?_, trivial⟩
               · refine op_of _ rfl rfl ?_
                 refine Fp [(0, 3)] 1 c fun _ c => ?_
                 refine E0 ?_
                 refine any_node (fuel := 1) [3] (by kernel_rfl) (by simp) ⟨?_, trivial⟩
                 · refine op_of _ rfl rfl ?_
                   refine Ca [] c (laws_eqPath_ok hx12) ⟨.f 13, .f 14, .f 15, .f 16, .f 17, .f 18, .f 19, .f 20, .f 21, .f 22, .f 23, .f 24, trivial⟩ Try.call23 fun _ _ _ c => ?_
                   refine E0 ?_
                   refine any_node (fuel := 0) [4] (by kernel_rfl) (by simp) ⟨?_, trivial⟩
                   · refine op_of _ rfl rfl ?_
                     refine Fp [] 1 c fun _ c => ?_
                     refine E0 ?_
                     refine any_leaf (by kernel_rfl) (tn ?_)
                     refine I0 c h (fun h => ?_) fun h => ?_
                     ·refine P0 [] c fun _ c => ?_
                      obtain rfl := Option.some.inj h
                      exact wp_ret (tr (Rt c () [] []))
                     refine K0 ?_
                     refine P0 [] c fun _ c => ?_
                     obtain rfl := Option.some.inj h
                     exact wp_ret (Rt c () [] [])
 · refine op_of _ rfl rfl ?_
   refine Fp [(0, 0)] 1 c fun _ c => ?_
   refine E0 ?_
   refine any_node (fuel := 3) [0, 2] (by kernel_rfl) (by simp) ⟨?_, ?_, trivial⟩
   · refine op_of _ rfl rfl ?_
     refine Fp [(0, 2)] 1 c fun _ c => ?_
     refine E0 ?_
     refine any_node (fuel := 2) [2] (by kernel_rfl) (by simp) ⟨?_, trivial⟩
     · refine op_of _ rfl rfl ?_
       refine Ca [] c (laws_toProgram_ok hx9) ⟨.f 0, trivial⟩ Try.call19 fun i9 _ _ c => ?_
       refine E0 ?_
       refine any_node (fuel := 1) [3] (by kernel_rfl) (by simp) ⟨?_, trivial⟩
       · refine op_of _ rfl rfl ?_
         refine Ca [] c (laws_eqProgram_ok hx10) ⟨.g 3, .g 6, trivial⟩ Try.call22 fun _ _ _ c => ?_
         refine E0 ?_
         refine any_node (fuel := 0) [4] (by kernel_rfl) (by simp) ⟨?_, trivial⟩
         · refine op_of _ rfl rfl ?_
           refine Fp [] 1 c fun _ c => ?_
           refine E0 ?_
           refine any_leaf (by kernel_rfl) (tn ?_)
           refine I0 c h (fun h => ?_) fun h => ?_
           ·refine P0 [] c fun _ c => ?_
            obtain rfl := Option.some.inj h
            exact wp_ret (tr (Rt c () [] []))
           refine K0 ?_
           refine S0 ?_
           obtain ⟨x13, hx13, h⟩ := bindE h
           obtain ⟨x14, hx14, h⟩ := bindE h
           refine S0 (As mix c fun _ c => ?_)
           refine any_node (fuel := 4) [0, 1] (by kernel_rfl) (by simp) ⟨?_, ?_, trivial⟩
           · refine op_of _ rfl rfl ?_
             refine Fp [(0, 3)] 1 c fun _ c => ?_
             refine E0 ?_
             refine any_node (fuel := 3) [1] (by kernel_rfl) (by simp) ⟨?_, trivial⟩
             · refine op_of _ rfl rfl ?_
               refine Fp [(0, 1)] 1 c fun _ c => ?_
               refine E0 ?_
               refine any_node (fuel := 2) [2] (by kernel_rfl) (by simp) ⟨?_, trivial⟩
               · refine op_of _ rfl rfl ?_
                 replace c := c.gm [BX b1 46 [I p0.W, I p0.Mem, I p0.In, L ga0 p0.Code gc1], BX b2 49 [I p1.Pc, L ga2 p1.Regs gc3, L ga4 p1.Mem gc5, L ga6 p1.Stack gc7, I p1.In, L ga8 p1.Out gc9, I p1.Code, I p1.Steps, L ga10 p1.Cond gc11, L ga12 p1.Turns gc13], sl132 (L i1.1 x3.Code i1.2) x3.Code, sl132 (L i3.1 x6.Code i3.2) x6.Code, BX b3 55 [I x6.W, I x6.Mem, I x6.In, L i3.1 x6.Code i3.2], BX b4 59 [I x7.Pc, L i4.1 x7.Regs i4.2.1, L i4.2.2.1 x7.Mem i4.2.2.2.1, L i4.2.2.2.2.1 x7.Stack i4.2.2.2.2.2.1, I x7.In, L i4.2.2.2.2.2.2.1 x7.Out i4.2.2.2.2.2.2.2.1, I x7.Code, I x7.Steps, L i4.2.2.2.2.2.2.2.2.1 x7.Cond i4.2.2.2.2.2.2.2.2.2.1, L i4.2.2.2.2.2.2.2.2.2.2.1 x7.Turns i4.2.2.2.2.2.2.2.2.2.2.2], sl132 (L i9.1 x9.Code i9.2) x9.Code]
                 refine Cf [] c (laws_toPath_ok hx13) ⟨.f 1, .f 2, .f 3, .f 4, .f 5, .f 6, trivial⟩ Try.call20 fun i10 _ _ c => ?_
                 refine E0 ?_
                 refine any_node (fuel := 1) [3] (by kernel_rfl) (by simp) ⟨?_, trivial⟩
                 · refine op_of _ rfl rfl ?_
                   refine Ca [] c (laws_eqPath_ok hx14) ⟨.f 13, .f 14, .f 15, .f 16, .f 17, .f 18, .f 19, .f 20, .f 21, .f 22, .f 23, .f 24, trivial⟩ Try.call23 fun _ _ _ c => ?_
                   refine E0 ?_
                   refine any_node (fuel := 0) [4] (by kernel_rfl) (by simp) ⟨?_, trivial⟩
                   · refine op_of _ rfl rfl ?_
                     refine Fp [] 1 c fun _ c => ?_
                     refine E0 ?_
                     refine any_leaf (by kernel_rfl) (tn ?_)
                     refine I0 c h (fun h => ?_) fun h => ?_
                     ·refine P0 [] c fun _ c => ?_
                      obtain rfl := Option.some.inj h
                      exact wp_ret (tr (Rt c () [] []))
                     refine K0 ?_
                     refine P0 [] c fun _ c => ?_
                     obtain rfl := Option.some.inj h
                     exact wp_ret (Rt c () [] [])
           · refine op_of _ rfl rfl ?_
             refine Fp [(0, 1)] 1 c fun _ c => ?_
             refine E0 ?_
             refine any_node (fuel := 3) [0, 2] (by kernel_rfl) (by simp) ⟨?_, ?_, trivial⟩
             · refine op_of _ rfl rfl ?_
               refine Fp [(0, 3)] 1 c fun _ c => ?_
               refine E0 ?_
               refine any_node (fuel := 2) [2] (by kernel_rfl) (by simp) ⟨?_, trivial⟩
               · refine op_of _ rfl rfl ?_
                 replace c := c.gm [BX b1 46 [I p0.W, I p0.Mem, I p0.In, L ga0 p0.Code gc1], BX b2 49 [I p1.Pc, L ga2 p1.Regs gc3, L ga4 p1.Mem gc5, L ga6 p1.Stack gc7, I p1.In, L ga8 p1.Out gc9, I p1.Code, I p1.Steps, L ga10 p1.Cond gc11, L ga12 p1.Turns gc13], sl132 (L i1.1 x3.Code i1.2) x3.Code, sl132 (L i3.1 x6.Code i3.2) x6.Code, BX b3 55 [I x6.W, I x6.Mem, I x6.In, L i3.1 x6.Code i3.2], BX b4 59 [I x7.Pc, L i4.1 x7.Regs i4.2.1, L i4.2.2.1 x7.Mem i4.2.2.2.1, L i4.2.2.2.2.1 x7.Stack i4.2.2.2.2.2.1, I x7.In, L i4.2.2.2.2.2.2.1 x7.Out i4.2.2.2.2.2.2.2.1, I x7.Code, I x7.Steps, L i4.2.2.2.2.2.2.2.2.1 x7.Cond i4.2.2.2.2.2.2.2.2.2.1, L i4.2.2.2.2.2.2.2.2.2.2.1 x7.Turns i4.2.2.2.2.2.2.2.2.2.2.2], sl132 (L i9.1 x9.Code i9.2) x9.Code]
                 refine Cf [] c (laws_toPath_ok hx13) ⟨.f 1, .f 2, .f 3, .f 4, .f 5, .f 6, trivial⟩ Try.call20 fun i11 _ _ c => ?_
                 refine E0 ?_
                 refine any_node (fuel := 1) [3] (by kernel_rfl) (by simp) ⟨?_, trivial⟩
                 · refine op_of _ rfl rfl ?_
                   refine Ca [] c (laws_eqPath_ok hx14) ⟨.f 13, .f 14, .f 15, .f 16, .f 17, .f 18, .f 19, .f 20, .f 21, .f 22, .f 23, .f 24, trivial⟩ Try.call23 fun _ _ _ c => ?_
                   refine E0 ?_
                   refine any_node (fuel := 0) [4] (by kernel_rfl) (by simp) ⟨?_, trivial⟩
                   · refine op_of _ rfl rfl ?_
                     refine Fp [] 1 c fun _ c => ?_
                     refine E0 ?_
                     refine any_leaf (by kernel_rfl) (tn ?_)
                     refine I0 c h (fun h => ?_) fun h => ?_
                     ·refine P0 [] c fun _ c => ?_
                      obtain rfl := Option.some.inj h
                      exact wp_ret (tr (Rt c () [] []))
                     refine K0 ?_
                     refine P0 [] c fun _ c => ?_
                     obtain rfl := Option.some.inj h
                     exact wp_ret (Rt c () [] [])
             · refine op_of _ rfl rfl ?_
               replace c := c.gm [BX b1 46 [I p0.W, I p0.Mem, I p0.In, L ga0 p0.Code gc1], BX b2 49 [I p1.Pc, L ga2 p1.Regs gc3, L ga4 p1.Mem gc5, L ga6 p1.Stack gc7, I p1.In, L ga8 p1.Out gc9, I p1.Code, I p1.Steps, L ga10 p1.Cond gc11, L ga12 p1.Turns gc13], sl132 (L i1.1 x3.Code i1.2) x3.Code, sl132 (L i3.1 x6.Code i3.2) x6.Code, BX b3 55 [I x6.W, I x6.Mem, I x6.In, L i3.1 x6.Code i3.2], BX b4 59 [I x7.Pc, L i4.1 x7.Regs i4.2.1, L i4.2.2.1 x7.Mem i4.2.2.2.1, L i4.2.2.2.2.1 x7.Stack i4.2.2.2.2.2.1, I x7.In, L i4.2.2.2.2.2.2.1 x7.Out i4.2.2.2.2.2.2.2.1, I x7.Code, I x7.Steps, L i4.2.2.2.2.2.2.2.2.1 x7.Cond i4.2.2.2.2.2.2.2.2.2.1, L i4.2.2.2.2.2.2.2.2.2.2.1 x7.Turns i4.2.2.2.2.2.2.2.2.2.2.2], sl132 (L i9.1 x9.Code i9.2) x9.Code]
               refine Cf [] c (laws_toPath_ok hx13) ⟨.f 1, .f 2, .f 3, .f 4, .f 5, .f 6, trivial⟩ Try.call20 fun i12 _ _ c => ?_
               refine E0 ?_
               refine any_node (fuel := 2) [0] (by kernel_rfl) (by simp) ⟨?_, trivial⟩
               · refine op_of _ rfl rfl ?_
                 refine Fp [(0, 3)] 1 c fun _ c => ?_
                 refine E0 ?_
                 refine any_node (fuel := 1) [3] (by kernel_rfl) (by simp) ⟨?_, trivial⟩
                 · refine op_of _ rfl rfl ?_
                   refine Ca [] c (laws_eqPath_ok hx14) ⟨.f 13, .f 14, .f 15, .f 16, .f 17, .f 18, .f 19, .f 20, .f 21, .f 22, .f 23, .f 24, trivial⟩ Try.call23 fun _ _ _ c => ?_
                   refine E0 ?_
                   refine any_node (fuel := 0) [4] (by kernel_rfl) (by simp) ⟨?_, trivial⟩
                   · refine op_of _ rfl rfl ?_
                     refine Fp [] 1 c fun _ c => ?_
                     refine E0 ?_
                     refine any_leaf (by kernel_rfl) (tn ?_)
                     refine I0 c h (fun h => ?_) fun h => ?_
                     ·refine P0 [] c fun _ c => ?_
                      obtain rfl := Option.some.inj h
                      exact wp_ret (tr (Rt c () [] []))
                     refine K0 ?_
                     refine P0 [] c fun _ c => ?_
                     obtain rfl := Option.some.inj h
                     exact wp_ret (Rt c () [] [])
   · refine op_of _ rfl rfl ?_
     refine Ca [] c (laws_toProgram_ok hx9) ⟨.f 0, trivial⟩ Try.call19 fun i13 _ _ c => ?_
     refine E0 ?_
     refine any_node (fuel := 2) [0] (by kernel_rfl) (by simp) ⟨?_, trivial⟩
     · refine op_of _ rfl rfl ?_
       refine Fp [(0, 2)] 1 c fun _ c => ?_
       refine E0 ?_
       refine any_node (fuel := 1) [3] (by kernel_rfl) (by simp) ⟨?_, trivial⟩
       · refine op_of _ rfl rfl ?_
         refine Ca [] c (laws_eqProgram_ok hx10) ⟨.g 3, .g 6, trivial⟩ Try.call22 fun _ _ _ c => ?_
         refine E0 ?_
         refine any_node (fuel := 0) [4] (by kernel_rfl) (by simp) ⟨?_, trivial⟩
         · refine op_of _ rfl rfl ?_
           refine Fp [] 1 c fun _ c => ?_
           refine E0 ?_
           refine any_leaf (by kernel_rfl) (tn ?_)
           refine I0 c h (fun h => ?_) fun h => ?_
           ·refine P0 [] c fun _ c => ?_
            obtain rfl := Option.some.inj h
            exact wp_ret (tr (Rt c () [] []))
           refine K0 ?_
           refine S0 ?_
           obtain ⟨x15, hx15, h⟩ := bindE h
           obtain ⟨x16, hx16, h⟩ := bindE h
           refine S0 (As mix c fun _ c => ?_)
           refine any_node (fuel := 4) [0, 1] (by kernel_rfl) (by simp) ⟨?_, ?_, trivial⟩
           · refine op_of _ rfl rfl ?_
             refine Fp [(0, 3)] 1 c fun _ c => ?_
             refine E0 ?_
             refine any_node (fuel := 3) [1] (by kernel_rfl) (by simp) ⟨?_, trivial⟩
             · refine op_of _ rfl rfl ?_
               refine Fp [(0, 1)] 1 c fun _ c => ?_
               refine E0 ?_
               refine any_node (fuel := 2) [2] (by kernel_rfl) (by simp) ⟨?_, trivial⟩
               · refine op_of _ rfl rfl ?_
                 replace c := c.gm [BX b1 46 [I p0.W, I p0.Mem, I p0.In, L ga0 p0.Code gc1], BX b2 49 [I p1.Pc, L ga2 p1.Regs gc3, L ga4 p1.Mem gc5, L ga6 p1.Stack gc7, I p1.In, L ga8 p1.Out gc9, I p1.Code, I p1.Steps, L ga10 p1.Cond gc11, L ga12 p1.Turns gc13], sl132 (L i1.1 x3.Code i1.2) x3.Code, sl132 (L i3.1 x6.Code i3.2) x6.Code, BX b3 55 [I x6.W, I x6.Mem, I x6.In, L i3.1 x6.Code i3.2], BX b4 59 [I x7.Pc, L i4.1 x7.Regs i4.2.1, L i4.2.2.1 x7.Mem i4.2.2.2.1, L i4.2.2.2.2.1 x7.Stack i4.2.2.2.2.2.1, I x7.In, L i4.2.2.2.2.2.2.1 x7.Out i4.2.2.2.2.2.2.2.1, I x7.Code, I x7.Steps, L i4.2.2.2.2.2.2.2.2.1 x7.Cond i4.2.2.2.2.2.2.2.2.2.1, L i4.2.2.2.2.2.2.2.2.2.2.1 x7.Turns i4.2.2.2.2.2.2.2.2.2.2.2], sl132 (L i13.1 x9.Code i13.2) x9.Code]
                 refine Cf [] c (laws_toPath_ok hx15) ⟨.f 1, .f 2, .f 3, .f 4, .f 5, .f 6, trivial⟩ Try.call20 fun i14 _ _ c => ?_
                 refine E0 ?_
                 refine any_node (fuel := 1) [3] (by kernel_rfl) (by simp) ⟨?_, trivial⟩
                 · refine op_of _ rfl rfl ?_
                   refine Ca [] c (laws_eqPath_ok hx16) ⟨.f 13, .f 14, .f 15, .f 16, .f 17, .f 18, .f 19, .f 20, .f 21, .f 22, .f 23, .f 24, trivial⟩ Try.call23 fun _ _ _ c => ?_
                   refine E0 ?_
                   refine any_node (fuel := 0) [4] (by kernel_rfl) (by simp) ⟨?_, trivial⟩
                   · refine op_of _ rfl rfl ?_
                     refine Fp [] 1 c fun _ c => ?_
                     refine E0 ?_
                     refine any_leaf (by kernel_rfl) (tn ?_)
                     refine I0 c h (fun h => ?_) fun h => ?_
                     ·refine P0 [] c fun _ c => ?_
                      obtain rfl := Option.some.inj h
                      exact wp_ret (tr (Rt c () [] []))
                     refine K0 ?_
                     refine P0 [] c fun _ c => ?_
                     obtain rfl := Option.some.inj h
                     exact wp_ret (Rt c () [] [])
           · refine op_of _ rfl rfl ?_
             refine Fp [(0, 1)] 1 c fun _ c => ?_
             refine E0 ?_
             refine any_node (fuel := 3) [0, 2] (by kernel_rfl) (by simp) ⟨?_, ?_, trivial⟩
             · refine op_of _ rfl rfl ?_
               refine Fp [(0, 3)] 1 c fun _ c => ?_
               refine E0 ?_
               refine any_node (fuel := 2) [2] (by kernel_rfl) (by simp) ⟨?_, trivial⟩
               · refine op_of _ rfl rfl ?_
                 replace c := c.gm [BX b1 46 [I p0.W, I p0.Mem, I p0.In, L ga0 p0.Code gc1], BX b2 49 [I p1.Pc, L ga2 p1.Regs gc3, L ga4 p1.Mem gc5, L ga6 p1.Stack gc7, I p1.In, L ga8 p1.Out gc9, I p1.Code, I p1.Steps, L ga10 p1.Cond gc11, L ga12 p1.Turns gc13], sl132 (L i1.1 x3.Code i1.2) x3.Code, sl132 (L i3.1 x6.Code i3.2) x6.Code, BX b3 55 [I x6.W, I x6.Mem, I x6.In, L i3.1 x6.Code i3.2], BX b4 59 [I x7.Pc, L i4.1 x7.Regs i4.2.1, L i4.2.2.1 x7.Mem i4.2.2.2.1, L i4.2.2.2.2.1 x7.Stack i4.2.2.2.2.2.1, I x7.In, L i4.2.2.2.2.2.2.1 x7.Out i4.2.2.2.2.2.2.2.1, I x7.Code, I x7.Steps, L i4.2.2.2.2.2.2.2.2.1 x7.Cond i4.2.2.2.2.2.2.2.2.2.1, L i4.2.2.2.2.2.2.2.2.2.2.1 x7.Turns i4.2.2.2.2.2.2.2.2.2.2.2], sl132 (L i13.1 x9.Code i13.2) x9.Code]
                 refine Cf [] c (laws_toPath_ok hx15) ⟨.f 1, .f 2, .f 3, .f 4, .f 5, .f 6, trivial⟩ Try.call20 fun i15 _ _ c => ?_
                 refine E0 ?_
                 refine any_node (fuel := 1) [3] (by kernel_rfl) (by simp) ⟨?_, trivial⟩
                 · refine op_of _ rfl rfl ?_
                   refine Ca [] c (laws_eqPath_ok hx16) ⟨.f 13, .f 14, .f 15, .f 16, .f 17, .f 18, .f 19, .f 20, .f 21, .f 22, .f 23, .f 24, trivial⟩ Try.call23 fun _ _ _ c => ?_
                   refine E0 ?_
                   refine any_node (fuel := 0) [4] (by kernel_rfl) (by simp) ⟨?_, trivial⟩
                   · refine op_of _ rfl rfl ?_
                     refine Fp [] 1 c fun _ c => ?_
                     refine E0 ?_
                     refine any_leaf (by kernel_rfl) (tn ?_)
                     refine I0 c h (fun h => ?_) fun h => ?_
                     ·refine P0 [] c fun _ c => ?_
                      obtain rfl := Option.some.inj h
                      exact wp_ret (tr (Rt c () [] []))
                     refine K0 ?_
                     refine P0 [] c fun _ c => ?_
                     obtain rfl := Option.some.inj h
                     exact wp_ret (Rt c () [] [])
             · refine op_of _ rfl rfl ?_
               replace c := c.gm [BX b1 46 [I p0.W, I p0.Mem, I p0.In, L ga0 p0.Code gc1], BX b2 49 [I p1.Pc, L ga2 p1.Regs gc3, L ga4 p1.Mem gc5, L ga6 p1.Stack gc7, I p1.In, L ga8 p1.Out gc9, I p1.Code, I p1.Steps, L ga10 p1.Cond gc11, L ga12 p1.Turns gc13], sl132 (L i1.1 x3.Code i1.2) x3.Code, sl132 (L i3.1 x6.Code i3.2) x6.Code, BX b3 55 [I x6.W, I x6.Mem, I x6.In, L i3.1 x6.Code i3.2], BX b4 59 [I x7.Pc, L i4.1 x7.Regs i4.2.1, L i4.2.2.1 x7.Mem i4.2.2.2.1, L i4.2.2.2.2.1 x7.Stack i4.2.2.2.2.2.1, I x7.In, L i4.2.2.2.2.2.2.1 x7.Out i4.2.2.2.2.2.2.2.1, I x7.Code, I x7.Steps, L i4.2.2.2.2.2.2.2.2.1 x7.Cond i4.2.2.2.2.2.2.2.2.2.1, L i4.2.2.2.2.2.2.2.2.2.2.1 x7.Turns i4.2.2.2.2.2.2.2.2.2.2.2], sl132 (L i13.1 x9.Code i13.2) x9.Code]
               refine Cf [] c (laws_toPath_ok hx15) ⟨.f 1, .f 2, .f 3, .f 4, .f 5, .f 6, trivial⟩ Try.call20 fun i16 _ _ c => ?_
               refine E0 ?_
               refine any_node (fuel := 2) [0] (by kernel_rfl) (by simp) ⟨?_, trivial⟩
               · refine op_of _ rfl rfl ?_
                 refine Fp [(0, 3)] 1 c fun _ c => ?_
                 refine E0 ?_
                 refine any_node (fuel := 1) [3] (by kernel_rfl) (by simp) ⟨?_, trivial⟩
                 · refine op_of _ rfl rfl ?_
                   refine Ca [] c (laws_eqPath_ok hx16) ⟨.f 13, .f 14, .f 15, .f 16, .f 17, .f 18, .f 19, .f 20, .f 21, .f 22, .f 23, .f 24, trivial⟩ Try.call23 fun _ _ _ c => ?_
                   refine E0 ?_
                   refine any_node (fuel := 0) [4] (by kernel_rfl) (by simp) ⟨?_, trivial⟩
                   · refine op_of _ rfl rfl ?_
                     refine Fp [] 1 c fun _ c => ?_
                     refine E0 ?_
                     refine any_leaf (by kernel_rfl) (tn ?_)
                     refine I0 c h (fun h => ?_) fun h => ?_
                     ·refine P0 [] c fun _ c => ?_
                      obtain rfl := Option.some.inj h
                      exact wp_ret (tr (Rt c () [] []))
                     refine K0 ?_
                     refine P0 [] c fun _ c => ?_
                     obtain rfl := Option.some.inj h
                     exact wp_ret (Rt c () [] [])
end Go.Proofs.Ytdkfoghhjkjjlaa
