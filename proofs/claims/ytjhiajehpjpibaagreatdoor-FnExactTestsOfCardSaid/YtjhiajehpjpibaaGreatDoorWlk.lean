/- The walks, printed by a program. -/
import Derived.Test.YtjhiajehpjpibaaGreatDoorWlkC
set_option linter.unusedVariables false
set_option linter.unusedSimpArgs false
set_option maxRecDepth 100000
set_option maxHeartbeats 40000000
namespace Go.Proofs.YtjhiajehpjpibaaGreatDoor
open Go.GL Go.Maps Go.WideMaps Tryz
variable{n:Nat}{A0:Option Addr}{D1:Nat}
theorem QX{p0 p1 p2 p3 r}(h:VT n p0 p1 p2 p3=some r):C0 3 [gV p0 A0 D1,I p1,I p2,I p3] [J A0 p0.Code D1,TBf prog] (.bool r):=by
 refine E ?_ h;refine t (N (gC p0 A0 D1) (Z:=λb1=>g (d (m [(0,0)] 2 (C NC ⟨.f 0,o⟩ (Z:=λx1 _=>g (a (A (d k) (K (·.ng) (x (m [(0,0)] 1 (C Vl ⟨.f 0,o⟩ (Z:=λx2 i1=>G 3 (zn (·.fz 1) (Z:=K (·.ng) (zCg Kh ⟨.f 2,o⟩ (Z:=λx3 i2=>K (·.ng) (G 5 (f (m [(0,0)] 1 (C Vl ⟨.f 0,o⟩ (Z:=λx4 i3=>K (·.ng) (T [I 0,I 0,I 0,L none ([]:List D.Ins) 0] (Z:=λb2=>y 2 (gC x4 i3.1 i3.2) (Z:=K (·.ng) (f (m [(0,1)] 4 (C Pq ⟨.g 1,.f 1,o⟩ (Z:=λx5 i4=>G 5 (f (a (l λx6 G6=>a (w [(2,.bool x6)] [] (λ_ _=>M (V G6) Sd ⟨.go (Jk 3) 3,.f 3,o⟩) (j (d k) (x (a (l λx7 G7=>zK (sB [(4,b1),(12,b2)]++[(1,I p1),(2,I p2),(3,I p3),(10,L i2.1 x3.1 i2.2),(11,.bool x3.2),(13,L i4.1 x5.1 i4.2),(14,.bool x5.2)]) (Z:=a (bp 3 [(0,1),(1,0)] [(2,sP [] [4] λ(i:Oh)_=>(gV x7 i.1 i.2,[sl67 (L i.1 x7.Code i.2) x7.Code],[]))] (Z:=λi6=>⟨λ_ _=>zN (Z:=K (·.ng) (bo (V G7) (C Vl ⟨.f 0,o⟩ (Z:=λ_ i5=>b9 λe=>by subst e;exact(f (zpE (i5.1,i5.2) (S 5) [])))))),zM [(53,gV x4 i3.1 i3.2),(55,gV x7 i6.1 i6.2)] (Z:=K (·.ng) (C Mo ⟨.g 1,.g 4,o⟩ (Z:=λx8 _=>g (j (d k) (K (·.ng) (x (d (m [(0,1)] 2 (bc [1] OQ o (Z:=λx9 _=>g (a (l λx10 G10=>a (w [(5,.bool x10)] [] (λ_ _=>M (eF G10) Sd ⟨.go (Jk 3) 2,.f 3,o⟩) (j (d k) (K (·.ng) (x (d (b 2 (bc [2] NZ o (Z:=λx11 _=>g (d (b 2 ?_))))))))))))))))))))))⟩))))))))))))))))))))))))))))))))))))))));intro h _ _ c;obtain⟨O1,c⟩:=c.releno 4
 replace c:=c.eqs (v:=L i4.1 x5.1 i4.2) (u:=L i4.1 x11.2 i4.2) 13 (by simp only[L,O1])
 replace c:=c.eqs (v:=L i4.1 x5.1 i4.2) (u:=L i4.1 x11.2 i4.2) 77 (by simp only[L,O1])
 replace c:=c.ng
 exact W h c (C Rv ⟨.go (Jk 3) 4,o⟩ (Z:=λx12 _=>g (a (A (d k) (x (a (A (d k) (K (·.ng) (x (m [(0,0)] 1 (C Vl ⟨.f 0,o⟩ (Z:=λx13 i7=>G 3 (K (·.ng) (C Pq ⟨.g 5,.f 1,o⟩ (Z:=λx14 i8=>G 5 (f (a (l λx15 G15=>a (w [(2,.bool x15)] [] (λ_ _=>M (V G15) Sd ⟨.go (Jk 3) 6,.f 3,o⟩) (j (d k) (K (·.ng) (x (d (b 2 (C Rv ⟨.go (Jk 3) 4,o⟩ (Z:=λx16 _=>g (a (A (d k) (x (a (A (d k) (x (d k)))))))))))))))))))))))))))))))))
end Go.Proofs.YtjhiajehpjpibaaGreatDoor
