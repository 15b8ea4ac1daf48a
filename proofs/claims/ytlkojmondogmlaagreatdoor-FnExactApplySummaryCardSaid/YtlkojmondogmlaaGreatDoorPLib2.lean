/- Texts of this claim put into one: library or plain laws, without the program under test. -/
import Derived.Test.YtlkojmondogmlaaGreatDoorPLib1
import Derived.Lib.ItoaNum
set_option linter.unusedSimpArgs false
set_option linter.unusedVariables false
section
namespace Go.Proofs.YtlkojmondogmlaaGreatDoor
open Go.GL
set_option linter.unusedSimpArgs false
set_option maxRecDepth 100000
theorem Zr {k:Nat} {op w:Int} {a b:D.Term} (h3:3 ≤ op) (h16:op ≤ 16) (hc:(a.Op == 0 && b.Op == 0) = false):ZI (k + 8) ⟨op,w,0,⟨[]⟩,[a,b]⟩ = Zb (k + 7) ⟨op,w,0,⟨[]⟩,[a,b]⟩:=by
 rw [Yk (by simp) (by simp) (by simpa using hc)]
 rw [show ((op == 1) || (op == 2)) = false by simp; omega,show (op == 17) = false by simp; omega,show (op == 19) = false by simp; omega,show ((op == 20) || (op == 21)) = false by simp; omega,show (op == 18) = false by simp; omega]
 rfl
theorem Zt {k:Nat} {op w:Int} {a b:D.Term} (h3:3 ≤ op) (h16:op ≤ 16) (hc:(a.Op == 0 && b.Op == 0) = false):Z4 (k + 8) ⟨op,w,0,⟨[]⟩,[a,b]⟩ = Zh (k + 7) ⟨op,w,0,⟨[]⟩,[a,b]⟩:=by
 rw [Yd (by simp) (by rw [show ([a,b].all fun x=>x.Op == 0) = false by simpa using hc]; simp)]
 rw [show decide (3 ≤ op ∧ op ≤ 16) = true by simp; omega]
 rfl
theorem ZdA {w:Int} (h1:1 ≤ w) (h2:w ≤ 16):wordB w 0 = true:=by
 obtain ⟨p1,p2,p3⟩:=ZdT h1 h2
 rw [ZZ h1 h2,p1]; omega
theorem Zid {op w:Int} {a b:D.Term} (ho:op = 3 ∨ op = 5 ∨ op = 8 ∨ op = 9 ∨ op = 10 ∨ op = 14) (ha:nodeB a = true) (hb:nodeB b = true) (hw:a.W = b.W) (h1:op ≤ 13 → a.W = w) (h2:14 ≤ op → w = 1)
  (hc:(a.Op == 0 && b.Op == 0) = false) (hn:cnt a ≤ 240) (hs:ctm a b = 1):Stp ⟨op,w,0,⟨[]⟩,[a,b]⟩:=by
 have hma:=ZbG ha
 have i1:∀ k,1100000 ≤ k → ZC (k + 6) a b = some (ctm a b):=fun k hk=>Zc7 _ _ _ (by omega) (by omega)
 have s1:∀ k,1100000 ≤ k → ZB (k + 6) a b = some (ctm a b):=fun k hk=>ZcF _ _ _ (by omega) (by omega)
 refine .go 5 6 (u:=⟨op,w,0,⟨[]⟩,[b,a]⟩) ⟨ZdL (by omega) (by omega) hb ha hw.symm (fun o=>by have:=h1 o; omega) h2,rfl,by rw [cnt2,cnt2]; omega,?_⟩ (fun k hk=>?_) (fun k hk=>?_)
 ·have e : ctm b a = -1 := by rw [ZkI, hs]
  unfold mea swp
  rw [cnt2,cnt2]
  simp [e,hs]; omega
 ·rw [Zr (by omega) (by omega) hc]
  rcases ho with rfl | rfl | rfl | rfl | rfl | rfl <;> simp [Zb,Zo,Zf,Ze,get0,get1,i1 k hk,hs]
 ·rw [Zt (by omega) (by omega) hc]
  rcases ho with rfl | rfl | rfl | rfl | rfl | rfl <;> simp [Zh,Zf,get0,get1,s1 k hk,hs,Zj]
theorem Zb6 {op w:Int} {a b:D.Term} (ho:op = 3 ∨ op = 5 ∨ op = 8 ∨ op = 9 ∨ op = 10) (ha:nodeB a = true) (hb:nodeB b = true) (hw:a.W = b.W) (h1:a.W = w)
  (ha0:a.Op = 0) (hb0:b.Op ≠ 0) (hn:cnt a ≤ 240) (hs:ctm a b ≠ 1) (hs2:ctm a b ≠ 0)
  (f1:∀ k,1100000 ≤ k → ∃ x,Zw (k + 6) op w a b = some (x,false)) (f2:∀ k,1100000 ≤ k → ∃ x,Z6 (k + 6) ⟨op,w,0,⟨[]⟩,[a,b]⟩ = some (x,false)):Stp ⟨op,w,0,⟨[]⟩,[a,b]⟩:=by
 have hma:=ZbG ha
 have hc:(a.Op == 0 && b.Op == 0) = false:=by simp [hb0]
 have gt:¬ 0 < ctm a b:=by have:=Ze4 a b; omega
 have i1:∀ k,1100000 ≤ k → ZC (k + 6) a b = some (ctm a b):=fun k hk=>Zc7 _ _ _ (by omega) (by omega)
 have s1:∀ k,1100000 ≤ k → ZB (k + 6) a b = some (ctm a b):=fun k hk=>ZcF _ _ _ (by omega) (by omega)
 have i2:∀ k,1100000 ≤ k → ZX (k + 6) a b = some (ctm a b == 0):=fun k hk=>Zb0 (by omega) (by omega)
 have s2:∀ k,1100000 ≤ k → Yb (k + 6) a b = some (ctm a b == 0):=fun k hk=>Zby (by omega) (by omega)
 have me:nodeB ⟨op,w,0,⟨[]⟩,[a,b]⟩ = true:=ZdL (by omega) (by omega) ha hb hw (fun _=>h1) (fun o=>by omega)
 obtain ⟨ea,va⟩:=Xr ha ha0
 by_cases e1:b.Op = op
 rotate_left
 ·refine .fin me rfl (Zl3 _) (fun k hk => ?_) (fun k hk => ?_)
  ·obtain ⟨x, f⟩ := f1 k hk
   rw [Zr (by omega) (by omega) hc]
   rcases ho with rfl | rfl | rfl | rfl | rfl <;> simp [Zb,Zf,Ze,Zn,Zd,get0,get1,i1 k hk,i2 k hk,hs,hs2,ha0,hb0,f,e1]
  ·obtain ⟨x, f⟩ := f2 k hk
   rw [Zt (by omega) (by omega) hc]
   rcases ho with rfl | rfl | rfl | rfl | rfl <;> simp [Zh,Zf,Zp,get0,get1,s1 k hk,s2 k hk,gt,hs2,ha0,hb0,f,e1,Zj]
 obtain ⟨c,d,eb,hcc,hd,hcd,hcw⟩:=Zk9 hb e1 (by omega) (by omega)
 have ekb:b.Kids = [c,d]:=by rw [eb]
 by_cases e2:c.Op = 0
 rotate_left
 ·refine .fin me rfl (Zl3 _) (fun k hk => ?_) (fun k hk => ?_)
  ·obtain ⟨x, f⟩ := f1 k hk
   rw [Zr (by omega) (by omega) hc]
   rcases ho with rfl | rfl | rfl | rfl | rfl <;> simp [Zb,Zf,Ze,Zn,Zd,get0,get1,i1 k hk,i2 k hk,hs,hs2,ha0,hb0,f,e1,ekb,e2]
  ·obtain ⟨x, f⟩ := f2 k hk
   rw [Zt (by omega) (by omega) hc]
   rcases ho with rfl | rfl | rfl | rfl | rfl <;> simp [Zh,Zf,Zp,get0,get1,s1 k hk,s2 k hk,gt,hs2,ha0,hb0,f,e1,Zj,ekb,e2]
 obtain ⟨ec,vc⟩:=Xr hcc e2
 obtain ⟨r,q1,q2⟩:=ZcA op w a.N c.N
 have vr:wordB w r = true:=(ZjW q1 (by rw [← h1]; exact va) (by rw [← h1,hw,← hcw (by omega)]; exact vc)).1 ⟨by omega,by omega⟩
 have gw:=Yg vr
 refine .go 5 6 (u:=⟨op,w,0,⟨[]⟩,[⟨0,w,r,⟨[]⟩,[]⟩,d]⟩) (X4 (ZdL (by omega) (by omega) (Zbk vr) hd (by show w = d.W; have:=hcw (by omega); omega) (fun _=>rfl) (fun o=>by omega)) rfl (by
  have pa:=ZbL a
  have pc:=ZbL c
  rw [eb,cnt2,cnt2,cnt2,cnt0]; omega)) (fun k hk=>?_) (fun k hk=>?_)
 ·obtain ⟨x, f⟩ := f1 k hk
  rw [Zr (by omega) (by omega) hc]
  rcases ho with rfl | rfl | rfl | rfl | rfl <;> simp [Zb,Zo,Zf,Ze,Zn,Zd,get0,get1,i1 k hk,i2 k hk,hs,hs2,ha0,hb0,f,e1,ekb,e2,q2,Y5 vr]
 ·obtain ⟨x, f⟩ := f2 k hk
  rw [Zt (by omega) (by omega) hc]
  rcases ho with rfl | rfl | rfl | rfl | rfl <;> simp [Zh,Zf,Zp,get0,get1,s1 k hk,s2 k hk,gt,hs2,ha0,hb0,f,e1,Zj,ekb,e2,q1,Zl]
theorem ZhW {a:D.Term} (ha:nodeB a = true) (ha0:a.Op = 0):∃ o,Zbh a.W = some o ∧ ZaP a = some (a.N == o) ∧ 1 ≤ o ∧ wordB a.W o = true:=by
 have g:=YB ha
 obtain ⟨a1,a2,a3,a4,a5⟩:=Zba g.1 g.2
 refine ⟨2 ^ a.W.toNat - 1,?_,?_,by omega,by rw [ZZ g.1 g.2]; omega⟩
 ·unfold Zbh; rw [a2]; simp only [Zlx]; rw [a3]
 ·unfold ZaP; simp only [ha0,Zme,ZlL,a1,Zlx,ZlV]; rw [a3]
theorem Zht {op w:Int} {a b:D.Term} (ho:op = 3 ∨ op = 5 ∨ op = 8 ∨ op = 9 ∨ op = 10 ∨ op = 14) (ha:nodeB a = true) (hb:nodeB b = true) (hw:a.W = b.W) (h1:op ≤ 13 → a.W = w) (h2:14 ≤ op → w = 1)
  (ha0:a.Op = 0) (hb0:b.Op ≠ 0) (hn:cnt a ≤ 240) (hs:ctm a b ≠ 1):Stp ⟨op,w,0,⟨[]⟩,[a,b]⟩:=by
 have hma:=ZbG ha
 have hc:(a.Op == 0 && b.Op == 0) = false:=by simp [hb0]
 have gt:¬ 0 < ctm a b:=by have:=Ze4 a b; omega
 have hs2:ctm a b ≠ 0:=fun e=>by
  rw [Zc3] at e
  by_cases q:sg a.Op b.Op = 0
  ·unfold sg at q; split at q <;> (try split at q) <;> omega
  ·simp [q] at e
 have i1:∀ k,1100000 ≤ k → ZC (k + 6) a b = some (ctm a b):=fun k hk=>Zc7 _ _ _ (by omega) (by omega)
 have s1:∀ k,1100000 ≤ k → ZB (k + 6) a b = some (ctm a b):=fun k hk=>ZcF _ _ _ (by omega) (by omega)
 have i2:∀ k,1100000 ≤ k → ZX (k + 6) a b = some (ctm a b == 0):=fun k hk=>Zb0 (by omega) (by omega)
 have s2:∀ k,1100000 ≤ k → Yb (k + 6) a b = some (ctm a b == 0):=fun k hk=>Zby (by omega) (by omega)
 have me:nodeB ⟨op,w,0,⟨[]⟩,[a,b]⟩ = true:=ZdL (by omega) (by omega) ha hb hw h1 h2
 obtain ⟨o,o1,o2,o3,o4⟩:=ZhW ha ha0
 obtain ⟨ea,va⟩:=Xr ha ha0
 have ga:=YB ha
 have tb:cnt b ≤ cnt ⟨op,w,0,⟨[]⟩,[a,b]⟩:=by rw [cnt2]; omega
 have tc:∀ v,cnt ⟨0,w,v,⟨[]⟩,[]⟩ ≤ cnt ⟨op,w,0,⟨[]⟩,[a,b]⟩:=fun v=>by rw [cnt2,cnt0]; omega
 have ea0:op ≤ 13 → a.N = 0 → a = ⟨0,w,0,⟨[]⟩,[]⟩:=fun q e=>by rw [ea,e,h1 q]
 have eao:op ≤ 13 → a.N = o → a = ⟨0,w,o,⟨[]⟩,[]⟩:=fun q e=>by rw [ea,e,h1 q]
 rcases ho with rfl | rfl | rfl | rfl | rfl | rfl
 ·by_cases e0 : a.N = 0
  ·refine .fin hb (by show b.W = w; have := h1 (by omega); omega) tb (fun k hk => ?_) (fun k hk => ?_)
   ·rw [Zr (by omega) (by omega) hc]; simp [Zb,Zw,Zo,Zf,Ze,Zn,Zd,get0,get1,i1 k hk,i2 k hk,hs,hs2,ha0,hb0,o1,e0]
   ·rw [Zt (by omega) (by omega) hc]; simp [Zh,Z6,Zf,Zp,Zl,get0,get1,s1 k hk,s2 k hk,gt,hs2,ha0,hb0,o2,Zj,e0]
  refine Zb6 (by simp) ha hb hw (h1 (by omega)) ha0 hb0 hn hs hs2 (fun k hk=>?_) (fun k hk=>?_)
  ·exact ⟨⟨0,0,0,⟨[]⟩,[]⟩,by simp [Zw,ha0,o1,e0]⟩
  ·exact ⟨_,by simp [Z6,Zp,get0,get1,ha0,o2,e0]; rfl⟩
 ·by_cases e0 : a.N = 1
  ·refine .fin hb (by show b.W = w; have := h1 (by omega); omega) tb (fun k hk => ?_) (fun k hk => ?_)
   ·rw [Zr (by omega) (by omega) hc]; simp [Zb,Zw,Zo,Zf,Ze,Zn,Zd,get0,get1,i1 k hk,i2 k hk,hs,hs2,ha0,hb0,o1,e0]
   ·rw [Zt (by omega) (by omega) hc]; simp [Zh,Z6,Zf,Zp,Zl,get0,get1,s1 k hk,s2 k hk,gt,hs2,ha0,hb0,o2,Zj,e0]
  by_cases e1:a.N = 0
  ·refine .fin ha (h1 (by omega)) (by rw [cnt2]; omega) (fun k hk => ?_) (fun k hk => ?_)
   ·rw [Zr (by omega) (by omega) hc]; simp [Zb,Zw,Zo,Zf,Ze,Zn,Zd,get0,get1,i1 k hk,i2 k hk,hs,hs2,ha0,hb0,o1,e0,e1,Y5 (w:=w) (v:=0) (by have:=h1 (by omega); exact ZdA (by omega) (by omega))]; exact (ea0 (by omega) (by assumption)).symm
   ·rw [Zt (by omega) (by omega) hc]; simp [Zh,Z6,Zf,Zp,Zl,get0,get1,s1 k hk,s2 k hk,gt,hs2,ha0,hb0,o2,Zj,e0,e1,Y5 (w:=w) (v:=0) (by have:=h1 (by omega); exact ZdA (by omega) (by omega))]
  refine Zb6 (by simp) ha hb hw (h1 (by omega)) ha0 hb0 hn hs hs2 (fun k hk=>?_) (fun k hk=>?_)
  ·exact ⟨⟨0,0,0,⟨[]⟩,[]⟩,by simp [Zw,ha0,o1,e0,e1]⟩
  ·exact ⟨_,by simp [Z6,Zp,get0,get1,ha0,o2,e0,e1]; rfl⟩
 ·by_cases e0 : a.N = o
  ·refine .fin hb (by show b.W = w; have := h1 (by omega); omega) tb (fun k hk => ?_) (fun k hk => ?_)
   ·rw [Zr (by omega) (by omega) hc]; simp [Zb,Zw,Zo,Zf,Ze,Zn,Zd,get0,get1,i1 k hk,i2 k hk,hs,hs2,ha0,hb0,o1,e0,show ¬ o = 0 by omega]
   ·rw [Zt (by omega) (by omega) hc]; simp [Zh,Z6,Zf,Zp,Zl,get0,get1,s1 k hk,s2 k hk,gt,hs2,ha0,hb0,o2,Zj,e0,show ¬ o = 0 by omega]
  by_cases e1:a.N = 0
  ·refine .fin ha (h1 (by omega)) (by rw [cnt2]; omega) (fun k hk => ?_) (fun k hk => ?_)
   ·rw [Zr (by omega) (by omega) hc]; simp [Zb,Zw,Zo,Zf,Ze,Zn,Zd,get0,get1,i1 k hk,i2 k hk,hs,hs2,ha0,hb0,o1,e0,e1,Y5 (w:=w) (v:=0) (by have:=h1 (by omega); exact ZdA (by omega) (by omega)),show ¬ 0 = o by omega]; exact (ea0 (by omega) (by assumption)).symm
   ·rw [Zt (by omega) (by omega) hc]; simp [Zh,Z6,Zf,Zp,Zl,get0,get1,s1 k hk,s2 k hk,gt,hs2,ha0,hb0,o2,Zj,e0,e1,Y5 (w:=w) (v:=0) (by have:=h1 (by omega); exact ZdA (by omega) (by omega)),show ¬ 0 = o by omega]
  refine Zb6 (by simp) ha hb hw (h1 (by omega)) ha0 hb0 hn hs hs2 (fun k hk=>?_) (fun k hk=>?_)
  ·exact ⟨⟨0,0,0,⟨[]⟩,[]⟩,by simp [Zw,ha0,o1,e0,e1]⟩
  ·exact ⟨_,by simp [Z6,Zp,get0,get1,ha0,o2,e0,e1]; rfl⟩
 ·by_cases e0 : a.N = 0
  ·refine .fin hb (by show b.W = w; have := h1 (by omega); omega) tb (fun k hk => ?_) (fun k hk => ?_)
   ·rw [Zr (by omega) (by omega) hc]; simp [Zb,Zw,Zo,Zf,Ze,Zn,Zd,get0,get1,i1 k hk,i2 k hk,hs,hs2,ha0,hb0,o1,e0]
   ·rw [Zt (by omega) (by omega) hc]; simp [Zh,Z6,Zf,Zp,Zl,get0,get1,s1 k hk,s2 k hk,gt,hs2,ha0,hb0,o2,Zj,e0]
  by_cases e1:a.N = o
  ·refine .fin ha (h1 (by omega)) (by rw [cnt2]; omega) (fun k hk => ?_) (fun k hk => ?_)
   ·rw [Zr (by omega) (by omega) hc]; simp [Zb,Zw,Zo,Zf,Ze,Zn,Zd,get0,get1,i1 k hk,i2 k hk,hs,hs2,ha0,hb0,o1,e0,e1,Y5 (w:=w) (v:=o) (by have:=h1 (by omega); rw [← this]; exact o4),show ¬ o = 0 by omega]; exact (eao (by omega) (by assumption)).symm
   ·rw [Zt (by omega) (by omega) hc]; simp [Zh,Z6,Zf,Zp,Zl,get0,get1,s1 k hk,s2 k hk,gt,hs2,ha0,hb0,o2,Zj,e0,e1,Y5 (w:=w) (v:=o) (by have:=h1 (by omega); rw [← this]; exact o4),show ¬ o = 0 by omega]
  refine Zb6 (by simp) ha hb hw (h1 (by omega)) ha0 hb0 hn hs hs2 (fun k hk=>?_) (fun k hk=>?_)
  ·exact ⟨⟨0,0,0,⟨[]⟩,[]⟩,by simp [Zw,ha0,o1,e0,e1]⟩
  ·exact ⟨_,by simp [Z6,Zp,get0,get1,ha0,o2,e0,e1]; rfl⟩
 ·by_cases e0 : a.N = 0
  ·refine .fin hb (by show b.W = w; have := h1 (by omega); omega) tb (fun k hk => ?_) (fun k hk => ?_)
   ·rw [Zr (by omega) (by omega) hc]; simp [Zb,Zw,Zo,Zf,Ze,Zn,Zd,get0,get1,i1 k hk,i2 k hk,hs,hs2,ha0,hb0,o1,e0]
   ·rw [Zt (by omega) (by omega) hc]; simp [Zh,Z6,Zf,Zp,Zl,get0,get1,s1 k hk,s2 k hk,gt,hs2,ha0,hb0,o2,Zj,e0]
  by_cases e1:a.N = o
  ·refine .go 4 5 (u := ⟨1, w, 0, ⟨[]⟩, [b]⟩) (X4 (Zgd (.inl rfl) hb (by have := h1 (by omega); omega)) rfl (by have := ZbL a; rw [cnt1, cnt2]; omega)) (fun k hk => ?_) (fun k hk => ?_)
   ·rw [Zr (by omega) (by omega) hc]; simp [Zb,Zw,Zo,Zf,Ze,Zn,Zd,get0,get1,i1 k hk,i2 k hk,hs,hs2,ha0,hb0,o1,e0,e1,show ¬ o = 0 by omega]; generalize ZI (k + 4) _ = z; cases z <;> simp
   ·rw [Zt (by omega) (by omega) hc]; simp [Zh,Z6,Zf,Zp,Zl,get0,get1,s1 k hk,s2 k hk,gt,hs2,ha0,hb0,o2,Zj,e0,e1,show ¬ o = 0 by omega]; generalize Z4 (k + 5) _ = z; cases z <;> simp
  refine Zb6 (by simp) ha hb hw (h1 (by omega)) ha0 hb0 hn hs hs2 (fun k hk=>?_) (fun k hk=>?_)
  ·exact ⟨⟨0,0,0,⟨[]⟩,[]⟩,by simp [Zw,ha0,o1,e0,e1]⟩
  ·exact ⟨_,by simp [Z6,Zp,get0,get1,ha0,o2,e0,e1]; rfl⟩
 ·have hw1 := h2 (by omega)
  by_cases q:a.W = 1
  ·rw [q] at va o1
   have hv:=(ZZ (by omega) (by omega) a.N).1 va
   have hv2:a.N = 0 ∨ a.N = 1:=by
    have:(2:Int) ^ (1:Int).toNat = 2:=rfl
    omega
   rcases hv2 with e | e
   ·refine .go 4 5 (u := ⟨1, 1, 0, ⟨[]⟩, [b]⟩) (X4 (Zgd (.inl rfl) hb (by omega)) hw1.symm (by have := ZbL a; rw [cnt1, cnt2]; omega)) (fun k hk => ?_) (fun k hk => ?_)
    ·rw [Zr (by omega) (by omega) hc]; simp [Zb,Zw,Zo,Zf,Ze,Zn,Zd,get0,get1,i1 k hk,i2 k hk,hs,hs2,ha0,hb0,o1,e,q,hw1]; generalize ZI (k + 4) _ = z; cases z <;> simp
    ·rw [Zt (by omega) (by omega) hc]; simp [Zh,Z6,Zf,Zp,Zl,get0,get1,s1 k hk,s2 k hk,gt,hs2,ha0,hb0,o2,Zj,e,q,hw1]; generalize Z4 (k + 5) _ = z; cases z <;> simp
   ·refine .fin hb (by show b.W = w; omega) tb (fun k hk => ?_) (fun k hk => ?_)
    ·rw [Zr (by omega) (by omega) hc]; simp [Zb,Zw,Zo,Zf,Ze,Zn,Zd,get0,get1,i1 k hk,i2 k hk,hs,hs2,ha0,hb0,o1,e,q]
    ·rw [Zt (by omega) (by omega) hc]; simp [Zh,Z6,Zf,Zp,Zl,get0,get1,s1 k hk,s2 k hk,gt,hs2,ha0,hb0,o2,Zj,e,q]
  ·refine .fin me rfl (Zl3 _) (fun k hk => ?_) (fun k hk => ?_)
   ·rw [Zr (by omega) (by omega) hc]; simp [Zb,Zw,Zo,Zf,Ze,Zn,Zd,get0,get1,i1 k hk,i2 k hk,hs,hs2,ha0,hb0,o1,q]
   ·rw [Zt (by omega) (by omega) hc]; simp [Zh,Z6,Zf,Zp,Zl,get0,get1,s1 k hk,s2 k hk,gt,hs2,ha0,hb0,o2,Zj,q]
theorem ZgF {op w:Int} {a b:D.Term} (ho:op = 4 ∨ op = 6 ∨ op = 7 ∨ op = 11 ∨ op = 12 ∨ op = 13 ∨ op = 15 ∨ op = 16) (ha:nodeB a = true) (hb:nodeB b = true) (hw:a.W = b.W) (h1:op ≤ 13 → a.W = w) (h2:14 ≤ op → w = 1)
  (ha0:a.Op = 0) (hb0:b.Op ≠ 0) (hn:cnt a ≤ 240):Stp ⟨op,w,0,⟨[]⟩,[a,b]⟩:=by
 have hma:=ZbG ha
 have hc:(a.Op == 0 && b.Op == 0) = false:=by simp [hb0]
 have hs2:ctm a b ≠ 0:=fun e=>by
  rw [Zc3] at e
  by_cases q:sg a.Op b.Op = 0
  ·unfold sg at q; split at q <;> (try split at q) <;> omega
  ·simp [q] at e
 have i2:∀ k,1100000 ≤ k → ZX (k + 6) a b = some (ctm a b == 0):=fun k hk=>Zb0 (by omega) (by omega)
 have s2:∀ k,1100000 ≤ k → Yb (k + 6) a b = some (ctm a b == 0):=fun k hk=>Zby (by omega) (by omega)
 have me:nodeB ⟨op,w,0,⟨[]⟩,[a,b]⟩ = true:=ZdL (by omega) (by omega) ha hb hw h1 h2
 obtain ⟨o,o1,o2,o3,o4⟩:=ZhW ha ha0
 refine .fin me rfl (Zl3 _) (fun k hk=>?_) (fun k hk=>?_)
 ·rw [Zr (by omega) (by omega) hc]
  rcases ho with rfl | rfl | rfl | rfl | rfl | rfl | rfl | rfl <;> simp [Zb,Zw,Zf,Ze,Zn,Zd,get0,get1,i2 k hk,hs2,ha0,hb0,o1]
 ·rw [Zt (by omega) (by omega) hc]
  rcases ho with rfl | rfl | rfl | rfl | rfl | rfl | rfl | rfl <;> simp [Zh,Z6,Zf,Zp,get0,get1,s2 k hk,hs2,ha0,hb0,o2,Zj]
theorem Zf4 {op w:Int} {a b:D.Term} (h3:3 ≤ op) (h16:op ≤ 16) (ha:nodeB a = true) (hb:nodeB b = true) (hw:a.W = b.W) (h1:op ≤ 13 → a.W = w) (h2:14 ≤ op → w = 1)
  (ha0:a.Op ≠ 0) (hn:cnt a ≤ 240) (hs:op = 3 ∨ op = 5 ∨ op = 8 ∨ op = 9 ∨ op = 10 ∨ op = 14 → ctm a b ≠ 1):Stp ⟨op,w,0,⟨[]⟩,[a,b]⟩:=by
 have hma:=ZbG ha
 have hc:(a.Op == 0 && b.Op == 0) = false:=by simp [ha0]
 have ga:=YB ha
 have i1:∀ k,1100000 ≤ k → ZC (k + 6) a b = some (ctm a b):=fun k hk=>Zc7 _ _ _ (by omega) (by omega)
 have s1:∀ k,1100000 ≤ k → ZB (k + 6) a b = some (ctm a b):=fun k hk=>ZcF _ _ _ (by omega) (by omega)
 have i2:∀ k,1100000 ≤ k → ZX (k + 6) a b = some (ctm a b == 0):=fun k hk=>Zb0 (by omega) (by omega)
 have s2:∀ k,1100000 ≤ k → Yb (k + 6) a b = some (ctm a b == 0):=fun k hk=>Zby (by omega) (by omega)
 have me:nodeB ⟨op,w,0,⟨[]⟩,[a,b]⟩ = true:=ZdL (by omega) (by omega) ha hb hw h1 h2
 have hw1:1 ≤ w ∧ w ≤ 16:=by omega
 have hz:=ZdA hw1.1 hw1.2
 have ta:cnt a ≤ cnt ⟨op,w,0,⟨[]⟩,[a,b]⟩:=by rw [cnt2]; omega
 have tc:∀ v,cnt ⟨0,w,v,⟨[]⟩,[]⟩ ≤ cnt ⟨op,w,0,⟨[]⟩,[a,b]⟩:=fun v=>by rw [cnt2,cnt0]; omega
 have hop:op = 3 ∨ op = 4 ∨ op = 5 ∨ op = 6 ∨ op = 7 ∨ op = 8 ∨ op = 9 ∨ op = 10 ∨ op = 11 ∨ op = 12 ∨ op = 13 ∨ op = 14 ∨ op = 15 ∨ op = 16:=by omega
 have gt:op = 3 ∨ op = 5 ∨ op = 8 ∨ op = 9 ∨ op = 10 ∨ op = 14 → ¬ 0 < ctm a b:=fun o=>by have:=Ze4 a b; have:=hs o; omega
 by_cases z:b.Op = 0 ∧ b.N = 0
 ·have c1 : Zn b 0 = some true := by simp [Zn, z.1, z.2]
  have c2:Zp b 0 = some true:=by simp [Zp,z.1,z.2]
  have hs2:ctm a b ≠ 0:=fun e=>by
   rw [Zc3] at e
   by_cases q:sg a.Op b.Op = 0
   ·unfold sg at q; split at q <;> (try split at q) <;> omega
   ·simp [q] at e
  rcases hop with rfl | rfl | rfl | rfl | rfl | rfl | rfl | rfl | rfl | rfl | rfl | rfl | rfl | rfl
  ·refine .fin me rfl (Zl3 _) (fun k hk => ?_) (fun k hk => ?_)
   ·rw [Zr (by omega) (by omega) hc]; simp [Zb,Zf,Ze,Zd,get0,get1,i1 k hk,i2 k hk,ha0,c1,hs2,hs (by simp)]
   ·rw [Zt (by omega) (by omega) hc]; simp [Zh,Zi,Zf,Zl,get0,get1,s1 k hk,s2 k hk,ha0,c2,Zj,hs2,gt (by simp)]
  ·refine .fin ha (h1 (by omega)) ta (fun k hk => ?_) (fun k hk => ?_)
   ·rw [Zr (by omega) (by omega) hc]; simp [Zb,Zf,Ze,Zd,get0,get1,i1 k hk,i2 k hk,ha0,c1]
   ·rw [Zt (by omega) (by omega) hc]; simp [Zh,Zi,Zf,Zl,get0,get1,s1 k hk,s2 k hk,ha0,c2,Zj]
  ·refine .fin me rfl (Zl3 _) (fun k hk => ?_) (fun k hk => ?_)
   ·rw [Zr (by omega) (by omega) hc]; simp [Zb,Zf,Ze,Zd,get0,get1,i1 k hk,i2 k hk,ha0,c1,hs2,hs (by simp)]
   ·rw [Zt (by omega) (by omega) hc]; simp [Zh,Zi,Zf,Zl,get0,get1,s1 k hk,s2 k hk,ha0,c2,Zj,hs2,gt (by simp)]
  ·refine .fin me rfl (Zl3 _) (fun k hk => ?_) (fun k hk => ?_)
   ·rw [Zr (by omega) (by omega) hc]; simp [Zb,Zf,Ze,Zd,get0,get1,i1 k hk,i2 k hk,ha0,c1,hs2]
   ·rw [Zt (by omega) (by omega) hc]; simp [Zh,Zi,Zf,Zl,get0,get1,s1 k hk,s2 k hk,ha0,c2,Zj,hs2]
  ·refine .fin me rfl (Zl3 _) (fun k hk => ?_) (fun k hk => ?_)
   ·rw [Zr (by omega) (by omega) hc]; simp [Zb,Zf,Ze,Zd,get0,get1,i1 k hk,i2 k hk,ha0,c1,hs2]
   ·rw [Zt (by omega) (by omega) hc]; simp [Zh,Zi,Zf,Zl,get0,get1,s1 k hk,s2 k hk,ha0,c2,Zj,hs2]
  ·refine .fin me rfl (Zl3 _) (fun k hk => ?_) (fun k hk => ?_)
   ·rw [Zr (by omega) (by omega) hc]; simp [Zb,Zf,Ze,Zd,get0,get1,i1 k hk,i2 k hk,ha0,c1,hs2,hs (by simp)]
   ·rw [Zt (by omega) (by omega) hc]; simp [Zh,Zi,Zf,Zl,get0,get1,s1 k hk,s2 k hk,ha0,c2,Zj,hs2,gt (by simp)]
  ·refine .fin me rfl (Zl3 _) (fun k hk => ?_) (fun k hk => ?_)
   ·rw [Zr (by omega) (by omega) hc]; simp [Zb,Zf,Ze,Zd,get0,get1,i1 k hk,i2 k hk,ha0,c1,hs2,hs (by simp)]
   ·rw [Zt (by omega) (by omega) hc]; simp [Zh,Zi,Zf,Zl,get0,get1,s1 k hk,s2 k hk,ha0,c2,Zj,hs2,gt (by simp)]
  ·refine .fin me rfl (Zl3 _) (fun k hk => ?_) (fun k hk => ?_)
   ·rw [Zr (by omega) (by omega) hc]; simp [Zb,Zf,Ze,Zd,get0,get1,i1 k hk,i2 k hk,ha0,c1,hs2,hs (by simp)]
   ·rw [Zt (by omega) (by omega) hc]; simp [Zh,Zi,Zf,Zl,get0,get1,s1 k hk,s2 k hk,ha0,c2,Zj,hs2,gt (by simp)]
  ·refine .fin ha (h1 (by omega)) ta (fun k hk => ?_) (fun k hk => ?_)
   ·rw [Zr (by omega) (by omega) hc]; simp [Zb,Zf,Ze,Zd,get0,get1,i1 k hk,i2 k hk,ha0,c1]
   ·rw [Zt (by omega) (by omega) hc]; simp [Zh,Zi,Zf,Zl,get0,get1,s1 k hk,s2 k hk,ha0,c2,Zj]
  ·refine .fin ha (h1 (by omega)) ta (fun k hk => ?_) (fun k hk => ?_)
   ·rw [Zr (by omega) (by omega) hc]; simp [Zb,Zf,Ze,Zd,get0,get1,i1 k hk,i2 k hk,ha0,c1]
   ·rw [Zt (by omega) (by omega) hc]; simp [Zh,Zi,Zf,Zl,get0,get1,s1 k hk,s2 k hk,ha0,c2,Zj]
  ·refine .fin ha (h1 (by omega)) ta (fun k hk => ?_) (fun k hk => ?_)
   ·rw [Zr (by omega) (by omega) hc]; simp [Zb,Zf,Ze,Zd,get0,get1,i1 k hk,i2 k hk,ha0,c1]
   ·rw [Zt (by omega) (by omega) hc]; simp [Zh,Zi,Zf,Zl,get0,get1,s1 k hk,s2 k hk,ha0,c2,Zj]
  ·refine .fin me rfl (Zl3 _) (fun k hk => ?_) (fun k hk => ?_)
   ·rw [Zr (by omega) (by omega) hc]; simp [Zb,Zf,Ze,Zd,get0,get1,i1 k hk,i2 k hk,ha0,c1,hs2,hs (by simp)]
   ·rw [Zt (by omega) (by omega) hc]; simp [Zh,Zi,Zf,Zl,get0,get1,s1 k hk,s2 k hk,ha0,c2,Zj,hs2,gt (by simp)]
  ·obtain rfl := h2 (by omega)
   refine .fin (Zbk (w:=1) (v:=0) (hz)) rfl (tc _) (fun k hk=>?_) (fun k hk=>?_)
   ·rw [Zr (by omega) (by omega) hc]; simp [Zb,Zf,Ze,Zd,get0,get1,i1 k hk,i2 k hk,ha0,c1,Y5 hz]
   ·rw [Zt (by omega) (by omega) hc]; simp [Zh,Zi,Zf,Zl,get0,get1,s1 k hk,s2 k hk,ha0,c2,Zj]
  ·refine .fin me rfl (Zl3 _) (fun k hk => ?_) (fun k hk => ?_)
   ·rw [Zr (by omega) (by omega) hc]; simp [Zb,Zf,Ze,Zd,get0,get1,i1 k hk,i2 k hk,ha0,c1,hs2]
   ·rw [Zt (by omega) (by omega) hc]; simp [Zh,Zi,Zf,Zl,get0,get1,s1 k hk,s2 k hk,ha0,c2,Zj,hs2]
 ·have c1:Zn b 0 = some false:=by
   unfold Zn
   cases h:(b.Op == 0 && b.N == 0)
   ·rfl
   ·rw [Zl0,ZlW,ZlW] at h; exact absurd h z
  have c2:Zp b 0 = some false:=by
   unfold Zp
   cases h:(b.Op == 0 && b.N == 0)
   ·rfl
   ·rw [Zl0,ZlW,ZlW] at h; exact absurd h z
  by_cases e:ctm a b = 0
  ·rcases hop with rfl | rfl | rfl | rfl | rfl | rfl | rfl | rfl | rfl | rfl | rfl | rfl | rfl | rfl
   ·refine .fin me rfl (Zl3 _) (fun k hk => ?_) (fun k hk => ?_)
    ·rw [Zr (by omega) (by omega) hc]; simp [Zb,Zf,Ze,Zd,get0,get1,i1 k hk,i2 k hk,ha0,c1,e]
    ·rw [Zt (by omega) (by omega) hc]; simp [Zh,Zi,Zf,Zl,get0,get1,s1 k hk,s2 k hk,ha0,c2,Zj,e]
   ·refine .fin (Zbk (w := w) (v := 0) (hz)) rfl (tc _) (fun k hk => ?_) (fun k hk => ?_)
    ·rw [Zr (by omega) (by omega) hc]; simp [Zb,Zf,Ze,Zd,get0,get1,i1 k hk,i2 k hk,ha0,c1,e,Y5 hz]
    ·rw [Zt (by omega) (by omega) hc]; simp [Zh,Zi,Zf,Zl,get0,get1,s1 k hk,s2 k hk,ha0,c2,Zj,e]
   ·refine .fin me rfl (Zl3 _) (fun k hk => ?_) (fun k hk => ?_)
    ·rw [Zr (by omega) (by omega) hc]; simp [Zb,Zf,Ze,Zd,get0,get1,i1 k hk,i2 k hk,ha0,c1,e]
    ·rw [Zt (by omega) (by omega) hc]; simp [Zh,Zi,Zf,Zl,get0,get1,s1 k hk,s2 k hk,ha0,c2,Zj,e]
   ·refine .fin me rfl (Zl3 _) (fun k hk => ?_) (fun k hk => ?_)
    ·rw [Zr (by omega) (by omega) hc]; simp [Zb,Zf,Ze,Zd,get0,get1,i1 k hk,i2 k hk,ha0,c1,e]
    ·rw [Zt (by omega) (by omega) hc]; simp [Zh,Zi,Zf,Zl,get0,get1,s1 k hk,s2 k hk,ha0,c2,Zj,e]
   ·refine .fin me rfl (Zl3 _) (fun k hk => ?_) (fun k hk => ?_)
    ·rw [Zr (by omega) (by omega) hc]; simp [Zb,Zf,Ze,Zd,get0,get1,i1 k hk,i2 k hk,ha0,c1,e]
    ·rw [Zt (by omega) (by omega) hc]; simp [Zh,Zi,Zf,Zl,get0,get1,s1 k hk,s2 k hk,ha0,c2,Zj,e]
   ·refine .fin ha (h1 (by omega)) ta (fun k hk => ?_) (fun k hk => ?_)
    ·rw [Zr (by omega) (by omega) hc]; simp [Zb,Zf,Ze,Zd,get0,get1,i1 k hk,i2 k hk,ha0,c1,e]
    ·rw [Zt (by omega) (by omega) hc]; simp [Zh,Zi,Zf,Zl,get0,get1,s1 k hk,s2 k hk,ha0,c2,Zj,e]
   ·refine .fin ha (h1 (by omega)) ta (fun k hk => ?_) (fun k hk => ?_)
    ·rw [Zr (by omega) (by omega) hc]; simp [Zb,Zf,Ze,Zd,get0,get1,i1 k hk,i2 k hk,ha0,c1,e]
    ·rw [Zt (by omega) (by omega) hc]; simp [Zh,Zi,Zf,Zl,get0,get1,s1 k hk,s2 k hk,ha0,c2,Zj,e]
   ·refine .fin (Zbk (w := w) (v := 0) (hz)) rfl (tc _) (fun k hk => ?_) (fun k hk => ?_)
    ·rw [Zr (by omega) (by omega) hc]; simp [Zb,Zf,Ze,Zd,get0,get1,i1 k hk,i2 k hk,ha0,c1,e,Y5 hz]
    ·rw [Zt (by omega) (by omega) hc]; simp [Zh,Zi,Zf,Zl,get0,get1,s1 k hk,s2 k hk,ha0,c2,Zj,e]
   ·refine .fin me rfl (Zl3 _) (fun k hk => ?_) (fun k hk => ?_)
    ·rw [Zr (by omega) (by omega) hc]; simp [Zb,Zf,Ze,Zd,get0,get1,i1 k hk,i2 k hk,ha0,c1,e]
    ·rw [Zt (by omega) (by omega) hc]; simp [Zh,Zi,Zf,Zl,get0,get1,s1 k hk,s2 k hk,ha0,c2,Zj,e]
   ·refine .fin me rfl (Zl3 _) (fun k hk => ?_) (fun k hk => ?_)
    ·rw [Zr (by omega) (by omega) hc]; simp [Zb,Zf,Ze,Zd,get0,get1,i1 k hk,i2 k hk,ha0,c1,e]
    ·rw [Zt (by omega) (by omega) hc]; simp [Zh,Zi,Zf,Zl,get0,get1,s1 k hk,s2 k hk,ha0,c2,Zj,e]
   ·refine .fin me rfl (Zl3 _) (fun k hk => ?_) (fun k hk => ?_)
    ·rw [Zr (by omega) (by omega) hc]; simp [Zb,Zf,Ze,Zd,get0,get1,i1 k hk,i2 k hk,ha0,c1,e]
    ·rw [Zt (by omega) (by omega) hc]; simp [Zh,Zi,Zf,Zl,get0,get1,s1 k hk,s2 k hk,ha0,c2,Zj,e]
   ·obtain rfl := h2 (by omega)
    refine .fin (Zbk (w:=1) (v:=1) (by decide)) rfl (tc _) (fun k hk=>?_) (fun k hk=>?_)
    ·rw [Zr (by omega) (by omega) hc]; simp [Zb,Zf,Ze,Zd,get0,get1,i1 k hk,i2 k hk,ha0,c1,e,Y5 (w:=1) (v:=1) (by decide)]
    ·rw [Zt (by omega) (by omega) hc]; simp [Zh,Zi,Zf,Zl,get0,get1,s1 k hk,s2 k hk,ha0,c2,Zj,e]
   ·refine .fin (Zbk (w := w) (v := 0) (hz)) rfl (tc _) (fun k hk => ?_) (fun k hk => ?_)
    ·rw [Zr (by omega) (by omega) hc]; simp [Zb,Zf,Ze,Zd,get0,get1,i1 k hk,i2 k hk,ha0,c1,e,Y5 hz]
    ·rw [Zt (by omega) (by omega) hc]; simp [Zh,Zi,Zf,Zl,get0,get1,s1 k hk,s2 k hk,ha0,c2,Zj,e]
   ·refine .fin (Zbk (w := w) (v := 0) (hz)) rfl (tc _) (fun k hk => ?_) (fun k hk => ?_)
    ·rw [Zr (by omega) (by omega) hc]; simp [Zb,Zf,Ze,Zd,get0,get1,i1 k hk,i2 k hk,ha0,c1,e,Y5 hz]
    ·rw [Zt (by omega) (by omega) hc]; simp [Zh,Zi,Zf,Zl,get0,get1,s1 k hk,s2 k hk,ha0,c2,Zj,e]
  ·rcases hop with rfl | rfl | rfl | rfl | rfl | rfl | rfl | rfl | rfl | rfl | rfl | rfl | rfl | rfl
   ·refine .fin me rfl (Zl3 _) (fun k hk => ?_) (fun k hk => ?_)
    ·rw [Zr (by omega) (by omega) hc]; simp [Zb,Zf,Ze,Zd,get0,get1,i1 k hk,i2 k hk,ha0,c1,e,hs (by simp)]
    ·rw [Zt (by omega) (by omega) hc]; simp [Zh,Zi,Zf,Zl,get0,get1,s1 k hk,s2 k hk,ha0,c2,Zj,e,gt (by simp)]
   ·refine .fin me rfl (Zl3 _) (fun k hk => ?_) (fun k hk => ?_)
    ·rw [Zr (by omega) (by omega) hc]; simp [Zb,Zf,Ze,Zd,get0,get1,i1 k hk,i2 k hk,ha0,c1,e]
    ·rw [Zt (by omega) (by omega) hc]; simp [Zh,Zi,Zf,Zl,get0,get1,s1 k hk,s2 k hk,ha0,c2,Zj,e]
   ·refine .fin me rfl (Zl3 _) (fun k hk => ?_) (fun k hk => ?_)
    ·rw [Zr (by omega) (by omega) hc]; simp [Zb,Zf,Ze,Zd,get0,get1,i1 k hk,i2 k hk,ha0,c1,e,hs (by simp)]
    ·rw [Zt (by omega) (by omega) hc]; simp [Zh,Zi,Zf,Zl,get0,get1,s1 k hk,s2 k hk,ha0,c2,Zj,e,gt (by simp)]
   ·refine .fin me rfl (Zl3 _) (fun k hk => ?_) (fun k hk => ?_)
    ·rw [Zr (by omega) (by omega) hc]; simp [Zb,Zf,Ze,Zd,get0,get1,i1 k hk,i2 k hk,ha0,c1,e]
    ·rw [Zt (by omega) (by omega) hc]; simp [Zh,Zi,Zf,Zl,get0,get1,s1 k hk,s2 k hk,ha0,c2,Zj,e]
   ·refine .fin me rfl (Zl3 _) (fun k hk => ?_) (fun k hk => ?_)
    ·rw [Zr (by omega) (by omega) hc]; simp [Zb,Zf,Ze,Zd,get0,get1,i1 k hk,i2 k hk,ha0,c1,e]
    ·rw [Zt (by omega) (by omega) hc]; simp [Zh,Zi,Zf,Zl,get0,get1,s1 k hk,s2 k hk,ha0,c2,Zj,e]
   ·refine .fin me rfl (Zl3 _) (fun k hk => ?_) (fun k hk => ?_)
    ·rw [Zr (by omega) (by omega) hc]; simp [Zb,Zf,Ze,Zd,get0,get1,i1 k hk,i2 k hk,ha0,c1,e,hs (by simp)]
    ·rw [Zt (by omega) (by omega) hc]; simp [Zh,Zi,Zf,Zl,get0,get1,s1 k hk,s2 k hk,ha0,c2,Zj,e,gt (by simp)]
   ·refine .fin me rfl (Zl3 _) (fun k hk => ?_) (fun k hk => ?_)
    ·rw [Zr (by omega) (by omega) hc]; simp [Zb,Zf,Ze,Zd,get0,get1,i1 k hk,i2 k hk,ha0,c1,e,hs (by simp)]
    ·rw [Zt (by omega) (by omega) hc]; simp [Zh,Zi,Zf,Zl,get0,get1,s1 k hk,s2 k hk,ha0,c2,Zj,e,gt (by simp)]
   ·refine .fin me rfl (Zl3 _) (fun k hk => ?_) (fun k hk => ?_)
    ·rw [Zr (by omega) (by omega) hc]; simp [Zb,Zf,Ze,Zd,get0,get1,i1 k hk,i2 k hk,ha0,c1,e,hs (by simp)]
    ·rw [Zt (by omega) (by omega) hc]; simp [Zh,Zi,Zf,Zl,get0,get1,s1 k hk,s2 k hk,ha0,c2,Zj,e,gt (by simp)]
   ·refine .fin me rfl (Zl3 _) (fun k hk => ?_) (fun k hk => ?_)
    ·rw [Zr (by omega) (by omega) hc]; simp [Zb,Zf,Ze,Zd,get0,get1,i1 k hk,i2 k hk,ha0,c1,e]
    ·rw [Zt (by omega) (by omega) hc]; simp [Zh,Zi,Zf,Zl,get0,get1,s1 k hk,s2 k hk,ha0,c2,Zj,e]
   ·refine .fin me rfl (Zl3 _) (fun k hk => ?_) (fun k hk => ?_)
    ·rw [Zr (by omega) (by omega) hc]; simp [Zb,Zf,Ze,Zd,get0,get1,i1 k hk,i2 k hk,ha0,c1,e]
    ·rw [Zt (by omega) (by omega) hc]; simp [Zh,Zi,Zf,Zl,get0,get1,s1 k hk,s2 k hk,ha0,c2,Zj,e]
   ·refine .fin me rfl (Zl3 _) (fun k hk => ?_) (fun k hk => ?_)
    ·rw [Zr (by omega) (by omega) hc]; simp [Zb,Zf,Ze,Zd,get0,get1,i1 k hk,i2 k hk,ha0,c1,e]
    ·rw [Zt (by omega) (by omega) hc]; simp [Zh,Zi,Zf,Zl,get0,get1,s1 k hk,s2 k hk,ha0,c2,Zj,e]
   ·refine .fin me rfl (Zl3 _) (fun k hk => ?_) (fun k hk => ?_)
    ·rw [Zr (by omega) (by omega) hc]; simp [Zb,Zf,Ze,Zd,get0,get1,i1 k hk,i2 k hk,ha0,c1,e,hs (by simp)]
    ·rw [Zt (by omega) (by omega) hc]; simp [Zh,Zi,Zf,Zl,get0,get1,s1 k hk,s2 k hk,ha0,c2,Zj,e,gt (by simp)]
   ·refine .fin me rfl (Zl3 _) (fun k hk => ?_) (fun k hk => ?_)
    ·rw [Zr (by omega) (by omega) hc]; simp [Zb,Zf,Ze,Zd,get0,get1,i1 k hk,i2 k hk,ha0,c1,e]
    ·rw [Zt (by omega) (by omega) hc]; simp [Zh,Zi,Zf,Zl,get0,get1,s1 k hk,s2 k hk,ha0,c2,Zj,e]
   ·refine .fin me rfl (Zl3 _) (fun k hk => ?_) (fun k hk => ?_)
    ·rw [Zr (by omega) (by omega) hc]; simp [Zb,Zf,Ze,Zd,get0,get1,i1 k hk,i2 k hk,ha0,c1,e]
    ·rw [Zt (by omega) (by omega) hc]; simp [Zh,Zi,Zf,Zl,get0,get1,s1 k hk,s2 k hk,ha0,c2,Zj,e]
theorem ZiX {op w:Int} {a b:D.Term} (h3:3 ≤ op) (h16:op ≤ 16) (ha:nodeB a = true) (hb:nodeB b = true) (hw:a.W = b.W) (h1:op ≤ 13 → a.W = w) (h2:14 ≤ op → w = 1) (hc:(a.Op == 0 && b.Op == 0) = false) (hn:cnt a ≤ 240):Stp ⟨op,w,0,⟨[]⟩,[a,b]⟩:=by
 by_cases ho:op = 3 ∨ op = 5 ∨ op = 8 ∨ op = 9 ∨ op = 10 ∨ op = 14
 ·by_cases hs : ctm a b = 1
  ·exact Zid ho ha hb hw h1 h2 hc hn hs
  by_cases ha0:a.Op = 0
  ·exact Zht ho ha hb hw h1 h2 ha0 (fun e=>by simp [ha0,e] at hc) hn hs
  ·exact Zf4 h3 h16 ha hb hw h1 h2 ha0 hn fun _=>hs
 ·by_cases ha0 : a.Op = 0
  ·exact ZgF (by omega) ha hb hw h1 h2 ha0 (fun e=>by simp [ha0,e] at hc) hn
  ·exact Zf4 h3 h16 ha hb hw h1 h2 ha0 hn fun o=>absurd o ho
theorem step {t:D.Term} (h:nodeB t = true) (hn:cnt t ≤ 240):Stp t:=by
 obtain ⟨op,w,m,nm,ks⟩:=t
 obtain ⟨⟨w1,w2⟩,hs⟩:=Xy h
 by_cases hc:ks ≠ [] ∧ (ks.all fun x=>x.Op == 0) = true
 ·refine ZgY h hc.1 ?_ hc.2
  rcases hs with ⟨_,rfl,_⟩ | ⟨_,rfl,_⟩ | ⟨_,_,_,a,rfl,_⟩ | ⟨_,_,_,_,a,b,rfl,_⟩ | ⟨_,_,_,a,b,c,rfl,_⟩ | ⟨_,_,_,a,b,rfl,_⟩ | ⟨_,_,_,_,a,rfl,_⟩ | ⟨_,_,_,a,rfl,_⟩ <;> simp
 have hc:ks ≠ [] → (ks.all fun x=>x.Op == 0) = false:=fun e=>by
  cases q:ks.all fun x=>x.Op == 0
  ·rfl
  ·exact absurd ⟨e,q⟩ hc
 rcases hs with ⟨ho,rfl,rfl,hv⟩ | ⟨ho,rfl,rfl⟩ | ⟨ho,rfl,rfl,a,rfl,ha,hw⟩ | ⟨h3,h16,rfl,rfl,a,b,rfl,ha,hb,hab,e1,e2⟩ | ⟨rfl,rfl,rfl,a,b,c,rfl,ha,hb,hcc,aw,bw,cw⟩ | ⟨rfl,rfl,rfl,a,b,rfl,ha,hb,hab⟩ | ⟨rfl,rfl,m0,m16,a,rfl,ha,haw⟩ | ⟨ho,rfl,rfl,a,rfl,ha,haw⟩
 ·exact Zfp h (.inl ho)
 ·exact Zfp h (.inr ho)
 ·exact Zkx ho ha hw (by have:=hc (by simp); simpa using this)
 ·rw [cnt2] at hn
  exact ZiX h3 h16 ha hb hab e1 e2 (by have:=hc (by simp); simpa using this) (by omega)
 ·rw [cnt3] at hn
  exact Zkr ha hb hcc aw bw cw (by have:=hc (by simp); simpa using this) (by omega)
 ·rw [cnt2] at hn
  exact Ziw ha hb hab w2 (by have:=hc (by simp); simpa using this) (by omega)
 ·exact Zjt ha m0 m16 w1 haw (by have:=hc (by simp); simpa using this)
 ·exact Zjo ho ha haw w2 (by have:=hc (by simp); simpa using this)
theorem simpler:∀ (d:Nat) (t:D.Term),mea t ≤ d → nodeB t = true → cnt t ≤ 240 → ∃ r,nodeB r = true ∧ r.W = t.W ∧ cnt r ≤ cnt t ∧ (∀ n,1100000 + 8 * (d + 1) ≤ n → ZI n t = some r) ∧ ∀ n,1100000 + 8 * (d + 1) ≤ n → Z4 n t = some r:=by
 intro d
 induction d with
 | zero=>
  intro t h
  have:=ZbL t
  unfold mea at h; omega
 | succ d ih=>
  intro t hm h hn
  obtain ⟨s,hg,h1,h2⟩:=step h hn
  cases s with
  | inl r=>
   refine ⟨r,hg.1,hg.2.1,hg.2.2,fun n hn=>?_,fun n hn=>?_⟩
   ·obtain ⟨k, rfl⟩ : ∃ k, n = k + 8 := ⟨n - 8, by omega⟩
    obtain ⟨k',_,e⟩:=h1 k (by omega)
    exact e
   ·obtain ⟨k, rfl⟩ : ∃ k, n = k + 8 := ⟨n - 8, by omega⟩
    obtain ⟨k',_,e⟩:=h2 k (by omega)
    exact e
  | inr u=>
   obtain ⟨g1,g2,g3,g4⟩:=hg
   obtain ⟨r,q1,q2,q3,q4,q5⟩:=ih u (by omega) g1 (by omega)
   refine ⟨r,q1,by rw [q2,g2],by omega,fun n hn=>?_,fun n hn=>?_⟩
   ·obtain ⟨k, rfl⟩ : ∃ k, n = k + 8 := ⟨n - 8, by omega⟩
    obtain ⟨k',hk',e⟩:=h1 k (by omega)
    rw [e]; exact q4 k' (by omega)
   ·obtain ⟨k, rfl⟩ : ∃ k, n = k + 8 := ⟨n - 8, by omega⟩
    obtain ⟨k',hk',e⟩:=h2 k (by omega)
    rw [e]; exact q5 k' (by omega)
theorem ZiJ:∀ (n:Nat) (t:D.Term),msz t ≤ 1048576 → 1048580 + cnt t ≤ n → Y6 n t = some t:=by
 intro n
 induction n with
 | zero=>intro t _ h; omega
 | succ n ih=>
  intro t hs hn
  have hz:=XI t
  have hc:=XC t
  rw [Y6]
  obtain ⟨r,g1,g2⟩:=ZN (l:=t.Kids) (n:=n) (σ:=List D.Term) (ρ:=List D.Term) (B:=fun (s1:Int × (List D.Term))=>
  if (decide (s1.1 < (len t.Kids))) then
   (get? t.Kids s1.1).bind fun x1=>
   (Y6 n x1).bind fun x2=>
   (app? s1.2 ([x2]:List D.Term)).bind fun x3=>
   some (.inl ((w64 (s1.1 + 1)),x3))
  else
   some (.inr (s1.2))) (fun j a=>((j:Int),a)) (fun ys a=>a ++ ys = t.Kids ∧ (∀ x ∈ ys,x ∈ t.Kids)) (fun r=>r = t.Kids)
   (fun j x xs a hj hx hlen ⟨h1, h2⟩ => by
    have hd:decide ((j:Int) < len t.Kids) = true:=by rw [Zg]; simp; omega
    have hm:=h2 x (by simp)
    have m1:=Xo hm
    have m2:=Zb3 hm
    have hl:=congrArg List.length h1
    simp only [ZlQ,ZlO] at hl
    simp only [hd,ZlL,get?_nat,hx,Zlx,ih x (by omega) (by omega)]
    rw [YS (by simp; omega)]
    exact .inl ⟨a ++ [x],by simp only [Zlx]; rw [Zk (by omega) (by omega)]; rfl,by simp [← h1],fun y hy=>h2 y (by simp [hy])⟩)
   (fun a ⟨h1, _⟩ => by
    have hd:decide ((t.Kids.length:Int) < len t.Kids) = false:=by rw [Zg]; simp
    simp only [hd,Zly,Zl4]
    exact ⟨_,rfl,by simpa using h1⟩) (a:=[]) ⟨rfl,fun _ h=>h⟩ (by omega)
  rw [show ((0:Nat):Int) = 0 from rfl] at g1
  rw [g1,g2]
  cases t; rfl
theorem Ziq:∀ n:Nat,(∀ t:D.Term,msz t ≤ 1048576 → 1048580 + 2 * msz t + 1 ≤ n → Xx n t = some t) ∧ (∀ l:List D.Term,sml l → 1048580 + 2 * (l.length + mszs l) ≤ n → ZU n l = some l):=by
 intro n
 induction n with
 | zero=>exact ⟨fun t _ _=>by omega,fun l _ _=>by omega⟩
 | succ n ih=>
  refine ⟨fun t h hn=>?_,fun l h hn=>?_⟩
  ·have := XI t
   unfold Xx
   rw [ih.2 t.Kids (by unfold sml; omega) (by omega)]
   cases t; rfl
  ·unfold sml at h
   unfold ZU
   by_cases c0:l.length = 0
   ·have : l = [] := Zm0.1 c0
    subst this; rfl
   rw [Zl7 (by rw [Zg]; simp; exact fun e=>c0 (by simp [e])),mk?_len (by unfold room; omega)]
   simp only [Zlx]
   obtain ⟨r,g1,g2⟩:=ZN (l:=l) (n:=n) (σ:=List D.Term) (ρ:=List D.Term) (B:=fun (s1:Int × (List D.Term))=>
     if (decide (s1.1 < (len l))) then
      (get? l s1.1).bind fun x2=>
      (Xx n x2).bind fun x3=>
      (set? s1.2 s1.1 x3).bind fun x4=>
      some (.inl ((w64 (s1.1 + 1)),x4))
     else
      some (.inr (s1.2))) (fun k (a:List D.Term)=>((k:Int),a)) (fun ys a=>(∃ pre zs:List D.Term,pre ++ ys = l ∧ a = pre ++ zs ∧ zs.length = ys.length) ∧ ∀ x ∈ ys,x ∈ l) (fun r=>r = l)
     (fun k x xs a hk' hx hlen ⟨⟨pre, zs, h1, hz, hz'⟩, hm⟩ => by
      have hxl:=hm x (by simp)
      have:=Xo hxl
      have hl:=congrArg List.length h1
      simp only [ZlO,ZlQ] at hlen hz' hl
      simp only [get?_nat,hx,Zlx,Zg]
      rw [Zl6 (by simpa using hk'),ih.1 x (by omega) (by omega)]
      simp only [Zlx]
      obtain ⟨z,zs,rfl⟩ : ∃ z zs',zs = z :: zs':=by cases zs with | nil=>simp at hz' | cons z zs=>exact ⟨_,_,rfl⟩
      have e1:pre.length = k:=by omega
      subst hz
      rw [set?_nat (by simp; omega)]
      refine .inl ⟨(pre ++ z :: zs).set k x,by simp only [Zlx]; rw [Zk (by omega) (by omega)]; rfl,⟨pre ++ [x],zs,by simp [← h1],?_,by simpa using hz'⟩,fun y hy=>hm y (by simp [hy])⟩
      rw [Zmo _ _ (by omega),e1,Zmh]; simp)
     (fun a ⟨⟨pre, zs, h1, h2, h3⟩, _⟩ => by
      have hd:decide ((l.length:Int) < len l) = false:=by rw [Zg]; simp
      simp only [hd,Zly,Zl4]
      simp only [Zmu,Zm0] at h3
      subst h3
      exact ⟨_,rfl,by rw [h2]; simpa using h1⟩) (a:=List.replicate l.length _) ⟨⟨[],_,rfl,rfl,by simp⟩,fun _ h=>h⟩ (by omega)
   rw [show ((0:Nat):Int) = 0 from rfl] at g1
   rw [g1,g2]
   rfl
theorem Zfc {t:D.Term} (h:nodeB t = true) (hn:cnt t ≤ 240):msz t ≤ 2640:=by
 have:=ZbG h
 omega
theorem Zh8 {t:D.Term} (h:nodeB t = true) (hn:cnt t ≤ 240):Y6 fuel t = some t:=ZiJ _ _ (by have:=Zfc h hn; omega) (by unfold fuel; omega)
def t0:D.Term:=⟨0,0,0,⟨[]⟩,[]⟩
noncomputable def simp1 (t:D.Term):D.Term:=(ZI fuel t).getD t0
theorem Zgu {t:D.Term} (h:termB t = true):nodeB t = true ∧ cnt t ≤ 240:=by
 unfold termB at h
 simp only [Zl0,ZlB] at h
 exact ⟨h.1.2,h.1.1⟩
noncomputable def mkT (op w m:Int) (ks:List D.Term):D.Term × Bool:=if termB ⟨op,w,m,⟨[]⟩,ks⟩ = true then (simp1 ⟨op,w,m,⟨[]⟩,ks⟩,true) else (t0,false)
def fine (t:D.Term):Prop:=nodeB t = true ∧ cnt t ≤ 240
theorem Ze0 {t:D.Term} (h:termB t = true):fine t:=Zgu h
theorem ZcK {t:D.Term} (h:fine t):msz t ≤ 2640:=Zfc h.1 h.2
def c11:D.Term:=⟨0,1,1,⟨[]⟩,[]⟩
theorem Zky {l:List D.Term} {w:Int} (h:tsB l w = true) {x:D.Term} (hx:x ∈ l):termB x = true ∧ x.W = w:=by
 unfold tsB at h
 rw [Zl8] at h
 have:=h x hx
 simpa using this
theorem Zjx {α ρ:Type} {l:List α} {b:α → Bool} {z:ρ} (G:α → Int → Option (Int ⊕ (Unit ⊕ ρ))) (hG:∀ (k:Nat) (x:α),l[k]? = some x → G x k = if b x = true then some (.inl (w64 ((k:Int) + 1))) else some (.inr (.inr z))) (hb:l.length ≤ 1048576) {n:Nat} (hn:l.length < n) :
  iterN (fun (s1:Int)=>if (decide (s1 < (len l))) then (get? l s1).bind fun x1=>G x1 s1 else some (.inr (.inl ()))) n 0 = some (if l.all b = true then (.inl ():Unit ⊕ ρ) else .inr z):=by
 obtain ⟨r,g1,g2⟩:=ZN (l:=l) (n:=n) (σ:=Unit) (ρ:=Unit ⊕ ρ) (B:=fun (s1:Int)=>if (decide (s1 < (len l))) then (get? l s1).bind fun x1=>G x1 s1 else some (.inr (.inl ())))
  (fun k _=>(k:Int)) (fun ys _=>ys.all b = l.all b) (fun r=>r = if l.all b = true then (.inl ():Unit ⊕ ρ) else .inr z)
  (fun k x xs a hk' hx hlen hi => by
   have hd:decide ((k:Int) < len l) = true:=by rw [Zg]; simp; omega
   simp only [hd,ZlL,get?_nat,hx,Zlx]
   rw [hG k x hx]
   rw [Znc] at hi
   cases c:b x
   ·rw [c, Zmt] at hi
    exact .inr ⟨_,rfl,by rw [← hi]; rfl⟩
   ·rw [c, ZlV] at hi
    exact .inl ⟨(),by rw [Zk (by omega) (by omega)]; rfl,hi⟩)
  (fun a hi => by
   have hd:decide ((l.length:Int) < len l) = false:=by rw [Zg]; simp
   simp only [hd,Zly,Zl4]
   exact ⟨_,rfl,by rw [← hi]; rfl⟩) (a:=()) rfl hn
 rw [show ((0:Nat):Int) = 0 from rfl] at g1
 rw [g1,g2]
theorem ZgD {σt ρt:Type} {B:σt → Option (σt ⊕ ρt)} {s s':σt} {n:Nat} (h:B s = some (.inl s')):iterN B (n + 1) s = iterN B n s':=by
 conv=>lhs; unfold iterN
 rw [h]
def fineL (l:List D.Term):Prop:=l.length ≤ 100 ∧ ∀ x ∈ l,fine x
theorem ZcZ {m:Nat}:∀ {l:List D.Term},(∀ x ∈ l,msz x ≤ m) → mszs l ≤ l.length * m
 | [],_=>by rw [Zca]; simp
 | x :: l,h=>by
  have h1:=h x (by simp)
  have h2:=ZcZ (l:=l) fun y hy=>h y (by simp [hy])
  rw [XQ,ZlO,Zn2]; omega
theorem Zbz {l:List D.Term} (h:fineL l):sml l:=by
 have h1:=ZcZ (m:=2640) fun x hx=>ZcK (h.2 x hx)
 have h2:=h.1
 unfold sml
 have:l.length * 2640 ≤ 100 * 2640:=Zm9 _ h2
 omega
theorem ZbJ {l:List D.Term} (h:fineL l):ZU fuel l = some l:=(Ziq fuel).2 l (Zbz h) (by
 have:=Zbz h
 unfold sml at this
 unfold fuel; omega)
def fineP (s:D.Path):Prop:=fineL s.Regs ∧ fineL s.Mem ∧ s.Stack.length ≤ 100 ∧ fineL s.Out ∧ fineL s.Cond ∧ s.Turns.length ≤ 100
theorem Zg8 {s:D.Path} (h:fineP s):smallP s:=⟨Zbz h.1,Zbz h.2.1,by have:=h.2.2.1; omega,Zbz h.2.2.2.1,Zbz h.2.2.2.2.1,by have:=h.2.2.2.2.2; omega⟩
theorem ZkN {l:List Int} (h:l.length ≤ 100):app? ([]:List Int) l = some l:=by
 rw [YS (by simp; omega)]; rfl
theorem Zlm {l:List D.Term} (h:l.length ≤ 1000):app? ([]:List D.Term) l = some l:=by
 rw [YS (by simp; omega)]; rfl
theorem ZiU {s:D.Path} (h:fineP s):XO fuel s = some s:=by
 obtain ⟨h1,h2,h3,h4,h5,h6⟩:=h
 unfold XO ZK
 simp only [ZbJ h1,ZbJ h2,ZkN h3,ZbJ h4,ZbJ h5,ZkN h6,Zlx]
theorem Zdk {l:List D.Term} {w:Int} (h:tsB l w = true) (hl:l.length ≤ 100):fineL l:=⟨hl,fun _ hx=>Ze0 (Zky h hx).1⟩
theorem ZbZ {p:D.Program} (h:progB p = true):1 ≤ p.W ∧ p.W ≤ 16 ∧ 0 ≤ p.Mem ∧ p.Mem ≤ 6 ∧ 0 ≤ p.In ∧ p.In ≤ 3:=by
 unfold progB at h
 simp only [Zl0,ZlB] at h
 omega
theorem XF {p:D.Program} {s:D.Path} (h:pathB p s = true):fineP s ∧ progB p = true ∧ s.Regs.length = 4 ∧ (s.Mem.length:Int) = p.Mem ∧ s.Out.length ≤ 6 ∧ s.Cond.length ≤ 60 ∧ s.Turns.length ≤ 60:=by
 unfold pathB at h
 simp only [Zl0,ZlB,ZlW,Zg] at h
 have e1:progB p = true:=by grind
 have e2:(s.Regs.length:Int) = 4:=by grind
 have e3:(s.Mem.length:Int) = p.Mem:=by grind
 have e4:(s.Stack.length:Int) ≤ 3:=by grind
 have e5:(s.Out.length:Int) ≤ 6:=by grind
 have e6:(s.Cond.length:Int) ≤ 60:=by grind
 have e7:(s.Turns.length:Int) ≤ 60:=by grind
 have t1:tsB s.Regs p.W = true:=by grind
 have t2:tsB s.Mem p.W = true:=by grind
 have t3:tsB s.Out p.W = true:=by grind
 have t4:tsB s.Cond 1 = true:=by grind
 have hp:=ZbZ e1
 exact ⟨⟨Zdk t1 (by omega),Zdk t2 (by omega),by omega,Zdk t3 (by omega),Zdk t4 (by omega),by omega⟩,e1,by omega,e3,by omega,by omega,by omega⟩
def rg (l:List D.Term) (k:Int):D.Term:=(l[k.toNat]?).getD t0
theorem Zkz {l:List D.Term} (h:l.length ≤ 1000):ZE l = some l:=by
 unfold ZE
 rw [Zlm h]; rfl
theorem ZkA {l:List D.Term} {t:D.Term} (hl:l.length ≤ 1000):ZaX l t = some (l ++ [t]):=by
 unfold ZaX ZP
 rw [Zkz hl]
 simp only [Zlx]
 rw [YS (by simp; omega)]; rfl
def kT (w v:Int):D.Term:=⟨0,w,v,⟨[]⟩,[]⟩
noncomputable def cel (w k:Int) (x a b:D.Term):D.Term × Bool:=
 if (mkT 14 1 0 [kT w k,x]).2 = true then mkT 17 w 0 [(mkT 14 1 0 [kT w k,x]).1,a,b] else (t0,false)
noncomputable def ldT (w:Int) (x:D.Term) (mem:List D.Term):Nat → D.Term → D.Term × Bool
 | 0,t=>(t,true)
 | j + 1,t=>if (cel w (j:Int) x (rg mem j) t).2 = true then ldT w x mem j (cel w (j:Int) x (rg mem j) t).1 else (t0,false)
noncomputable def load (w:Int) (mem:List D.Term) (x:D.Term):D.Term × Bool:=if x.Op = 0 then (rg mem x.N,true) else ldT w x mem (mem.length - 1) (rg mem ((mem.length - 1:Nat):Int))
theorem Zd7 {l:List D.Term} {k:Int} (h:sml l) (h0:0 ≤ k) (h1:k ≤ 10000000000000000):∃ k' r,Zv fuel l k = some (k',r) ∧ k ≤ k' ∧ k' ≤ k + 4194304 ∧ Z5 fuel r k = some k':=by
 unfold sml at h
 obtain ⟨⟨k',r⟩,e,a,b,c⟩:=Zix fuel l k h (by unfold fuel; omega) h0 (by omega)
 exact ⟨k',r,e,a,by simp only at b; omega,c fuel (by unfold fuel; omega)⟩
def smallPS (l:List D.Path):Prop:=l.length ≤ 1048576 ∧ ∀ x ∈ l,smallP x
theorem Zhx {l:List D.Path} {m:Int} (hf:fitList Zc9 l) (h0:0 ≤ m) (h1:m ≤ 1048576):∃ r,ZaK fuel l m = some r ∧ (r < 0 ∨ 0 ≤ r ∧ smallPS l):=by
 obtain ⟨hl,hk⟩:=hf
 unfold ZaK
 rw [Zg,Zk (by omega) (by omega)]
 by_cases c:m - (l.length:Int) < 0
 ·rw [Zl6 (by simpa using c)]; exact ⟨_,rfl,.inl (by decide)⟩
 ·rw [Zl7 (by simpa using c)]
  obtain ⟨r,g1,g2⟩:=ZN (l:=l) (n:=fuel) (σ:=Int) (ρ:=Int ⊕ Int) (B:=fun (s1:Int × Int)=>
    if (decide (s1.2 < (l.length:Int))) then
     (get? l s1.2).bind fun x1=>
     (Zam fuel x1 s1.1).bind fun x2=>
     if (decide (x2 < 0)) then
      some (.inr (.inr (-1)))
     else
      some (.inl (x2,(w64 (s1.2 + 1))))
    else
     some (.inr (.inl (s1.1)))) (fun k (a:Int)=>(a,(k:Int))) (fun ys a=>0 ≤ a ∧ a ≤ m ∧ ∃ pre,pre ++ ys = l ∧ ∀ x ∈ pre,smallP x) (fun r=>r = .inr (-1) ∨ ∃ v,r = .inl v ∧ 0 ≤ v ∧ ∀ x ∈ l,smallP x)
    (fun k x xs a hk' hx hlen ⟨i0, i1, pre, i2, i3⟩ => by
     have hd:decide ((k:Int) < (l.length:Int)) = true:=by simp; omega
     simp only [hd,ZlL,get?_nat,hx,Zlx]
     obtain ⟨r,e1,e2⟩:=Zf3 (hk x (ZlC hx)) i0 (show a ≤ 1048576 by omega)
     rw [e1]
     simp only [Zlx]
     rcases e2 with e2 | ⟨e2,e3,e4⟩
     ·rw [Zl6 (by simpa using e2)]; exact .inr ⟨_,rfl,.inl rfl⟩
     ·rw [Zl7 (by simpa using e2)]
      refine .inl ⟨r,by rw [Zk (by omega) (by omega)]; rfl,e2,by omega,pre ++ [x],by rw [Zmw]; exact i2,fun y hy=>?_⟩
      rcases Zma.1 hy with hy | hy
      ·exact i3 y hy
      ·rw [Zm7] at hy; subst hy; exact e4)
    (fun a ⟨i0, _, pre, i2, i3⟩ => by
     have hd:decide ((l.length:Int) < (l.length:Int)) = false:=by simp
     simp only [hd,Zly,Zl4]
     rw [ZmB] at i2
     subst i2
     exact ⟨_,rfl,.inr ⟨a,rfl,i0,i3⟩⟩) (a:=m - (l.length:Int)) ⟨by omega,by omega,[],rfl,fun x hx=>by cases hx⟩ (by unfold fuel; omega)
  rw [show ((0:Nat):Int) = 0 from rfl] at g1
  rw [g1]
  rcases g2 with rfl | ⟨v,rfl,g3,g4⟩
  ·exact ⟨_,rfl,.inl (by decide)⟩
  ·exact ⟨_,rfl,.inr ⟨g3,by omega,g4⟩⟩
theorem ZgZ {l:List D.Path} (h:smallPS l):Xq fuel l = some l:=by
 obtain ⟨hl,hk⟩:=h
 unfold Xq
 rw [mk?_len (by unfold room; omega)]
 simp only [Zlx]
 obtain ⟨r,g1,g2⟩:=ZN (l:=l) (n:=fuel) (σ:=List D.Path) (ρ:=List D.Path) (B:=fun (s1:Int × (List D.Path))=>
  if (decide (s1.1 < (len l))) then
   (get? l s1.1).bind fun x2=>
   (YX fuel x2).bind fun x3=>
   (set? s1.2 s1.1 x3).bind fun x4=>
   some (.inl ((w64 (s1.1 + 1)),x4))
  else
   some (.inr (s1.2))) (fun k (a:List D.Path)=>((k:Int),a)) (fun ys a=>∃ pre zs,pre ++ ys = l ∧ a = pre ++ zs ∧ zs.length = ys.length) (fun r=>r = l)
  (fun k x xs a hk' hx hlen ⟨pre, zs, i1, i2, i3⟩ => by
   have hd:decide ((k:Int) < len l) = true:=by rw [Zg]; simp; omega
   have hp:pre.length = k:=by
    have:=congrArg List.length i1
    simp at this hlen; omega
   simp only [hd,ZlL,get?_nat,hx,Zlx,Zfq (hk x (ZlC hx))]
   obtain ⟨z,zs,rfl⟩ : ∃ z zs',zs = z :: zs':=by cases zs with | nil=>simp at i3 | cons z zs=>exact ⟨_,_,rfl⟩
   rw [set?_nat (by rw [i2]; simp; omega)]
   refine .inl ⟨a.set k x,by simp only [Zlx]; rw [Zk (by omega) (by omega)]; rfl,pre ++ [x],zs,by rw [Zmw]; exact i1,?_,by simpa using i3⟩
   rw [i2,Zmo _ _ (by omega),hp,Zmh]; simp)
  (fun a ⟨pre, zs, i1, i2, i3⟩ => by
   have hd:decide ((l.length:Int) < len l) = false:=by rw [Zg]; simp
   simp only [hd,Zly,Zl4]
   simp at i3
   subst i3
   rw [ZmB] at i1 i2
   exact ⟨_,rfl,by rw [i2,i1]⟩) (a:=List.replicate l.length _) ⟨[],_,rfl,by simp; rfl,by simp⟩ (Yy hl)
 rw [show ((0:Nat):Int) = 0 from rfl] at g1
 rw [g1,g2]; rfl
theorem Zdm {l:List D.Path} (h:smallPS l):Xm fuel l l = some true:=by
 obtain ⟨hl,hk⟩:=h
 unfold Xm
 rw [Zl7 (by simp)]
 obtain ⟨r,g1,g2⟩:=ZN (l:=l) (n:=fuel) (σ:=Unit) (ρ:=Unit ⊕ Bool) (B:=fun (s1:Int)=>
   if (decide (s1 < (len l))) then
    (get? l s1).bind fun x1=>
    (get? l s1).bind fun x2=>
    (Zah fuel x1 x2).bind fun x3=>
    if (!x3) then
     some (.inr (.inr false))
    else
     some (.inl ((w64 (s1 + 1))))
   else
    some (.inr (.inl ()))) (fun k _=>(k:Int)) (fun _ _=>True) (fun r=>r = .inl ())
  (fun k x xs a hk' hx hlen _ => by
   have hd:decide ((k:Int) < len l) = true:=by rw [Zg]; simp; omega
   simp only [hd,ZlL,get?_nat,hx,Zlx,Zeg (hk x (ZlC hx)),ZlD,Zly,Zl4]
   exact .inl ⟨(),by rw [Zk (by omega) (by omega)]; rfl,trivial⟩)
  (fun a _ => by
   have hd:decide ((l.length:Int) < len l) = false:=by rw [Zg]; simp
   simp only [hd,Zly,Zl4]
   exact ⟨_,rfl,rfl⟩) (a:=()) trivial (Yy hl)
 rw [show ((0:Nat):Int) = 0 from rfl] at g1
 rw [g1,g2]; rfl
theorem Zhp {l:List D.Path} {k:Int} (h:smallPS l) (h0:0 ≤ k) (h1:k ≤ 10000000000):∃ k' r,YI fuel l k = some (k',r) ∧ k ≤ k' ∧ k' ≤ k + 40000000 * (l.length:Int):=by
 obtain ⟨hl,hk⟩:=h
 unfold YI
 obtain ⟨r,g1,g2⟩:=ZN (l:=l) (n:=fuel) (σ:=Int × List D.Path) (ρ:=Int × List D.Path) (B:=fun (s1:Int × Int × (List D.Path))=>
  if (decide (s1.2.1 < (len l))) then
   (get? s1.2.2 s1.2.1).bind fun x1=>
   (Zv fuel x1.Regs (w64 (s1.1 + 1))).bind fun x2=>
   (Zv fuel x1.Mem x2.1).bind fun x3=>
   (Yi fuel x1.Stack x3.1).bind fun x4=>
   (Zv fuel x1.Out (w64 (x4.1 + 1))).bind fun x5=>
   (Zv fuel x1.Cond (w64 ((w64 (x5.1 + 1)) + 1))).bind fun x6=>
   (Yi fuel x1.Turns x6.1).bind fun x7=>
   (set? s1.2.2 s1.2.1 (D.Path.mk s1.1 x2.2 x3.2 x4.2 x4.1 x5.2 x5.1 (w64 (x5.1 + 1)) x6.2 x7.2)).bind fun x8=>
   some (.inl (x7.1,(w64 (s1.2.1 + 1)),x8))
  else
   some (.inr (s1.1,s1.2.2))) (fun j a=>(a.1,(j:Int),a.2)) (fun ys a=>(∃ pre,a.2 = pre ++ ys ∧ pre.length + ys.length = l.length) ∧ (∀ x ∈ ys,smallP x) ∧ k ≤ a.1 ∧ a.1 + 40000000 * (ys.length:Int) ≤ k + 40000000 * (l.length:Int))
   (fun r=>k ≤ r.1 ∧ r.1 ≤ k + 40000000 * (l.length:Int))
   (fun j x xs a hj hx hlen ⟨⟨pre, i1, i2⟩, i3, i4, i5⟩ => by
    obtain ⟨q,z⟩:=a
    simp only at i1 i4 i5 ⊢
    simp only [ZlO] at i2 i5 hlen
    have hp:pre.length = j:=by omega
    have hd:decide ((j:Int) < len l) = true:=by rw [Zg]; simp; omega
    have hg:z[j]? = some x:=by rw [i1,Zl5 (by omega),hp,Zmh]; rfl
    obtain ⟨s1,s2,s3,s4,s5,s6⟩:=i3 x (by simp)
    have hb:q ≤ 50000000000000:=by omega
    obtain ⟨k1,r1,e1,a1,b1⟩:=ZbF (k:=q + 1) s1 (by omega) (by omega)
    obtain ⟨k2,r2,e2,a2,b2⟩:=ZbF (k:=k1) s2 (by omega) (by omega)
    have e3:=ZaF (p:=x.Stack) (k:=k2) (by omega) (by omega) s3
    obtain ⟨k4,r4,e4,a4,b4⟩:=ZbF (k:=k2 + x.Stack.length + 1) s4 (by omega) (by omega)
    obtain ⟨k5,r5,e5,a5,b5⟩:=ZbF (k:=k4 + 1 + 1) s5 (by omega) (by omega)
    have e6:=ZaF (p:=x.Turns) (k:=k5) (by omega) (by omega) s6
    simp only [hd,ZlL,get?_nat,hg,Zlx]
    rw [Zk (x:=q + 1) (by omega) (by omega),e1]
    simp only [Zlx,e2,e3]
    rw [Zk (x:=k2 + (x.Stack.length:Int) + 1) (by omega) (by omega),e4]
    simp only [Zlx]
    rw [Zk (x:=k4 + 1) (by omega) (by omega),Zk (x:=k4 + 1 + 1) (by omega) (by omega),e5]
    simp only [Zlx,e6]
    rw [set?_nat (by rw [i1]; simp; omega)]
    refine .inl ⟨(k5 + x.Turns.length,z.set j _),by simp only [Zlx]; rw [Zk (by omega) (by omega)]; rfl,⟨pre ++ [D.Path.mk q r1 r2 (upI k2 x.Stack.length) (k2 + x.Stack.length) r4 k4 (k4 + 1) r5 (upI k5 x.Turns.length)],?_,by simp; omega⟩,fun y hy=>i3 y (by simp [hy]),by show k ≤ k5 + _; omega,by show k5 + _ + _ ≤ _; omega⟩
    show z.set j _ = _
    rw [i1,Zmo _ _ (by omega),hp,Zmh]; simp)
   (fun a ⟨_, _, i4, i5⟩ => by
    have hd:decide ((l.length:Int) < len l) = false:=by rw [Zg]; simp
    simp only [hd,Zly,Zl4]
    simp only [Zmu] at i5
    exact ⟨_,rfl,i4,by show a.1 ≤ _; omega⟩) (a:=(k,l)) ⟨⟨[],rfl,by simp⟩,hk,by show k ≤ k; omega,by show k + _ ≤ _; omega⟩ (Yy hl)
 rw [show ((0:Nat):Int) = 0 from rfl] at g1
 rw [g1]
 exact ⟨_,_,rfl,g2⟩
def fol {α σ τ:Type} (f:Nat → α → σ → σ ⊕ τ):Nat → List α → σ → σ ⊕ τ
 | _,[],a=>.inl a
 | k,x :: xs,a=>match f k x a with
  | .inl b=>fol f (k + 1) xs b
  | .inr t=>.inr t
theorem Zbw {α σ τ S ρ:Type} {l:List α} {B:S → Option (S ⊕ ρ)} (enc:Nat → σ → S) (f:Nat → α → σ → σ ⊕ τ) (I:Nat → σ → Prop) (E:σ → ρ) (Z:τ → ρ)
  (hs:∀ k x a,l[k]? = some x → k < l.length → I k a → B (enc k a) = some (match f k x a with | .inl b=>.inl (enc (k + 1) b) | .inr t=>.inr (Z t)) ∧ ∀ b,f k x a = .inl b → I (k + 1) b)
  (he:∀ a,I l.length a → B (enc l.length a) = some (.inr (E a))) :
  ∀ (xs:List α) (k:Nat) (a:σ) (n:Nat),l.drop k = xs → k ≤ l.length → I k a → xs.length < n → iterN B n (enc k a) = some (match fol f k xs a with | .inl b=>E b | .inr t=>Z t) ∧ ∀ b,fol f k xs a = .inl b → I l.length b
 | [],k,a,n,hd,hk,hI,hn=>by
  have:k = l.length:=by have:=congrArg List.length hd; simp at this; omega
  subst this
  exact ⟨Zcd (he a hI) (by simpa using hn),fun b hb=>by simp only [fol,Sum.inl.injEq] at hb; subst hb; exact hI⟩
 | x :: xs,k,a,n,hd,hk,hI,hn=>by
  have hlt:k < l.length:=by have:=congrArg List.length hd; simp at this; omega
  have hx:l[k]? = some x:=by rw [← List.head?_drop,hd]; rfl
  obtain ⟨h1,h2⟩:=hs k x a hx hlt hI
  obtain ⟨n,rfl⟩ : ∃ m,n = m + 1:=⟨n - 1,by simp only [ZlO] at hn; omega⟩
  cases hf:f k x a with
  | inr t=>
   rw [hf] at h1
   exact ⟨by rw [Zcd h1 (by omega)]; simp [fol,hf],fun b hb=>by simp [fol,hf] at hb⟩
  | inl b=>
   rw [hf] at h1
   have:=Zbw enc f I E Z hs he xs (k + 1) b n (by rw [← Znr,hd]; rfl) (by omega) (h2 b hf) (by simp at hn; omega)
   rw [ZgD h1]
   simpa [fol,hf] using this
theorem ZfG {α β:Type} {b:α → Bool} {g:α → β}:∀ (l:List α) (k:Nat) (a:List β),fol (fun _ x a=>if b x = true then .inl (a ++ [g x]) else .inr ()) k l a = if l.all b = true then .inl (a ++ l.map g) else .inr ()
 | [],k,a=>by simp [fol]
 | x :: xs,k,a=>by
  unfold fol
  cases h:b x
  ·simp [h]
  ·simp only [h, ZlL]
   rw [ZfG xs (k + 1)]
   simp [h]
theorem Zdx {α β ρ:Type} {l:List α} {b:α → Bool} {g:α → β} {E:List β → ρ} {z:ρ} (G:α → Int × List β → Option ((Int × List β) ⊕ ρ))
  (hG:∀ (k:Nat) x a,l[k]? = some x → k < l.length → a.length = k → G x ((k:Int),a) = some (if b x = true then .inl (w64 ((k:Int) + 1),a ++ [g x]) else .inr z)) (hl:l.length ≤ 1048576) {n:Nat} (hn:l.length < n) :
  iterN (fun (s1:Int × List β)=>if (decide (s1.1 < (len l))) then (get? l s1.1).bind fun x1=>G x1 s1 else some (.inr (E s1.2))) n (0,([]:List β)) = some (if l.all b = true then E (l.map g) else z):=by
 have:=(Zbw (l:=l) (B:=fun (s1:Int × List β)=>if (decide (s1.1 < (len l))) then (get? l s1.1).bind fun x1=>G x1 s1 else some (.inr (E s1.2))) (fun k a=>((k:Int),a)) (fun _ x a=>if b x = true then .inl (a ++ [g x]) else .inr ()) (fun k a=>a.length = k) E (fun _=>z)
  (fun k x a hx hk hI => by
   have hd:decide ((k:Int) < len l) = true:=by rw [Zg]; simp; omega
   simp only [hd,ZlL,get?_nat,hx,Zlx,hG k x a hx hk hI]
   refine ⟨?_,fun c hc=>?_⟩
   ·cases b x
    ·rfl
    ·simp only [ZlL]; rw [Zk (by omega) (by omega)]; rfl
   ·cases h : b x
    ·simp [h] at hc
    ·simp [h] at hc; subst hc; simp; omega)
  (fun a _ => by
   have hd:decide ((l.length:Int) < len l) = false:=by rw [Zg]; simp
   simp only [hd,Zly,Zl4]) l 0 [] n rfl (ZlY _) rfl hn).1
 rw [ZfG] at this
 rw [show ((0:Nat):Int) = 0 from rfl] at this
 rw [this]
 cases l.all b <;> simp
theorem ZfX {α β ρ:Type} {l:List α} {b:α → Bool} {g:α → β} {E:List β → ρ} {z:ρ} {z0:β} (G:α → Int × List β → Option ((Int × List β) ⊕ ρ))
  (hG:∀ (k:Nat) x a zs,l[k]? = some x → k < l.length → a.length = k → G x ((k:Int),a ++ z0 :: zs) = some (if b x = true then .inl (w64 ((k:Int) + 1),a ++ g x :: zs) else .inr z)) (hl:l.length ≤ 1048576) {n:Nat} (hn:l.length < n) :
  iterN (fun (s1:Int × List β)=>if (decide (s1.1 < (len l))) then (get? l s1.1).bind fun x1=>G x1 s1 else some (.inr (E s1.2))) n (0,List.replicate l.length z0) = some (if l.all b = true then E (l.map g) else z):=by
 have:=(Zbw (l:=l) (B:=fun (s1:Int × List β)=>if (decide (s1.1 < (len l))) then (get? l s1.1).bind fun x1=>G x1 s1 else some (.inr (E s1.2))) (fun k a=>((k:Int),a ++ List.replicate (l.length - k) z0)) (fun _ x a=>if b x = true then .inl (a ++ [g x]) else .inr ()) (fun k a=>a.length = k) E (fun _=>z)
  (fun k x a hx hk hI => by
   have hd:decide ((k:Int) < len l) = true:=by rw [Zg]; simp; omega
   have hr:List.replicate (l.length - k) z0 = z0 :: List.replicate (l.length - (k + 1)) z0:=by rw [← List.replicate_succ]; congr 1; omega
   rw [hr]
   simp only [hd,ZlL,get?_nat,hx,Zlx,hG k x a _ hx hk hI]
   refine ⟨?_,fun c hc=>?_⟩
   ·cases b x
    ·rfl
    ·simp only [ZlL]; rw [Zk (by omega) (by omega),Zmw]; rfl
   ·cases h : b x
    ·simp [h] at hc
    ·simp [h] at hc; subst hc; simp; omega)
  (fun a _ => by
   have hd:decide ((l.length:Int) < len l) = false:=by rw [Zg]; simp
   simp only [hd,Zly,Zl4,Zmh,List.replicate_zero,ZmB]) l 0 [] n rfl (ZlY _) rfl hn).1
 rw [ZfG] at this
 simp only [Zn1,List.nil_append] at this
 rw [show ((0:Nat):Int) = 0 from rfl] at this
 rw [this]
 cases l.all b <;> simp
theorem set_mid {β:Type} {a zs:List β} {x y:β} {k:Nat} (h:a.length = k):set? (a ++ x :: zs) (k:Int) y = some (a ++ y :: zs):=by
 rw [set?_nat (by simp; omega),Zmo _ _ (by omega),h,Zmh]; rfl
theorem Zhc {β:Type} {n:Nat} (h:n ≤ 1048576) (z:β):mk? (n:Int) z = some (List.replicate n z):=by
 unfold mk?
 rw [Zl6 (by unfold room; omega)]; simp
def nm (c:UInt8) (k:Nat):Str:=⟨[c,UInt8.ofNat (48 + k)]⟩
theorem Zi3 {n k:Nat} (h:k ≤ 9) (hn:2 ≤ n):Ym n (k:Int) = some ⟨[UInt8.ofNat (48 + k)]⟩:=by
 obtain ⟨n,rfl⟩ : ∃ m,n = m + 1:=⟨n - 1,by omega⟩
 rw [Ym]
 have hd:decide ((k:Int) < 0) = false:=by simp
 simp only [hd,Zly,Zl4]
 have hk:decide ((k:Int) > 9) = false:=by simp; omega
 rw [Zcd (n:=n) (r:=((k:Int),(⟨[]⟩ : Str))) (by simp only [hk,Zly,Zl4]) (by omega)]
 have:k = 0 ∨ k = 1 ∨ k = 2 ∨ k = 3 ∨ k = 4 ∨ k = 5 ∨ k = 6 ∨ k = 7 ∨ k = 8 ∨ k = 9:=by omega
 rcases this with rfl | rfl | rfl | rfl | rfl | rfl | rfl | rfl | rfl | rfl <;> decide
theorem Zik {k:Nat} (h:k ≤ 9):YO (k:Int) = some ⟨[UInt8.ofNat (48 + k)]⟩:=by
 unfold YO strconv_Itoa
 rw [Zl6 (by omega),Lib.itoa,Zl7 (by omega)]
 have e:((k:Int)).toNat = k:=by omega
 rw [e,Lib.decDigits,dif_pos (by omega)]
 rfl
theorem ZjT (c:UInt8) (k:Nat):cat? ⟨[c]⟩ ⟨[UInt8.ofNat (48 + k)]⟩ = some (nm c k):=by
 unfold cat?
 rw [Zl6 (by simp)]; rfl
def tab1 (c:UInt8):Nat → List D.Term → List (Str × D.Term)
 | _,[]=>[]
 | k,x :: xs=>(nm c k,x) :: tab1 c (k + 1) xs
theorem ZhG (c:UInt8):∀ (l:List D.Term) (k:Nat) (m:List (Str × D.Term)),fol (τ:=Unit) (fun k x m=>.inl ((nm c k,x) :: m)) k l m = .inl ((tab1 c k l).reverse ++ m)
 | [],k,m=>rfl
 | x :: xs,k,m=>by
  unfold fol tab1
  simp only [ZhG c xs (k + 1)]
  simp
theorem Zgg (c:UInt8) (s:Str):∀ (l:List D.Term) (k:Nat),fol (fun k x (_:Unit)=>if Str.eqb s (nm c k) = true then .inr x else .inl ()) k l () = (match (tab1 c k l).lookup s with | some x=>.inr x | none=>.inl ())
 | [],k=>rfl
 | x :: xs,k=>by
  unfold fol tab1
  by_cases h:s = nm c k
  ·subst h
   simp [Zag,List.lookup]
  ·have h1 : Str.eqb s (nm c k) = false := by rw [Zck]; simpa using h
   have h2:(s == nm c k) = false:=by simpa using h
   simp only [h1,Zly,Zl4,List.lookup,h2]
   exact Zgg c s xs (k + 1)
theorem Zgo:∀ {L:List (Str × D.Term)},(L.map (·.1)).Pairwise (· ≠ ·) → ∀ s,L.reverse.lookup s = L.lookup s
 | [],_,_=>rfl
 | (a,x) :: L,h,s=>by
  rw [ZlK,List.pairwise_cons] at h
  rw [List.reverse_cons,Znb,Zgo h.2 s]
  by_cases c:s = a
  ·subst c
   have:L.lookup s = none:=by
    rw [List.lookup_eq_none_iff]
    intro p hp
    have:=h.1 p.1 (Zmx.2 ⟨p,hp,rfl⟩)
    simpa using this
   simp [this,List.lookup]
  ·have : (s == a) = false := by simpa using c
   simp [List.lookup,this]
def tabP (s:D.Path):List (Str × D.Term):=tab1 114 0 s.Regs ++ tab1 109 0 s.Mem
theorem ZjI {r m:List D.Term} (hr:r.length = 4) (hm:m.length ≤ 6):((tab1 114 0 r ++ tab1 109 0 m).map (·.1)).Pairwise (· ≠ ·):=by
 match r,hr,m,hm with
 | [_,_,_,_],_,[],_=>show List.Pairwise (· ≠ ·) [nm 114 0,nm 114 1,nm 114 2,nm 114 3]; decide
 | [_,_,_,_],_,[_],_=>show List.Pairwise (· ≠ ·) [nm 114 0,nm 114 1,nm 114 2,nm 114 3,nm 109 0]; decide
 | [_,_,_,_],_,[_,_],_=>show List.Pairwise (· ≠ ·) [nm 114 0,nm 114 1,nm 114 2,nm 114 3,nm 109 0,nm 109 1]; decide
 | [_,_,_,_],_,[_,_,_],_=>show List.Pairwise (· ≠ ·) [nm 114 0,nm 114 1,nm 114 2,nm 114 3,nm 109 0,nm 109 1,nm 109 2]; decide
 | [_,_,_,_],_,[_,_,_,_],_=>show List.Pairwise (· ≠ ·) [nm 114 0,nm 114 1,nm 114 2,nm 114 3,nm 109 0,nm 109 1,nm 109 2,nm 109 3]; decide
 | [_,_,_,_],_,[_,_,_,_,_],_=>show List.Pairwise (· ≠ ·) [nm 114 0,nm 114 1,nm 114 2,nm 114 3,nm 109 0,nm 109 1,nm 109 2,nm 109 3,nm 109 4]; decide
 | [_,_,_,_],_,[_,_,_,_,_,_],_=>show List.Pairwise (· ≠ ·) [nm 114 0,nm 114 1,nm 114 2,nm 114 3,nm 109 0,nm 109 1,nm 109 2,nm 109 3,nm 109 4,nm 109 5]; decide
 | [_,_,_,_],_,_ :: _ :: _ :: _ :: _ :: _ :: _ :: _,h=>simp at h
theorem ZeT {c:UInt8} {s:Str} {x:D.Term}:∀ {l:List D.Term} {k:Nat},(tab1 c k l).lookup s = some x → x ∈ l
 | [],k,h=>by simp [tab1] at h
 | y :: l,k,h=>by
  unfold tab1 at h
  rw [List.lookup] at h
  split at h
  ·simp at h; simp [h]
  ·exact ZlH _ (ZeT h)
def PutP (s:D.Path):Prop:=s.Regs.length = 4 ∧ s.Mem.length ≤ 6 ∧ (∀ x ∈ s.Regs,msz x ≤ 2640) ∧ ∀ x ∈ s.Mem,msz x ≤ 2640
theorem Zkf {s:D.Path} (h:PutP s) {a:Str} {x:D.Term} (hx:(tabP s).lookup a = some x):msz x ≤ 2640:=by
 unfold tabP at hx
 rw [Znb] at hx
 cases h1:(tab1 114 0 s.Regs).lookup a with
 | some y=>rw [h1] at hx; simp at hx; subst hx; exact h.2.2.1 _ (ZeT h1)
 | none=>rw [h1] at hx; simp at hx; exact h.2.2.2 _ (ZeT hx)
theorem Zgi {g:D.Term → D.Term}:∀ {l:List D.Term},(∀ x ∈ l,msz (g x) ≤ msz x + 2640 * cnt x) → mszs (l.map g) ≤ mszs l + 2640 * cnts l
 | [],_=>by simp [Zca]
 | x :: l,h=>by
  rw [ZlK,XQ,XQ,X6]
  have:=h x (by simp)
  have:=Zgi (l:=l) (fun y hy=>h y (by simp [hy]))
  omega
theorem ZfB {β:Type} {c:UInt8} {l:List D.Term} (hl:l.length ≤ 9) {s:Str} {n:Nat} (hn:20 ≤ n) (e:Unit → β) (hz:e = e) :
    iterN (fun (s1:Int)=>
   if (decide (s1 < (len l))) then
    (get? l s1).bind fun x1=>
    (Ym n s1).bind fun x2=>
    (cat? ⟨[c]⟩ x2).bind fun x3=>
    if (Str.eqb s x3) then
     some (.inr (.inr x1))
    else
     some (.inl ((w64 (s1 + 1))))
   else
    some (.inr (.inl ()))
  ) n (0) = some (match (tab1 c 0 l).lookup s with | some x=>(.inr x:Unit ⊕ D.Term) | none=>.inl ()):=by
  have:=(Zbw (l:=l) (B:=fun (s1:Int)=>
   if (decide (s1 < (len l))) then
    (get? l s1).bind fun x1=>
    (Ym n s1).bind fun x2=>
    (cat? ⟨[c]⟩ x2).bind fun x3=>
    if (Str.eqb s x3) then
     some (.inr (.inr x1))
    else
     some (.inl ((w64 (s1 + 1))))
   else
    some (.inr (.inl ()))) (fun k (_:Unit)=>(k:Int)) (fun k x (_:Unit)=>if Str.eqb s (nm c k) = true then .inr x else .inl ()) (fun _ _=>True) (fun _=>(.inl ():Unit ⊕ D.Term)) (fun x=>.inr x)
    (fun k x a hx hk _=>by
      have hd:decide ((k:Int) < len l) = true:=by rw [Zg]; simp; omega
      simp only [hd,ZlL,get?_nat,hx,Zlx,Zi3 (n:=n) (show k ≤ 9 by omega) (by omega),ZjT]
      refine ⟨?_,fun _ _=>trivial⟩
      cases Str.eqb s (nm c k)
      · simp only [Zly,Zl4]; rw [Zk (by omega) (by omega)]; rfl
      · rfl)
    (fun a _=>by
      have hd:decide ((l.length:Int) < len l) = false:=by rw [Zg]; simp
      simp only [hd,Zly,Zl4]) l 0 () n rfl (ZlY _) trivial (by omega)).1
  rw [Zgg] at this
  rw [show ((0:Nat):Int) = 0 from rfl] at this
  rw [this]
  cases (tab1 c 0 l).lookup s <;> rfl
theorem ZkR {s:D.Path} (hs:PutP s):∀ (d:Nat) (t:D.Term),msz t < d → d ≤ 1048577 → ∃ r,msz r ≤ msz t + 2640 * cnt t ∧ ∀ n,1048600 + d ≤ n → ZH n t (some (tabP s).reverse) = some r ∧ Yo n t s = some r:=by
 intro d
 induction d with
 | zero=>intro t h; omega
 | succ d ih=>
  intro t h hd
  obtain ⟨op,w,m,nmt,ks⟩:=t
  have hsz:=XI ⟨op,w,m,nmt,ks⟩
  have hct:=XC ⟨op,w,m,nmt,ks⟩
  simp only at hsz hct
  by_cases ho:op = 22
  ·subst ho
   refine ⟨((tabP s).lookup nmt).getD ⟨22,w,m,nmt,ks⟩,?_,fun n hn=>?_⟩
   ·cases hx : (tabP s).lookup nmt with
    | none=>simp
    | some x=>have:=Zkf hs hx; simp only [ZlT]; omega
   obtain ⟨n,rfl⟩ : ∃ k,n = k + 1:=⟨n - 1,by omega⟩
   refine ⟨?_,?_⟩
   ·rw [ZH]
    simp only [Zme,ZlL,ZlT]
    unfold mget2?
    rw [Zl6 (by unfold fitS; simp; omega),show (tabP s).reverse.lookup nmt = (tabP s).lookup nmt from Zgo (ZjI hs.1 hs.2.1) nmt]
    simp only [Zlx]
    show (if ((tabP s).lookup nmt).isSome = true then some (((tabP s).lookup nmt).getD _) else _) = _
    cases (tabP s).lookup nmt <;> rfl
   ·rw [Yo]
    simp only [Zme,ZlL]
    rw [ZfB (by have:=hs.1; omega) (by omega) (fun _=>()) rfl,ZfB (by have:=hs.2.1; omega) (by omega) (fun _=>()) rfl]
    unfold tabP
    rw [Znb]
    cases (tab1 114 0 s.Regs).lookup nmt with
    | some x=>rfl
    | none=>cases (tab1 109 0 s.Mem).lookup nmt <;> rfl
  ·have hk:∀ x,∃ r,x ∈ ks → msz r ≤ msz x + 2640 * cnt x ∧ ∀ n,1048600 + d ≤ n → ZH n x (some (tabP s).reverse) = some r ∧ Yo n x s = some r:=fun x=>by
    by_cases hx:x ∈ ks
    ·have := Xo hx
     have:0 < ks.length:=List.length_pos_of_mem hx
     obtain ⟨r,hr⟩:=ih x (by omega) (by omega)
     exact ⟨r,fun _=>hr⟩
    ·exact ⟨t0,fun h=>absurd h hx⟩
   obtain ⟨g,hg⟩:=Classical.skolem.1 hk
   have hl:ks.length ≤ 1048576:=by omega
   refine ⟨⟨op,w,m,nmt,ks.map g⟩,?_,fun n hn=>?_⟩
   ·have h1 := XI ⟨op, w, m, nmt, ks.map g⟩
    simp only [Zn5] at h1
    have:=Zgi (l:=ks) (g:=g) (fun x hx=>(hg x hx).1)
    omega
   obtain ⟨n,rfl⟩ : ∃ k,n = k + 1:=⟨n - 1,by omega⟩
   refine ⟨?_,?_⟩
   ·rw [ZH, Zl7 (by simpa using ho)]
    have:=Zdx (l:=ks) (n:=n) (b:=fun _=>true) (g:=g) (E:=fun a=>a) (z:=[]) (fun x2 (s1:Int × List D.Term)=>
     (ZH n x2 (some (tabP s).reverse)).bind fun x3=>
     (app? s1.2 ([x3]:List D.Term)).bind fun x4=>
     some (.inl ((w64 (s1.1 + 1)),x4))) (fun k x a hx hk ha=>by
      simp only [((hg x (ZlC hx)).2 n (by omega)).1,Zlx]
      rw [YS (by simp; omega)]; rfl) hl (by omega)
    rw [this]
    simp
   ·rw [Yo, Zl7 (by simpa using ho)]
    have:=Zdx (l:=ks) (n:=n) (b:=fun _=>true) (g:=g) (E:=fun a=>a) (z:=[]) (fun x2 (s1:Int × List D.Term)=>
     (Yo n x2 s).bind fun x3=>
     (app? s1.2 ([x3]:List D.Term)).bind fun x4=>
     some (.inl ((w64 (s1.1 + 1)),x4))) (fun k x a hx hk ha=>by
      simp only [((hg x (ZlC hx)).2 n (by omega)).2,Zlx]
      rw [YS (by simp; omega)]; rfl) hl (by omega)
    rw [this]
    simp
theorem ZgE {g:D.Term → D.Term}:∀ {l:List D.Term},(∀ x ∈ l,cnt (g x) ≤ cnt x) → cnts (l.map g) ≤ cnts l
 | [],_=>by simp
 | x :: l,h=>by
  rw [ZlK,X6,X6]
  have:=h x (by simp)
  have:=ZgE (l:=l) (fun y hy=>h y (by simp [hy]))
  omega
theorem ZkY:∀ (d:Nat) (t:D.Term),msz t < d → d ≤ 1048577 → nodeB t = true → cnt t ≤ 240 → ∃ r,(nodeB r = true ∧ r.W = t.W ∧ cnt r ≤ cnt t) ∧ ∀ n,1110000 + d ≤ n → ZA n t = some r ∧ ZR n t = some r:=by
  intro d
  induction d with
  | zero=>intro t h; omega
  | succ d ih =>
    intro t h hd hb hc
    obtain ⟨op,w,m,nmt,ks⟩:=t
    have hsz:=XI ⟨op,w,m,nmt,ks⟩
    have hct:=XC ⟨op,w,m,nmt,ks⟩
    have hnb:=Xi ⟨op,w,m,nmt,ks⟩
    simp only at hsz hct hnb
    rw [hb] at hnb
    have hnb:=hnb.symm
    rw [Zl0,ZL,Zl8] at hnb
    have hk:∀ x,∃ r,x ∈ ks → (nodeB r = true ∧ r.W = x.W ∧ cnt r ≤ cnt x) ∧ ∀ n,1110000 + d ≤ n → ZA n x = some r ∧ ZR n x = some r:=fun x=>by
      by_cases hx:x ∈ ks
      · have := Xo hx
        have:=Zb3 hx
        have:0 < ks.length:=List.length_pos_of_mem hx
        obtain ⟨r,hr⟩:=ih x (by omega) (by omega) (hnb.2 x hx) (by omega)
        exact ⟨r,fun _=>hr⟩
      · exact ⟨t0,fun h=>absurd h hx⟩
    obtain ⟨g,hg⟩:=Classical.skolem.1 hk
    have hl:ks.length ≤ 1048576:=by omega
    have hS:∀ n,1110000 + d ≤ n → iterN (fun (s1:Int × (List D.Term))=>
          if (decide (s1.1 < (len ks))) then
           (get? ks s1.1).bind fun x1=>
           (ZR n x1).bind fun x2=>
           (app? s1.2 ([x2]:List D.Term)).bind fun x3=>
           some (.inl ((w64 (s1.1 + 1)),x3))
          else
           some (.inr (s1.2))
         ) n (0,([]:List D.Term)) = some (ks.map g):=fun n hn=>by
      have:=Zdx (l:=ks) (n:=n) (b:=fun _=>true) (g:=g) (E:=fun a=>a) (z:=[]) (fun x2 (s1:Int × List D.Term)=>
          (ZR n x2).bind fun x3=>
          (app? s1.2 ([x3]:List D.Term)).bind fun x4=>
          some (.inl ((w64 (s1.1 + 1)),x4))) (fun k x a hx hk ha=>by
            simp only [((hg x (ZlC hx)).2 n (by omega)).2,Zlx]
            rw [YS (by simp; omega)]; rfl) hl (by omega)
      rw [this]
      simp
    by_cases h0:ks = []
    · subst h0
      refine ⟨_,⟨hb,rfl,Zl3 _⟩,fun n hn=>?_⟩
      obtain ⟨n,rfl⟩ : ∃ k,n = k + 1:=⟨n - 1,by omega⟩
      refine ⟨by rw [ZA,Zl6 (by rfl)],?_⟩
      rw [ZR]
      simp only [hS n (by omega),Zlx,ZmP]
      obtain ⟨k,rfl⟩ : ∃ k,n = k + 8:=⟨n - 8,by omega⟩
      rw [Yd (by simp) (by rfl)]
      have ho:op = 0 ∨ op = 22:=by
        obtain ⟨-,hh⟩:=Xy hb
        rcases hh with hh | hh | hh | hh | hh | hh | hh | hh
        · exact .inl hh.1
        · exact .inr hh.1
        all_goals (exfalso; simp at hh)
      rcases ho with rfl | rfl <;> simp
    · have hnb':nodeB ⟨op,w,m,nmt,ks.map g⟩ = true:=by
        have hw:(ks.map g).map (·.W) = ks.map (·.W):=by
          rw [List.map_map]
          exact List.map_congr_left (fun x hx=>(hg x hx).1.2.1)
        rw [Xi,Zl0,ZL,Zl8]
        refine ⟨?_,fun y hy=>?_⟩
        · have := hnb.1
          unfold locB at this ⊢
          simp only at this ⊢
          rw [hw]; exact this
        · obtain ⟨x, hx, rfl⟩ := Zmx.1 hy
          exact (hg x hx).1.1
      have hc1:=XC ⟨op,w,m,nmt,ks.map g⟩
      simp only at hc1
      have hc2:=ZgE (l:=ks) (g:=g) (fun x hx=>(hg x hx).1.2.2)
      obtain ⟨r,q1,q2,q3,q4,q5⟩:=simpler (mea ⟨op,w,m,nmt,ks.map g⟩) ⟨op,w,m,nmt,ks.map g⟩ (Zl3 _) hnb' (by omega)
      have hmea:mea ⟨op,w,m,nmt,ks.map g⟩ ≤ 481:=by
        have:=Zkb ⟨op,w,m,nmt,ks.map g⟩
        unfold mea; omega
      refine ⟨r,⟨q1,q2,by omega⟩,fun n hn=>?_⟩
      obtain ⟨n,rfl⟩ : ∃ k,n = k + 1:=⟨n - 1,by omega⟩
      refine ⟨?_,?_⟩
      · have hne : ((len ks) == 0) = false := by rw [Zg]; simpa using h0
        rw [ZA]
        simp only [hne,Zly,Zl4]
        rw [Zg,Zhc hl]
        simp only [Zlx]
        have:=ZfX (l:=ks) (n:=n) (b:=fun _=>true) (g:=g) (E:=fun a=>a) (z:=[]) (z0:=(D.Term.mk 0 0 0 ⟨[]⟩ ([]:List D.Term))) (fun x2 (s1:Int × List D.Term)=>
          (get? s1.2 s1.1).bind fun x3=>
          (ZA n x2).bind fun x4=>
          (set? s1.2 s1.1 x4).bind fun x5=>
          some (.inl ((w64 (s1.1 + 1)),x5))) (fun k x a zs hx hk ha=>by
            have hgk:get? (a ++ (D.Term.mk 0 0 0 ⟨[]⟩ ([]:List D.Term)) :: zs) (k:Int) = some ⟨0,0,0,⟨[]⟩,[]⟩:=by
              rw [get?_nat,Zl5 (by omega),ha,Zmh]; rfl
            simp only [hgk,((hg x (ZlC hx)).2 n (by omega)).1,Zlx,set_mid ha]
            rfl) hl (by omega)
        rw [Zg] at this
        rw [this]
        simp [q4 n (by omega)]
      · rw [ZR]
        simp only [hS n (by omega),Zlx]
        rw [q5 n (by omega)]; rfl
noncomputable def rpl (s:D.Path) (t:D.Term):D.Term:=(ZH fuel t (some (tabP s).reverse)).getD t0
noncomputable def smp (t:D.Term):D.Term:=(ZA fuel t).getD t0
theorem Zj1 {s:D.Path} (hs:PutP s) {t:D.Term} (h:fine t):msz (rpl s t) ≤ 1048576 ∧ ZH fuel t (some (tabP s).reverse) = some (rpl s t) ∧ Yo fuel t s = some (rpl s t):=by
 have h1:=ZcK h
 have h2:=h.2
 obtain ⟨r,q1,q2⟩:=ZkR hs 2641 t (by omega) (by omega)
 have q3:=q2 fuel (by unfold fuel; omega)
 have e:rpl s t = r:=by unfold rpl; rw [q3.1]; rfl
 rw [e]
 exact ⟨by omega,q3⟩
theorem Zhm {t:D.Term} (h:fine t):fine (smp t) ∧ (smp t).W = t.W ∧ ZA fuel t = some (smp t) ∧ ZR fuel t = some (smp t):=by
 have h1:=ZcK h
 obtain ⟨r,⟨q1,q2,q4⟩,q5⟩:=ZkY 2641 t (by omega) (by omega) h.1 h.2
 have q3:=q5 fuel (by unfold fuel; omega)
 have e:smp t = r:=by unfold smp; rw [q3.1]; rfl
 rw [e]
 exact ⟨⟨q1,by have:=h.2; omega⟩,q2,q3⟩
noncomputable def putT (s:D.Path) (l:List D.Term):List D.Term × Bool:=if (l.all fun x=>termB (rpl s x)) = true then (l.map fun x=>smp (rpl s x),true) else ([],false)
theorem ZcW {s:D.Path} (hs:PutP s) {l:List D.Term} (hl:l.length ≤ 300) (hf:∀ x ∈ l,fine x):Xv fuel l s = some (putT s l):=by
 unfold Xv putT
 have:=Zdx (l:=l) (n:=fuel) (b:=fun x=>termB (rpl s x)) (g:=fun x=>smp (rpl s x)) (E:=fun a=>(.inl a:(List D.Term) ⊕ ((List D.Term) × Bool))) (z:=.inr ([],false)) (fun x1 (s1:Int × List D.Term)=>
  (Yo fuel x1 s).bind fun x2=>
  (Xl fuel x2).bind fun x3=>
  if (!x3) then
   some (.inr (.inr (([]:List D.Term),false)))
  else
   (Za2 fuel x2).bind fun x4=>
   (app? s1.2 ([x4]:List D.Term)).bind fun x5=>
   some (.inl ((w64 (s1.1 + 1)),x5))) (fun k x a hx hk ha=>by
    obtain ⟨q1,q2,q3⟩:=Zj1 hs (hf x (ZlC hx))
    simp only [q3,Zlx,ZdQ q1]
    cases hb:termB (rpl s x)
    ·rfl
    ·obtain ⟨r1, r2, r3, r4⟩ := Zhm (Ze0 hb)
     unfold Za2
     simp only [ZdQ q1,hb,ZlD,Zly,Zl4,Zlx,r4,Zh8 r1.1 r1.2]
     rw [YS (by simp; omega)]; rfl) (by omega) (by unfold fuel; omega)
 rw [this]
 cases l.all fun x=>termB (rpl s x) <;> rfl
theorem Ze9 {s:D.Path} (hs:PutP s) {l:List D.Term} (hl:l.length ≤ 300) (hf:∀ x ∈ l,fine x):Xw fuel l (some (tabP s).reverse) = some (putT s l):=by
 unfold Xw putT
 have:=ZfX (l:=l) (n:=fuel) (b:=fun x=>termB (rpl s x)) (g:=fun x=>smp (rpl s x)) (E:=fun a=>(.inl a:(List D.Term) ⊕ ((List D.Term) × Bool))) (z:=.inr ([],false)) (z0:=(D.Term.mk 0 0 0 ⟨[]⟩ ([]:List D.Term))) (fun x2 (s1:Int × List D.Term)=>
  (ZH fuel x2 (some (tabP s).reverse)).bind fun x3=>
  (XA fuel x3).bind fun x4=>
  if (!x4) then
   some (.inr (.inr (([]:List D.Term),false)))
  else
   (ZA fuel x3).bind fun x5=>
   (set? s1.2 s1.1 x5).bind fun x6=>
   some (.inl ((w64 (s1.1 + 1)),x6))) (fun k x a zs hx hk ha=>by
    obtain ⟨q1,q2,q3⟩:=Zj1 hs (hf x (ZlC hx))
    simp only [q2,Zlx,Zf9 q1]
    cases hb:termB (rpl s x)
    ·rfl
    ·obtain ⟨r1, r2, r3, r4⟩ := Zhm (Ze0 hb)
     simp only [ZlD,Zly,Zl4,Zlx,r3,set_mid ha,ZlL]) (by omega) (by unfold fuel; omega)
 rw [Zg,Zhc (by omega)]
 simp only [Zlx]
 rw [Zg] at this
 rw [this]
 cases l.all fun x=>termB (rpl s x) <;> rfl
theorem ZbS {s:D.Path} {l:List D.Term} (h:(putT s l).2 = true):(∀ x ∈ (putT s l).1,fine x) ∧ (putT s l).1.length = l.length:=by
 unfold putT at h ⊢
 by_cases c:(l.all fun x=>termB (rpl s x)) = true
 ·rw [Zl6 c]
  refine ⟨fun x hx=>?_,by simp⟩
  obtain ⟨y,hy,rfl⟩:=Zmx.1 hx
  exact (Zhm (Ze0 ((Zl8.1 c) y hy))).1
 ·rw [Zl7 c] at h; cases h
theorem Zgn (c:UInt8):∀ (l:List D.Term) (k:Nat),(tab1 c k l).length = l.length
 | [],_=>rfl
 | x :: l,k=>by simp [tab1,Zgn c l]
theorem ZgC {c:UInt8} {l:List D.Term} (hl:l.length ≤ 9) {m0:List (Str × D.Term)} (hm:m0.length ≤ 1000) :
    iterN (fun (s1:Int × (List (Str × D.Term)))=>
     if (decide (s1.1 < (len l))) then
      (YO s1.1).bind fun x1=>
      (cat? ⟨[c]⟩ x1).bind fun x2=>
      (get? l s1.1).bind fun x3=>
      (mput? fitS s1.2 x2 x3).bind fun x4=>
      some (.inl ((w64 (s1.1 + 1)),x4))
     else
      some (.inr (s1.2))) fuel (0,m0) = some ((tab1 c 0 l).reverse ++ m0):=by
  have:=(Zbw (l:=l) (B:=fun (s1:Int × (List (Str × D.Term)))=>
     if (decide (s1.1 < (len l))) then
      (YO s1.1).bind fun x1=>
      (cat? ⟨[c]⟩ x1).bind fun x2=>
      (get? l s1.1).bind fun x3=>
      (mput? fitS s1.2 x2 x3).bind fun x4=>
      some (.inl ((w64 (s1.1 + 1)),x4))
     else
      some (.inr (s1.2))) (fun k m=>((k:Int),m)) (fun k x m=>.inl ((nm c k,x) :: m)) (fun k m=>m.length ≤ 1000 + k) (fun m=>m) (fun (_:Unit)=>[])
    (fun k x a hx hk hI=>by
      have hd:decide ((k:Int) < len l) = true:=by rw [Zg]; simp; omega
      simp only [hd,ZlL,get?_nat,hx,Zlx,Zik (show k ≤ 9 by omega),ZjT]
      unfold mput?
      rw [Zl6 ⟨by unfold fitS nm; simp,by unfold room; omega⟩]
      refine ⟨?_,fun b hb=>?_⟩
      · simp only [Zlx]; rw [Zk (by omega) (by omega)]; rfl
      · simp at hb; subst hb; simp; omega)
    (fun a _=>by
      have hd:decide ((l.length:Int) < len l) = false:=by rw [Zg]; simp
      simp only [hd,Zly,Zl4]) l 0 m0 fuel rfl (ZlY _) (by omega) (by unfold fuel; omega)).1
  rw [ZhG] at this
  rw [show ((0:Nat):Int) = 0 from rfl] at this
  rw [this]
theorem Zgj {l:List Int} {x:Int} (hl:l.length ≤ 1000):ZaC l x = some (l ++ [x]):=by
 unfold ZaC ZK
 rw [YS (by simp; omega)]
 simp only [Zlx]
 rw [YS (by simp; omega)]; rfl
def isC (x:D.Term) (v:Int):Bool:=(x.Op == 0) && (x.N == v)
def cndF (tu:List Int) (k:Nat) (x:D.Term) (a:List D.Term × List Int):(List D.Term × List Int) ⊕ Unit:=
 if isC x 0 = true then .inr () else if isC x 1 = true then .inl a else .inl (a.1 ++ [x],a.2 ++ [(tu[k]?).getD 0])
def cndI (k:Nat) (a:List D.Term × List Int):Prop:=(a.1.length ≤ 60 + k ∧ a.2.length ≤ 60 + k) ∧ ∀ x ∈ a.1,fine x
theorem ZgG {tu:List Int} {k:Nat} {x:D.Term} {a b:List D.Term × List Int} (hx:fine x) (h:cndI k a) (e:cndF tu k x a = .inl b):cndI (k + 1) b:=by
 unfold cndF at e
 obtain ⟨⟨h1,h2⟩,h3⟩:=h
 by_cases c0:isC x 0 = true
 ·rw [Zl6 c0] at e; cases e
 rw [Zl7 c0] at e
 by_cases c1:isC x 1 = true
 ·rw [Zl6 c1] at e; cases e; exact ⟨⟨by omega,by omega⟩,h3⟩
 rw [Zl7 c1] at e
 cases e
 refine ⟨⟨by simp; omega,by simp; omega⟩,fun y hy=>?_⟩
 rcases Zma.1 hy with hy | hy
 ·exact h3 y hy
 ·rw [Zm7] at hy; subst hy; exact hx
theorem Zjd {l:List D.Term} {tu:List Int} {a:List D.Term × List Int} (hl:l.length ≤ 60) (ht:tu.length = l.length) (hf:∀ x ∈ l,fine x) (ha:cndI 0 a) :
    iterN (fun (s3:Int × (List D.Term) × (List Int))=>
     if (decide (s3.1 < (len l))) then
      (get? l s3.1).bind fun x12=>
      (Zn x12 0).bind fun x13=>
      if x13 then
       some (.inr (.inr ((D.Path.mk 0 ([]:List D.Term) ([]:List D.Term) ([]:List Int) 0 ([]:List D.Term) 0 0 ([]:List D.Term) ([]:List Int)),true,true)))
      else
       (Zn x12 1).bind fun x14=>
       if (!x14) then
        (ZaX s3.2.1 x12).bind fun x15=>
        (get? tu s3.1).bind fun x16=>
        (ZaC s3.2.2 x16).bind fun x17=>
        some (.inl ((w64 (s3.1 + 1)),x15,x17))
       else
        some (.inl ((w64 (s3.1 + 1)),s3.2.1,s3.2.2))
     else
      some (.inr (.inl (s3.2.1,s3.2.2)))) fuel (0,a.1,a.2) = some (match fol (cndF tu) 0 l a with | .inl b=>(.inl b:((List D.Term) × (List Int)) ⊕ (D.Path × Bool × Bool)) | .inr _=>.inr ((D.Path.mk 0 ([]:List D.Term) ([]:List D.Term) ([]:List Int) 0 ([]:List D.Term) 0 0 ([]:List D.Term) ([]:List Int)),true,true)):=by
  have hh:=(Zbw (l:=l) (ρ:=((List D.Term) × (List Int)) ⊕ (D.Path × Bool × Bool)) (B:=fun (s3:Int × (List D.Term) × (List Int))=>
     if (decide (s3.1 < (len l))) then
      (get? l s3.1).bind fun x12=>
      (Zn x12 0).bind fun x13=>
      if x13 then
       some (.inr (.inr ((D.Path.mk 0 ([]:List D.Term) ([]:List D.Term) ([]:List Int) 0 ([]:List D.Term) 0 0 ([]:List D.Term) ([]:List Int)),true,true)))
      else
       (Zn x12 1).bind fun x14=>
       if (!x14) then
        (ZaX s3.2.1 x12).bind fun x15=>
        (get? tu s3.1).bind fun x16=>
        (ZaC s3.2.2 x16).bind fun x17=>
        some (.inl ((w64 (s3.1 + 1)),x15,x17))
       else
        some (.inl ((w64 (s3.1 + 1)),s3.2.1,s3.2.2))
     else
      some (.inr (.inl (s3.2.1,s3.2.2)))) (fun k a=>((k:Int),a.1,a.2)) (cndF tu) cndI (fun b=>.inl b) (fun _=>.inr ((D.Path.mk 0 ([]:List D.Term) ([]:List D.Term) ([]:List Int) 0 ([]:List D.Term) 0 0 ([]:List D.Term) ([]:List Int)),true,true))
    (fun k x a hx hk hI=>by
      have hd:decide ((k:Int) < len l) = true:=by rw [Zg]; simp; omega
      refine ⟨?_,fun b hb=>ZgG (hf x (ZlC hx)) hI hb⟩
      obtain ⟨⟨h1,h2⟩,h3⟩:=hI
      simp only [hd,ZlL,get?_nat,hx,Zlx]
      unfold Zn cndF
      simp only [Zlx]
      rw [show ((x.Op == 0) && (x.N == 0)) = isC x 0 from rfl,show ((x.Op == 0) && (x.N == 1)) = isC x 1 from rfl]
      have hg:tu[k]? = some ((tu[k]?).getD 0):=by rw [Zl1 (by omega)]; rfl
      cases isC x 0
      · cases isC x 1
        · simp only [Zly, Zl4, ZmE, ZlL]
          rw [ZkA (by omega)]
          simp only [Zlx]
          rw [hg]
          simp only [Zlx]
          rw [Zgj (by omega)]
          simp only [Zlx,ZlT]; rw [Zk (by omega) (by omega)]; rfl
        · simp only [Zly,Zl4,ZlD,ZlL]; rw [Zk (by omega) (by omega)]; rfl
      · rfl)
    (fun a _=>by
      have hd:decide ((l.length:Int) < len l) = false:=by rw [Zg]; simp
      simp only [hd,Zly,Zl4]) l 0 a fuel rfl (ZlY _) ha (by unfold fuel; omega)).1
  rw [show ((0:Nat):Int) = 0 from rfl] at hh
  rw [hh]
  cases fol (cndF tu) 0 l a <;> rfl
theorem Zgp {l:List D.Term} {tu:List Int} {a:List D.Term × List Int} (hl:l.length ≤ 60) (ht:tu.length = l.length) (hf:∀ x ∈ l,fine x) (ha:cndI 0 a) :
    iterN (fun (s1:Int × (List D.Term) × (List Int))=>
     if (decide (s1.1 < (len l))) then
      (get? l s1.1).bind fun x5=>
      (Zp x5 0).bind fun x6=>
      if x6 then
       some (.inr (.inr ((D.Path.mk 0 ([]:List D.Term) ([]:List D.Term) ([]:List Int) 0 ([]:List D.Term) 0 0 ([]:List D.Term) ([]:List Int)),false,true)))
      else
       (Zp x5 1).bind fun x7=>
       if (!x7) then
        (app? s1.2.1 ([x5]:List D.Term)).bind fun x8=>
        (get? tu s1.1).bind fun x9=>
        (app? s1.2.2 ([x9]:List Int)).bind fun x10=>
        some (.inl ((w64 (s1.1 + 1)),x8,x10))
       else
        some (.inl ((w64 (s1.1 + 1)),s1.2.1,s1.2.2))
     else
      some (.inr (.inl (s1.2.1,s1.2.2)))) fuel (0,a.1,a.2) = some (match fol (cndF tu) 0 l a with | .inl b=>(.inl b:((List D.Term) × (List Int)) ⊕ (D.Path × Bool × Bool)) | .inr _=>.inr ((D.Path.mk 0 ([]:List D.Term) ([]:List D.Term) ([]:List Int) 0 ([]:List D.Term) 0 0 ([]:List D.Term) ([]:List Int)),false,true)) ∧ ∀ b,fol (cndF tu) 0 l a = .inl b → cndI l.length b:=by
  have hh:=(Zbw (l:=l) (ρ:=((List D.Term) × (List Int)) ⊕ (D.Path × Bool × Bool)) (B:=fun (s1:Int × (List D.Term) × (List Int))=>
     if (decide (s1.1 < (len l))) then
      (get? l s1.1).bind fun x5=>
      (Zp x5 0).bind fun x6=>
      if x6 then
       some (.inr (.inr ((D.Path.mk 0 ([]:List D.Term) ([]:List D.Term) ([]:List Int) 0 ([]:List D.Term) 0 0 ([]:List D.Term) ([]:List Int)),false,true)))
      else
       (Zp x5 1).bind fun x7=>
       if (!x7) then
        (app? s1.2.1 ([x5]:List D.Term)).bind fun x8=>
        (get? tu s1.1).bind fun x9=>
        (app? s1.2.2 ([x9]:List Int)).bind fun x10=>
        some (.inl ((w64 (s1.1 + 1)),x8,x10))
       else
        some (.inl ((w64 (s1.1 + 1)),s1.2.1,s1.2.2))
     else
      some (.inr (.inl (s1.2.1,s1.2.2)))) (fun k a=>((k:Int),a.1,a.2)) (cndF tu) cndI (fun b=>.inl b) (fun _=>.inr ((D.Path.mk 0 ([]:List D.Term) ([]:List D.Term) ([]:List Int) 0 ([]:List D.Term) 0 0 ([]:List D.Term) ([]:List Int)),false,true))
    (fun k x a hx hk hI=>by
      have hd:decide ((k:Int) < len l) = true:=by rw [Zg]; simp; omega
      refine ⟨?_,fun b hb=>ZgG (hf x (ZlC hx)) hI hb⟩
      obtain ⟨⟨h1,h2⟩,h3⟩:=hI
      simp only [hd,ZlL,get?_nat,hx,Zlx]
      unfold Zp cndF
      simp only [Zlx]
      rw [show ((x.Op == 0) && (x.N == 0)) = isC x 0 from rfl,show ((x.Op == 0) && (x.N == 1)) = isC x 1 from rfl]
      have hg:tu[k]? = some ((tu[k]?).getD 0):=by rw [Zl1 (by omega)]; rfl
      cases isC x 0
      · cases isC x 1
        · simp only [Zly, Zl4, ZmE, ZlL]
          rw [YS (by simp; omega)]
          simp only [Zlx]
          rw [hg]
          simp only [Zlx]
          rw [YS (by simp; omega)]
          simp only [Zlx,ZlT]; rw [Zk (by omega) (by omega)]; rfl
        · simp only [Zly,Zl4,ZlD,ZlL]; rw [Zk (by omega) (by omega)]; rfl
      · rfl)
    (fun a _=>by
      have hd:decide ((l.length:Int) < len l) = false:=by rw [Zg]; simp
      simp only [hd,Zly,Zl4]) l 0 a fuel rfl (ZlY _) ha (by unfold fuel; omega))
  rw [show ((0:Nat):Int) = 0 from rfl] at hh
  refine ⟨?_,hh.2⟩
  rw [hh.1]
  cases fol (cndF tu) 0 l a <;> rfl
def pz:D.Path:=⟨0,[],[],[],0,[],0,0,[],[]⟩
def finL (l:List D.Term):Prop:=l.length ≤ 300 ∧ ∀ x ∈ l,fine x
def finP (s:D.Path):Prop:=finL s.Regs ∧ finL s.Mem ∧ s.Stack.length ≤ 300 ∧ finL s.Out ∧ finL s.Cond ∧ s.Turns.length ≤ 300
theorem Zdq {l:List D.Term} (h:finL l):sml l:=by
 have:=ZcZ (m:=2640) (l:=l) (fun x hx=>ZcK (h.2 x hx))
 have h1:=h.1
 unfold sml
 have:l.length * 2640 ≤ 300 * 2640:=Zm9 _ h1
 omega
theorem ZcY {s:D.Path} (h:finP s):smallP s:=⟨Zdq h.1,Zdq h.2.1,by have:=h.2.2.1; omega,Zdq h.2.2.2.1,Zdq h.2.2.2.2.1,by have:=h.2.2.2.2.2; omega⟩
theorem ZcG {l:List D.Term} (h:fineL l):finL l:=⟨by have:=h.1; omega,h.2⟩
theorem ZkF {s:D.Path} (h:fineP s):finP s:=⟨ZcG h.1,ZcG h.2.1,by have:=h.2.2.1; omega,ZcG h.2.2.2.1,ZcG h.2.2.2.2.1,by have:=h.2.2.2.2.2; omega⟩
theorem Zdr {l:List D.Term} (h:finL l):YA fuel l = some l:=by
 unfold YA
 have:=Zdx (l:=l) (n:=fuel) (b:=fun _=>true) (g:=fun x=>x) (E:=fun a=>a) (z:=[]) (fun x1 (s1:Int × List D.Term)=>
  (Y6 fuel x1).bind fun x2=>
  (app? s1.2 ([x2]:List D.Term)).bind fun x3=>
  some (.inl ((w64 (s1.1 + 1)),x3))) (fun k x a hx hk ha=>by
   have hf:=h.2 x (ZlC hx)
   have h1:=h.1
   simp only [Zh8 hf.1 hf.2,Zlx]
   rw [YS (by simp; omega)]; rfl) (by have:=h.1; omega) (by have:=h.1; unfold fuel; omega)
 rw [this]
 simp
theorem ZeD {s:D.Path} (h:finP s):XD fuel s = some s:=by
 obtain ⟨h1,h2,h3,h4,h5,h6⟩:=h
 unfold XD
 rw [Zdr h1,Zdr h2,Zdr h4,Zdr h5]
 simp only [Zlx]
 rw [YS (by simp; omega)]
 simp only [Zlx]
 rw [YS (by simp; omega)]
 rfl
noncomputable def apv (s y:D.Path):Option (Option D.Path):=
 if ((putT s y.Cond).2 && (putT s y.Regs).2 && (putT s y.Mem).2) = true then
  match fol (cndF y.Turns) 0 (putT s y.Cond).1 (s.Cond,s.Turns) with
  | .inr _=>some none
  | .inl c => some (some (if (y.Code != 0) = true then ⟨y.Pc, (putT s y.Regs).1, (putT s y.Mem).1, s.Stack ++ [w64 (s.Pc + 1)], s.In, s.Out, y.Code, w64 (w64 (s.Steps + y.Steps) + 1), c.1, c.2⟩
    else ⟨w64 (s.Pc + 1),(putT s y.Regs).1,(putT s y.Mem).1,s.Stack,s.In,s.Out,0,w64 (w64 (s.Steps + y.Steps) + 2),c.1,c.2⟩))
 else none
theorem Zj8 {p:D.Program} {s:D.Path} (h:pathB p s = true):PutP s:=by
 obtain ⟨f,hp,r,m,o,c,t⟩:=XF h
 have:=ZbZ hp
 exact ⟨r,by omega,fun x hx=>ZcK (f.1.2 x hx),fun x hx=>ZcK (f.2.1.2 x hx)⟩
theorem Zb2 {p:D.Program} {s:D.Path} (h:pathB p s = true):(0 ≤ s.Pc ∧ s.Pc ≤ len p.Code) ∧ s.Stack.length ≤ 3 ∧ 0 ≤ s.Steps ∧ s.Steps ≤ 400:=by
 unfold pathB at h
 simp only [Zl0,ZlB] at h
 obtain ⟨⟨⟨⟨⟨⟨⟨⟨⟨⟨⟨⟨⟨⟨⟨⟨g0,g1⟩,g2⟩,g3⟩,g4⟩,g5⟩,g6⟩,g7⟩,g8⟩,g9⟩,-⟩,-⟩,-⟩,-⟩,-⟩,-⟩,-⟩:=h
 rw [Zg] at g4
 exact ⟨g1,by omega,by omega,by omega⟩
theorem Zh3 {p:D.Program} {s y:D.Path} (hs:pathB p s = true) (hy:pathB p y = true) (ht:y.Turns.length = y.Cond.length) {q:D.Path} (h:apv s y = some (some q)):finP q:=by
 obtain ⟨f,hp,r,m,o,c,t⟩:=XF hs
 obtain ⟨f',hp',r',m',o',c',t'⟩:=XF hy
 have hm:=ZbZ hp
 unfold apv at h
 by_cases c0:((putT s y.Cond).2 && (putT s y.Regs).2 && (putT s y.Mem).2) = true
 rotate_left
 ·rw [Zl7 c0] at h; cases h
 rw [Zl6 c0] at h
 simp only [Zl0] at c0
 obtain ⟨a1,a2⟩:=ZbS c0.1.1
 obtain ⟨b1,b2⟩:=ZbS c0.1.2
 obtain ⟨d1,d2⟩:=ZbS c0.2
 have hI:cndI 0 (s.Cond,s.Turns):=⟨⟨by show s.Cond.length ≤ _; omega,by show s.Turns.length ≤ _; omega⟩,f.2.2.2.2.1.2⟩
 have hh:=(Zgp (l:=(putT s y.Cond).1) (tu:=y.Turns) (a:=(s.Cond,s.Turns)) (by omega) (by omega) a1 hI).2
 cases e:fol (cndF y.Turns) 0 (putT s y.Cond).1 (s.Cond,s.Turns) with
 | inr u=>rw [e] at h; cases h
 | inl b=>
  rw [e] at h
  obtain ⟨⟨i1,i2⟩,i3⟩:=hh b e
  have k3:=Zb2 hs
  simp only [Option.some.injEq] at h
  by_cases cc:(y.Code != 0) = true
  ·rw [Zl6 cc] at h
   subst h
   exact ⟨⟨by show (putT s y.Regs).1.length ≤ _; omega,b1⟩,⟨by show (putT s y.Mem).1.length ≤ _; omega,d1⟩,by simp; omega,ZcG f.2.2.2.1,⟨by show b.1.length ≤ _; omega,i3⟩,by show b.2.length ≤ _; omega⟩
  ·rw [Zl7 cc] at h
   subst h
   exact ⟨⟨by show (putT s y.Regs).1.length ≤ _; omega,b1⟩,⟨by show (putT s y.Mem).1.length ≤ _; omega,d1⟩,by show s.Stack.length ≤ _; omega,ZcG f.2.2.2.1,⟨by show b.1.length ≤ _; omega,i3⟩,by show b.2.length ≤ _; omega⟩
theorem ZjN {p:D.Program} {s y:D.Path} (hs:pathB p s = true) (hy:pathB p y = true) (ht:y.Turns.length = y.Cond.length) :
  ZaQ fuel p s y = some (match apv s y with | none=>(pz,false,false) | some none=>(pz,true,true) | some (some q)=>(q,false,true)):=by
 obtain ⟨f,hp,r,m,o,c,t⟩:=XF hs
 obtain ⟨f',hp',r',m',o',c',t'⟩:=XF hy
 have hm:=ZbZ hp
 have hP:=Zj8 hs
 unfold ZaQ
 rw [ZgC (c:=114) (l:=s.Regs) (by omega) (m0:=[]) (by simp)]
 simp only [Zlx]
 rw [ZgC (c:=109) (l:=s.Mem) (by omega) (by simp [Zgn]; omega)]
 simp only [Zlx]
 rw [show (tab1 109 0 s.Mem).reverse ++ ((tab1 114 0 s.Regs).reverse ++ []) = (tabP s).reverse from by unfold tabP; simp]
 rw [Ze9 hP (by omega) f'.2.2.2.2.1.2,Ze9 hP (by omega) f'.1.2,Ze9 hP (by omega) f'.2.1.2]
 simp only [Zlx]
 unfold apv
 by_cases c0:((putT s y.Cond).2 && (putT s y.Regs).2 && (putT s y.Mem).2) = true
 rotate_left
 ·rw [Zl7 c0,Zl6 (by
   cases h1:(putT s y.Cond).2
   ·simp
   ·cases h2 : (putT s y.Regs).2
    ·simp
    ·cases h3 : (putT s y.Mem).2
     ·simp
     ·rw [h1,h2,h3] at c0; exact absurd rfl c0)]
  rfl
 rw [Zl6 c0]
 simp only [Zl0] at c0
 rw [Zl7 (by rw [c0.1.1,c0.1.2,c0.2]; simp)]
 obtain ⟨a1,a2⟩:=ZbS c0.1.1
 have hI:cndI 0 (s.Cond,s.Turns):=⟨⟨by show s.Cond.length ≤ _; omega,by show s.Turns.length ≤ _; omega⟩,f.2.2.2.2.1.2⟩
 have hh:=Zjd (l:=(putT s y.Cond).1) (tu:=y.Turns) (a:=(s.Cond,s.Turns)) (by omega) (by omega) a1 hI
 simp only at hh
 rw [hh]
 have k3:=Zb2 hs
 cases fol (cndF y.Turns) 0 (putT s y.Cond).1 (s.Cond,s.Turns) with
 | inr u=>rfl
 | inl b=>
  simp only [Zlx]
  by_cases cc:(y.Code != 0) = true
  ·rw [Zl6 cc,Zgj (by omega),Zl6 cc]; rfl
  ·rw [Zl7 cc,Zl7 cc]
theorem Zjg {p:D.Program} {s y:D.Path} (hc:p.Code.length ≤ 1048576) (hs:pathB p s = true) (hz:s.Code = 0) (hy:pathB p y = true) (ht:y.Turns.length = y.Cond.length) :
  XP fuel p s y = some (match apv s y with | none=>(pz,false,false) | some none=>(pz,false,true) | some (some q)=>(q,true,pathB p q)):=by
 have hfin:=fun q=>Zh3 hs hy ht (q:=q)
 obtain ⟨f,hp,r,m,o,c,t⟩:=XF hs
 obtain ⟨f',hp',r',m',o',c',t'⟩:=XF hy
 have hm:=ZbZ hp
 have hP:=Zj8 hs
 unfold XP
 rw [ZcW hP (by omega) f'.2.2.2.2.1.2,ZcW hP (by omega) f'.1.2,ZcW hP (by omega) f'.2.1.2]
 simp only [Zlx]
 unfold apv at hfin ⊢
 by_cases c0:((putT s y.Cond).2 && (putT s y.Regs).2 && (putT s y.Mem).2) = true
 rotate_left
 ·rw [Zl7 c0,Zl6 (by
   cases h1:(putT s y.Cond).2
   ·simp
   ·cases h2 : (putT s y.Regs).2
    ·simp
    ·cases h3 : (putT s y.Mem).2
     ·simp
     ·rw [h1,h2,h3] at c0; exact absurd rfl c0)]
  rfl
 rw [Zl6 c0] at hfin ⊢
 simp only [Zl0] at c0
 rw [Zl7 (by rw [c0.1.1,c0.1.2,c0.2]; simp),ZeD (ZkF f)]
 simp only [Zlx]
 obtain ⟨a1,a2⟩:=ZbS c0.1.1
 have hI:cndI 0 (s.Cond,s.Turns):=⟨⟨by show s.Cond.length ≤ _; omega,by show s.Turns.length ≤ _; omega⟩,f.2.2.2.2.1.2⟩
 have hh:=(Zgp (l:=(putT s y.Cond).1) (tu:=y.Turns) (a:=(s.Cond,s.Turns)) (by omega) (by omega) a1 hI).1
 simp only at hh
 rw [hh]
 have k3:=Zb2 hs
 have k4:=Zb2 hy
 cases e:fol (cndF y.Turns) 0 (putT s y.Cond).1 (s.Cond,s.Turns) with
 | inr u=>rfl
 | inl b=>
  rw [e] at hfin
  have hst:w64 (w64 (w64 (s.Steps + y.Steps) + 2) - 1) = w64 (w64 (s.Steps + y.Steps) + 1):=by
   rw [Zk (x:=s.Steps + y.Steps) (by omega) (by omega),Zk (x:=s.Steps + y.Steps + 2) (by omega) (by omega)]
   congr 1; omega
  simp only [Zlx]
  by_cases cc:(y.Code != 0) = true
  ·simp only [Zl6 cc] at hfin ⊢
   rw [YS (by simp; omega)]
   simp only [Zlx,hst]
   have hq:=hfin _ rfl
   rw [ZeD hq]
   simp only [Zlx]
   rw [ZcH hc (ZcY hq)]; rfl
  ·simp only [Zl7 cc] at hfin ⊢
   rw [hz]
   have hq:=hfin _ rfl
   rw [ZeD hq]
   simp only [Zlx]
   rw [ZcH hc (ZcY hq)]; rfl
def HE (k:Int) (x:D.Path) (e:Int):Prop:=(0 ≤ k ∧ k ≤ 100000000000000) ∧ x.Pc = k ∧ ∃ a1 a2 a3 a4 a5,(Z5 fuel x.Regs (k + 1) = some a1 ∧ 0 ≤ a1) ∧ (Z5 fuel x.Mem a1 = some a2 ∧ 0 ≤ a2) ∧ (Yz fuel x.Stack a2 = some a3 ∧ 0 ≤ a3 ∧ a3 ≤ 200000000000000) ∧ x.In = a3 ∧
 (Z5 fuel x.Out (a3 + 1) = some a4 ∧ 0 ≤ a4 ∧ a4 ≤ 300000000000000) ∧ x.Code = a4 ∧ x.Steps = a4 + 1 ∧ (Z5 fuel x.Cond (a4 + 1 + 1) = some a5 ∧ 0 ≤ a5) ∧ (Yz fuel x.Turns a5 = some e ∧ 0 ≤ e)
def HC:Int → List D.Path → Int → Prop
 | k,[],e=>k = e
 | k,x :: xs,e=>∃ m,HE k x m ∧ HC m xs e
theorem HC.snoc {x:D.Path} {m e:Int} (h:HE m x e):∀ {l:List D.Path} {k:Int},HC k l m → HC k (l ++ [x]) e
 | [],k,hl=>by unfold HC at hl; subst hl; exact ⟨e,h,rfl⟩
 | y :: l,k,hl=>by obtain ⟨a,h1,h2⟩:=hl; exact ⟨a,h1,HC.snoc h h2⟩
theorem ZeJ {l:List D.Path} (hl:l.length ≤ 1048576) {e:Int}:∀ (xs:List D.Path) (i n:Nat) (k:Int),l.drop i = xs → i ≤ l.length → HC k xs e → xs.length < n →
    iterN (fun (s1:Int × Int)=>
      if (decide (s1.2 < (len l))) then
       (get? l s1.2).bind fun x1=>
       if (x1.Pc != s1.1) then
        some (.inr (.inr (-1)))
       else
        (get? l s1.2).bind fun x2=>
        (Z5 fuel x2.Regs (w64 (s1.1 + 1))).bind fun x3=>
        if (decide (x3 < 0)) then
         some (.inr (.inr (-1)))
        else
         (get? l s1.2).bind fun x4=>
         (Z5 fuel x4.Mem x3).bind fun x5=>
         if (decide (x5 < 0)) then
          some (.inr (.inr (-1)))
         else
          (get? l s1.2).bind fun x6=>
          (Yz fuel x6.Stack x5).bind fun x7=>
          if (decide (x7 < 0)) then
           some (.inr (.inr (-1)))
          else
           (get? l s1.2).bind fun x8=>
           if (x8.In != x7) then
            some (.inr (.inr (-1)))
           else
            (get? l s1.2).bind fun x9=>
            (Z5 fuel x9.Out (w64 (x7 + 1))).bind fun x10=>
            if (decide (x10 < 0)) then
             some (.inr (.inr (-1)))
            else
             (get? l s1.2).bind fun x11=>
             if (x11.Code != x10) then
              some (.inr (.inr (-1)))
             else
              (get? l s1.2).bind fun x12=>
              if (x12.Steps != (w64 (x10 + 1))) then
               some (.inr (.inr (-1)))
              else
               (get? l s1.2).bind fun x13=>
               (Z5 fuel x13.Cond (w64 ((w64 (x10 + 1)) + 1))).bind fun x14=>
               if (decide (x14 < 0)) then
                some (.inr (.inr (-1)))
               else
                (get? l s1.2).bind fun x15=>
                (Yz fuel x15.Turns x14).bind fun x16=>
                if (decide (x16 < 0)) then
                 some (.inr (.inr (-1)))
                else
                 some (.inl (x16,(w64 (s1.2 + 1))))
      else
       some (.inr (.inl (s1.1)))) n (k,(i:Int)) = some (.inl e:Int ⊕ Int)
  | [], i, n, k, hd, hi, hc, hn => by
    have:i = l.length:=by have:=congrArg List.length hd; simp at this; omega
    subst this
    have hdd:decide ((l.length:Int) < len l) = false:=by rw [Zg]; simp
    unfold HC at hc
    subst hc
    exact Zcd (by simp only [hdd,Zly,Zl4]) (by simpa using hn)
  | x :: xs, i, n, k, hd, hi, hc, hn => by
    have hlt:i < l.length:=by have:=congrArg List.length hd; simp at this; omega
    have hx:l[i]? = some x:=by rw [← List.head?_drop,hd]; rfl
    obtain ⟨n,rfl⟩ : ∃ m,n = m + 1:=⟨n - 1,by simp only [ZlO] at hn; omega⟩
    obtain ⟨m,⟨⟨b0,b1⟩,p1,a1,a2,a3,a4,a5,⟨q1,r1⟩,⟨q2,r2⟩,⟨q3,r3,t3⟩,p2,⟨q4,r4,t4⟩,p3,p4,⟨q5,r5⟩,⟨q6,r6⟩⟩,h2⟩:=hc
    have ih:=ZeJ hl (e:=e) xs (i + 1) n m (by rw [← Znr,hd]; rfl) (by omega) h2 (by simp at hn; omega)
    have hdd:decide ((i:Int) < len l) = true:=by rw [Zg]; simp; omega
    have e1:decide (a1 < 0) = false:=by simp; omega
    have e2:decide (a2 < 0) = false:=by simp; omega
    have e3:decide (a3 < 0) = false:=by simp; omega
    have e4:decide (a4 < 0) = false:=by simp; omega
    have e5:decide (a5 < 0) = false:=by simp; omega
    have e6:decide (m < 0) = false:=by simp; omega
    rw [ZgD (s':=(m,((i + 1:Nat):Int))) ?_]
    · exact ih
    · simp only [hdd, ZlL, get?_nat, hx, Zlx, p1, bne_self_eq_false, Zly, Zl4]
      rw [Zk (x:=k + 1) (by omega) (by omega),q1]
      simp only [Zlx,e1,Zly,Zl4,q2,e2,q3,e3,p2,bne_self_eq_false]
      rw [Zk (x:=a3 + 1) (by omega) (by omega),q4]
      simp only [Zlx,e4,Zly,Zl4,p3,bne_self_eq_false,p4]
      rw [Zk (x:=a4 + 1) (by omega) (by omega),Zk (x:=a4 + 1 + 1) (by omega) (by omega),q5]
      simp only [Zlx,e5,Zly,Zl4,q6,e6,bne_self_eq_false]
      rw [Zk (x:=(i:Int) + 1) (by omega) (by omega)]; rfl
theorem ZgW {l:List D.Path} (h:smallPS l):∃ k' r,YI fuel l 1 = some (k',r) ∧ 0 ≤ k' ∧ X5 fuel r 1 = some k':=by
 obtain ⟨hl,hk⟩:=h
 unfold YI
 have h0:HC 1 [] 1:=by unfold HC; rfl
 obtain ⟨r,g1,g2⟩:=ZN (l:=l) (n:=fuel) (σ:=Int × List D.Path) (ρ:=Int × List D.Path) (B:=fun (s1:Int × Int × (List D.Path))=>
  if (decide (s1.2.1 < (len l))) then
   (get? s1.2.2 s1.2.1).bind fun x1=>
   (Zv fuel x1.Regs (w64 (s1.1 + 1))).bind fun x2=>
   (Zv fuel x1.Mem x2.1).bind fun x3=>
   (Yi fuel x1.Stack x3.1).bind fun x4=>
   (Zv fuel x1.Out (w64 (x4.1 + 1))).bind fun x5=>
   (Zv fuel x1.Cond (w64 ((w64 (x5.1 + 1)) + 1))).bind fun x6=>
   (Yi fuel x1.Turns x6.1).bind fun x7=>
   (set? s1.2.2 s1.2.1 (D.Path.mk s1.1 x2.2 x3.2 x4.2 x4.1 x5.2 x5.1 (w64 (x5.1 + 1)) x6.2 x7.2)).bind fun x8=>
   some (.inl (x7.1,(w64 (s1.2.1 + 1)),x8))
  else
   some (.inr (s1.1,s1.2.2))) (fun j a=>(a.1,(j:Int),a.2)) (fun ys a=>(∃ pre,a.2 = pre ++ ys ∧ pre.length + ys.length = l.length ∧ HC 1 pre a.1) ∧ (∀ x ∈ ys,smallP x) ∧ 1 ≤ a.1 ∧ a.1 + 40000000 * (ys.length:Int) ≤ 1 + 40000000 * (l.length:Int))
   (fun r=>1 ≤ r.1 ∧ r.2.length = l.length ∧ HC 1 r.2 r.1)
   (fun j x xs a hj hx hlen ⟨⟨pre, i1, i2, i6⟩, i3, i4, i5⟩ => by
    obtain ⟨q,z⟩:=a
    simp only at i1 i4 i5 i6 ⊢
    simp only [ZlO] at i2 i5 hlen
    have hp:pre.length = j:=by omega
    have hd:decide ((j:Int) < len l) = true:=by rw [Zg]; simp; omega
    have hg:z[j]? = some x:=by rw [i1,Zl5 (by omega),hp,Zmh]; rfl
    obtain ⟨s1,s2,s3,s4,s5,s6⟩:=i3 x (by simp)
    have hb:q ≤ 50000000000000:=by omega
    obtain ⟨k1,r1,e1,a1,b1,h1⟩:=Zd7 (k:=q + 1) s1 (by omega) (by omega)
    obtain ⟨k2,r2,e2,a2,b2,h2⟩:=Zd7 (k:=k1) s2 (by omega) (by omega)
    have e3:=ZaF (p:=x.Stack) (k:=k2) (by omega) (by omega) s3
    have h3:=Zee (L:=x.Stack.length) (k:=k2) (by omega) (by omega) s3
    obtain ⟨k4,r4,e4,a4,b4,h4⟩:=Zd7 (k:=k2 + x.Stack.length + 1) s4 (by omega) (by omega)
    obtain ⟨k5,r5,e5,a5,b5,h5⟩:=Zd7 (k:=k4 + 1 + 1) s5 (by omega) (by omega)
    have e6:=ZaF (p:=x.Turns) (k:=k5) (by omega) (by omega) s6
    have h6:=Zee (L:=x.Turns.length) (k:=k5) (by omega) (by omega) s6
    simp only [hd,ZlL,get?_nat,hg,Zlx]
    rw [Zk (x:=q + 1) (by omega) (by omega),e1]
    simp only [Zlx,e2,e3]
    rw [Zk (x:=k2 + (x.Stack.length:Int) + 1) (by omega) (by omega),e4]
    simp only [Zlx]
    rw [Zk (x:=k4 + 1) (by omega) (by omega),Zk (x:=k4 + 1 + 1) (by omega) (by omega),e5]
    simp only [Zlx,e6]
    rw [set?_nat (by rw [i1]; simp; omega)]
    have z1:0 ≤ k2 + (x.Stack.length:Int):=by omega
    have z2:k2 + (x.Stack.length:Int) ≤ 200000000000000:=by omega
    have z3:0 ≤ k5 + (x.Turns.length:Int):=by omega
    have hE:HE q (D.Path.mk q r1 r2 (upI k2 x.Stack.length) (k2 + x.Stack.length) r4 k4 (k4 + 1) r5 (upI k5 x.Turns.length)) (k5 + x.Turns.length):=by
     unfold HE
     exact ⟨⟨by omega,by omega⟩,rfl,k1,k2,k2 + x.Stack.length,k4,k5,⟨h1,by omega⟩,⟨h2,by omega⟩,⟨h3,z1,z2⟩,rfl,⟨h4,by omega,by omega⟩,rfl,rfl,⟨h5,by omega⟩,⟨h6,z3⟩⟩
    refine .inl ⟨(k5 + x.Turns.length,z.set j _),by simp only [Zlx]; rw [Zk (by omega) (by omega)]; rfl,⟨pre ++ [D.Path.mk q r1 r2 (upI k2 x.Stack.length) (k2 + x.Stack.length) r4 k4 (k4 + 1) r5 (upI k5 x.Turns.length)],?_,by simp; omega,?_⟩,fun y hy=>i3 y (by simp [hy]),by show 1 ≤ k5 + _; omega,by show k5 + _ + _ ≤ _; omega⟩
    ·show z.set j _ = _
     rw [i1,Zmo _ _ (by omega),hp,Zmh]; simp
    ·exact i6.snoc hE)
   (fun a ⟨⟨pre, i1, i2, i6⟩, _, i4, i5⟩ => by
    have hd:decide ((l.length:Int) < len l) = false:=by rw [Zg]; simp
    simp only [hd,Zly,Zl4]
    rw [ZmB] at i1
    exact ⟨_,rfl,i4,by show a.2.length = _; rw [i1]; simpa using i2,by show HC 1 a.2 a.1; rw [i1]; exact i6⟩) (a:=(1,l)) ⟨⟨[],rfl,by simp,h0⟩,hk,ZnB _,ZnB _⟩ (Yy hl)
 rw [show ((0:Nat):Int) = 0 from rfl] at g1
 rw [g1]
 obtain ⟨g2,g3,g4⟩:=g2
 refine ⟨_,_,rfl,by omega,?_⟩
 unfold X5
 have:=ZeJ (l:=r.2) (by omega) r.2 0 fuel 1 rfl (ZlY _) g4 (Yy (by omega))
 rw [show ((0:Nat):Int) = 0 from rfl] at this
 rw [this]; rfl
end Go.Proofs.YtlkojmondogmlaaGreatDoor
end
