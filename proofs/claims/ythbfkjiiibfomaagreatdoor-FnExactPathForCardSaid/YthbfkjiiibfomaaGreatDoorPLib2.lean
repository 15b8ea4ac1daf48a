/- Texts of this claim put into one: library or plain laws, without the program under test. -/
import Derived.Test.YthbfkjiiibfomaaGreatDoorPLib1
import Derived.Lib.ItoaNum
section
namespace Go.Proofs.YthbfkjiiibfomaaGreatDoor
open Go.GL
set_option linter.unusedSimpArgs false
set_option maxRecDepth 100000
theorem Zw {k:Nat} {op w:Int} {a b:D.Term} (h3:3 ≤ op) (h16:op ≤ 16) (hc:(a.Op == 0 && b.Op == 0) = false):Z6 (k + 8) ⟨op,w,0,⟨[]⟩,[a,b]⟩ = Za (k + 7) ⟨op,w,0,⟨[]⟩,[a,b]⟩:=by
 rw [Yv (by simp) (by simp) (by simpa using hc)]
 rw [show ((op == 1) || (op == 2)) = false by simp; omega,show (op == 17) = false by simp; omega,show (op == 19) = false by simp; omega,show ((op == 20) || (op == 21)) = false by simp; omega,show (op == 18) = false by simp; omega]
 rfl
theorem Zx {k:Nat} {op w:Int} {a b:D.Term} (h3:3 ≤ op) (h16:op ≤ 16) (hc:(a.Op == 0 && b.Op == 0) = false):Zz (k + 8) ⟨op,w,0,⟨[]⟩,[a,b]⟩ = Zh (k + 7) ⟨op,w,0,⟨[]⟩,[a,b]⟩:=by
 rw [Yw (by simp) (by rw [show ([a,b].all fun x=>x.Op == 0) = false by simpa using hc]; simp)]
 rw [show decide (3 ≤ op ∧ op ≤ 16) = true by simp; omega]
 rfl
theorem ZdQ {w:Int} (h1:1 ≤ w) (h2:w ≤ 16):wordB w 0 = true:=by
 obtain ⟨p1,p2,p3⟩:=Zed h1 h2
 rw [ZZ h1 h2,p1]; omega
theorem ZjR {op w:Int} {a b:D.Term} (ho:op = 3 ∨ op = 5 ∨ op = 8 ∨ op = 9 ∨ op = 10 ∨ op = 14) (ha:nodeB a = true) (hb:nodeB b = true) (hw:a.W = b.W) (h1:op ≤ 13 → a.W = w) (h2:14 ≤ op → w = 1)
  (hc:(a.Op == 0 && b.Op == 0) = false) (hn:cnt a ≤ 240) (hs:ctm a b = 1):Stp ⟨op,w,0,⟨[]⟩,[a,b]⟩:=by
 have hma:=Zb6 ha
 have i1:∀ k,1100000 ≤ k → ZI (k + 6) a b = some (ctm a b):=fun k hk=>ZcX _ _ _ (by omega) (by omega)
 have s1:∀ k,1100000 ≤ k → ZJ (k + 6) a b = some (ctm a b):=fun k hk=>ZcZ _ _ _ (by omega) (by omega)
 refine .go 5 6 (u:=⟨op,w,0,⟨[]⟩,[b,a]⟩) ⟨Zel (by omega) (by omega) hb ha hw.symm (fun o=>by have:=h1 o; omega) h2,rfl,by rw [cnt2,cnt2]; omega,?_⟩ (fun k hk=>?_) (fun k hk=>?_)
 ·have e : ctm b a = -1 := by rw [Zl3, hs]
  unfold mea swp
  rw [cnt2,cnt2]
  simp [e,hs]; omega
 ·rw [Zw (by omega) (by omega) hc]
  rcases ho with rfl | rfl | rfl | rfl | rfl | rfl <;> simp [Za,Zn,Zd,Zc,get0,get1,i1 k hk,hs]
 ·rw [Zx (by omega) (by omega) hc]
  rcases ho with rfl | rfl | rfl | rfl | rfl | rfl <;> simp [Zh,Zd,get0,get1,s1 k hk,hs,Zm]
theorem ZbM {op w:Int} {a b:D.Term} (ho:op = 3 ∨ op = 5 ∨ op = 8 ∨ op = 9 ∨ op = 10) (ha:nodeB a = true) (hb:nodeB b = true) (hw:a.W = b.W) (h1:a.W = w)
  (ha0:a.Op = 0) (hb0:b.Op ≠ 0) (hn:cnt a ≤ 240) (hs:ctm a b ≠ 1) (hs2:ctm a b ≠ 0)
  (f1:∀ k,1100000 ≤ k → ∃ x,Zv (k + 6) op w a b = some (x,false)) (f2:∀ k,1100000 ≤ k → ∃ x,Z0 (k + 6) ⟨op,w,0,⟨[]⟩,[a,b]⟩ = some (x,false)):Stp ⟨op,w,0,⟨[]⟩,[a,b]⟩:=by
 have hma:=Zb6 ha
 have hc:(a.Op == 0 && b.Op == 0) = false:=by simp [hb0]
 have gt:¬ 0 < ctm a b:=by have:=Zf4 a b; omega
 have i1:∀ k,1100000 ≤ k → ZI (k + 6) a b = some (ctm a b):=fun k hk=>ZcX _ _ _ (by omega) (by omega)
 have s1:∀ k,1100000 ≤ k → ZJ (k + 6) a b = some (ctm a b):=fun k hk=>ZcZ _ _ _ (by omega) (by omega)
 have i2:∀ k,1100000 ≤ k → Yl (k + 6) a b = some (ctm a b == 0):=fun k hk=>ZbF (by omega) (by omega)
 have s2:∀ k,1100000 ≤ k → Yo (k + 6) a b = some (ctm a b == 0):=fun k hk=>ZbG (by omega) (by omega)
 have me:nodeB ⟨op,w,0,⟨[]⟩,[a,b]⟩ = true:=Zel (by omega) (by omega) ha hb hw (fun _=>h1) (fun o=>by omega)
 obtain ⟨ea,va⟩:=YZ ha ha0
 by_cases e1:b.Op = op
 rotate_left
 ·refine .fin me rfl (Znk _) (fun k hk => ?_) (fun k hk => ?_)
  ·obtain ⟨x, f⟩ := f1 k hk
   rw [Zw (by omega) (by omega) hc]
   rcases ho with rfl | rfl | rfl | rfl | rfl <;> simp [Za,Zd,Zc,Zp,Zb,get0,get1,i1 k hk,i2 k hk,hs,hs2,ha0,hb0,f,e1]
  ·obtain ⟨x, f⟩ := f2 k hk
   rw [Zx (by omega) (by omega) hc]
   rcases ho with rfl | rfl | rfl | rfl | rfl <;> simp [Zh,Zd,Zr,get0,get1,s1 k hk,s2 k hk,gt,hs2,ha0,hb0,f,e1,Zm]
 obtain ⟨c,d,eb,hcc,hd,hcd,hcw⟩:=Zl4 hb e1 (by omega) (by omega)
 have ekb:b.Kids = [c,d]:=by rw [eb]
 by_cases e2:c.Op = 0
 rotate_left
 ·refine .fin me rfl (Znk _) (fun k hk => ?_) (fun k hk => ?_)
  ·obtain ⟨x, f⟩ := f1 k hk
   rw [Zw (by omega) (by omega) hc]
   rcases ho with rfl | rfl | rfl | rfl | rfl <;> simp [Za,Zd,Zc,Zp,Zb,get0,get1,i1 k hk,i2 k hk,hs,hs2,ha0,hb0,f,e1,ekb,e2]
  ·obtain ⟨x, f⟩ := f2 k hk
   rw [Zx (by omega) (by omega) hc]
   rcases ho with rfl | rfl | rfl | rfl | rfl <;> simp [Zh,Zd,Zr,get0,get1,s1 k hk,s2 k hk,gt,hs2,ha0,hb0,f,e1,Zm,ekb,e2]
 obtain ⟨ec,vc⟩:=YZ hcc e2
 obtain ⟨r,q1,q2⟩:=ZaR op w a.N c.N
 have vr:wordB w r = true:=(Zih q1 (by rw [← h1]; exact va) (by rw [← h1,hw,← hcw (by omega)]; exact vc)).1 ⟨by omega,by omega⟩
 have gw:=Yq vr
 refine .go 5 6 (u:=⟨op,w,0,⟨[]⟩,[⟨0,w,r,⟨[]⟩,[]⟩,d]⟩) (X8 (Zel (by omega) (by omega) (ZaO vr) hd (by show w = d.W; have:=hcw (by omega); omega) (fun _=>rfl) (fun o=>by omega)) rfl (by
  have pa:=Zb8 a
  have pc:=Zb8 c
  rw [eb,cnt2,cnt2,cnt2,cnt0]; omega)) (fun k hk=>?_) (fun k hk=>?_)
 ·obtain ⟨x, f⟩ := f1 k hk
  rw [Zw (by omega) (by omega) hc]
  rcases ho with rfl | rfl | rfl | rfl | rfl <;> simp [Za,Zn,Zd,Zc,Zp,Zb,get0,get1,i1 k hk,i2 k hk,hs,hs2,ha0,hb0,f,e1,ekb,e2,q2,ZY vr]
 ·obtain ⟨x, f⟩ := f2 k hk
  rw [Zx (by omega) (by omega) hc]
  rcases ho with rfl | rfl | rfl | rfl | rfl <;> simp [Zh,Zd,Zr,get0,get1,s1 k hk,s2 k hk,gt,hs2,ha0,hb0,f,e1,Zm,ekb,e2,q1,Zj]
theorem ZiI {a:D.Term} (ha:nodeB a = true) (ha0:a.Op = 0):∃ o,Zbm a.W = some o ∧ ZaY a = some (a.N == o) ∧ 1 ≤ o ∧ wordB a.W o = true:=by
 have g:=YL ha
 obtain ⟨a1,a2,a3,a4,a5⟩:=Zbi g.1 g.2
 refine ⟨2 ^ a.W.toNat - 1,?_,?_,by omega,by rw [ZZ g.1 g.2]; omega⟩
 ·unfold Zbm; rw [a2]; simp only [Znb]; rw [a3]
 ·unfold ZaY; simp only [ha0,ZnT,Znr,a1,Znb,Zn3]; rw [a3]
theorem ZhS {op w:Int} {a b:D.Term} (ho:op = 3 ∨ op = 5 ∨ op = 8 ∨ op = 9 ∨ op = 10 ∨ op = 14) (ha:nodeB a = true) (hb:nodeB b = true) (hw:a.W = b.W) (h1:op ≤ 13 → a.W = w) (h2:14 ≤ op → w = 1)
  (ha0:a.Op = 0) (hb0:b.Op ≠ 0) (hn:cnt a ≤ 240) (hs:ctm a b ≠ 1):Stp ⟨op,w,0,⟨[]⟩,[a,b]⟩:=by
 have hma:=Zb6 ha
 have hc:(a.Op == 0 && b.Op == 0) = false:=by simp [hb0]
 have gt:¬ 0 < ctm a b:=by have:=Zf4 a b; omega
 have hs2:ctm a b ≠ 0:=fun e=>by
  rw [ZcN] at e
  by_cases q:sg a.Op b.Op = 0
  ·unfold sg at q; split at q <;> (try split at q) <;> omega
  ·simp [q] at e
 have i1:∀ k,1100000 ≤ k → ZI (k + 6) a b = some (ctm a b):=fun k hk=>ZcX _ _ _ (by omega) (by omega)
 have s1:∀ k,1100000 ≤ k → ZJ (k + 6) a b = some (ctm a b):=fun k hk=>ZcZ _ _ _ (by omega) (by omega)
 have i2:∀ k,1100000 ≤ k → Yl (k + 6) a b = some (ctm a b == 0):=fun k hk=>ZbF (by omega) (by omega)
 have s2:∀ k,1100000 ≤ k → Yo (k + 6) a b = some (ctm a b == 0):=fun k hk=>ZbG (by omega) (by omega)
 have me:nodeB ⟨op,w,0,⟨[]⟩,[a,b]⟩ = true:=Zel (by omega) (by omega) ha hb hw h1 h2
 obtain ⟨o,o1,o2,o3,o4⟩:=ZiI ha ha0
 obtain ⟨ea,va⟩:=YZ ha ha0
 have ga:=YL ha
 have tb:cnt b ≤ cnt ⟨op,w,0,⟨[]⟩,[a,b]⟩:=by rw [cnt2]; omega
 have tc:∀ v,cnt ⟨0,w,v,⟨[]⟩,[]⟩ ≤ cnt ⟨op,w,0,⟨[]⟩,[a,b]⟩:=fun v=>by rw [cnt2,cnt0]; omega
 have ea0:op ≤ 13 → a.N = 0 → a = ⟨0,w,0,⟨[]⟩,[]⟩:=fun q e=>by rw [ea,e,h1 q]
 have eao:op ≤ 13 → a.N = o → a = ⟨0,w,o,⟨[]⟩,[]⟩:=fun q e=>by rw [ea,e,h1 q]
 rcases ho with rfl | rfl | rfl | rfl | rfl | rfl
 ·by_cases e0 : a.N = 0
  ·refine .fin hb (by show b.W = w; have := h1 (by omega); omega) tb (fun k hk => ?_) (fun k hk => ?_)
   ·rw [Zw (by omega) (by omega) hc]; simp [Za,Zv,Zn,Zd,Zc,Zp,Zb,get0,get1,i1 k hk,i2 k hk,hs,hs2,ha0,hb0,o1,e0]
   ·rw [Zx (by omega) (by omega) hc]; simp [Zh,Z0,Zd,Zr,Zj,get0,get1,s1 k hk,s2 k hk,gt,hs2,ha0,hb0,o2,Zm,e0]
  refine ZbM (by simp) ha hb hw (h1 (by omega)) ha0 hb0 hn hs hs2 (fun k hk=>?_) (fun k hk=>?_)
  ·exact ⟨⟨0,0,0,⟨[]⟩,[]⟩,by simp [Zv,ha0,o1,e0]⟩
  ·exact ⟨_,by simp [Z0,Zr,get0,get1,ha0,o2,e0]; rfl⟩
 ·by_cases e0 : a.N = 1
  ·refine .fin hb (by show b.W = w; have := h1 (by omega); omega) tb (fun k hk => ?_) (fun k hk => ?_)
   ·rw [Zw (by omega) (by omega) hc]; simp [Za,Zv,Zn,Zd,Zc,Zp,Zb,get0,get1,i1 k hk,i2 k hk,hs,hs2,ha0,hb0,o1,e0]
   ·rw [Zx (by omega) (by omega) hc]; simp [Zh,Z0,Zd,Zr,Zj,get0,get1,s1 k hk,s2 k hk,gt,hs2,ha0,hb0,o2,Zm,e0]
  by_cases e1:a.N = 0
  ·refine .fin ha (h1 (by omega)) (by rw [cnt2]; omega) (fun k hk => ?_) (fun k hk => ?_)
   ·rw [Zw (by omega) (by omega) hc]; simp [Za,Zv,Zn,Zd,Zc,Zp,Zb,get0,get1,i1 k hk,i2 k hk,hs,hs2,ha0,hb0,o1,e0,e1,ZY (w:=w) (v:=0) (by have:=h1 (by omega); exact ZdQ (by omega) (by omega))]; exact (ea0 (by omega) (by assumption)).symm
   ·rw [Zx (by omega) (by omega) hc]; simp [Zh,Z0,Zd,Zr,Zj,get0,get1,s1 k hk,s2 k hk,gt,hs2,ha0,hb0,o2,Zm,e0,e1,ZY (w:=w) (v:=0) (by have:=h1 (by omega); exact ZdQ (by omega) (by omega))]
  refine ZbM (by simp) ha hb hw (h1 (by omega)) ha0 hb0 hn hs hs2 (fun k hk=>?_) (fun k hk=>?_)
  ·exact ⟨⟨0,0,0,⟨[]⟩,[]⟩,by simp [Zv,ha0,o1,e0,e1]⟩
  ·exact ⟨_,by simp [Z0,Zr,get0,get1,ha0,o2,e0,e1]; rfl⟩
 ·by_cases e0 : a.N = o
  ·refine .fin hb (by show b.W = w; have := h1 (by omega); omega) tb (fun k hk => ?_) (fun k hk => ?_)
   ·rw [Zw (by omega) (by omega) hc]; simp [Za,Zv,Zn,Zd,Zc,Zp,Zb,get0,get1,i1 k hk,i2 k hk,hs,hs2,ha0,hb0,o1,e0,show ¬ o = 0 by omega]
   ·rw [Zx (by omega) (by omega) hc]; simp [Zh,Z0,Zd,Zr,Zj,get0,get1,s1 k hk,s2 k hk,gt,hs2,ha0,hb0,o2,Zm,e0,show ¬ o = 0 by omega]
  by_cases e1:a.N = 0
  ·refine .fin ha (h1 (by omega)) (by rw [cnt2]; omega) (fun k hk => ?_) (fun k hk => ?_)
   ·rw [Zw (by omega) (by omega) hc]; simp [Za,Zv,Zn,Zd,Zc,Zp,Zb,get0,get1,i1 k hk,i2 k hk,hs,hs2,ha0,hb0,o1,e0,e1,ZY (w:=w) (v:=0) (by have:=h1 (by omega); exact ZdQ (by omega) (by omega)),show ¬ 0 = o by omega]; exact (ea0 (by omega) (by assumption)).symm
   ·rw [Zx (by omega) (by omega) hc]; simp [Zh,Z0,Zd,Zr,Zj,get0,get1,s1 k hk,s2 k hk,gt,hs2,ha0,hb0,o2,Zm,e0,e1,ZY (w:=w) (v:=0) (by have:=h1 (by omega); exact ZdQ (by omega) (by omega)),show ¬ 0 = o by omega]
  refine ZbM (by simp) ha hb hw (h1 (by omega)) ha0 hb0 hn hs hs2 (fun k hk=>?_) (fun k hk=>?_)
  ·exact ⟨⟨0,0,0,⟨[]⟩,[]⟩,by simp [Zv,ha0,o1,e0,e1]⟩
  ·exact ⟨_,by simp [Z0,Zr,get0,get1,ha0,o2,e0,e1]; rfl⟩
 ·by_cases e0 : a.N = 0
  ·refine .fin hb (by show b.W = w; have := h1 (by omega); omega) tb (fun k hk => ?_) (fun k hk => ?_)
   ·rw [Zw (by omega) (by omega) hc]; simp [Za,Zv,Zn,Zd,Zc,Zp,Zb,get0,get1,i1 k hk,i2 k hk,hs,hs2,ha0,hb0,o1,e0]
   ·rw [Zx (by omega) (by omega) hc]; simp [Zh,Z0,Zd,Zr,Zj,get0,get1,s1 k hk,s2 k hk,gt,hs2,ha0,hb0,o2,Zm,e0]
  by_cases e1:a.N = o
  ·refine .fin ha (h1 (by omega)) (by rw [cnt2]; omega) (fun k hk => ?_) (fun k hk => ?_)
   ·rw [Zw (by omega) (by omega) hc]; simp [Za,Zv,Zn,Zd,Zc,Zp,Zb,get0,get1,i1 k hk,i2 k hk,hs,hs2,ha0,hb0,o1,e0,e1,ZY (w:=w) (v:=o) (by have:=h1 (by omega); rw [← this]; exact o4),show ¬ o = 0 by omega]; exact (eao (by omega) (by assumption)).symm
   ·rw [Zx (by omega) (by omega) hc]; simp [Zh,Z0,Zd,Zr,Zj,get0,get1,s1 k hk,s2 k hk,gt,hs2,ha0,hb0,o2,Zm,e0,e1,ZY (w:=w) (v:=o) (by have:=h1 (by omega); rw [← this]; exact o4),show ¬ o = 0 by omega]
  refine ZbM (by simp) ha hb hw (h1 (by omega)) ha0 hb0 hn hs hs2 (fun k hk=>?_) (fun k hk=>?_)
  ·exact ⟨⟨0,0,0,⟨[]⟩,[]⟩,by simp [Zv,ha0,o1,e0,e1]⟩
  ·exact ⟨_,by simp [Z0,Zr,get0,get1,ha0,o2,e0,e1]; rfl⟩
 ·by_cases e0 : a.N = 0
  ·refine .fin hb (by show b.W = w; have := h1 (by omega); omega) tb (fun k hk => ?_) (fun k hk => ?_)
   ·rw [Zw (by omega) (by omega) hc]; simp [Za,Zv,Zn,Zd,Zc,Zp,Zb,get0,get1,i1 k hk,i2 k hk,hs,hs2,ha0,hb0,o1,e0]
   ·rw [Zx (by omega) (by omega) hc]; simp [Zh,Z0,Zd,Zr,Zj,get0,get1,s1 k hk,s2 k hk,gt,hs2,ha0,hb0,o2,Zm,e0]
  by_cases e1:a.N = o
  ·refine .go 4 5 (u := ⟨1, w, 0, ⟨[]⟩, [b]⟩) (X8 (ZgD (.inl rfl) hb (by have := h1 (by omega); omega)) rfl (by have := Zb8 a; rw [cnt1, cnt2]; omega)) (fun k hk => ?_) (fun k hk => ?_)
   ·rw [Zw (by omega) (by omega) hc]; simp [Za,Zv,Zn,Zd,Zc,Zp,Zb,get0,get1,i1 k hk,i2 k hk,hs,hs2,ha0,hb0,o1,e0,e1,show ¬ o = 0 by omega]; generalize Z6 (k + 4) _ = z; cases z <;> simp
   ·rw [Zx (by omega) (by omega) hc]; simp [Zh,Z0,Zd,Zr,Zj,get0,get1,s1 k hk,s2 k hk,gt,hs2,ha0,hb0,o2,Zm,e0,e1,show ¬ o = 0 by omega]; generalize Zz (k + 5) _ = z; cases z <;> simp
  refine ZbM (by simp) ha hb hw (h1 (by omega)) ha0 hb0 hn hs hs2 (fun k hk=>?_) (fun k hk=>?_)
  ·exact ⟨⟨0,0,0,⟨[]⟩,[]⟩,by simp [Zv,ha0,o1,e0,e1]⟩
  ·exact ⟨_,by simp [Z0,Zr,get0,get1,ha0,o2,e0,e1]; rfl⟩
 ·have hw1 := h2 (by omega)
  by_cases q:a.W = 1
  ·rw [q] at va o1
   have hv:=(ZZ (by omega) (by omega) a.N).1 va
   have hv2:a.N = 0 ∨ a.N = 1:=by
    have:(2:Int) ^ (1:Int).toNat = 2:=rfl
    omega
   rcases hv2 with e | e
   ·refine .go 4 5 (u := ⟨1, 1, 0, ⟨[]⟩, [b]⟩) (X8 (ZgD (.inl rfl) hb (by omega)) hw1.symm (by have := Zb8 a; rw [cnt1, cnt2]; omega)) (fun k hk => ?_) (fun k hk => ?_)
    ·rw [Zw (by omega) (by omega) hc]; simp [Za,Zv,Zn,Zd,Zc,Zp,Zb,get0,get1,i1 k hk,i2 k hk,hs,hs2,ha0,hb0,o1,e,q,hw1]; generalize Z6 (k + 4) _ = z; cases z <;> simp
    ·rw [Zx (by omega) (by omega) hc]; simp [Zh,Z0,Zd,Zr,Zj,get0,get1,s1 k hk,s2 k hk,gt,hs2,ha0,hb0,o2,Zm,e,q,hw1]; generalize Zz (k + 5) _ = z; cases z <;> simp
   ·refine .fin hb (by show b.W = w; omega) tb (fun k hk => ?_) (fun k hk => ?_)
    ·rw [Zw (by omega) (by omega) hc]; simp [Za,Zv,Zn,Zd,Zc,Zp,Zb,get0,get1,i1 k hk,i2 k hk,hs,hs2,ha0,hb0,o1,e,q]
    ·rw [Zx (by omega) (by omega) hc]; simp [Zh,Z0,Zd,Zr,Zj,get0,get1,s1 k hk,s2 k hk,gt,hs2,ha0,hb0,o2,Zm,e,q]
  ·refine .fin me rfl (Znk _) (fun k hk => ?_) (fun k hk => ?_)
   ·rw [Zw (by omega) (by omega) hc]; simp [Za,Zv,Zn,Zd,Zc,Zp,Zb,get0,get1,i1 k hk,i2 k hk,hs,hs2,ha0,hb0,o1,q]
   ·rw [Zx (by omega) (by omega) hc]; simp [Zh,Z0,Zd,Zr,Zj,get0,get1,s1 k hk,s2 k hk,gt,hs2,ha0,hb0,o2,Zm,q]
theorem Zh5 {op w:Int} {a b:D.Term} (ho:op = 4 ∨ op = 6 ∨ op = 7 ∨ op = 11 ∨ op = 12 ∨ op = 13 ∨ op = 15 ∨ op = 16) (ha:nodeB a = true) (hb:nodeB b = true) (hw:a.W = b.W) (h1:op ≤ 13 → a.W = w) (h2:14 ≤ op → w = 1)
  (ha0:a.Op = 0) (hb0:b.Op ≠ 0) (hn:cnt a ≤ 240):Stp ⟨op,w,0,⟨[]⟩,[a,b]⟩:=by
 have hma:=Zb6 ha
 have hc:(a.Op == 0 && b.Op == 0) = false:=by simp [hb0]
 have hs2:ctm a b ≠ 0:=fun e=>by
  rw [ZcN] at e
  by_cases q:sg a.Op b.Op = 0
  ·unfold sg at q; split at q <;> (try split at q) <;> omega
  ·simp [q] at e
 have i2:∀ k,1100000 ≤ k → Yl (k + 6) a b = some (ctm a b == 0):=fun k hk=>ZbF (by omega) (by omega)
 have s2:∀ k,1100000 ≤ k → Yo (k + 6) a b = some (ctm a b == 0):=fun k hk=>ZbG (by omega) (by omega)
 have me:nodeB ⟨op,w,0,⟨[]⟩,[a,b]⟩ = true:=Zel (by omega) (by omega) ha hb hw h1 h2
 obtain ⟨o,o1,o2,o3,o4⟩:=ZiI ha ha0
 refine .fin me rfl (Znk _) (fun k hk=>?_) (fun k hk=>?_)
 ·rw [Zw (by omega) (by omega) hc]
  rcases ho with rfl | rfl | rfl | rfl | rfl | rfl | rfl | rfl <;> simp [Za,Zv,Zd,Zc,Zp,Zb,get0,get1,i2 k hk,hs2,ha0,hb0,o1]
 ·rw [Zx (by omega) (by omega) hc]
  rcases ho with rfl | rfl | rfl | rfl | rfl | rfl | rfl | rfl <;> simp [Zh,Z0,Zd,Zr,get0,get1,s2 k hk,hs2,ha0,hb0,o2,Zm]
theorem Zge {op w:Int} {a b:D.Term} (h3:3 ≤ op) (h16:op ≤ 16) (ha:nodeB a = true) (hb:nodeB b = true) (hw:a.W = b.W) (h1:op ≤ 13 → a.W = w) (h2:14 ≤ op → w = 1)
  (ha0:a.Op ≠ 0) (hn:cnt a ≤ 240) (hs:op = 3 ∨ op = 5 ∨ op = 8 ∨ op = 9 ∨ op = 10 ∨ op = 14 → ctm a b ≠ 1):Stp ⟨op,w,0,⟨[]⟩,[a,b]⟩:=by
 have hma:=Zb6 ha
 have hc:(a.Op == 0 && b.Op == 0) = false:=by simp [ha0]
 have ga:=YL ha
 have i1:∀ k,1100000 ≤ k → ZI (k + 6) a b = some (ctm a b):=fun k hk=>ZcX _ _ _ (by omega) (by omega)
 have s1:∀ k,1100000 ≤ k → ZJ (k + 6) a b = some (ctm a b):=fun k hk=>ZcZ _ _ _ (by omega) (by omega)
 have i2:∀ k,1100000 ≤ k → Yl (k + 6) a b = some (ctm a b == 0):=fun k hk=>ZbF (by omega) (by omega)
 have s2:∀ k,1100000 ≤ k → Yo (k + 6) a b = some (ctm a b == 0):=fun k hk=>ZbG (by omega) (by omega)
 have me:nodeB ⟨op,w,0,⟨[]⟩,[a,b]⟩ = true:=Zel (by omega) (by omega) ha hb hw h1 h2
 have hw1:1 ≤ w ∧ w ≤ 16:=by omega
 have hz:=ZdQ hw1.1 hw1.2
 have ta:cnt a ≤ cnt ⟨op,w,0,⟨[]⟩,[a,b]⟩:=by rw [cnt2]; omega
 have tc:∀ v,cnt ⟨0,w,v,⟨[]⟩,[]⟩ ≤ cnt ⟨op,w,0,⟨[]⟩,[a,b]⟩:=fun v=>by rw [cnt2,cnt0]; omega
 have hop:op = 3 ∨ op = 4 ∨ op = 5 ∨ op = 6 ∨ op = 7 ∨ op = 8 ∨ op = 9 ∨ op = 10 ∨ op = 11 ∨ op = 12 ∨ op = 13 ∨ op = 14 ∨ op = 15 ∨ op = 16:=by omega
 have gt:op = 3 ∨ op = 5 ∨ op = 8 ∨ op = 9 ∨ op = 10 ∨ op = 14 → ¬ 0 < ctm a b:=fun o=>by have:=Zf4 a b; have:=hs o; omega
 by_cases z:b.Op = 0 ∧ b.N = 0
 ·have c1 : Zp b 0 = some true := by simp [Zp, z.1, z.2]
  have c2:Zr b 0 = some true:=by simp [Zr,z.1,z.2]
  have hs2:ctm a b ≠ 0:=fun e=>by
   rw [ZcN] at e
   by_cases q:sg a.Op b.Op = 0
   ·unfold sg at q; split at q <;> (try split at q) <;> omega
   ·simp [q] at e
  rcases hop with rfl | rfl | rfl | rfl | rfl | rfl | rfl | rfl | rfl | rfl | rfl | rfl | rfl | rfl
  ·refine .fin me rfl (Znk _) (fun k hk => ?_) (fun k hk => ?_)
   ·rw [Zw (by omega) (by omega) hc]; simp [Za,Zd,Zc,Zb,get0,get1,i1 k hk,i2 k hk,ha0,c1,hs2,hs (by simp)]
   ·rw [Zx (by omega) (by omega) hc]; simp [Zh,Zl,Zd,Zj,get0,get1,s1 k hk,s2 k hk,ha0,c2,Zm,hs2,gt (by simp)]
  ·refine .fin ha (h1 (by omega)) ta (fun k hk => ?_) (fun k hk => ?_)
   ·rw [Zw (by omega) (by omega) hc]; simp [Za,Zd,Zc,Zb,get0,get1,i1 k hk,i2 k hk,ha0,c1]
   ·rw [Zx (by omega) (by omega) hc]; simp [Zh,Zl,Zd,Zj,get0,get1,s1 k hk,s2 k hk,ha0,c2,Zm]
  ·refine .fin me rfl (Znk _) (fun k hk => ?_) (fun k hk => ?_)
   ·rw [Zw (by omega) (by omega) hc]; simp [Za,Zd,Zc,Zb,get0,get1,i1 k hk,i2 k hk,ha0,c1,hs2,hs (by simp)]
   ·rw [Zx (by omega) (by omega) hc]; simp [Zh,Zl,Zd,Zj,get0,get1,s1 k hk,s2 k hk,ha0,c2,Zm,hs2,gt (by simp)]
  ·refine .fin me rfl (Znk _) (fun k hk => ?_) (fun k hk => ?_)
   ·rw [Zw (by omega) (by omega) hc]; simp [Za,Zd,Zc,Zb,get0,get1,i1 k hk,i2 k hk,ha0,c1,hs2]
   ·rw [Zx (by omega) (by omega) hc]; simp [Zh,Zl,Zd,Zj,get0,get1,s1 k hk,s2 k hk,ha0,c2,Zm,hs2]
  ·refine .fin me rfl (Znk _) (fun k hk => ?_) (fun k hk => ?_)
   ·rw [Zw (by omega) (by omega) hc]; simp [Za,Zd,Zc,Zb,get0,get1,i1 k hk,i2 k hk,ha0,c1,hs2]
   ·rw [Zx (by omega) (by omega) hc]; simp [Zh,Zl,Zd,Zj,get0,get1,s1 k hk,s2 k hk,ha0,c2,Zm,hs2]
  ·refine .fin me rfl (Znk _) (fun k hk => ?_) (fun k hk => ?_)
   ·rw [Zw (by omega) (by omega) hc]; simp [Za,Zd,Zc,Zb,get0,get1,i1 k hk,i2 k hk,ha0,c1,hs2,hs (by simp)]
   ·rw [Zx (by omega) (by omega) hc]; simp [Zh,Zl,Zd,Zj,get0,get1,s1 k hk,s2 k hk,ha0,c2,Zm,hs2,gt (by simp)]
  ·refine .fin me rfl (Znk _) (fun k hk => ?_) (fun k hk => ?_)
   ·rw [Zw (by omega) (by omega) hc]; simp [Za,Zd,Zc,Zb,get0,get1,i1 k hk,i2 k hk,ha0,c1,hs2,hs (by simp)]
   ·rw [Zx (by omega) (by omega) hc]; simp [Zh,Zl,Zd,Zj,get0,get1,s1 k hk,s2 k hk,ha0,c2,Zm,hs2,gt (by simp)]
  ·refine .fin me rfl (Znk _) (fun k hk => ?_) (fun k hk => ?_)
   ·rw [Zw (by omega) (by omega) hc]; simp [Za,Zd,Zc,Zb,get0,get1,i1 k hk,i2 k hk,ha0,c1,hs2,hs (by simp)]
   ·rw [Zx (by omega) (by omega) hc]; simp [Zh,Zl,Zd,Zj,get0,get1,s1 k hk,s2 k hk,ha0,c2,Zm,hs2,gt (by simp)]
  ·refine .fin ha (h1 (by omega)) ta (fun k hk => ?_) (fun k hk => ?_)
   ·rw [Zw (by omega) (by omega) hc]; simp [Za,Zd,Zc,Zb,get0,get1,i1 k hk,i2 k hk,ha0,c1]
   ·rw [Zx (by omega) (by omega) hc]; simp [Zh,Zl,Zd,Zj,get0,get1,s1 k hk,s2 k hk,ha0,c2,Zm]
  ·refine .fin ha (h1 (by omega)) ta (fun k hk => ?_) (fun k hk => ?_)
   ·rw [Zw (by omega) (by omega) hc]; simp [Za,Zd,Zc,Zb,get0,get1,i1 k hk,i2 k hk,ha0,c1]
   ·rw [Zx (by omega) (by omega) hc]; simp [Zh,Zl,Zd,Zj,get0,get1,s1 k hk,s2 k hk,ha0,c2,Zm]
  ·refine .fin ha (h1 (by omega)) ta (fun k hk => ?_) (fun k hk => ?_)
   ·rw [Zw (by omega) (by omega) hc]; simp [Za,Zd,Zc,Zb,get0,get1,i1 k hk,i2 k hk,ha0,c1]
   ·rw [Zx (by omega) (by omega) hc]; simp [Zh,Zl,Zd,Zj,get0,get1,s1 k hk,s2 k hk,ha0,c2,Zm]
  ·refine .fin me rfl (Znk _) (fun k hk => ?_) (fun k hk => ?_)
   ·rw [Zw (by omega) (by omega) hc]; simp [Za,Zd,Zc,Zb,get0,get1,i1 k hk,i2 k hk,ha0,c1,hs2,hs (by simp)]
   ·rw [Zx (by omega) (by omega) hc]; simp [Zh,Zl,Zd,Zj,get0,get1,s1 k hk,s2 k hk,ha0,c2,Zm,hs2,gt (by simp)]
  ·obtain rfl := h2 (by omega)
   refine .fin (ZaO (w:=1) (v:=0) (hz)) rfl (tc _) (fun k hk=>?_) (fun k hk=>?_)
   ·rw [Zw (by omega) (by omega) hc]; simp [Za,Zd,Zc,Zb,get0,get1,i1 k hk,i2 k hk,ha0,c1,ZY hz]
   ·rw [Zx (by omega) (by omega) hc]; simp [Zh,Zl,Zd,Zj,get0,get1,s1 k hk,s2 k hk,ha0,c2,Zm]
  ·refine .fin me rfl (Znk _) (fun k hk => ?_) (fun k hk => ?_)
   ·rw [Zw (by omega) (by omega) hc]; simp [Za,Zd,Zc,Zb,get0,get1,i1 k hk,i2 k hk,ha0,c1,hs2]
   ·rw [Zx (by omega) (by omega) hc]; simp [Zh,Zl,Zd,Zj,get0,get1,s1 k hk,s2 k hk,ha0,c2,Zm,hs2]
 ·have c1:Zp b 0 = some false:=by
   unfold Zp
   cases h:(b.Op == 0 && b.N == 0)
   ·rfl
   ·rw [Zne,ZnC,ZnC] at h; exact absurd h z
  have c2:Zr b 0 = some false:=by
   unfold Zr
   cases h:(b.Op == 0 && b.N == 0)
   ·rfl
   ·rw [Zne,ZnC,ZnC] at h; exact absurd h z
  by_cases e:ctm a b = 0
  ·rcases hop with rfl | rfl | rfl | rfl | rfl | rfl | rfl | rfl | rfl | rfl | rfl | rfl | rfl | rfl
   ·refine .fin me rfl (Znk _) (fun k hk => ?_) (fun k hk => ?_)
    ·rw [Zw (by omega) (by omega) hc]; simp [Za,Zd,Zc,Zb,get0,get1,i1 k hk,i2 k hk,ha0,c1,e]
    ·rw [Zx (by omega) (by omega) hc]; simp [Zh,Zl,Zd,Zj,get0,get1,s1 k hk,s2 k hk,ha0,c2,Zm,e]
   ·refine .fin (ZaO (w := w) (v := 0) (hz)) rfl (tc _) (fun k hk => ?_) (fun k hk => ?_)
    ·rw [Zw (by omega) (by omega) hc]; simp [Za,Zd,Zc,Zb,get0,get1,i1 k hk,i2 k hk,ha0,c1,e,ZY hz]
    ·rw [Zx (by omega) (by omega) hc]; simp [Zh,Zl,Zd,Zj,get0,get1,s1 k hk,s2 k hk,ha0,c2,Zm,e]
   ·refine .fin me rfl (Znk _) (fun k hk => ?_) (fun k hk => ?_)
    ·rw [Zw (by omega) (by omega) hc]; simp [Za,Zd,Zc,Zb,get0,get1,i1 k hk,i2 k hk,ha0,c1,e]
    ·rw [Zx (by omega) (by omega) hc]; simp [Zh,Zl,Zd,Zj,get0,get1,s1 k hk,s2 k hk,ha0,c2,Zm,e]
   ·refine .fin me rfl (Znk _) (fun k hk => ?_) (fun k hk => ?_)
    ·rw [Zw (by omega) (by omega) hc]; simp [Za,Zd,Zc,Zb,get0,get1,i1 k hk,i2 k hk,ha0,c1,e]
    ·rw [Zx (by omega) (by omega) hc]; simp [Zh,Zl,Zd,Zj,get0,get1,s1 k hk,s2 k hk,ha0,c2,Zm,e]
   ·refine .fin me rfl (Znk _) (fun k hk => ?_) (fun k hk => ?_)
    ·rw [Zw (by omega) (by omega) hc]; simp [Za,Zd,Zc,Zb,get0,get1,i1 k hk,i2 k hk,ha0,c1,e]
    ·rw [Zx (by omega) (by omega) hc]; simp [Zh,Zl,Zd,Zj,get0,get1,s1 k hk,s2 k hk,ha0,c2,Zm,e]
   ·refine .fin ha (h1 (by omega)) ta (fun k hk => ?_) (fun k hk => ?_)
    ·rw [Zw (by omega) (by omega) hc]; simp [Za,Zd,Zc,Zb,get0,get1,i1 k hk,i2 k hk,ha0,c1,e]
    ·rw [Zx (by omega) (by omega) hc]; simp [Zh,Zl,Zd,Zj,get0,get1,s1 k hk,s2 k hk,ha0,c2,Zm,e]
   ·refine .fin ha (h1 (by omega)) ta (fun k hk => ?_) (fun k hk => ?_)
    ·rw [Zw (by omega) (by omega) hc]; simp [Za,Zd,Zc,Zb,get0,get1,i1 k hk,i2 k hk,ha0,c1,e]
    ·rw [Zx (by omega) (by omega) hc]; simp [Zh,Zl,Zd,Zj,get0,get1,s1 k hk,s2 k hk,ha0,c2,Zm,e]
   ·refine .fin (ZaO (w := w) (v := 0) (hz)) rfl (tc _) (fun k hk => ?_) (fun k hk => ?_)
    ·rw [Zw (by omega) (by omega) hc]; simp [Za,Zd,Zc,Zb,get0,get1,i1 k hk,i2 k hk,ha0,c1,e,ZY hz]
    ·rw [Zx (by omega) (by omega) hc]; simp [Zh,Zl,Zd,Zj,get0,get1,s1 k hk,s2 k hk,ha0,c2,Zm,e]
   ·refine .fin me rfl (Znk _) (fun k hk => ?_) (fun k hk => ?_)
    ·rw [Zw (by omega) (by omega) hc]; simp [Za,Zd,Zc,Zb,get0,get1,i1 k hk,i2 k hk,ha0,c1,e]
    ·rw [Zx (by omega) (by omega) hc]; simp [Zh,Zl,Zd,Zj,get0,get1,s1 k hk,s2 k hk,ha0,c2,Zm,e]
   ·refine .fin me rfl (Znk _) (fun k hk => ?_) (fun k hk => ?_)
    ·rw [Zw (by omega) (by omega) hc]; simp [Za,Zd,Zc,Zb,get0,get1,i1 k hk,i2 k hk,ha0,c1,e]
    ·rw [Zx (by omega) (by omega) hc]; simp [Zh,Zl,Zd,Zj,get0,get1,s1 k hk,s2 k hk,ha0,c2,Zm,e]
   ·refine .fin me rfl (Znk _) (fun k hk => ?_) (fun k hk => ?_)
    ·rw [Zw (by omega) (by omega) hc]; simp [Za,Zd,Zc,Zb,get0,get1,i1 k hk,i2 k hk,ha0,c1,e]
    ·rw [Zx (by omega) (by omega) hc]; simp [Zh,Zl,Zd,Zj,get0,get1,s1 k hk,s2 k hk,ha0,c2,Zm,e]
   ·obtain rfl := h2 (by omega)
    refine .fin (ZaO (w:=1) (v:=1) (by decide)) rfl (tc _) (fun k hk=>?_) (fun k hk=>?_)
    ·rw [Zw (by omega) (by omega) hc]; simp [Za,Zd,Zc,Zb,get0,get1,i1 k hk,i2 k hk,ha0,c1,e,ZY (w:=1) (v:=1) (by decide)]
    ·rw [Zx (by omega) (by omega) hc]; simp [Zh,Zl,Zd,Zj,get0,get1,s1 k hk,s2 k hk,ha0,c2,Zm,e]
   ·refine .fin (ZaO (w := w) (v := 0) (hz)) rfl (tc _) (fun k hk => ?_) (fun k hk => ?_)
    ·rw [Zw (by omega) (by omega) hc]; simp [Za,Zd,Zc,Zb,get0,get1,i1 k hk,i2 k hk,ha0,c1,e,ZY hz]
    ·rw [Zx (by omega) (by omega) hc]; simp [Zh,Zl,Zd,Zj,get0,get1,s1 k hk,s2 k hk,ha0,c2,Zm,e]
   ·refine .fin (ZaO (w := w) (v := 0) (hz)) rfl (tc _) (fun k hk => ?_) (fun k hk => ?_)
    ·rw [Zw (by omega) (by omega) hc]; simp [Za,Zd,Zc,Zb,get0,get1,i1 k hk,i2 k hk,ha0,c1,e,ZY hz]
    ·rw [Zx (by omega) (by omega) hc]; simp [Zh,Zl,Zd,Zj,get0,get1,s1 k hk,s2 k hk,ha0,c2,Zm,e]
  ·rcases hop with rfl | rfl | rfl | rfl | rfl | rfl | rfl | rfl | rfl | rfl | rfl | rfl | rfl | rfl
   ·refine .fin me rfl (Znk _) (fun k hk => ?_) (fun k hk => ?_)
    ·rw [Zw (by omega) (by omega) hc]; simp [Za,Zd,Zc,Zb,get0,get1,i1 k hk,i2 k hk,ha0,c1,e,hs (by simp)]
    ·rw [Zx (by omega) (by omega) hc]; simp [Zh,Zl,Zd,Zj,get0,get1,s1 k hk,s2 k hk,ha0,c2,Zm,e,gt (by simp)]
   ·refine .fin me rfl (Znk _) (fun k hk => ?_) (fun k hk => ?_)
    ·rw [Zw (by omega) (by omega) hc]; simp [Za,Zd,Zc,Zb,get0,get1,i1 k hk,i2 k hk,ha0,c1,e]
    ·rw [Zx (by omega) (by omega) hc]; simp [Zh,Zl,Zd,Zj,get0,get1,s1 k hk,s2 k hk,ha0,c2,Zm,e]
   ·refine .fin me rfl (Znk _) (fun k hk => ?_) (fun k hk => ?_)
    ·rw [Zw (by omega) (by omega) hc]; simp [Za,Zd,Zc,Zb,get0,get1,i1 k hk,i2 k hk,ha0,c1,e,hs (by simp)]
    ·rw [Zx (by omega) (by omega) hc]; simp [Zh,Zl,Zd,Zj,get0,get1,s1 k hk,s2 k hk,ha0,c2,Zm,e,gt (by simp)]
   ·refine .fin me rfl (Znk _) (fun k hk => ?_) (fun k hk => ?_)
    ·rw [Zw (by omega) (by omega) hc]; simp [Za,Zd,Zc,Zb,get0,get1,i1 k hk,i2 k hk,ha0,c1,e]
    ·rw [Zx (by omega) (by omega) hc]; simp [Zh,Zl,Zd,Zj,get0,get1,s1 k hk,s2 k hk,ha0,c2,Zm,e]
   ·refine .fin me rfl (Znk _) (fun k hk => ?_) (fun k hk => ?_)
    ·rw [Zw (by omega) (by omega) hc]; simp [Za,Zd,Zc,Zb,get0,get1,i1 k hk,i2 k hk,ha0,c1,e]
    ·rw [Zx (by omega) (by omega) hc]; simp [Zh,Zl,Zd,Zj,get0,get1,s1 k hk,s2 k hk,ha0,c2,Zm,e]
   ·refine .fin me rfl (Znk _) (fun k hk => ?_) (fun k hk => ?_)
    ·rw [Zw (by omega) (by omega) hc]; simp [Za,Zd,Zc,Zb,get0,get1,i1 k hk,i2 k hk,ha0,c1,e,hs (by simp)]
    ·rw [Zx (by omega) (by omega) hc]; simp [Zh,Zl,Zd,Zj,get0,get1,s1 k hk,s2 k hk,ha0,c2,Zm,e,gt (by simp)]
   ·refine .fin me rfl (Znk _) (fun k hk => ?_) (fun k hk => ?_)
    ·rw [Zw (by omega) (by omega) hc]; simp [Za,Zd,Zc,Zb,get0,get1,i1 k hk,i2 k hk,ha0,c1,e,hs (by simp)]
    ·rw [Zx (by omega) (by omega) hc]; simp [Zh,Zl,Zd,Zj,get0,get1,s1 k hk,s2 k hk,ha0,c2,Zm,e,gt (by simp)]
   ·refine .fin me rfl (Znk _) (fun k hk => ?_) (fun k hk => ?_)
    ·rw [Zw (by omega) (by omega) hc]; simp [Za,Zd,Zc,Zb,get0,get1,i1 k hk,i2 k hk,ha0,c1,e,hs (by simp)]
    ·rw [Zx (by omega) (by omega) hc]; simp [Zh,Zl,Zd,Zj,get0,get1,s1 k hk,s2 k hk,ha0,c2,Zm,e,gt (by simp)]
   ·refine .fin me rfl (Znk _) (fun k hk => ?_) (fun k hk => ?_)
    ·rw [Zw (by omega) (by omega) hc]; simp [Za,Zd,Zc,Zb,get0,get1,i1 k hk,i2 k hk,ha0,c1,e]
    ·rw [Zx (by omega) (by omega) hc]; simp [Zh,Zl,Zd,Zj,get0,get1,s1 k hk,s2 k hk,ha0,c2,Zm,e]
   ·refine .fin me rfl (Znk _) (fun k hk => ?_) (fun k hk => ?_)
    ·rw [Zw (by omega) (by omega) hc]; simp [Za,Zd,Zc,Zb,get0,get1,i1 k hk,i2 k hk,ha0,c1,e]
    ·rw [Zx (by omega) (by omega) hc]; simp [Zh,Zl,Zd,Zj,get0,get1,s1 k hk,s2 k hk,ha0,c2,Zm,e]
   ·refine .fin me rfl (Znk _) (fun k hk => ?_) (fun k hk => ?_)
    ·rw [Zw (by omega) (by omega) hc]; simp [Za,Zd,Zc,Zb,get0,get1,i1 k hk,i2 k hk,ha0,c1,e]
    ·rw [Zx (by omega) (by omega) hc]; simp [Zh,Zl,Zd,Zj,get0,get1,s1 k hk,s2 k hk,ha0,c2,Zm,e]
   ·refine .fin me rfl (Znk _) (fun k hk => ?_) (fun k hk => ?_)
    ·rw [Zw (by omega) (by omega) hc]; simp [Za,Zd,Zc,Zb,get0,get1,i1 k hk,i2 k hk,ha0,c1,e,hs (by simp)]
    ·rw [Zx (by omega) (by omega) hc]; simp [Zh,Zl,Zd,Zj,get0,get1,s1 k hk,s2 k hk,ha0,c2,Zm,e,gt (by simp)]
   ·refine .fin me rfl (Znk _) (fun k hk => ?_) (fun k hk => ?_)
    ·rw [Zw (by omega) (by omega) hc]; simp [Za,Zd,Zc,Zb,get0,get1,i1 k hk,i2 k hk,ha0,c1,e]
    ·rw [Zx (by omega) (by omega) hc]; simp [Zh,Zl,Zd,Zj,get0,get1,s1 k hk,s2 k hk,ha0,c2,Zm,e]
   ·refine .fin me rfl (Znk _) (fun k hk => ?_) (fun k hk => ?_)
    ·rw [Zw (by omega) (by omega) hc]; simp [Za,Zd,Zc,Zb,get0,get1,i1 k hk,i2 k hk,ha0,c1,e]
    ·rw [Zx (by omega) (by omega) hc]; simp [Zh,Zl,Zd,Zj,get0,get1,s1 k hk,s2 k hk,ha0,c2,Zm,e]
theorem Zka {op w:Int} {a b:D.Term} (h3:3 ≤ op) (h16:op ≤ 16) (ha:nodeB a = true) (hb:nodeB b = true) (hw:a.W = b.W) (h1:op ≤ 13 → a.W = w) (h2:14 ≤ op → w = 1) (hc:(a.Op == 0 && b.Op == 0) = false) (hn:cnt a ≤ 240):Stp ⟨op,w,0,⟨[]⟩,[a,b]⟩:=by
 by_cases ho:op = 3 ∨ op = 5 ∨ op = 8 ∨ op = 9 ∨ op = 10 ∨ op = 14
 ·by_cases hs : ctm a b = 1
  ·exact ZjR ho ha hb hw h1 h2 hc hn hs
  by_cases ha0:a.Op = 0
  ·exact ZhS ho ha hb hw h1 h2 ha0 (fun e=>by simp [ha0,e] at hc) hn hs
  ·exact Zge h3 h16 ha hb hw h1 h2 ha0 hn fun _=>hs
 ·by_cases ha0 : a.Op = 0
  ·exact Zh5 (by omega) ha hb hw h1 h2 ha0 (fun e=>by simp [ha0,e] at hc) hn
  ·exact Zge h3 h16 ha hb hw h1 h2 ha0 hn fun o=>absurd o ho
theorem step {t:D.Term} (h:nodeB t = true) (hn:cnt t ≤ 240):Stp t:=by
 obtain ⟨op,w,m,nm,ks⟩:=t
 obtain ⟨⟨w1,w2⟩,hs⟩:=Xu h
 by_cases hc:ks ≠ [] ∧ (ks.all fun x=>x.Op == 0) = true
 ·refine Zii h hc.1 ?_ hc.2
  rcases hs with ⟨_,rfl,_⟩ | ⟨_,rfl,_⟩ | ⟨_,_,_,a,rfl,_⟩ | ⟨_,_,_,_,a,b,rfl,_⟩ | ⟨_,_,_,a,b,c,rfl,_⟩ | ⟨_,_,_,a,b,rfl,_⟩ | ⟨_,_,_,_,a,rfl,_⟩ | ⟨_,_,_,a,rfl,_⟩ <;> simp
 have hc:ks ≠ [] → (ks.all fun x=>x.Op == 0) = false:=fun e=>by
  cases q:ks.all fun x=>x.Op == 0
  ·rfl
  ·exact absurd ⟨e,q⟩ hc
 rcases hs with ⟨ho,rfl,rfl,hv⟩ | ⟨ho,rfl,rfl⟩ | ⟨ho,rfl,rfl,a,rfl,ha,hw⟩ | ⟨h3,h16,rfl,rfl,a,b,rfl,ha,hb,hab,e1,e2⟩ | ⟨rfl,rfl,rfl,a,b,c,rfl,ha,hb,hcc,aw,bw,cw⟩ | ⟨rfl,rfl,rfl,a,b,rfl,ha,hb,hab⟩ | ⟨rfl,rfl,m0,m16,a,rfl,ha,haw⟩ | ⟨ho,rfl,rfl,a,rfl,ha,haw⟩
 ·exact Zgr h (.inl ho)
 ·exact Zgr h (.inr ho)
 ·exact Zmc ho ha hw (by have:=hc (by simp); simpa using this)
 ·rw [cnt2] at hn
  exact Zka h3 h16 ha hb hab e1 e2 (by have:=hc (by simp); simpa using this) (by omega)
 ·rw [cnt3] at hn
  exact ZlE ha hb hcc aw bw cw (by have:=hc (by simp); simpa using this) (by omega)
 ·rw [cnt2] at hn
  exact ZjB ha hb hab w2 (by have:=hc (by simp); simpa using this) (by omega)
 ·exact Zlc ha m0 m16 w1 haw (by have:=hc (by simp); simpa using this)
 ·exact Zki ho ha haw w2 (by have:=hc (by simp); simpa using this)
theorem simpler:∀ (d:Nat) (t:D.Term),mea t ≤ d → nodeB t = true → cnt t ≤ 240 → ∃ r,nodeB r = true ∧ r.W = t.W ∧ cnt r ≤ cnt t ∧ (∀ n,1100000 + 8 * (d + 1) ≤ n → Z6 n t = some r) ∧ ∀ n,1100000 + 8 * (d + 1) ≤ n → Zz n t = some r:=by
 intro d
 induction d with
 | zero=>
  intro t h
  have:=Zb8 t
  unfold mea at h; omega
 | succ d ih=>
  intro t hm h hn
  obtain ⟨s,hg,h1,h2⟩:=step h hn
  cases s with
  | inl r=>
   refine ⟨r,hg.1,hg.2.1,hg.2.2,fun n hn=>?_,fun n hn=>?_⟩
   ·obtain ⟨k, rfl⟩ : ∃ k, n = k + 8 := ⟨n - 8, by omega⟩
    obtain ⟨k',_,e⟩:=h1 k (by omega)
    exact e
   ·obtain ⟨k, rfl⟩ : ∃ k, n = k + 8 := ⟨n - 8, by omega⟩
    obtain ⟨k',_,e⟩:=h2 k (by omega)
    exact e
  | inr u=>
   obtain ⟨g1,g2,g3,g4⟩:=hg
   obtain ⟨r,q1,q2,q3,q4,q5⟩:=ih u (by omega) g1 (by omega)
   refine ⟨r,q1,by rw [q2,g2],by omega,fun n hn=>?_,fun n hn=>?_⟩
   ·obtain ⟨k, rfl⟩ : ∃ k, n = k + 8 := ⟨n - 8, by omega⟩
    obtain ⟨k',hk',e⟩:=h1 k (by omega)
    rw [e]; exact q4 k' (by omega)
   ·obtain ⟨k, rfl⟩ : ∃ k, n = k + 8 := ⟨n - 8, by omega⟩
    obtain ⟨k',hk',e⟩:=h2 k (by omega)
    rw [e]; exact q5 k' (by omega)
theorem simple {t:D.Term} (h:nodeB t = true) (hn:cnt t ≤ 240):∃ r,nodeB r = true ∧ r.W = t.W ∧ cnt r ≤ cnt t ∧ Z6 fuel t = some r ∧ Zz fuel t = some r:=by
 obtain ⟨r,q1,q2,q3,q4,q5⟩:=simpler (mea t) t (Znk _) h hn
 have:=Zkx t
 have e:mea t = 2 * cnt t + swp t:=rfl
 exact ⟨r,q1,q2,q3,q4 _ (by unfold fuel; omega),q5 _ (by unfold fuel; omega)⟩
theorem Zjh:∀ (n:Nat) (t:D.Term),msz t ≤ 1048576 → 1048580 + cnt t ≤ n → YF n t = some t:=by
 intro n
 induction n with
 | zero=>intro t _ h; omega
 | succ n ih=>
  intro t hs hn
  have hz:=Zam t
  have hc:=X4 t
  rw [YF]
  obtain ⟨r,g1,g2⟩:=Yi (l:=t.Kids) (n:=n) (σ:=List D.Term) (ρ:=List D.Term) (B:=fun (s1:Int × (List D.Term))=>
  if (decide (s1.1 < (len t.Kids))) then
   (get? t.Kids s1.1).bind fun x1=>
   (YF n x1).bind fun x2=>
   (app? s1.2 ([x2]:List D.Term)).bind fun x3=>
   some (.inl ((w64 (s1.1 + 1)),x3))
  else
   some (.inr (s1.2))) (fun j a=>((j:Int),a)) (fun ys a=>a ++ ys = t.Kids ∧ (∀ x ∈ ys,x ∈ t.Kids)) (fun r=>r = t.Kids)
   (fun j x xs a hj hx hlen ⟨h1, h2⟩ => by
    have hd:decide ((j:Int) < len t.Kids) = true:=by rw [Ze]; simp; omega
    have hm:=h2 x (by simp)
    have m1:=XN hm
    have m2:=ZbK hm
    have hl:=congrArg List.length h1
    simp only [Znz,Zn4] at hl
    simp only [hd,Znr,get?_nat,hx,Znb,ih x (by omega) (by omega)]
    rw [XJ (by simp; omega)]
    exact .inl ⟨a ++ [x],by simp only [Znb]; rw [Zq (by omega) (by omega)]; rfl,by simp [← h1],fun y hy=>h2 y (by simp [hy])⟩)
   (fun a ⟨h1, _⟩ => by
    have hd:decide ((t.Kids.length:Int) < len t.Kids) = false:=by rw [Ze]; simp
    simp only [hd,Znc,Znl]
    exact ⟨_,rfl,by simpa using h1⟩) (a:=[]) ⟨rfl,fun _ h=>h⟩ (by omega)
  rw [show ((0:Nat):Int) = 0 from rfl] at g1
  rw [g1,g2]
  cases t; rfl
theorem Zjx:∀ n:Nat,(∀ t:D.Term,msz t ≤ 1048576 → 1048580 + 2 * msz t + 1 ≤ n → Xx n t = some t) ∧ (∀ l:List D.Term,sml l → 1048580 + 2 * (l.length + mszs l) ≤ n → Yh n l = some l):=by
 intro n
 induction n with
 | zero=>exact ⟨fun t _ _=>by omega,fun l _ _=>by omega⟩
 | succ n ih=>
  refine ⟨fun t h hn=>?_,fun l h hn=>?_⟩
  ·have := Zam t
   unfold Xx
   rw [ih.2 t.Kids (by unfold sml; omega) (by omega)]
   cases t; rfl
  ·unfold sml at h
   unfold Yh
   by_cases c0:l.length = 0
   ·have : l = [] := ZnR.1 c0
    subst this; rfl
   rw [Znf (by rw [Ze]; simp; exact fun e=>c0 (by simp [e])),mk?_len (by unfold room; omega)]
   simp only [Znb]
   obtain ⟨r,g1,g2⟩:=Yi (l:=l) (n:=n) (σ:=List D.Term) (ρ:=List D.Term) (B:=fun (s1:Int × (List D.Term))=>
     if (decide (s1.1 < (len l))) then
      (get? l s1.1).bind fun x2=>
      (Xx n x2).bind fun x3=>
      (set? s1.2 s1.1 x3).bind fun x4=>
      some (.inl ((w64 (s1.1 + 1)),x4))
     else
      some (.inr (s1.2))) (fun k (a:List D.Term)=>((k:Int),a)) (fun ys a=>(∃ pre zs:List D.Term,pre ++ ys = l ∧ a = pre ++ zs ∧ zs.length = ys.length) ∧ ∀ x ∈ ys,x ∈ l) (fun r=>r = l)
     (fun k x xs a hk' hx hlen ⟨⟨pre, zs, h1, hz, hz'⟩, hm⟩ => by
      have hxl:=hm x (by simp)
      have:=XN hxl
      have hl:=congrArg List.length h1
      simp only [Zn4,Znz] at hlen hz' hl
      simp only [get?_nat,hx,Znb,Ze]
      rw [Zng (by simpa using hk'),ih.1 x (by omega) (by omega)]
      simp only [Znb]
      obtain ⟨z,zs,rfl⟩ : ∃ z zs',zs = z :: zs':=by cases zs with | nil=>simp at hz' | cons z zs=>exact ⟨_,_,rfl⟩
      have e1:pre.length = k:=by omega
      subst hz
      rw [set?_nat (by simp; omega)]
      refine .inl ⟨(pre ++ z :: zs).set k x,by simp only [Znb]; rw [Zq (by omega) (by omega)]; rfl,⟨pre ++ [x],zs,by simp [← h1],?_,by simpa using hz'⟩,fun y hy=>hm y (by simp [hy])⟩
      rw [ZoS _ _ (by omega),e1,Zo3]; simp)
     (fun a ⟨⟨pre, zs, h1, h2, h3⟩, _⟩ => by
      have hd:decide ((l.length:Int) < len l) = false:=by rw [Ze]; simp
      simp only [hd,Znc,Znl]
      simp only [Zoc,ZnR] at h3
      subst h3
      exact ⟨_,rfl,by rw [h2]; simpa using h1⟩) (a:=List.replicate l.length _) ⟨⟨[],_,rfl,rfl,by simp⟩,fun _ h=>h⟩ (by omega)
   rw [show ((0:Nat):Int) = 0 from rfl] at g1
   rw [g1,g2]
   rfl
theorem Zfr {t:D.Term} (h:nodeB t = true) (hn:cnt t ≤ 240):msz t ≤ 2640:=by
 have:=Zb6 h
 omega
theorem ZiA {t:D.Term} (h:nodeB t = true) (hn:cnt t ≤ 240):YF fuel t = some t:=Zjh _ _ (by have:=Zfr h hn; omega) (by unfold fuel; omega)
def t0:D.Term:=⟨0,0,0,⟨[]⟩,[]⟩
noncomputable def simp1 (t:D.Term):D.Term:=(Z6 fuel t).getD t0
theorem ZcY {t:D.Term} (h:nodeB t = true) (hn:cnt t ≤ 240):nodeB (simp1 t) = true ∧ (simp1 t).W = t.W ∧ cnt (simp1 t) ≤ cnt t ∧ Z6 fuel t = some (simp1 t) ∧ Zz fuel t = some (simp1 t):=by
 obtain ⟨r,q1,q2,q3,q4,q5⟩:=simple h hn
 have e:simp1 t = r:=by unfold simp1; rw [q4]; rfl
 rw [e]; exact ⟨q1,q2,q3,q4,q5⟩
theorem Zbw {t:D.Term} (h:termB t = true):nodeB t = true ∧ cnt t ≤ 240:=by
 unfold termB at h
 simp only [Zne,Znm] at h
 exact ⟨h.1.2,h.1.1⟩
noncomputable def mkT (op w m:Int) (ks:List D.Term):D.Term × Bool:=if termB ⟨op,w,m,⟨[]⟩,ks⟩ = true then (simp1 ⟨op,w,m,⟨[]⟩,ks⟩,true) else (t0,false)
theorem Zmx {op w m:Int} {ks:List D.Term} (h:sml ks):msz ⟨op,w,m,⟨[]⟩,ks⟩ ≤ 1048576:=by
 rw [Zam]; unfold sml at h; simp; omega
theorem ZlA {op w m:Int} {ks:List D.Term} (h:sml ks):Za0 fuel op w m ks = some (mkT op w m ks):=by
 unfold Za0 mkT
 rw [Zgh (Zmx h)]
 simp only [Znb]
 cases c:termB ⟨op,w,m,⟨[]⟩,ks⟩
 ·rfl
 ·obtain ⟨a, b⟩ := Zbw c
  obtain ⟨q1,q2,q3,q4,q5⟩:=ZcY a b
  simp only [Znn,Znc,Znl,Znr,q5,Znb,ZiA q1 (by omega)]
theorem ZbA {op w m:Int} {ks:List D.Term} (h:sml ks):ZK fuel op w m ks = some (mkT op w m ks):=by
 unfold ZK mkT
 rw [Zjj (Zmx h)]
 simp only [Znb]
 cases c:termB ⟨op,w,m,⟨[]⟩,ks⟩
 ·rfl
 ·obtain ⟨a, b⟩ := Zbw c
  obtain ⟨q1,q2,q3,q4,q5⟩:=ZcY a b
  simp only [Znn,Znc,Znl,Znr,q4,Znb]
def fine (t:D.Term):Prop:=nodeB t = true ∧ cnt t ≤ 240
theorem ZiC {t:D.Term} (h:termB t = true):fine t:=Zbw h
theorem YT {op w m:Int} {ks:List D.Term} (h:(mkT op w m ks).2 = true):fine (mkT op w m ks).1 ∧ (mkT op w m ks).1.W = w:=by
 unfold mkT at h ⊢
 cases c:termB ⟨op,w,m,⟨[]⟩,ks⟩
 ·rw [c] at h; simp at h
 ·obtain ⟨a, b⟩ := Zbw c
  obtain ⟨q1,q2,q3,q4,q5⟩:=ZcY a b
  simp only [Znr]
  exact ⟨⟨q1,by omega⟩,q2⟩
theorem Zcb {t:D.Term} (h:fine t):msz t ≤ 2640:=Zfr h.1 h.2
theorem sml2 {a b:D.Term} (ha:msz a ≤ 2640) (hb:msz b ≤ 1000000):sml [a,b]:=by
 unfold sml
 rw [Xg,Xg,Zcp]; simp; omega
def c11:D.Term:=⟨0,1,1,⟨[]⟩,[]⟩
theorem Yz {σt ρt:Type} {B:σt → Option (σt ⊕ ρt)} {s s':σt} {n:Nat} (h:B s = some (.inl s')):iterN B (n + 1) s = iterN B n s':=by
 conv=>lhs; unfold iterN
 rw [h]
def fineL (l:List D.Term):Prop:=l.length ≤ 100 ∧ ∀ x ∈ l,fine x
theorem Zfz {m:Nat}:∀ {l:List D.Term},(∀ x ∈ l,msz x ≤ m) → mszs l ≤ l.length * m
 | [],_=>by rw [Zcp]; simp
 | x :: l,h=>by
  have h1:=h x (by simp)
  have h2:=Zfz (l:=l) fun y hy=>h y (by simp [hy])
  rw [Xg,Zn4,Zpj]; omega
theorem ZbC {l:List D.Term} (h:fineL l):sml l:=by
 have h1:=Zfz (m:=2640) fun x hx=>Zcb (h.2 x hx)
 have h2:=h.1
 unfold sml
 have:l.length * 2640 ≤ 100 * 2640:=Zor _ h2
 omega
theorem ZbU {l:List D.Term} (h:fineL l):YK fuel l = some l:=by
 unfold YK
 have hl:=h.1
 obtain ⟨r,g1,g2⟩:=Yi (l:=l) (n:=fuel) (σ:=List D.Term) (ρ:=List D.Term) (B:=fun (s1:Int × (List D.Term))=>
  if (decide (s1.1 < (len l))) then
   (get? l s1.1).bind fun x1=>
   (YF fuel x1).bind fun x2=>
   (app? s1.2 ([x2]:List D.Term)).bind fun x3=>
   some (.inl ((w64 (s1.1 + 1)),x3))
  else
   some (.inr (s1.2))) (fun j a=>((j:Int),a)) (fun ys a=>a ++ ys = l ∧ ∀ x ∈ ys,x ∈ l) (fun r=>r = l)
  (fun j x xs a hj hx hlen ⟨h1, h2⟩ => by
   have hd:decide ((j:Int) < len l) = true:=by rw [Ze]; simp; omega
   have hm:=h2 x (by simp)
   have hc:=congrArg List.length h1
   simp only [Znz,Zn4] at hc
   simp only [hd,Znr,get?_nat,hx,Znb,ZiA (h.2 x hm).1 (h.2 x hm).2]
   rw [XJ (by simp; omega)]
   exact .inl ⟨a ++ [x],by simp only [Znb]; rw [Zq (by omega) (by omega)]; rfl,by simp [← h1],fun y hy=>h2 y (by simp [hy])⟩)
  (fun a ⟨h1, _⟩ => by
   have hd:decide ((l.length:Int) < len l) = false:=by rw [Ze]; simp
   simp only [hd,Znc,Znl]
   exact ⟨_,rfl,by simpa using h1⟩) (a:=[]) ⟨rfl,fun _ h=>h⟩ (by unfold fuel; omega)
 rw [show ((0:Nat):Int) = 0 from rfl] at g1
 rw [g1,g2]; rfl
theorem ZbW {l:List D.Term} (h:fineL l):Yh fuel l = some l:=(Zjx fuel).2 l (ZbC h) (by
 have:=ZbC h
 unfold sml at this
 unfold fuel; omega)
def fineP (s:D.Path):Prop:=fineL s.Regs ∧ fineL s.Mem ∧ s.Stack.length ≤ 100 ∧ fineL s.Out ∧ fineL s.Cond ∧ s.Turns.length ≤ 100
theorem Ze0 {s:D.Path} (h:fineP s):smallP s:=⟨ZbC h.1,ZbC h.2.1,by have:=h.2.2.1; omega,ZbC h.2.2.2.1,ZbC h.2.2.2.2.1,by have:=h.2.2.2.2.2; omega⟩
theorem ZfS {l:List Int} (h:l.length ≤ 100):app? ([]:List Int) l = some l:=by
 rw [XJ (by simp; omega)]; rfl
theorem Zmq {l:List D.Term} (h:l.length ≤ 1000):app? ([]:List D.Term) l = some l:=by
 rw [XJ (by simp; omega)]; rfl
theorem Zbp {s:D.Path} (h:fineP s):Yn fuel s = some s:=by
 obtain ⟨h1,h2,h3,h4,h5,h6⟩:=h
 unfold Yn
 simp only [ZbU h1,ZbU h2,ZfS h3,ZbU h4,ZbU h5,ZfS h6,Znb]
theorem Zlj {s:D.Path} (h:fineP s):XX fuel s = some s:=by
 obtain ⟨h1,h2,h3,h4,h5,h6⟩:=h
 unfold XX ZE
 simp only [ZbW h1,ZbW h2,ZfS h3,ZbW h4,ZbW h5,ZfS h6,Znb]
theorem Zdc {p:D.Program} (h:progB p = true):1 ≤ p.W ∧ p.W ≤ 16 ∧ 0 ≤ p.Mem ∧ p.Mem ≤ 6 ∧ 0 ≤ p.In ∧ p.In ≤ 3:=by
 unfold progB at h
 simp only [Zne,Znm] at h
 omega
theorem sml3' {a b c:D.Term} (ha:msz a ≤ 2640) (hb:msz b ≤ 2640) (hc:msz c ≤ 2640):sml [a,b,c]:=by
 unfold sml
 rw [Xg,Xg,Xg,Zcp]; simp; omega
def fw (w:Int) (l:List D.Term):Prop:=∀ t ∈ l,fine t ∧ t.W = w
structure okP (p:D.Program) (s:D.Path):Prop where
 pc:0 ≤ s.Pc ∧ s.Pc ≤ len p.Code
 rl:s.Regs.length = 4
 rf:fw p.W s.Regs
 ml:(s.Mem.length:Int) = p.Mem
 mf:fw p.W s.Mem
 sl:s.Stack.length ≤ 3
 sp:∀ x ∈ s.Stack,0 ≤ x ∧ x ≤ len p.Code
 inn:0 ≤ s.In ∧ s.In ≤ p.In
 ol:s.Out.length ≤ 6
 of:fw p.W s.Out
 cd:0 ≤ s.Code ∧ s.Code ≤ 9
 st:0 ≤ s.Steps ∧ s.Steps ≤ 400
 cl:s.Cond.length ≤ 60
 cf:fw 1 s.Cond
 tl:s.Turns.length ≤ 60
theorem ZeP {w:Int} {l:List D.Term} (h:fw w l) (hl:l.length ≤ 100):fineL l:=⟨hl,fun x hx=>(h x hx).1⟩
theorem okP.fine {p:D.Program} {s:D.Path} (h:okP p s) (hp:progB p = true):fineP s:=by
 have hm:=Zdc hp
 have:=h.ml
 exact ⟨ZeP h.rf (by have:=h.rl; omega),ZeP h.mf (by omega),by have:=h.sl; omega,ZeP h.of (by have:=h.ol; omega),ZeP h.cf (by have:=h.cl; omega),by have:=h.tl; omega⟩
theorem Zlb {w:Int} {l:List D.Term} (h:fw w l) {k:Nat} {t:D.Term} (ht:fine t ∧ t.W = w):fw w (l.set k t):=fun x hx=>by
 rcases ZoE hx with hx | rfl
 ·exact h x hx
 ·exact ht
theorem ZkP {w:Int} {l:List D.Term} (h:fw w l) {t:D.Term} (ht:fine t ∧ t.W = w):fw w (l ++ [t]):=fun x hx=>by
 rcases ZnB.1 hx with hx | hx
 ·exact h x hx
 ·rw [Zn0] at hx; subst hx; exact ht
def rg (l:List D.Term) (k:Int):D.Term:=(l[k.toNat]?).getD t0
theorem Zcg {l:List D.Term} {k:Int} (h0:0 ≤ k) (h1:k < l.length):get? l k = some (rg l k):=by
 obtain ⟨j,rfl⟩ : ∃ j:Nat,k = (j:Int):=⟨k.toNat,by omega⟩
 unfold rg
 rw [get?_nat,Zpe,Znh (by omega)]; rfl
theorem Zc0 {w:Int} {l:List D.Term} {k:Int} (h:fw w l) (h0:0 ≤ k) (h1:k < l.length):fine (rg l k) ∧ (rg l k).W = w:=by
 unfold rg
 rw [Znh (by omega)]
 exact h _ (Zo5 _)
theorem ZhR {α:Type} {l:List α} {k:Int} (h0:0 ≤ k) (h1:k < l.length) (x:α):set? l k x = some (l.set k.toNat x):=by
 obtain ⟨j,rfl⟩ : ∃ j:Nat,k = (j:Int):=⟨k.toNat,by omega⟩
 rw [set?_nat (by omega),Zpe]
theorem ZiO {l:List D.Term} (h:l.length ≤ 1000):ZC l = some l:=by
 unfold ZC
 rw [Zmq h]; rfl
theorem put_eq {l:List D.Term} {k:Int} {t:D.Term} (hl:l.length ≤ 1000) (h0:0 ≤ k) (h1:k < l.length):XP l k t = some (l.set k.toNat t):=by
 unfold XP
 rw [ZiO hl]
 simp only [Znb]
 rw [ZhR h0 h1]; rfl
theorem ZgE {l:List D.Term} {t:D.Term} (hl:l.length ≤ 1000):Zbh l t = some (l ++ [t]):=by
 unfold Zbh Ye
 rw [ZiO hl]
 simp only [Znb]
 rw [XJ (by simp; omega)]; rfl
theorem Zg5 {l:List Int} {x:Int} (hl:l.length ≤ 100):Zbe l x = some (l ++ [x]):=by
 unfold Zbe ZE
 rw [ZfS hl]
 simp only [Znb]
 rw [XJ (by simp; omega)]; rfl
def kT (w v:Int):D.Term:=⟨0,w,v,⟨[]⟩,[]⟩
theorem ZbX {w v:Int} (h:wordB w v = true):fine (kT w v):=⟨ZaO h,by unfold kT; rw [cnt0]; omega⟩
theorem Yt {p:D.Program} (hp:progB p = true):wordB p.W p.Mem = true ∧ 2 ≤ p.W ∧ p.W ≤ 8 ∧ 1 ≤ p.Mem ∧ p.Mem ≤ 6:=by
 unfold progB at hp
 simp only [Zne,Znm] at hp
 exact ⟨by simp [hp],by omega,by omega,by omega,by omega⟩
theorem Zco {p:D.Program} (hp:progB p = true) {k:Int} (h0:0 ≤ k) (h1:k ≤ p.Mem):wordB p.W k = true:=by
 obtain ⟨m1,m2,m3,m4,m5⟩:=Yt hp
 rw [ZZ (by omega) (by omega)] at m1 ⊢
 omega
theorem sml2f {a b:D.Term} (ha:fine a) (hb:fine b):sml [a,b]:=sml2 (Zcb ha) (by have:=Zcb hb; omega)
theorem sml1f {a:D.Term} (ha:fine a):sml [a]:=by
 have:=Zcb ha
 unfold sml
 rw [Xg,Zcp]; simp; omega
theorem sml3f {a b c:D.Term} (ha:fine a) (hb:fine b) (hc:fine c):sml [a,b,c]:=sml3' (Zcb ha) (Zcb hb) (Zcb hc)
noncomputable def cel (w k:Int) (x a b:D.Term):D.Term × Bool:=
 if (mkT 14 1 0 [kT w k,x]).2 = true then mkT 17 w 0 [(mkT 14 1 0 [kT w k,x]).1,a,b] else (t0,false)
theorem Zm7 {op w m:Int} {ks:List D.Term} (h:(mkT op w m ks).2 = false):mkT op w m ks = (t0,false):=by
 unfold mkT at h ⊢
 split
 ·rename_i c; rw [Zng c] at h; cases h
 ·rfl
theorem ZeX {w k:Int} {x a b:D.Term} (h:(cel w k x a b).2 = true):fine (cel w k x a b).1 ∧ (cel w k x a b).1.W = w:=by
 unfold cel at h ⊢
 split at h
 ·rename_i c; rw [Zng c]; exact YT h
 ·cases h
theorem ZhA {p:D.Program} {k:Int} {x a b:D.Term} (hw:wordB p.W k = true) (hx:fine x) (ha:fine a) (hb:fine b):XD fuel p k x a b = some (cel p.W k x a b):=by
 unfold XD cel
 rw [ZY hw]
 simp only [Znb]
 show ((ZK fuel 14 1 0 [kT p.W k,x]).bind _) = _
 rw [ZbA (sml2f (ZbX hw) hx)]
 simp only [Znb]
 by_cases c:(mkT 14 1 0 [kT p.W k,x]).2 = true
 ·rw [Znf (by rw [c]; simp),Zng c,ZbA (sml3f (YT c).1 ha hb)]; rfl
 ·rw [Zng (by simpa using c),Znf c]; rfl
theorem X6 {b:Bool} {op w:Int} {ks:List D.Term} (h:sml ks):Zg fuel ⟨b⟩ op w ks = some ((mkT op w 0 ks).1,⟨b || !(mkT op w 0 ks).2⟩):=by
 unfold Zg
 rw [ZlA h]
 simp only [Znb]
 cases (mkT op w 0 ks).2 <;> cases b <;> rfl
noncomputable def ldT (w:Int) (x:D.Term) (mem:List D.Term):Nat → D.Term → D.Term × Bool
 | 0,t=>(t,true)
 | j + 1,t=>if (cel w (j:Int) x (rg mem j) t).2 = true then ldT w x mem j (cel w (j:Int) x (rg mem j) t).1 else (t0,false)
theorem Zhu {w:Int} {x:D.Term} {mem:List D.Term}:∀ {j:Nat} {t:D.Term},fine t ∧ t.W = w → (ldT w x mem j t).2 = true → fine (ldT w x mem j t).1 ∧ (ldT w x mem j t).1.W = w
 | 0,t,ht,_=>ht
 | j + 1,t,ht,h=>by
  unfold ldT at h ⊢
  split at h
  ·rename_i c; rw [Zng c]; exact Zhu (ZeX c) h
  ·cases h
theorem Zlg {w:Int} {x:D.Term} {mem:List D.Term}:∀ {j:Nat} {t:D.Term},(ldT w x mem j t).2 = false → ldT w x mem j t = (t0,false)
 | 0,t,h=>by cases h
 | j + 1,t,h=>by
  unfold ldT at h ⊢
  split at h
  ·rename_i c; rw [Zng c]; exact Zlg h
  ·rename_i c; rw [Znf c]
noncomputable def load (w:Int) (mem:List D.Term) (x:D.Term):D.Term × Bool:=if x.Op = 0 then (rg mem x.N,true) else ldT w x mem (mem.length - 1) (rg mem ((mem.length - 1:Nat):Int))
abbrev T5:=Int × Int × Int × Str × (List D.Term)
abbrev tup5 (t:D.Term):T5:=(t.Op,t.W,t.N,t.Name,t.Kids)
theorem Zej (t:D.Term):(D.Term.mk t.Op t.W t.N t.Name t.Kids) = t:=by cases t; rfl
theorem Zmd {p:D.Program} {mem:List D.Term} {x:D.Term} (hp:progB p = true) (hm:(mem.length:Int) = p.Mem) (hf:fw p.W mem) (hx:fine x):∀ (j:Nat) (t:D.Term) (n:Nat),fine t ∧ t.W = p.W → j ≤ mem.length → j < n →
    iterN (fun (s1:Int × Int × Int × Int × Str × (List D.Term))=>
   if (decide (s1.1 ≥ 0)) then
    (get? mem s1.1).bind fun x4=>
    (XD fuel p s1.1 x x4 (D.Term.mk s1.2.1 s1.2.2.1 s1.2.2.2.1 s1.2.2.2.2.1 s1.2.2.2.2.2)).bind fun x5=>
    if (!x5.2) then
     some (.inr (.inr ((D.Term.mk 0 0 0 ⟨[]⟩ ([]:List D.Term)),false)))
    else
     some (.inl ((w64 (s1.1 - 1)),x5.1.Op,x5.1.W,x5.1.N,x5.1.Name,x5.1.Kids))
   else
    some (.inr (.inl (s1.2.1,s1.2.2.1,s1.2.2.2.1,s1.2.2.2.2.1,s1.2.2.2.2.2))):Int × T5 → Option ((Int × T5) ⊕ (T5 ⊕ (D.Term × Bool))))
     n ((j:Int) - 1,tup5 t) = some (if (ldT p.W x mem j t).2 = true then (.inl (tup5 (ldT p.W x mem j t).1):T5 ⊕ (D.Term × Bool)) else .inr (t0,false)):=by
  intro j
  induction j with
  | zero =>
    intro t n ht _ hn
    refine Yb ?_ hn
    simp only
    rw [Znf (by simp)]; rfl
  | succ j ih =>
    intro t n ht hj hn
    obtain ⟨n,rfl⟩ : ∃ m,n = m + 1:=⟨n - 1,by omega⟩
    have hm6:=Yt hp
    have e1:((j + 1:Nat):Int) - 1 = (j:Int):=by omega
    have eg:=Zcg (l:=mem) (k:=(j:Int)) (by omega) (by omega)
    have ec:=ZhA (p:=p) (k:=(j:Int)) (x:=x) (a:=rg mem j) (b:=t) (Zco hp (by omega) (by omega)) hx (Zc0 hf (by omega) (by omega)).1 ht.1
    rw [e1]
    unfold ldT
    by_cases c:(cel p.W (j:Int) x (rg mem j) t).2 = true
    · rw [Zng c, ← ih _ n (ZeX c) (by omega) (by omega)]
      refine Yz ?_
      simp only [tup5,eg,Znb,Zej,ec,c]
      rw [Zng (by simp),Znf (by simp),Zq (by omega) (by omega)]
    · rw [Znf c]
      refine Yb ?_ (by omega)
      simp only [tup5,eg,Znb,Zej,ec]
      rw [Zng (by simp),Zng (by simpa using c)]; rfl
theorem ZjA {p:D.Program} {s:D.Path} {x:D.Term} (hp:progB p = true) (hm:(s.Mem.length:Int) = p.Mem) (hf:fw p.W s.Mem) (hx:fine x) (hc:x.Op = 0 → 0 ≤ x.N ∧ x.N < p.Mem):Zbn fuel p s x = some (load p.W s.Mem x):=by
 have hm6:=Yt hp
 unfold Zbn load Zb
 simp only [Znb]
 by_cases c:x.Op = 0
 ·obtain ⟨n0, n1⟩ := hc c
  rw [Zng (by simpa using c),Zng c,Zcg n0 (by omega)]; rfl
 ·rw [Znf (by simpa using c), Znf c]
  have e1:w64 (p.Mem - 1) = ((s.Mem.length - 1:Nat):Int):=by rw [Zq (by omega) (by omega)]; omega
  have e2:w64 (p.Mem - 2) = ((s.Mem.length - 1:Nat):Int) - 1:=by rw [Zq (by omega) (by omega)]; omega
  rw [e1,e2,Zcg (by omega) (by omega)]
  simp only [Znb]
  have:=Zmd hp hm hf hx (s.Mem.length - 1) (rg s.Mem ((s.Mem.length - 1:Nat):Int)) fuel (Zc0 hf (by omega) (by omega)) (by omega) (by unfold fuel; omega)
  rw [this]
  simp only [Znb]
  cases h:(ldT p.W x s.Mem (s.Mem.length - 1) (rg s.Mem ((s.Mem.length - 1:Nat):Int))).2
  ·rw [Zlg h]; simp
  ·simp only [Znr, Zej]
   simp [← h]
theorem ZlZ {p:D.Program} {mem:List D.Term} {x:D.Term} (hp:progB p = true) (hm:(mem.length:Int) = p.Mem) (hf:fw p.W mem) (hx:fine x):∀ (j:Nat) (t:D.Term) (n:Nat),fine t ∧ t.W = p.W → j ≤ mem.length → j + 1 < n →
    ∃ t',iterN (fun (s1:Int × Bool × Int × Int × Int × Str × (List D.Term))=>
   if ((decide (s1.1 ≥ 0)) && (!s1.2.1)) then
    (Z9 p.W s1.1).bind fun x3=>
    (Zg fuel (D.l06Maker.mk s1.2.1) 14 1 ([(D.Term.mk x3.Op x3.W x3.N x3.Name ([]:List D.Term)),x]:List D.Term)).bind fun x4=>
    if (!x4.2.bad) then
     (get? mem s1.1).bind fun x5=>
     (Zg fuel x4.2 17 p.W ([x4.1,x5,(D.Term.mk s1.2.2.1 s1.2.2.2.1 s1.2.2.2.2.1 s1.2.2.2.2.2.1 s1.2.2.2.2.2.2)]:List D.Term)).bind fun x6=>
     some (.inl ((w64 (s1.1 - 1)),x6.2.bad,x6.1.Op,x6.1.W,x6.1.N,x6.1.Name,x6.1.Kids))
    else
     some (.inl ((w64 (s1.1 - 1)),x4.2.bad,s1.2.2.1,s1.2.2.2.1,s1.2.2.2.2.1,s1.2.2.2.2.2.1,s1.2.2.2.2.2.2))
   else
    some (.inr (s1.2.1,s1.2.2.1,s1.2.2.2.1,s1.2.2.2.2.1,s1.2.2.2.2.2.1,s1.2.2.2.2.2.2)):Int × Bool × T5 → Option ((Int × Bool × T5) ⊕ (Bool × T5))) n ((j:Int) - 1,false,tup5 t) = some (!(ldT p.W x mem j t).2,tup5 t') ∧ ((ldT p.W x mem j t).2 = true → t' = (ldT p.W x mem j t).1):=by
  intro j
  induction j with
  | zero =>
    intro t n ht _ hn
    refine ⟨t,Yb ?_ (by omega),fun _=>rfl⟩
    simp only
    rw [Znf (by simp)]; rfl
  | succ j ih =>
    intro t n ht hj hn
    obtain ⟨n,rfl⟩ : ∃ m,n = m + 1:=⟨n - 1,by omega⟩
    have hm6:=Yt hp
    have e1:((j + 1:Nat):Int) - 1 = (j:Int):=by omega
    have eg:=Zcg (l:=mem) (k:=(j:Int)) (by omega) (by omega)
    have hw:=Zco hp (k:=(j:Int)) (by omega) (by omega)
    have em:=X6 (b:=false) (op:=14) (w:=1) (ks:=[kT p.W j,x]) (sml2f (ZbX hw) hx)
    unfold kT at em
    rw [e1]
    have stop:∀ u:D.Term,∀ i:Int,0 < n → iterN (fun (s1:Int × Bool × Int × Int × Int × Str × (List D.Term))=>
     if ((decide (s1.1 ≥ 0)) && (!s1.2.1)) then
      (Z9 p.W s1.1).bind fun x3=>
      (Zg fuel (D.l06Maker.mk s1.2.1) 14 1 ([(D.Term.mk x3.Op x3.W x3.N x3.Name ([]:List D.Term)),x]:List D.Term)).bind fun x4=>
      if (!x4.2.bad) then
       (get? mem s1.1).bind fun x5=>
       (Zg fuel x4.2 17 p.W ([x4.1,x5,(D.Term.mk s1.2.2.1 s1.2.2.2.1 s1.2.2.2.2.1 s1.2.2.2.2.2.1 s1.2.2.2.2.2.2)]:List D.Term)).bind fun x6=>
       some (.inl ((w64 (s1.1 - 1)),x6.2.bad,x6.1.Op,x6.1.W,x6.1.N,x6.1.Name,x6.1.Kids))
      else
       some (.inl ((w64 (s1.1 - 1)),x4.2.bad,s1.2.2.1,s1.2.2.2.1,s1.2.2.2.2.1,s1.2.2.2.2.2.1,s1.2.2.2.2.2.2))
     else
      some (.inr (s1.2.1,s1.2.2.1,s1.2.2.2.1,s1.2.2.2.2.1,s1.2.2.2.2.2.1,s1.2.2.2.2.2.2)):Int × Bool × T5 → Option ((Int × Bool × T5) ⊕ (Bool × T5))) n (i,true,tup5 u) = some (true,tup5 u):=fun u i h0=>by
      refine Yb ?_ h0
      simp
    have hd:decide ((j:Int) ≥ 0) = true:=by simp
    by_cases c1:(mkT 14 1 0 [⟨0,p.W,(j:Int),⟨[]⟩,[]⟩,x]).2 = true
    · have hf1 : fine (mkT 14 1 0 [⟨0, p.W, (j : Int), ⟨[]⟩, []⟩, x]).1 := (YT c1).1
      have em2:=X6 (b:=false) (op:=17) (w:=p.W) (ks:=[(mkT 14 1 0 [⟨0,p.W,(j:Int),⟨[]⟩,[]⟩,x]).1,rg mem j,t]) (sml3f hf1 (Zc0 hf (by omega) (by omega)).1 ht.1)
      have ecel:cel p.W (j:Int) x (rg mem j) t = mkT 17 p.W 0 [(mkT 14 1 0 [⟨0,p.W,(j:Int),⟨[]⟩,[]⟩,x]).1,rg mem j,t]:=by unfold cel kT; rw [Zng c1]
      by_cases c2:(mkT 17 p.W 0 [(mkT 14 1 0 [⟨0,p.W,(j:Int),⟨[]⟩,[]⟩,x]).1,rg mem j,t]).2 = true
      · obtain ⟨t', h1, h2⟩ := ih (mkT 17 p.W 0 [(mkT 14 1 0 [⟨0, p.W, (j : Int), ⟨[]⟩, []⟩, x]).1, rg mem j, t]).1 n (YT c2) (by omega) (by omega)
        have hl:ldT p.W x mem (j + 1) t = ldT p.W x mem j (mkT 17 p.W 0 [(mkT 14 1 0 [⟨0,p.W,(j:Int),⟨[]⟩,[]⟩,x]).1,rg mem j,t]).1:=by
          conv=>lhs; unfold ldT
          rw [ecel,Zng c2]
        rw [hl]
        refine ⟨t',?_,h2⟩
        rw [← h1]
        refine Yz ?_
        simp only [tup5,hd,ZnP,Znr,Zj,Znb,em,c1,Znn,ZoV,ZnW,ZnP,eg,Zej,em2,c2]
        rw [Zq (by omega) (by omega)]
      · have hl:ldT p.W x mem (j + 1) t = (t0,false):=by
          conv=>lhs; unfold ldT
          rw [ecel,Znf c2]
        have c2':(mkT 17 p.W 0 [(mkT 14 1 0 [⟨0,p.W,(j:Int),⟨[]⟩,[]⟩,x]).1,rg mem j,t]).2 = false:=by simpa using c2
        rw [hl]
        refine ⟨(mkT 17 p.W 0 [(mkT 14 1 0 [⟨0,p.W,(j:Int),⟨[]⟩,[]⟩,x]).1,rg mem j,t]).1,?_,fun h=>by cases h⟩
        rw [Yz (s':=(w64 ((j:Int) - 1),true,tup5 (mkT 17 p.W 0 [(mkT 14 1 0 [⟨0,p.W,(j:Int),⟨[]⟩,[]⟩,x]).1,rg mem j,t]).1)),stop _ _ (by omega)]
        · rfl
        · simp only [tup5,hd,ZnP,Znr,Zj,Znb,em,c1,Znn,ZoV,ZnW,eg,Zej,em2,c2',Zn9]
    · have c1' : (mkT 14 1 0 [⟨0, p.W, (j : Int), ⟨[]⟩, []⟩, x]).2 = false := by simpa using c1
      have hl:ldT p.W x mem (j + 1) t = (t0,false):=by
        conv=>lhs; unfold ldT
        have:cel p.W (j:Int) x (rg mem j) t = (t0,false):=by unfold cel kT; rw [Znf c1]
        rw [this]; rfl
      rw [hl]
      refine ⟨t,?_,fun h=>by cases h⟩
      rw [Yz (s':=(w64 ((j:Int) - 1),true,tup5 t)),stop _ _ (by omega)]
      · rfl
      · simp only [tup5,hd,ZnP,Znr,Zj,Znb,em,c1',ZnW,Bool.or_true,Znn,Znc,Znl,Zn9]
theorem Zj6 {p:D.Program} {s:D.Path} {x:D.Term} (hp:progB p = true) (hm:(s.Mem.length:Int) = p.Mem) (hf:fw p.W s.Mem) (hx:fine x) (hc:x.Op = 0 → 0 ≤ x.N ∧ x.N < p.Mem) :
  ∃ t',YM fuel ⟨false⟩ p s x = some (t',⟨!(load p.W s.Mem x).2⟩) ∧ ((load p.W s.Mem x).2 = true → t' = (load p.W s.Mem x).1):=by
 have hm6:=Yt hp
 unfold YM load
 by_cases c:x.Op = 0
 ·obtain ⟨n0, n1⟩ := hc c
  refine ⟨rg s.Mem x.N,?_,fun _=>by rw [Zng c]⟩
  rw [Zng (by simpa using c),Zng c,Zcg n0 (by omega)]; rfl
 ·have e1 : w64 (p.Mem - 1) = ((s.Mem.length - 1 : Nat) : Int) := by rw [Zq (by omega) (by omega)]; omega
  have e2:w64 (p.Mem - 2) = ((s.Mem.length - 1:Nat):Int) - 1:=by rw [Zq (by omega) (by omega)]; omega
  obtain ⟨t',h1,h2⟩:=ZlZ hp hm hf hx (s.Mem.length - 1) (rg s.Mem ((s.Mem.length - 1:Nat):Int)) fuel (Zc0 hf (by omega) (by omega)) (by omega) (by unfold fuel; omega)
  refine ⟨t',?_,fun h=>by rw [Znf c] at h ⊢; exact h2 h⟩
  rw [Znf (by simpa using c),Znf c,e1,e2,Zcg (by omega) (by omega)]
  simp only [Znb]
  rw [h1]
  simp only [Znb,Zej]
theorem Zj8 {p:D.Program} {s:D.Path} {x:D.Term} (hp:progB p = true) (hm:(s.Mem.length:Int) = p.Mem) (hf:fw p.W s.Mem) (hc:x.Op = 0 → 0 ≤ x.N ∧ x.N < p.Mem) (h:(load p.W s.Mem x).2 = true):fine (load p.W s.Mem x).1 ∧ (load p.W s.Mem x).1.W = p.W:=by
 have hm6:=Yt hp
 unfold load at h ⊢
 by_cases c:x.Op = 0
 ·rw [Zng c]
  obtain ⟨n0,n1⟩:=hc c
  exact Zc0 hf n0 (by omega)
 ·rw [Znf c] at h ⊢
  exact Zhu (Zc0 hf (by omega) (by omega)) h
theorem ZiG {α:Type} {m1 m2:List α} {t:α} {i:Int} (h:i = (m1.length:Int)):get? (m1 ++ t :: m2) i = some t:=by
 subst h
 rw [get?_nat]; simp
theorem set_mid {α:Type} {m1 m2:List α} {t u:α} {i:Int} (h:i = (m1.length:Int)):set? (m1 ++ t :: m2) i u = some (m1 ++ u :: m2):=by
 subst h
 rw [set?_nat (by simp)]; simp
noncomputable def stG (w:Int) (x v:D.Term):Nat → List D.Term → List D.Term × Bool
 | _,[]=>([],true)
 | i,t :: l=>if (cel w (i:Int) x v t).2 = true then ((cel w (i:Int) x v t).1 :: (stG w x v (i + 1) l).1,(stG w x v (i + 1) l).2) else ([],false)
theorem ZiP {w:Int} {x v:D.Term}:∀ {l:List D.Term} {i:Nat},(stG w x v i l).2 = true → (stG w x v i l).1.length = l.length
 | [],i,_=>rfl
 | t :: l,i,h=>by
  unfold stG at h ⊢
  split at h
  ·rename_i c; rw [Zng c]; simp only [Zn4,ZiP (l:=l) (i:=i + 1) h]
  ·cases h
theorem Zkt {w:Int} {x v:D.Term}:∀ {l:List D.Term} {i:Nat},(stG w x v i l).2 = true → fw w (stG w x v i l).1
 | [],i,_=>fun t ht=>by cases ht
 | t :: l,i,h=>by
  unfold stG at h ⊢
  split at h
  ·rename_i c
   rw [Zng c]
   intro y hy
   rcases ZnK.1 hy with rfl | hy
   ·exact ZeX c
   ·exact Zkt (l:=l) (i:=i + 1) h y hy
  ·cases h
theorem ZlQ {p:D.Program} {mem x3:List D.Term} {x v:D.Term} (hp:progB p = true) (hm:(mem.length:Int) = p.Mem) (hf:fw p.W mem) (hx:fine x) (hv:fine v) (h3:len x3 = (mem.length:Int)):∀ (m2 m1 done rest:List D.Term) (n:Nat),mem = m1 ++ m2 → done.length = m1.length → rest.length = m2.length → m2.length < n →
    iterN (fun (s1:Int × (List D.Term))=>
   if (decide (s1.1 < (len x3))) then
    (get? mem s1.1).bind fun x4=>
    (XD fuel p s1.1 x v x4).bind fun x5=>
    if (!x5.2) then
     some (.inr (.inr (([]:List D.Term),false)))
    else
     (set? s1.2 s1.1 x5.1).bind fun x6=>
     some (.inl ((w64 (s1.1 + 1)),x6))
   else
    some (.inr (.inl (s1.2))):Int × List D.Term → Option ((Int × List D.Term) ⊕ (List D.Term ⊕ (List D.Term × Bool))))
     n ((m1.length:Int),done ++ rest) = some (if (stG p.W x v m1.length m2).2 = true then (.inl (done ++ (stG p.W x v m1.length m2).1):List D.Term ⊕ (List D.Term × Bool)) else .inr ([],false)):=by
  have hm6:=Yt hp
  intro m2
  induction m2 with
  | nil =>
    intro m1 done rest n he hd hr hn
    have:rest = []:=ZnR.1 hr
    subst this
    refine Yb ?_ (by omega)
    have hml:(m1.length:Int) = mem.length:=by rw [he]; simp
    simp only
    rw [Znf (by rw [h3]; simp; omega)]
    simp [stG]
  | cons t m2 ih =>
    intro m1 done rest n he hd hr hn
    obtain ⟨n,rfl⟩ : ∃ m,n = m + 1:=⟨n - 1,by simp at hn; omega⟩
    obtain ⟨r,rest,rfl⟩ : ∃ r l,rest = r :: l:=by
      cases rest with
      | nil=>simp at hr
      | cons r l=>exact ⟨r,l,rfl⟩
    have hml:(mem.length:Int) = m1.length + (m2.length + 1):=by rw [he]; simp
    have ht:fine t ∧ t.W = p.W:=hf t (by rw [he]; simp)
    have hg:get? mem (m1.length:Int) = some t:=by rw [he]; exact ZiG rfl
    have ec:=ZhA (p:=p) (k:=(m1.length:Int)) (x:=x) (a:=v) (b:=t) (Zco hp (by omega) (by omega)) hx hv ht.1
    have hc:decide ((m1.length:Int) < len x3) = true:=by rw [h3]; simp; omega
    have e1:w64 ((m1.length:Int) + 1) = ((m1 ++ [t]).length:Int):=by rw [Zq (by omega) (by omega)]; simp
    unfold stG
    by_cases c:(cel p.W (m1.length:Int) x v t).2 = true
    · rw [Zng c]
      have:=ih (m1 ++ [t]) (done ++ [(cel p.W (m1.length:Int) x v t).1]) rest n (by rw [he]; simp) (by simp [hd]) (by simpa using hr) (by simp at hn; omega)
      have el:(m1 ++ [t]).length = m1.length + 1:=by simp
      rw [el] at this
      simp only [ZnD,Zof] at this
      rw [← this]
      refine Yz ?_
      simp only [hc,hg,Znb,ec,c,Znr,Znn,Znc,Znl]
      rw [set_mid (by rw [hd])]
      simp only [Znb,e1,el]
    · rw [Znf c]
      refine Yb ?_ (by omega)
      simp only [hc,hg,Znb,ec,Znr]
      rw [Zng (by simpa using c)]; rfl
noncomputable def store (w:Int) (mem:List D.Term) (x v:D.Term):List D.Term × Bool:=if x.Op = 0 then (mem.set x.N.toNat v,true) else if (stG w x v 0 mem).2 = true then ((stG w x v 0 mem).1,true) else ([],false)
theorem ZhJ {p:D.Program} {s:D.Path} {x v:D.Term} (hp:progB p = true) (hm:(s.Mem.length:Int) = p.Mem) (hf:fw p.W s.Mem) (hx:fine x) (hv:fine v) (hc:x.Op = 0 → 0 ≤ x.N ∧ x.N < p.Mem):Zbs fuel p s x v = some (store p.W s.Mem x v):=by
 have hm6:=Yt hp
 unfold Zbs store Zb
 simp only [Znb]
 by_cases c:x.Op = 0
 ·obtain ⟨n0, n1⟩ := hc c
  rw [Zng (by simpa using c),Zng c,put_eq (by omega) n0 (by omega)]; rfl
 ·rw [Znf (by simpa using c), Znf c]
  obtain ⟨x3,e3,l3⟩ : ∃ x3,mk? p.Mem (D.Term.mk 0 0 0 ⟨[]⟩ ([]:List D.Term)) = some x3 ∧ x3.length = s.Mem.length:=by
   refine ⟨List.replicate p.Mem.toNat (D.Term.mk 0 0 0 ⟨[]⟩ ([]:List D.Term)),?_,by simp; omega⟩
   unfold mk?
   rw [Zng ⟨by omega,by unfold room; omega⟩]
  rw [e3]
  simp only [Znb]
  have:=ZlQ hp hm hf hx hv (x3:=x3) (by unfold len; omega) s.Mem [] [] x3 fuel rfl rfl l3 (by unfold fuel; omega)
  simp only [Zoc,ZoX] at this
  rw [show ((0:Nat):Int) = 0 from rfl] at this
  rw [this]
  simp only [Znb]
  cases h:(stG p.W x v 0 s.Mem).2 <;> simp
theorem ZlY {p:D.Program} {mem:List D.Term} {x v:D.Term} (hp:progB p = true) (hm:(mem.length:Int) = p.Mem) (hf:fw p.W mem) (hx:fine x) (hv:fine v):∀ (m2 m1 done rest:List D.Term) (n:Nat),mem = m1 ++ m2 → done.length = m1.length → rest.length = m2.length → m2.length + 1 < n →
    ∃ l',iterN (fun (s1:Int × Bool × (List D.Term))=>
   if ((decide (s1.1 < p.Mem)) && (!s1.2.1)) then
    (Z9 p.W s1.1).bind fun x3=>
    (Zg fuel (D.l06Maker.mk s1.2.1) 14 1 ([(D.Term.mk x3.Op x3.W x3.N x3.Name ([]:List D.Term)),x]:List D.Term)).bind fun x4=>
    if (!x4.2.bad) then
     (get? mem s1.1).bind fun x5=>
     (Zg fuel x4.2 17 p.W ([x4.1,v,x5]:List D.Term)).bind fun x6=>
     (set? s1.2.2 s1.1 x6.1).bind fun x7=>
     some (.inl ((w64 (s1.1 + 1)),x6.2.bad,x7))
    else
     some (.inl ((w64 (s1.1 + 1)),x4.2.bad,s1.2.2))
   else
    some (.inr (s1.2.1,s1.2.2)):Int × Bool × List D.Term → Option ((Int × Bool × List D.Term) ⊕ (Bool × List D.Term)))
     n ((m1.length:Int),false,done ++ rest) = some (!(stG p.W x v m1.length m2).2,l') ∧ l'.length = mem.length ∧ ((stG p.W x v m1.length m2).2 = true → l' = done ++ (stG p.W x v m1.length m2).1):=by
  have hm6:=Yt hp
  intro m2
  induction m2 with
  | nil =>
    intro m1 done rest n he hd hr hn
    have:rest = []:=ZnR.1 hr
    subst this
    have hml:(m1.length:Int) = mem.length:=by rw [he]; simp
    refine ⟨done,?_,by omega,fun _=>by simp [stG]⟩
    refine Yb ?_ (by omega)
    simp only
    rw [Znf (by simp; omega)]
    simp [stG]
  | cons t m2 ih =>
    intro m1 done rest n he hd hr hn
    obtain ⟨n,rfl⟩ : ∃ m,n = m + 1:=⟨n - 1,by simp at hn; omega⟩
    obtain ⟨r,rest,rfl⟩ : ∃ r l,rest = r :: l:=by
      cases rest with
      | nil=>simp at hr
      | cons r l=>exact ⟨r,l,rfl⟩
    simp only [Zn4] at hr hn
    have hml:(mem.length:Int) = m1.length + (m2.length + 1):=by rw [he]; simp
    have hmn:mem.length = m1.length + (m2.length + 1):=by omega
    have ht:fine t ∧ t.W = p.W:=hf t (by rw [he]; simp)
    have hg:get? mem (m1.length:Int) = some t:=by rw [he]; exact ZiG rfl
    have hw:=Zco hp (k:=(m1.length:Int)) (by omega) (by omega)
    have em:=X6 (b:=false) (op:=14) (w:=1) (ks:=[kT p.W m1.length,x]) (sml2f (ZbX hw) hx)
    unfold kT at em
    have hc:decide ((m1.length:Int) < p.Mem) = true:=by simp; omega
    have e1:w64 ((m1.length:Int) + 1) = ((m1 ++ [t]).length:Int):=by rw [Zq (by omega) (by omega)]; simp
    have el:(m1 ++ [t]).length = m1.length + 1:=by simp
    have stop:∀ u:List D.Term,∀ i:Int,0 < n → iterN (fun (s1:Int × Bool × (List D.Term))=>
       if ((decide (s1.1 < p.Mem)) && (!s1.2.1)) then
        (Z9 p.W s1.1).bind fun x3=>
        (Zg fuel (D.l06Maker.mk s1.2.1) 14 1 ([(D.Term.mk x3.Op x3.W x3.N x3.Name ([]:List D.Term)),x]:List D.Term)).bind fun x4=>
        if (!x4.2.bad) then
         (get? mem s1.1).bind fun x5=>
         (Zg fuel x4.2 17 p.W ([x4.1,v,x5]:List D.Term)).bind fun x6=>
         (set? s1.2.2 s1.1 x6.1).bind fun x7=>
         some (.inl ((w64 (s1.1 + 1)),x6.2.bad,x7))
        else
         some (.inl ((w64 (s1.1 + 1)),x4.2.bad,s1.2.2))
       else
        some (.inr (s1.2.1,s1.2.2)):Int × Bool × List D.Term → Option ((Int × Bool × List D.Term) ⊕ (Bool × List D.Term))) n (i,true,u) = some (true,u):=fun u i h0=>by
      refine Yb ?_ h0
      simp
    by_cases c1:(mkT 14 1 0 [⟨0,p.W,(m1.length:Int),⟨[]⟩,[]⟩,x]).2 = true
    · have hf1 : fine (mkT 14 1 0 [⟨0, p.W, (m1.length : Int), ⟨[]⟩, []⟩, x]).1 := (YT c1).1
      have em2:=X6 (b:=false) (op:=17) (w:=p.W) (ks:=[(mkT 14 1 0 [⟨0,p.W,(m1.length:Int),⟨[]⟩,[]⟩,x]).1,v,t]) (sml3f hf1 hv ht.1)
      have ecel:cel p.W (m1.length:Int) x v t = mkT 17 p.W 0 [(mkT 14 1 0 [⟨0,p.W,(m1.length:Int),⟨[]⟩,[]⟩,x]).1,v,t]:=by unfold cel kT; rw [Zng c1]
      by_cases c2:(mkT 17 p.W 0 [(mkT 14 1 0 [⟨0,p.W,(m1.length:Int),⟨[]⟩,[]⟩,x]).1,v,t]).2 = true
      · have hl:stG p.W x v m1.length (t :: m2) = ((mkT 17 p.W 0 [(mkT 14 1 0 [⟨0,p.W,(m1.length:Int),⟨[]⟩,[]⟩,x]).1,v,t]).1 :: (stG p.W x v (m1.length + 1) m2).1,(stG p.W x v (m1.length + 1) m2).2):=by
          conv=>lhs; unfold stG
          rw [ecel,Zng c2]
        obtain ⟨l',h1,h2,h3⟩:=ih (m1 ++ [t]) (done ++ [(mkT 17 p.W 0 [(mkT 14 1 0 [⟨0,p.W,(m1.length:Int),⟨[]⟩,[]⟩,x]).1,v,t]).1]) rest n (by rw [he]; simp) (by simp [hd]) (by omega) (by omega)
        rw [el] at h1 h3
        simp only [ZnD,Zof] at h1 h3
        rw [hl]
        refine ⟨l',?_,h2,h3⟩
        rw [← h1]
        refine Yz ?_
        simp only [hc,ZnP,Znr,Zj,Znb,em,c1,Znn,ZoV,ZnW,hg,em2,c2]
        rw [set_mid (by rw [hd])]
        simp only [Znb,e1,el]
      · have c2' : (mkT 17 p.W 0 [(mkT 14 1 0 [⟨0, p.W, (m1.length : Int), ⟨[]⟩, []⟩, x]).1, v, t]).2 = false := by simpa using c2
        have hl:stG p.W x v m1.length (t :: m2) = ([],false):=by
          conv=>lhs; unfold stG
          rw [ecel,Znf c2]
        rw [hl]
        refine ⟨done ++ (mkT 17 p.W 0 [(mkT 14 1 0 [⟨0,p.W,(m1.length:Int),⟨[]⟩,[]⟩,x]).1,v,t]).1 :: rest,?_,by simp; omega,fun h=>by cases h⟩
        rw [Yz (s':=(w64 ((m1.length:Int) + 1),true,done ++ (mkT 17 p.W 0 [(mkT 14 1 0 [⟨0,p.W,(m1.length:Int),⟨[]⟩,[]⟩,x]).1,v,t]).1 :: rest)),stop _ _ (by omega)]
        · rfl
        · simp only [hc, ZnP, Znr, Zj, Znb, em, c1, Znn, ZoV, ZnW, hg, em2, c2', Zn9]
          rw [set_mid (by rw [hd])]
          simp only [Znb]
    · have c1' : (mkT 14 1 0 [⟨0, p.W, (m1.length : Int), ⟨[]⟩, []⟩, x]).2 = false := by simpa using c1
      have hl:stG p.W x v m1.length (t :: m2) = ([],false):=by
        conv=>lhs; unfold stG
        have:cel p.W (m1.length:Int) x v t = (t0,false):=by unfold cel kT; rw [Znf c1]
        rw [this]; rfl
      rw [hl]
      refine ⟨done ++ r :: rest,?_,by simp; omega,fun h=>by cases h⟩
      rw [Yz (s':=(w64 ((m1.length:Int) + 1),true,done ++ r :: rest)),stop _ _ (by omega)]
      · rfl
      · simp only [hc,ZnP,Znr,Zj,Znb,em,c1',ZnW,Bool.or_true,Znn,Znc,Znl,Zn9]
theorem Zia {p:D.Program} {s:D.Path} {x v:D.Term} (hp:progB p = true) (hm:(s.Mem.length:Int) = p.Mem) (hf:fw p.W s.Mem) (hx:fine x) (hv:fine v) (hc:x.Op = 0 → 0 ≤ x.N ∧ x.N < p.Mem) :
  ∃ l',YC fuel ⟨false⟩ p s x v = some (l',⟨!(store p.W s.Mem x v).2⟩) ∧ l'.length = s.Mem.length ∧ ((store p.W s.Mem x v).2 = true → l' = (store p.W s.Mem x v).1):=by
 have hm6:=Yt hp
 unfold YC store
 rw [Zmq (by omega)]
 simp only [Znb]
 by_cases c:x.Op = 0
 ·obtain ⟨n0, n1⟩ := hc c
  refine ⟨s.Mem.set x.N.toNat v,?_,by simp,fun _=>by rw [Zng c]⟩
  rw [Zng (by simpa using c),Zng c,ZhR n0 (by omega)]; rfl
 ·obtain ⟨l', h1, h2, h3⟩ := ZlY hp hm hf hx hv s.Mem [] [] s.Mem fuel rfl rfl rfl (by unfold fuel; omega)
  simp only [Zoc,ZoX] at h1 h3
  rw [show ((0:Nat):Int) = 0 from rfl] at h1
  refine ⟨l',?_,h2,fun h=>?_⟩
  ·rw [Znf (by simpa using c), Znf c, h1]
   simp only [Znb]
   cases h:(stG p.W x v 0 s.Mem).2 <;> simp
  ·rw [Znf c] at h ⊢
   by_cases d:(stG p.W x v 0 s.Mem).2 = true
   ·rw [Zng d]; exact h3 d
   ·rw [Znf d] at h; cases h
theorem ZhF {p:D.Program} {s:D.Path} {x v:D.Term} (hf:fw p.W s.Mem) (hv:fine v ∧ v.W = p.W) (h:(store p.W s.Mem x v).2 = true):fw p.W (store p.W s.Mem x v).1 ∧ (store p.W s.Mem x v).1.length = s.Mem.length:=by
 unfold store at h ⊢
 by_cases c:x.Op = 0
 ·rw [Zng c]
  exact ⟨Zlb hf hv,by simp⟩
 ·rw [Znf c] at h ⊢
  by_cases d:(stG p.W x v 0 s.Mem).2 = true
  ·rw [Zng d]; exact ⟨Zkt d,ZiP d⟩
  ·rw [Znf d] at h; cases h
structure insF (w n:Int) (i:D.Ins):Prop where
 op:1 ≤ i.Op ∧ i.Op ≤ 14
 a:i.Op ≠ 9 → i.Op ≠ 11 → i.Op ≠ 12 → i.Op ≠ 14 → 0 ≤ i.A ∧ i.A < 4
 b:i.Op = 2 ∨ i.Op = 3 ∨ i.Op = 7 ∨ i.Op = 8 → 0 ≤ i.B ∧ i.B < 4
 v:i.Op = 1 → wordB w i.B = true
 c:i.Op = 3 → 3 ≤ i.C ∧ i.C ≤ 16
 t:i.Op = 9 ∨ i.Op = 10 ∨ i.Op = 11 → 0 ≤ i.B ∧ i.B ≤ n
theorem ZmQ (a:Int):Y5 a = some (decide (0 ≤ a ∧ a < 4)):=by
 unfold Y5 Zk
 by_cases h:0 ≤ a ∧ a < 4
 ·have h1 := h.1; have h2 : a ≤ 3 := by omega
  simp [h1,h2,h]
 ·have : ¬(0 ≤ a ∧ a ≤ 3) := by omega
  simp only [decide_eq_false h,Option.some.injEq]
  simp; omega
theorem Zjg {w n:Int} {i:D.Ins} (h:insB w n i = true):insF w n i:=by
 unfold insB Xq Zk at h
 simp only [ZmQ,YN,Znb] at h
 by_cases c:1 ≤ i.Op ∧ i.Op ≤ 14
 ·have : i.Op = 1 ∨ i.Op = 2 ∨ i.Op = 3 ∨ i.Op = 4 ∨ i.Op = 5 ∨ i.Op = 6 ∨ i.Op = 7 ∨ i.Op = 8 ∨ i.Op = 9 ∨ i.Op = 10 ∨ i.Op = 11 ∨ i.Op = 12 ∨ i.Op = 13 ∨ i.Op = 14 := by omega
  rcases this with c | c | c | c | c | c | c | c | c | c | c | c | c | c <;> simp [c,Zk] at h
  all_goals (by_cases ha:0 ≤ i.A ∧ i.A < 4)
  all_goals (by_cases hb:0 ≤ i.B ∧ i.B < 4)
  all_goals (try simp [ha,hb] at h)
  all_goals (first
   | (exfalso; omega)
   | exact ⟨by omega,fun _ _ _ _=>by omega,fun _=>by omega,fun e=>by first | omega | exact h.1 | exact h.2.1 | simp_all,fun _=>by omega,fun _=>by omega⟩)
 ·exfalso
  have n1:∀ k:Int,1 ≤ k → k ≤ 14 → i.Op ≠ k:=fun k h1 h2 e=>c (by omega)
  simp [n1 1,n1 2,n1 3,n1 4,n1 5,n1 6,n1 7,n1 8,n1 9,n1 10,n1 11,n1 12,n1 13,n1 14] at h
theorem Zfy {p:D.Program} (hp:progB p = true) {i:D.Ins} (hi:i ∈ p.Code):insF p.W p.Code.length i:=by
 unfold progB at hp
 simp only [Zne,Zni] at hp
 exact Zjg (hp.2 i hi)
noncomputable def qad (p:D.Program) (x:D.Term):D.Term × Bool × Bool:=
 if (mkT 15 1 0 [x,kT p.W p.Mem]).2 = true then ((mkT 1 1 0 [(mkT 15 1 0 [x,kT p.W p.Mem]).1]).1,true,(mkT 1 1 0 [(mkT 15 1 0 [x,kT p.W p.Mem]).1]).2) else (t0,true,false)
noncomputable def qze (p:D.Program) (x:D.Term):D.Term × Bool × Bool:=((mkT 14 1 0 [kT p.W 0,x]).1,true,(mkT 14 1 0 [kT p.W 0,x]).2)
noncomputable def qst (p:D.Program) (rs:List D.Term) (i:D.Ins):D.Term × Bool × Bool:=
 if i.Op = 10 ∨ i.Op = 13 then qze p (rg rs i.A)
 else if i.Op = 3 then (if i.C = 6 ∨ i.C = 7 then qze p (rg rs i.B) else (t0,false,true))
 else if i.Op = 7 then qad p (rg rs i.B)
 else if i.Op = 8 then qad p (rg rs i.A)
 else (t0,false,true)
theorem Zcu {p:D.Program} (hp:progB p = true):wordB p.W 0 = true:=Zco hp (by omega) (by have:=Yt hp; omega)
theorem Zhv {p:D.Program} (hp:progB p = true) {x:D.Term} (hx:fine x):ZK fuel 14 1 0 [⟨0,p.W,0,⟨[]⟩,[]⟩,x] = some ((qze p x).1,(qze p x).2.2):=ZbA (sml2f (ZbX (Zcu hp)) hx)
theorem ZfM {p:D.Program} {s:D.Path} {i:D.Ins} (hp:progB p = true) (hs:okP p s) (hi:insF p.W p.Code.length i):Zaz fuel p s i = some (qst p s.Regs i):=by
 have hz:=Zcu hp
 have hm:=(Yt hp).1
 have hr:∀ k:Int,0 ≤ k ∧ k < 4 → get? s.Regs k = some (rg s.Regs k) ∧ fine (rg s.Regs k):=fun k hk=>⟨Zcg hk.1 (by have:=hs.rl; omega),(Zc0 hs.rf hk.1 (by have:=hs.rl; omega)).1⟩
 have had:∀ x:D.Term,fine x → ((ZK fuel 15 1 0 [x,⟨0,p.W,p.Mem,⟨[]⟩,[]⟩]).bind fun x8=>if (!x8.2) then some ((D.Term.mk 0 0 0 ⟨[]⟩ ([]:List D.Term)),true,false) else (ZK fuel 1 1 0 ([x8.1]:List D.Term)).bind fun x9=>some (x9.1,true,x9.2)) = some (qad p x):=by
  intro x hx
  have:=ZbA (op:=15) (w:=1) (m:=0) (sml2f hx (ZbX hm))
  unfold kT at this
  rw [this]
  simp only [Znb]
  unfold qad kT
  by_cases c:(mkT 15 1 0 [x,⟨0,p.W,p.Mem,⟨[]⟩,[]⟩]).2 = true
  ·rw [Zng c,Znf (by rw [c]; simp),ZbA (sml1f (YT c).1)]; rfl
  ·rw [Znf c,Zng (by simpa using c)]; rfl
 unfold Zaz qst
 rw [ZY hz]
 simp only [Znb]
 by_cases c1:i.Op = 10 ∨ i.Op = 13
 ·obtain ⟨g, f⟩ := hr i.A (hi.a (by omega) (by omega) (by omega) (by omega))
  rw [Zng (by simpa using c1),Zng c1,g]
  simp only [Znb]
  rw [Zhv hp f]; rfl
 ·rw [Znf (by simpa using c1), Znf c1]
  by_cases c2:i.Op = 3
  ·rw [Zng (by simpa using c2), Zng c2]
   by_cases c3:i.C = 6 ∨ i.C = 7
   ·obtain ⟨g, f⟩ := hr i.B (hi.b (by omega))
    rw [Znf (by simp; omega),Zng c3,g]
    simp only [Znb]
    rw [Zhv hp f]; rfl
   ·rw [Zng (by simp; omega),Znf c3]; rfl
  ·rw [Znf (by simpa using c2), Znf c2]
   by_cases c4:i.Op = 7
   ·obtain ⟨g, f⟩ := hr i.B (hi.b (by omega))
    rw [Zng (by simpa using c4),Zng c4]
    simp only [Znb]
    rw [g,ZY hm]
    simp only [Znb]
    exact had _ f
   ·rw [Znf (by simpa using c4), Znf c4]
    by_cases c5:i.Op = 8
    ·obtain ⟨g, f⟩ := hr i.A (hi.a (by omega) (by omega) (by omega) (by omega))
     rw [Zng (by simpa using c5),Zng c5]
     simp only [Znb]
     rw [g,ZY hm]
     simp only [Znb]
     exact had _ f
    ·rw [Znf (by simpa using c5),Znf c5]; rfl
theorem ZfQ {p:D.Program} {s:D.Path} {i:D.Ins} (hp:progB p = true) (hs:okP p s) (hi:insF p.W p.Code.length i) :
  ∃ t',Y7 fuel ⟨false⟩ p s i = some (t',(qst p s.Regs i).2.1,⟨!(qst p s.Regs i).2.2⟩) ∧ ((qst p s.Regs i).2.2 = true → t' = (qst p s.Regs i).1):=by
 have hz:=Zcu hp
 have hm:=(Yt hp).1
 have hr:∀ k:Int,0 ≤ k ∧ k < 4 → get? s.Regs k = some (rg s.Regs k) ∧ fine (rg s.Regs k):=fun k hk=>⟨Zcg hk.1 (by have:=hs.rl; omega),(Zc0 hs.rf hk.1 (by have:=hs.rl; omega)).1⟩
 have hqz:∀ x:D.Term,fine x → Zg fuel ⟨false⟩ 14 1 [⟨0,p.W,0,⟨[]⟩,[]⟩,x] = some ((qze p x).1,⟨!(qze p x).2.2⟩):=fun x hx=>by
  rw [X6 (b:=false) (sml2f (a:=⟨0,p.W,0,⟨[]⟩,[]⟩) (ZbX hz) hx)]; rfl
 have had:∀ x:D.Term,fine x → ∃ t',((Zg fuel ⟨false⟩ 15 1 [x,⟨0,p.W,p.Mem,⟨[]⟩,[]⟩]).bind fun x9=>if x9.2.bad then some (x9.1,true,x9.2) else (Zg fuel x9.2 1 1 ([x9.1]:List D.Term)).bind fun x10=>some (x10.1,true,x10.2)) = some (t',true,⟨!(qad p x).2.2⟩) ∧ (qad p x).2.1 = true ∧ ((qad p x).2.2 = true → t' = (qad p x).1):=by
  intro x hx
  rw [X6 (b:=false) (sml2f (b:=⟨0,p.W,p.Mem,⟨[]⟩,[]⟩) hx (ZbX hm))]
  simp only [Znb]
  unfold qad kT
  by_cases c:(mkT 15 1 0 [x,⟨0,p.W,p.Mem,⟨[]⟩,[]⟩]).2 = true
  ·refine ⟨(mkT 1 1 0 [(mkT 15 1 0 [x, ⟨0, p.W, p.Mem, ⟨[]⟩, []⟩]).1]).1, ?_, by rw [Zng c], fun _ => by rw [Zng c]⟩
   rw [Znf (by rw [c]; simp),c,Zng rfl]
   rw [show (false || !true) = false from rfl,X6 (b:=false) (sml1f (YT c).1)]; rfl
  ·refine ⟨(mkT 15 1 0 [x, ⟨0, p.W, p.Mem, ⟨[]⟩, []⟩]).1, ?_, by rw [Znf c], fun h => by rw [Znf c] at h; cases h⟩
   have c':(mkT 15 1 0 [x,⟨0,p.W,p.Mem,⟨[]⟩,[]⟩]).2 = false:=by simpa using c
   rw [c',Zng (by simp),Znf (by simp)]; rfl
 unfold Y7 qst
 rw [Zj]
 simp only [Znb]
 by_cases c1:i.Op = 10 ∨ i.Op = 13
 ·obtain ⟨g, f⟩ := hr i.A (hi.a (by omega) (by omega) (by omega) (by omega))
  rw [Zng (by simpa using c1),Zng c1,g]
  simp only [Znb]
  rw [hqz _ f]
  exact ⟨_,rfl,fun _=>rfl⟩
 ·rw [Znf (by simpa using c1), Znf c1]
  by_cases c2:i.Op = 3
  ·rw [Zng c2]
   by_cases c3:i.C = 6 ∨ i.C = 7
   ·obtain ⟨g, f⟩ := hr i.B (hi.b (by omega))
    rw [Zng (by simp; omega),Zng c3,g]
    simp only [Znb]
    rw [hqz _ f]
    exact ⟨_,rfl,fun _=>rfl⟩
   ·rw [Znf (by simp; omega), Znf (by simp; omega), Znf c3]
    exact ⟨_,rfl,fun _=>rfl⟩
  ·rw [Znf (by simp; omega), Znf c2]
   by_cases c4:i.Op = 7
   ·obtain ⟨g, f⟩ := hr i.B (hi.b (by omega))
    rw [Zng (by simp; omega),Zng c4,g,Zj]
    simp only [Znb]
    rw [Znf (by simp; omega)]
    obtain ⟨t',h1,h2,h3⟩:=had _ f
    rw [h1,h2]
    exact ⟨t',rfl,h3⟩
   ·rw [Znf c4]
    by_cases c5:i.Op = 8
    ·obtain ⟨g, f⟩ := hr i.A (hi.a (by omega) (by omega) (by omega) (by omega))
     obtain ⟨g2,f2⟩:=hr i.B (hi.b (by omega))
     rw [Zng (by simp; omega),Zng c5,g,g2,Zj]
     simp only [Znb]
     rw [Zng (by simp; omega)]
     obtain ⟨t',h1,h2,h3⟩:=had _ f
     rw [h1,h2]
     exact ⟨t',rfl,h3⟩
    ·rw [Znf (by simp; omega), Znf c5]
     exact ⟨_,rfl,fun _=>rfl⟩
theorem Zhe {op w m:Int} {ks:List D.Term} (h:(mkT op w m ks).2 = true) (hne:ks ≠ []) (hl:ks.length ≤ 3) (hc:(ks.all fun x=>x.Op == 0) = true):∃ v,ZR ⟨op,w,m,⟨[]⟩,ks⟩ (ks.map (·.N)) = some v ∧ mkT op w m ks = (kT w v,true):=by
 unfold mkT at h ⊢
 split at h
 ·rename_i c
  rw [Zng c]
  obtain ⟨a,b⟩:=Zbw c
  obtain ⟨v,hv,h1,h2⟩:=known a hne hc
  refine ⟨v,h1,?_⟩
  have e:Z6 fuel ⟨op,w,m,⟨[]⟩,ks⟩ = some (kT w v):=by
   obtain ⟨k,hk,hk2⟩ : ∃ k,fuel = k + 1 ∧ 1000 ≤ k:=⟨fuel - 1,by unfold fuel; omega,by unfold fuel; omega⟩
   rw [hk,Z6,Znf (by rw [Ze]; simpa using hne),Zdy (ks:=ks) (n:=k) (by omega) (by omega),hc]
   simp only [Znb,Znr,h2 k (by omega),ZY hv]; rfl
  unfold simp1
  rw [e]; rfl
 ·cases h
theorem Zgd {p:D.Program} {x:D.Term} (hp:progB p = true) (hx:fine x) (hw:x.W = p.W) (h0:x.Op = 0) (hok:(qad p x).2.2 = true) (hn:¬((qad p x).1.Op = 0 ∧ (qad p x).1.N = 1)):0 ≤ x.N ∧ x.N < p.Mem:=by
 obtain ⟨ex,vx⟩:=YZ hx.1 (by simp [h0])
 have hm:=Yt hp
 have hx0:0 ≤ x.N:=by
  rw [hw,ZZ (by omega) (by omega)] at vx
  omega
 refine ⟨hx0,?_⟩
 unfold qad at hok hn
 split at hok
 ·rename_i c
  rw [Zng c] at hn
  obtain ⟨v,a1,a2⟩:=Zhe c (by simp) (by simp) (by simp [h0,kT])
  rw [a2] at hok hn
  obtain ⟨u,b1,b2⟩:=Zhe hok (by simp) (by simp) (by simp [kT])
  rw [b2] at hn
  refine Decidable.byContradiction fun hlt=>hn ⟨rfl,?_⟩
  have ev:v = 0:=by
   have:ZR ⟨15,1,0,⟨[]⟩,[x,kT p.W p.Mem]⟩ ([x,kT p.W p.Mem].map (·.N)) = some 0:=by
    have e1:ZB x.W x.N = some true:=by rw [YN,vx]
    have e2:ZB x.W p.Mem = some true:=by rw [YN,hw,hm.1]
    simp [ZR,Zk,kT,get?,Yx,e1,e2,Xw,hlt]
   rw [this] at a1
   exact (Option.some.inj a1).symm
  subst ev
  have:ZR ⟨1,1,0,⟨[]⟩,[kT 1 0]⟩ ([kT 1 0].map (·.N)) = some 1:=by decide +kernel
  rw [this] at b1
  exact (Option.some.inj b1).symm
 ·cases hok
theorem Zc9 {p:D.Program} {s:D.Path} {i:D.Ins} (hp:progB p = true) (hs:okP p s) (hi:insF p.W p.Code.length i) (hok:(qst p s.Regs i).2.2 = true) (hn:¬((qst p s.Regs i).1.Op = 0 ∧ (qst p s.Regs i).1.N = 1)) :
  (i.Op = 7 → (rg s.Regs i.B).Op = 0 → 0 ≤ (rg s.Regs i.B).N ∧ (rg s.Regs i.B).N < p.Mem) ∧ (i.Op = 8 → (rg s.Regs i.A).Op = 0 → 0 ≤ (rg s.Regs i.A).N ∧ (rg s.Regs i.A).N < p.Mem):=by
 constructor
 ·intro c h0
  unfold qst at hok hn
  rw [Znf (by omega),Znf (by omega),Zng c] at hok hn
  obtain ⟨b0,b1⟩:=hi.b (by omega)
  have:=Zc0 hs.rf b0 (by have:=hs.rl; omega)
  exact Zgd hp this.1 this.2 h0 hok hn
 ·intro c h0
  unfold qst at hok hn
  rw [Znf (by omega),Znf (by omega),Znf (by omega),Zng c] at hok hn
  obtain ⟨b0,b1⟩:=hi.a (by omega) (by omega) (by omega) (by omega)
  have:=Zc0 hs.rf b0 (by have:=hs.rl; omega)
  exact Zgd hp this.1 this.2 h0 hok hn
def rwd (c w:Int):Int:=if 14 ≤ c then 1 else w
theorem Zfh {c w:Int} (hw:1 ≤ w ∧ w ≤ 16) (hc:1 ≤ c ∧ c ≤ 16):Xd c w = some (rwd c w):=by
 unfold Xd Zk rwd
 have h1:=hw.1; have h2:=hw.2; have h3:=hc.1; have h4:=hc.2
 by_cases h:14 ≤ c <;> simp [h1,h2,h3,h4,h]
theorem Zlp {c w:Int} (hw:1 ≤ w ∧ w ≤ 16) (hc:1 ≤ c ∧ c ≤ 16):X9 c w = some (rwd c w):=by
 unfold X9 ZH rwd
 have h1:=hw.1; have h2:=hw.2
 have h3:¬ c < 1:=by omega
 have h4:¬ 16 < c:=by omega
 by_cases h:14 ≤ c <;> simp [h1,h2,h3,h4,h]
noncomputable def opd (p:D.Program) (c:Int) (a b:D.Term):D.Term × Bool:=
 if (mkT c (rwd c p.W) 0 [a,b]).2 = true ∧ 14 ≤ c then mkT 20 p.W 0 [(mkT c (rwd c p.W) 0 [a,b]).1] else mkT c (rwd c p.W) 0 [a,b]
theorem Zk7 {p:D.Program} {c:Int} {a b:D.Term} (h:(opd p c a b).2 = true):fine (opd p c a b).1 ∧ (opd p c a b).1.W = p.W:=by
 unfold opd at h ⊢
 split at h
 ·rename_i e; rw [Zng e]; exact YT h
 ·rename_i e
  rw [Znf e]
  have:=YT h
  refine ⟨this.1,this.2.trans ?_⟩
  unfold rwd
  rw [Znf (fun h14=>e ⟨h,h14⟩)]
theorem Zlf {p:D.Program} {c:Int} {a b:D.Term} (hp:progB p = true) (hc:3 ≤ c ∧ c ≤ 16) (ha:fine a) (hb:fine b):ZaB fuel p c a b = some (opd p c a b):=by
 have hm:=Yt hp
 unfold ZaB opd
 rw [Zlp (by omega) (by omega)]
 simp only [Znb]
 rw [ZbA (sml2f ha hb)]
 simp only [Znb]
 by_cases h:(mkT c (rwd c p.W) 0 [a,b]).2 = true
 ·by_cases h14 : 14 ≤ c
  ·rw [Znf (by rw [h]; simp; omega),Zng ⟨h,h14⟩,ZbA (sml1f (YT h).1)]; rfl
  ·rw [Zng (by rw [h]; simp; omega),Znf (fun e=>h14 e.2)]
 ·rw [Zng (by simp; left; simpa using h),Znf (fun e=>h e.1)]
theorem Zkv {p:D.Program} {c:Int} {a b:D.Term} (hp:progB p = true) (hc:3 ≤ c ∧ c ≤ 16) (ha:fine a) (hb:fine b) {β:Type} (f:D.Term → D.l06Maker → Option β) :
  ((Xd c p.W).bind fun x8=>(Zg fuel ⟨false⟩ c x8 [a,b]).bind fun x11=>if ((decide (c ≥ 14)) && (!x11.2.bad)) then (Zg fuel x11.2 20 p.W ([x11.1]:List D.Term)).bind fun x12=>f x12.1 x12.2 else f x11.1 x11.2) = f (opd p c a b).1 ⟨!(opd p c a b).2⟩:=by
 have hm:=Yt hp
 rw [Zfh (by omega) (by omega)]
 simp only [Znb]
 rw [X6 (sml2f ha hb)]
 simp only [Znb]
 unfold opd
 by_cases h:(mkT c (rwd c p.W) 0 [a,b]).2 = true
 ·by_cases h14 : 14 ≤ c
  ·rw [Zng (by rw [h]; simp; omega),Zng ⟨h,h14⟩,h,show (false || !true) = false from rfl,X6 (sml1f (YT h).1)]; rfl
  ·rw [Znf (by rw [h]; simp; omega),Znf (fun e=>h14 e.2)]; rfl
 ·have h' : (mkT c (rwd c p.W) 0 [a, b]).2 = false := by simpa using h
  rw [Znf (by rw [h']; simp),Znf (fun e=>h e.1)]; rfl
theorem ZiW {k:Int} (h0:0 ≤ k) (h9:k ≤ 9):Yf fuel k = cat? (strOf [Byt.mk (IntKind.u8.wrap (w64 (48 + k)))]) ⟨[]⟩:=by
 obtain ⟨n,hn⟩ : ∃ n,fuel = n + 2:=⟨fuel - 2,by unfold fuel; omega⟩
 rw [hn,Yf,Znf (by simp; omega),Yb (r:=(k,⟨[]⟩)) (by simp; omega) (by omega)]
 simp only [Znb]
 exact Zd _
def inT (w k:Int):D.Term:=⟨22,w,0,if k = 0 then ⟨[105,48]⟩ else if k = 1 then ⟨[105,49]⟩ else ⟨[105,50]⟩,[]⟩
theorem ZlN {p:D.Program} {k:Int} (h0:0 ≤ k) (h2:k ≤ 2):ZaA fuel p k = some (inT p.W k):=by
 unfold ZaA inT
 rw [ZiW h0 (by omega)]
 have:k = 0 ∨ k = 1 ∨ k = 2:=by omega
 rcases this with rfl | rfl | rfl
 ·rw [show cat? (strOf [Byt.mk (IntKind.u8.wrap (w64 (48 + 0)))]) ⟨[]⟩ = some ⟨[48]⟩ from by decide +kernel]
  simp only [Znb]
  rw [show cat? ⟨[105]⟩ ⟨[48]⟩ = some ⟨[105,48]⟩ from by decide +kernel]; rfl
 ·rw [show cat? (strOf [Byt.mk (IntKind.u8.wrap (w64 (48 + 1)))]) ⟨[]⟩ = some ⟨[49]⟩ from by decide +kernel]
  simp only [Znb]
  rw [show cat? ⟨[105]⟩ ⟨[49]⟩ = some ⟨[105,49]⟩ from by decide +kernel]; rfl
 ·rw [show cat? (strOf [Byt.mk (IntKind.u8.wrap (w64 (48 + 2)))]) ⟨[]⟩ = some ⟨[50]⟩ from by decide +kernel]
  simp only [Znb]
  rw [show cat? ⟨[105]⟩ ⟨[50]⟩ = some ⟨[105,50]⟩ from by decide +kernel]; rfl
theorem Zl8 {p:D.Program} (hp:progB p = true) {k:Int} (h0:0 ≤ k) (h2:k ≤ 2):((Yk k).bind fun x12=>(cat? ⟨[105]⟩ x12).bind fun x13=>XL fuel p.W x13) = some (inT p.W k):=by
 have hm:=Yt hp
 have hw:ZH p.W = some true:=by
  unfold ZH
  have h1:1 ≤ p.W:=by omega
  have h2:p.W ≤ 16:=by omega
  simp [h1,h2]
 unfold inT
 have:k = 0 ∨ k = 1 ∨ k = 2:=by omega
 have hv:∀ s:Str,s.bytes.length ≤ 100 → nameB s = true → XL fuel p.W s = some ⟨22,p.W,0,s,[]⟩:=fun s hl hn=>by
  unfold XL
  rw [hw]
  simp only [Znb,Znn,Znc,Znl]
  rw [ZfX (by omega) (by unfold fuel; omega),hn]; rfl
 rcases this with rfl | rfl | rfl
 ·rw [show Yk 0 = some ⟨[48]⟩ from by decide +kernel]
  simp only [Znb]
  rw [show cat? ⟨[105]⟩ ⟨[48]⟩ = some ⟨[105,48]⟩ from by decide +kernel]
  simp only [Znb]
  rw [hv _ (by decide) (by decide +kernel)]; rfl
 ·rw [show Yk 1 = some ⟨[49]⟩ from by decide +kernel]
  simp only [Znb]
  rw [show cat? ⟨[105]⟩ ⟨[49]⟩ = some ⟨[105,49]⟩ from by decide +kernel]
  simp only [Znb]
  rw [hv _ (by decide) (by decide +kernel)]; rfl
 ·rw [show Yk 2 = some ⟨[50]⟩ from by decide +kernel]
  simp only [Znb]
  rw [show cat? ⟨[105]⟩ ⟨[50]⟩ = some ⟨[105,50]⟩ from by decide +kernel]
  simp only [Znb]
  rw [hv _ (by decide) (by decide +kernel)]; rfl
theorem Zlx {p:D.Program} (hp:progB p = true) {k:Int}:fine (inT p.W k) ∧ (inT p.W k).W = p.W:=by
 have hm:=Yt hp
 refine ⟨⟨?_,by unfold inT; rw [X4]; simp only [XR]; omega⟩,rfl⟩
 have w1:1 ≤ p.W:=by omega
 have w2:p.W ≤ 16:=by omega
 have hn:nameB (inT p.W k).Name = true:=by
  unfold inT
  by_cases c:k = 0
  ·simp only [c,Znr]; decide +kernel
  ·by_cases d : k = 1
   ·simp only [d,Znr]; decide +kernel
   ·simp only [c,d,Znl]; decide +kernel
 rw [Xm,ZV]
 simp only [locB,shB,hn]
 simp [inT,w1,w2]
def stk (p:D.Program) (s:D.Path) (i:D.Ins):Int:=
 if i.Op = 5 ∧ s.In = p.In then 3 else if i.Op = 6 ∧ s.Out.length = 6 then 4 else if i.Op = 11 ∧ s.Stack.length = 3 then 7 else if i.Op = 12 ∧ s.Stack.length = 0 then 7 else 0
noncomputable def flw (p:D.Program) (s:D.Path) (i:D.Ins):D.Path × Bool:=
 if i.Op = 1 then ({ s with Pc:=s.Pc + 1,Regs:=s.Regs.set i.A.toNat (kT p.W i.B) },true)
 else if i.Op = 2 then ({ s with Pc:=s.Pc + 1,Regs:=s.Regs.set i.A.toNat (rg s.Regs i.B) },true)
 else if i.Op = 3 then ({ s with Pc:=s.Pc + 1,Regs:=s.Regs.set i.A.toNat (opd p i.C (rg s.Regs i.A) (rg s.Regs i.B)).1 },(opd p i.C (rg s.Regs i.A) (rg s.Regs i.B)).2)
 else if i.Op = 4 then ({ s with Pc:=s.Pc + 1,Regs:=s.Regs.set i.A.toNat (mkT 1 p.W 0 [rg s.Regs i.A]).1 },(mkT 1 p.W 0 [rg s.Regs i.A]).2)
 else if i.Op = 5 then ({ s with Pc:=s.Pc + 1,Regs:=s.Regs.set i.A.toNat (inT p.W s.In),In:=s.In + 1 },true)
 else if i.Op = 6 then ({ s with Pc:=s.Pc + 1,Out:=s.Out ++ [rg s.Regs i.A] },true)
 else if i.Op = 7 then ({ s with Pc:=s.Pc + 1,Regs:=s.Regs.set i.A.toNat (load p.W s.Mem (rg s.Regs i.B)).1 },(load p.W s.Mem (rg s.Regs i.B)).2)
 else if i.Op = 8 then ({ s with Pc:=s.Pc + 1,Mem:=(store p.W s.Mem (rg s.Regs i.A) (rg s.Regs i.B)).1 },(store p.W s.Mem (rg s.Regs i.A) (rg s.Regs i.B)).2)
 else if i.Op = 9 then ({ s with Pc:=i.B },true)
 else if i.Op = 11 then ({ s with Pc:=i.B,Stack:=s.Stack ++ [s.Pc + 1] },true)
 else if i.Op = 12 then ({ s with Pc:=(s.Stack[s.Stack.length - 1]?).getD 0,Stack:=s.Stack.take (s.Stack.length - 1) },true)
 else if i.Op = 14 then ({ s with Code:=1 },true)
 else ({ s with Pc:=s.Pc + 1 },true)
theorem Ziz {l:List Int} (h:0 < l.length) (h9:l.length ≤ 9):get? l (w64 (len l - 1)) = some ((l[l.length - 1]?).getD 0) ∧ cut? l 0 (w64 (len l - 1)) = some (l.take (l.length - 1)):=by
 have e:w64 (len l - 1) = ((l.length - 1:Nat):Int):=by rw [Ze,Zq (by omega) (by omega)]; omega
 rw [e]
 constructor
 ·rw [get?_nat,Znh (by omega)]; rfl
 ·unfold cut?
  rw [Zng (by omega)]; simp
theorem Zl2 {l:List Int} (h:l.length ≤ 100):ZE l = some l:=by
 unfold ZE
 rw [ZfS h]; rfl
theorem ZgO {p:D.Program} {s:D.Path} {i:D.Ins} (hp:progB p = true) (hs:okP p s) (hi:insF p.W p.Code.length i) (hpc:s.Pc < p.Code.length) (hk:stk p s i = 0)
  (h7:i.Op = 7 → (rg s.Regs i.B).Op = 0 → 0 ≤ (rg s.Regs i.B).N ∧ (rg s.Regs i.B).N < p.Mem) (h8:i.Op = 8 → (rg s.Regs i.A).Op = 0 → 0 ≤ (rg s.Regs i.A).N ∧ (rg s.Regs i.A).N < p.Mem):ZaF fuel p s i = some (flw p s i):=by
 have hm:=Yt hp
 have hl:=hs.rl
 have hcl:(p.Code.length:Int) ≤ 40:=by
  unfold progB at hp
  simp only [Zne,Znm] at hp
  omega
 have hin:=Zdc hp
 have e1:w64 (s.Pc + 1) = s.Pc + 1:=Zq (by have:=hs.pc.1; omega) (by omega)
 have e2:w64 (s.In + 1) = s.In + 1:=Zq (by have:=hs.inn; omega) (by have:=hs.inn; omega)
 have hr:∀ k:Int,0 ≤ k ∧ k < 4 → get? s.Regs k = some (rg s.Regs k) ∧ fine (rg s.Regs k):=fun k hk=>⟨Zcg hk.1 (by omega),(Zc0 hs.rf hk.1 (by omega)).1⟩
 have hput:∀ t:D.Term,0 ≤ i.A ∧ i.A < 4 → XP s.Regs i.A t = some (s.Regs.set i.A.toNat t):=fun t ha=>put_eq (by omega) ha.1 (by omega)
 have hop:=hi.op
 have hc:i.Op = 1 ∨ i.Op = 2 ∨ i.Op = 3 ∨ i.Op = 4 ∨ i.Op = 5 ∨ i.Op = 6 ∨ i.Op = 7 ∨ i.Op = 8 ∨ i.Op = 9 ∨ i.Op = 10 ∨ i.Op = 11 ∨ i.Op = 12 ∨ i.Op = 13 ∨ i.Op = 14:=by omega
 have hA:=hi.a
 have hB:=hi.b
 unfold ZaF flw
 rcases hc with c | c | c | c | c | c | c | c | c | c | c | c | c | c <;> simp only [c,Int.reduceBEq,Int.reduceEq,reduceIte,Znc,e1,e2]
 ·rw [ZY (hi.v c)]
  simp only [Znb]
  rw [hput _ (hA (by omega) (by omega) (by omega) (by omega))]; rfl
 ·rw [(hr _ (hB (by omega))).1]
  simp only [Znb]
  rw [hput _ (hA (by omega) (by omega) (by omega) (by omega))]; rfl
 ·obtain ⟨a1, a2⟩ := hr _ (hA (by omega) (by omega) (by omega) (by omega))
  obtain ⟨b1,b2⟩:=hr _ (hB (by omega))
  rw [a1,b1]
  simp only [Znb]
  rw [Zlf hp (hi.c c) a2 b2]
  simp only [Znb]
  rw [hput _ (hA (by omega) (by omega) (by omega) (by omega))]; rfl
 ·obtain ⟨a1, a2⟩ := hr _ (hA (by omega) (by omega) (by omega) (by omega))
  rw [a1]
  simp only [Znb]
  rw [ZbA (sml1f a2)]
  simp only [Znb]
  rw [hput _ (hA (by omega) (by omega) (by omega) (by omega))]; rfl
 ·have hk3 : s.In ≠ p.In := fun e => by unfold stk at hk; rw [Zng ⟨c, e⟩] at hk; cases hk
  have:=Zl8 hp (k:=s.In) hs.inn.1 (by have:=hs.inn.2; omega)
  have hf:∀ {β:Type} (f:D.Term → Option β),((Yk s.In).bind fun x12=>(cat? ⟨[105]⟩ x12).bind fun x13=>(XL fuel p.W x13).bind f) = f (inT p.W s.In):=fun f=>by
   rw [← Znb (inT p.W s.In) f,← this]
   simp only [Option.bind_assoc]
  rw [hf,hput _ (hA (by omega) (by omega) (by omega) (by omega))]; rfl
 ·rw [(hr _ (hA (by omega) (by omega) (by omega) (by omega))).1]
  simp only [Znb]
  rw [ZgE (by have:=hs.ol; omega)]; rfl
 ·obtain ⟨b1, b2⟩ := hr _ (hB (by omega))
  rw [b1]
  simp only [Znb]
  rw [ZjA hp hs.ml hs.mf b2 (h7 c)]
  simp only [Znb]
  rw [hput _ (hA (by omega) (by omega) (by omega) (by omega))]; rfl
 ·obtain ⟨a1, a2⟩ := hr _ (hA (by omega) (by omega) (by omega) (by omega))
  obtain ⟨b1,b2⟩:=hr _ (hB (by omega))
  rw [a1,b1]
  simp only [Znb]
  rw [ZhJ hp hs.ml hs.mf a2 b2 (h8 c)]; rfl
 ·rw [Zg5 (by have:=hs.sl; omega)]; rfl
 ·have hk0 : s.Stack.length ≠ 0 := fun e => by unfold stk at hk; rw [Znf (by omega), Znf (by omega), Znf (by omega), Zng ⟨c, e⟩] at hk; cases hk
  obtain ⟨g1,g2⟩:=Ziz (l:=s.Stack) (by omega) (by have:=hs.sl; omega)
  rw [g1,g2]
  simp only [Znb]
  rw [Zl2 (by simp; have:=hs.sl; omega)]; rfl
theorem Zit {p:D.Program} {s:D.Path} {i:D.Ins} (hp:progB p = true) (hs:okP p s) (h0:s.Code = 0) (hi:insF p.W p.Code.length i) (hpc:s.Pc < p.Code.length) (hk:stk p s i = 0)
  (h7:i.Op = 7 → (rg s.Regs i.B).Op = 0 → 0 ≤ (rg s.Regs i.B).N ∧ (rg s.Regs i.B).N < p.Mem) (h8:i.Op = 8 → (rg s.Regs i.A).Op = 0 → 0 ≤ (rg s.Regs i.A).N ∧ (rg s.Regs i.A).N < p.Mem) :
  ∃ s',ZN fuel ⟨false⟩ p s i = some (s',⟨!(flw p s i).2⟩) ∧ ((flw p s i).2 = true → s' = (flw p s i).1):=by
 have hm:=Yt hp
 have hl:=hs.rl
 have hcl:(p.Code.length:Int) ≤ 40:=by
  unfold progB at hp
  simp only [Zne,Znm] at hp
  omega
 have hin:=Zdc hp
 have e1:w64 (s.Pc + 1) = s.Pc + 1:=Zq (by have:=hs.pc.1; omega) (by omega)
 have e2:w64 (s.In + 1) = s.In + 1:=Zq (by have:=hs.inn; omega) (by have:=hs.inn; omega)
 have hr:∀ k:Int,0 ≤ k ∧ k < 4 → get? s.Regs k = some (rg s.Regs k) ∧ fine (rg s.Regs k):=fun k hk=>⟨Zcg hk.1 (by omega),(Zc0 hs.rf hk.1 (by omega)).1⟩
 have hput:∀ t:D.Term,0 ≤ i.A ∧ i.A < 4 → set? s.Regs i.A t = some (s.Regs.set i.A.toNat t):=fun t ha=>ZhR ha.1 (by omega) t
 have hop:=hi.op
 have hc:i.Op = 1 ∨ i.Op = 2 ∨ i.Op = 3 ∨ i.Op = 4 ∨ i.Op = 5 ∨ i.Op = 6 ∨ i.Op = 7 ∨ i.Op = 8 ∨ i.Op = 9 ∨ i.Op = 10 ∨ i.Op = 11 ∨ i.Op = 12 ∨ i.Op = 13 ∨ i.Op = 14:=by omega
 have hA:=hi.a
 have hB:=hi.b
 have k5:i.Op = 5 → (s.In == p.In) = false:=fun c=>by
  have:s.In ≠ p.In:=fun e=>by unfold stk at hk; rw [Zng ⟨c,e⟩] at hk; cases hk
  simpa using this
 have k6:i.Op = 6 → (len s.Out == 6) = false:=fun c=>by
  have:s.Out.length ≠ 6:=fun e=>by unfold stk at hk; rw [Znf (by omega),Zng ⟨c,e⟩] at hk; cases hk
  rw [Ze]; simp; omega
 have k11:i.Op = 11 → (len s.Stack == 3) = false:=fun c=>by
  have:s.Stack.length ≠ 3:=fun e=>by unfold stk at hk; rw [Znf (by omega),Znf (by omega),Zng ⟨c,e⟩] at hk; cases hk
  rw [Ze]; simp; omega
 have k12:i.Op = 12 → (len s.Stack == 0) = false ∧ 0 < s.Stack.length:=fun c=>by
  have:s.Stack.length ≠ 0:=fun e=>by unfold stk at hk; rw [Znf (by omega),Znf (by omega),Znf (by omega),Zng ⟨c,e⟩] at hk; cases hk
  exact ⟨by rw [Ze]; simp; intro e; exact this (by rw [e]; rfl),by omega⟩
 unfold ZN
 rw [Zbp (hs.fine hp)]
 simp only [Znb]
 unfold flw
 rcases hc with c | c | c | c | c | c | c | c | c | c | c | c | c | c
 all_goals simp only [c,Int.reduceBEq,Int.reduceEq,Int.reduceBNe,reduceIte,Znc,ZnN,Zn3,cond_true,cond_false,k5,k6,k11,k12,Znb,bne_self_eq_false,e1,e2]
 ·rw [Zj]
  simp only [Znb]
  rw [hput _ (hA (by omega) (by omega) (by omega) (by omega))]
  exact ⟨_,rfl,fun _=>by rw [h0]; rfl⟩
 ·rw [(hr _ (hB (by omega))).1]
  simp only [Znb]
  rw [hput _ (hA (by omega) (by omega) (by omega) (by omega))]
  exact ⟨_,rfl,fun _=>by rw [h0]⟩
 ·obtain ⟨a1, a2⟩ := hr _ (hA (by omega) (by omega) (by omega) (by omega))
  obtain ⟨b1,b2⟩:=hr _ (hB (by omega))
  rw [a1,b1]
  simp only [Znb]
  have q:=Zkv (p:=p) hp (hi.c c) a2 b2 (fun t m=>(set? s.Regs i.A t).bind fun x13=>(some (.inl (m.bad,s.Pc + 1,s.Mem,s.In,x13,s.Stack,s.Out)):Option ((Bool × Int × List D.Term × Int × List D.Term × List Int × List D.Term) ⊕ (D.Path × D.l06Maker))))
  have hcc:=hi.c c
  rw [Zfh (by omega) (by omega)] at q
  rw [Zfh (by omega) (by omega)]
  simp only [Znb] at q ⊢
  rw [q,hput _ (hA (by omega) (by omega) (by omega) (by omega))]
  exact ⟨_,rfl,fun _=>by rw [h0]⟩
 ·obtain ⟨a1, a2⟩ := hr _ (hA (by omega) (by omega) (by omega) (by omega))
  rw [a1]
  simp only [Znb]
  rw [X6 (sml1f a2)]
  simp only [Znb]
  rw [hput _ (hA (by omega) (by omega) (by omega) (by omega))]
  exact ⟨_,rfl,fun _=>by rw [h0]⟩
 ·have hk3 : s.In ≠ p.In := fun e => by have := k5 c; rw [e] at this; simp at this
  rw [ZlN (p:=p) hs.inn.1 (by have:=hs.inn.2; omega)]
  simp only [Znb]
  rw [hput _ (hA (by omega) (by omega) (by omega) (by omega))]
  exact ⟨_,rfl,fun _=>by rw [h0]; rfl⟩
 ·rw [(hr _ (hA (by omega) (by omega) (by omega) (by omega))).1]
  simp only [Znb]
  rw [XJ (by simp; have:=hs.ol; omega)]
  exact ⟨_,rfl,fun _=>by rw [h0]⟩
 ·obtain ⟨a1, a2⟩ := hr _ (hA (by omega) (by omega) (by omega) (by omega))
  obtain ⟨b1,b2⟩:=hr _ (hB (by omega))
  rw [a1,b1]
  simp only [Znb]
  obtain ⟨t',q1,q2⟩:=Zj6 (s:=D.Path.mk (s.Pc + 1) s.Regs s.Mem s.Stack s.In s.Out 0 s.Steps s.Cond s.Turns) (x:=rg s.Regs i.B) hp hs.ml hs.mf b2 (h7 c)
  rw [q1]
  simp only [Znb]
  rw [hput _ (hA (by omega) (by omega) (by omega) (by omega))]
  exact ⟨_,rfl,fun h=>by rw [h0,q2 h]⟩
 ·obtain ⟨a1, a2⟩ := hr _ (hA (by omega) (by omega) (by omega) (by omega))
  obtain ⟨b1,b2⟩:=hr _ (hB (by omega))
  rw [a1,b1]
  simp only [Znb]
  obtain ⟨t',q1,-,q2⟩:=Zia (s:=D.Path.mk (s.Pc + 1) s.Regs s.Mem s.Stack s.In s.Out 0 s.Steps s.Cond s.Turns) (x:=rg s.Regs i.A) (v:=rg s.Regs i.B) hp hs.ml hs.mf a2 b2 (h8 c)
  rw [q1]
  simp only [Znb]
  exact ⟨_,rfl,fun h=>by rw [h0,q2 h]⟩
 ·exact ⟨_,rfl,fun _=>by rw [h0]⟩
 ·exact ⟨_,rfl,fun _=>by rw [h0]⟩
 ·rw [XJ (by simp; have := hs.sl; omega)]
  exact ⟨_,rfl,fun _=>by rw [h0]⟩
 ·obtain ⟨g1, g2⟩ := Ziz (l := s.Stack) (k12 c).2 (by have := hs.sl; omega)
  rw [g1,g2]
  exact ⟨_,rfl,fun _=>by rw [h0]⟩
 ·exact ⟨_,rfl,fun _=>by rw [h0]⟩
 ·exact ⟨_,rfl,fun _=>rfl⟩
theorem Zlt {p:D.Program} {s:D.Path} {i:D.Ins} (hp:progB p = true) (hs:okP p s) (hk:stk p s i ≠ 0):ZN fuel ⟨false⟩ p s i = some ({ s with Code:=stk p s i },⟨false⟩):=by
 unfold ZN
 rw [Zbp (hs.fine hp)]
 simp only [Znb]
 unfold stk at hk ⊢
 by_cases c5:i.Op = 5 ∧ s.In = p.In
 ·simp only [c5,and_self,Znr,Int.reduceBEq,Zox,BEq.rfl,Znb,Int.reduceBNe]
 ·rw [Znf c5] at hk ⊢
  have d5:((i.Op == 5) && (s.In == p.In)) = false:=by simpa using c5
  by_cases c6:i.Op = 6 ∧ s.Out.length = 6
  ·have : len s.Out = 6 := by rw [Ze]; omega
   simp only [d5,c6,this,and_self,Znr,Int.reduceBEq,Zox,Znc,Znl,ZnN,Znb,Int.reduceBNe]
  ·rw [Znf c6] at hk ⊢
   have d6:((i.Op == 6) && (len s.Out == 6)) = false:=by
    rw [Ze]; simp; intro e h; exact c6 ⟨e,by omega⟩
   by_cases c11:i.Op = 11 ∧ s.Stack.length = 3
   ·have : len s.Stack = 3 := by rw [Ze]; omega
    simp only [d5,d6,c11,this,and_self,Znr,Int.reduceBEq,Zox,Znc,Znl,ZnN,Znb,Int.reduceBNe]
   ·rw [Znf c11] at hk ⊢
    have d11:((i.Op == 11) && (len s.Stack == 3)) = false:=by
     rw [Ze]; simp; intro e h; exact c11 ⟨e,by omega⟩
    by_cases c12:i.Op = 12 ∧ s.Stack.length = 0
    ·have : len s.Stack = 0 := by rw [Ze]; omega
     simp only [d5,d6,d11,c12,this,and_self,Znr,Int.reduceBEq,Zox,Znc,Znl,ZnN,Znb,Int.reduceBNe]
    ·rw [Znf c12] at hk; exact absurd rfl hk
theorem Zig {p:D.Program} {s:D.Path} {i:D.Ins} (hs:okP p s):ZbJ p s i = some (stk p s i):=by
 have h1:=hs.inn.2
 have h2:=hs.ol
 have h3:=hs.sl
 unfold ZbJ stk
 by_cases c5:i.Op = 5 ∧ s.In = p.In
 ·rw [Zng c5,Zng (by simp; omega)]
 ·rw [Znf c5, Znf (by simp; omega)]
  by_cases c6:i.Op = 6 ∧ s.Out.length = 6
  ·rw [Zng c6,Zng (by rw [Ze]; simp; omega)]
  ·rw [Znf c6, Znf (by rw [Ze]; simp; omega)]
   by_cases c11:i.Op = 11 ∧ s.Stack.length = 3
   ·rw [Zng c11,Zng (by rw [Ze]; simp; omega)]
   ·rw [Znf c11, Znf (by rw [Ze]; simp; omega)]
    by_cases c12:i.Op = 12 ∧ s.Stack.length = 0
    ·rw [Zng c12,Zng (by rw [Ze,c12.2]; simp [c12.1])]
    ·rw [Znf c12,Znf (by rw [Ze]; simp only [Zne,ZnC]; omega)]
theorem Zmu {w v:Int} (h:wordB w v = true):fine (kT w v) ∧ (kT w v).W = w:=⟨ZbX h,rfl⟩
theorem Zdk {p:D.Program} {s:D.Path} (hs:okP p s) (hpc:s.Pc < p.Code.length) {k:Nat} {t:D.Term} (ht:fine t ∧ t.W = p.W):okP p { s with Pc:=s.Pc + 1,Regs:=s.Regs.set k t }:=
 ⟨⟨by have:=hs.pc.1; show 0 ≤ s.Pc + 1; omega,by show s.Pc + 1 ≤ _; rw [Ze]; omega⟩,by show (s.Regs.set k t).length = 4; rw [Zpk,hs.rl],Zlb hs.rf ht,hs.ml,hs.mf,hs.sl,hs.sp,hs.inn,hs.ol,hs.of,hs.cd,hs.st,hs.cl,hs.cf,hs.tl⟩
theorem ZgI {p:D.Program} {s:D.Path} {i:D.Ins} (hp:progB p = true) (hs:okP p s) (hi:insF p.W p.Code.length i) (hpc:s.Pc < p.Code.length) (hk:stk p s i = 0)
  (h7:i.Op = 7 → (rg s.Regs i.B).Op = 0 → 0 ≤ (rg s.Regs i.B).N ∧ (rg s.Regs i.B).N < p.Mem) (hok:(flw p s i).2 = true):okP p (flw p s i).1:=by
 have hop:=hi.op
 have hl:=hs.rl
 have hr:∀ k:Int,0 ≤ k ∧ k < 4 → fine (rg s.Regs k) ∧ (rg s.Regs k).W = p.W:=fun k hk=>Zc0 hs.rf hk.1 (by omega)
 have hc:i.Op = 1 ∨ i.Op = 2 ∨ i.Op = 3 ∨ i.Op = 4 ∨ i.Op = 5 ∨ i.Op = 6 ∨ i.Op = 7 ∨ i.Op = 8 ∨ i.Op = 9 ∨ i.Op = 10 ∨ i.Op = 11 ∨ i.Op = 12 ∨ i.Op = 13 ∨ i.Op = 14:=by omega
 have hA:=hi.a
 have hB:=hi.b
 have hT:=hi.t
 have hn:0 ≤ s.Pc + 1 ∧ s.Pc + 1 ≤ len p.Code:=⟨by have:=hs.pc.1; omega,by rw [Ze]; omega⟩
 unfold flw at hok ⊢
 rcases hc with c | c | c | c | c | c | c | c | c | c | c | c | c | c <;> simp only [c,Int.reduceEq,reduceIte] at hok ⊢
 ·exact Zdk hs hpc (Zmu (hi.v c))
 ·exact Zdk hs hpc (hr _ (hB (by omega)))
 ·exact Zdk hs hpc (Zk7 hok)
 ·exact Zdk hs hpc (YT hok)
 ·have h5 : s.In ≠ p.In := fun e => by unfold stk at hk; rw [Zng ⟨c, e⟩] at hk; cases hk
  have:=Zdk hs hpc (k:=i.A.toNat) (Zlx hp (k:=s.In))
  exact ⟨this.pc,this.rl,this.rf,this.ml,this.mf,this.sl,this.sp,⟨by have:=hs.inn.1; show 0 ≤ s.In + 1; omega,by have:=hs.inn.2; show s.In + 1 ≤ p.In; omega⟩,this.ol,this.of,this.cd,this.st,this.cl,this.cf,this.tl⟩
 ·have h6 : s.Out.length ≠ 6 := fun e => by unfold stk at hk; rw [Znf (by omega), Zng ⟨c, e⟩] at hk; cases hk
  exact ⟨hn,hs.rl,hs.rf,hs.ml,hs.mf,hs.sl,hs.sp,hs.inn,by have:=hs.ol; show (s.Out ++ _).length ≤ 6; rw [Znz]; simp; omega,ZkP hs.of (hr _ (hA (by omega) (by omega) (by omega) (by omega))),hs.cd,hs.st,hs.cl,hs.cf,hs.tl⟩
 ·exact Zdk hs hpc (Zj8 hp hs.ml hs.mf (h7 c) hok)
 ·obtain ⟨q1, q2⟩ := ZhF (p := p) (s := s) hs.mf (hr _ (hB (by omega))) hok
  exact ⟨hn,hs.rl,hs.rf,by show ((store _ _ _ _).1.length:Int) = _; rw [q2]; exact hs.ml,q1,hs.sl,hs.sp,hs.inn,hs.ol,hs.of,hs.cd,hs.st,hs.cl,hs.cf,hs.tl⟩
 ·exact ⟨by rw [Ze]; exact hT (by omega),hs.rl,hs.rf,hs.ml,hs.mf,hs.sl,hs.sp,hs.inn,hs.ol,hs.of,hs.cd,hs.st,hs.cl,hs.cf,hs.tl⟩
 ·exact ⟨hn,hs.rl,hs.rf,hs.ml,hs.mf,hs.sl,hs.sp,hs.inn,hs.ol,hs.of,hs.cd,hs.st,hs.cl,hs.cf,hs.tl⟩
 ·have h11 : s.Stack.length ≠ 3 := fun e => by unfold stk at hk; rw [Znf (by omega), Znf (by omega), Zng ⟨c, e⟩] at hk; cases hk
  refine ⟨by rw [Ze]; exact hT (by omega),hs.rl,hs.rf,hs.ml,hs.mf,by have:=hs.sl; show (s.Stack ++ _).length ≤ 3; rw [Znz]; simp; omega,fun x hx=>?_,hs.inn,hs.ol,hs.of,hs.cd,hs.st,hs.cl,hs.cf,hs.tl⟩
  rcases ZnB.1 hx with hx | hx
  ·exact hs.sp x hx
  ·rw [Zn0] at hx; subst hx; exact hn
 ·have h12 : s.Stack.length ≠ 0 := fun e => by unfold stk at hk; rw [Znf (by omega), Znf (by omega), Znf (by omega), Zng ⟨c, e⟩] at hk; cases hk
  refine ⟨?_,hs.rl,hs.rf,hs.ml,hs.mf,by have:=hs.sl; show (s.Stack.take _).length ≤ 3; rw [ZnG]; omega,fun x hx=>hs.sp x (List.mem_of_mem_take hx),hs.inn,hs.ol,hs.of,hs.cd,hs.st,hs.cl,hs.cf,hs.tl⟩
  rw [Znh (by omega)]
  exact hs.sp _ (Zo5 _)
 ·exact ⟨hn,hs.rl,hs.rf,hs.ml,hs.mf,hs.sl,hs.sp,hs.inn,hs.ol,hs.of,hs.cd,hs.st,hs.cl,hs.cf,hs.tl⟩
 ·exact ⟨hs.pc,hs.rl,hs.rf,hs.ml,hs.mf,hs.sl,hs.sp,hs.inn,hs.ol,hs.of,by show (0:Int) ≤ 1 ∧ (1:Int) ≤ 9; omega,hs.st,hs.cl,hs.cf,hs.tl⟩
theorem ZdW {p:D.Program} {s:D.Path} {i:D.Ins} {c:List D.Term} {t:List Int}:flw p { s with Cond:=c,Turns:=t } i = ({ (flw p s i).1 with Cond:=c,Turns:=t },(flw p s i).2):=by
 unfold flw
 by_cases c1:i.Op = 1
 ·simp only [c1,reduceIte]
 by_cases c2:i.Op = 2
 ·simp only [c2,Int.reduceEq,reduceIte]
 by_cases c3:i.Op = 3
 ·simp only [c3,Int.reduceEq,reduceIte]
 by_cases c4:i.Op = 4
 ·simp only [c4,Int.reduceEq,reduceIte]
 by_cases c5:i.Op = 5
 ·simp only [c5,Int.reduceEq,reduceIte]
 by_cases c6:i.Op = 6
 ·simp only [c6,Int.reduceEq,reduceIte]
 by_cases c7:i.Op = 7
 ·simp only [c7,Int.reduceEq,reduceIte]
 by_cases c8:i.Op = 8
 ·simp only [c8,Int.reduceEq,reduceIte]
 by_cases c9:i.Op = 9
 ·simp only [c9,Int.reduceEq,reduceIte]
 by_cases c11:i.Op = 11
 ·simp only [c11,Int.reduceEq,reduceIte]
 by_cases c12:i.Op = 12
 ·simp only [c12,Int.reduceEq,reduceIte]
 by_cases c14:i.Op = 14
 ·simp only [c14,Int.reduceEq,reduceIte]
 simp only [c1,c2,c3,c4,c5,c6,c7,c8,c9,c11,c12,c14,reduceIte]
def nmd (s:D.Path) (i:D.Ins):D.Path:=
 if i.Op = 10 then { s with Pc:=i.B } else if i.Op = 13 then { s with Code:=8 } else if i.Op = 3 then { s with Code:=6 } else { s with Code:=5 }
theorem Zfs (s:D.Path) (i:D.Ins):Zbb s i = some (nmd s i):=by
 unfold Zbb nmd
 by_cases c1:i.Op = 10
 ·simp [c1]
 by_cases c2:i.Op = 13
 ·simp [c2]
 by_cases c3:i.Op = 3
 ·simp [c3]
 simp [c1,c2,c3]
theorem Zhp (s:D.Path) (i:D.Ins):XF s i = some (nmd s i):=by
 unfold XF nmd
 by_cases c1:i.Op = 10
 ·simp [c1]
 by_cases c2:i.Op = 13
 ·simp [c2]
 by_cases c3:i.Op = 3
 ·simp [c3]
 simp [c1,c2,c3]
theorem Zb9 {p:D.Program} {s:D.Path} (hs:okP p s) {k:Int} (hk:0 ≤ k ∧ k ≤ 9):okP p { s with Code:=k }:=⟨hs.pc,hs.rl,hs.rf,hs.ml,hs.mf,hs.sl,hs.sp,hs.inn,hs.ol,hs.of,hk,hs.st,hs.cl,hs.cf,hs.tl⟩
theorem Zkq {p:D.Program} {s:D.Path} {i:D.Ins} (hs:okP p s) (hi:insF p.W p.Code.length i):okP p (nmd s i):=by
 unfold nmd
 split
 ·rename_i c
  exact ⟨by rw [Ze]; exact hi.t (by omega),hs.rl,hs.rf,hs.ml,hs.mf,hs.sl,hs.sp,hs.inn,hs.ol,hs.of,hs.cd,hs.st,hs.cl,hs.cf,hs.tl⟩
 ·split
  ·exact Zb9 hs (by omega)
  ·split
   ·exact Zb9 hs (by omega)
   ·exact Zb9 hs (by omega)
theorem Zg3 {p:D.Program} {s:D.Path} (hs:okP p s) {t:D.Term} {k:Int} (ht:fine t ∧ t.W = 1) {c:List D.Term} {l:List Int} (hc:fw 1 c) (hcl:c.length < 60) (hl:l.length < 60):okP p { s with Cond:=c ++ [t],Turns:=l ++ [k] }:=
 ⟨hs.pc,hs.rl,hs.rf,hs.ml,hs.mf,hs.sl,hs.sp,hs.inn,hs.ol,hs.of,hs.cd,hs.st,by show (c ++ [t]).length ≤ 60; rw [Znz]; simp; omega,ZkP hc ht,by show (l ++ [k]).length ≤ 60; rw [Znz]; simp; omega⟩
theorem ZhM {p:D.Program} {rs:List D.Term} {i:D.Ins} (h:(qst p rs i).2.1 = false):(qst p rs i).1 = t0:=by
 unfold qst at h ⊢
 by_cases c1:i.Op = 10 ∨ i.Op = 13
 ·rw [Zng c1] at h; cases h
 rw [Znf c1] at h ⊢
 by_cases c2:i.Op = 3
 ·rw [Zng c2] at h ⊢
  by_cases c3:i.C = 6 ∨ i.C = 7
  ·rw [Zng c3] at h; cases h
  ·rw [Znf c3]
 rw [Znf c2] at h ⊢
 have hq:∀ x:D.Term,(qad p x).2.1 = true:=fun x=>by unfold qad; split <;> rfl
 by_cases c4:i.Op = 7
 ·rw [Zng c4,hq] at h; cases h
 rw [Znf c4] at h ⊢
 by_cases c5:i.Op = 8
 ·rw [Zng c5,hq] at h; cases h
 rw [Znf c5]
theorem ZdB {p:D.Program} {rs:List D.Term} {i:D.Ins} (h:(qst p rs i).2.1 = true) (hok:(qst p rs i).2.2 = true):fine (qst p rs i).1 ∧ (qst p rs i).1.W = 1:=by
 have hz:∀ x:D.Term,(qze p x).2.2 = true → fine (qze p x).1 ∧ (qze p x).1.W = 1:=fun x h=>YT h
 have hq:∀ x:D.Term,(qad p x).2.2 = true → fine (qad p x).1 ∧ (qad p x).1.W = 1:=fun x h=>by
  unfold qad at h ⊢
  split at h
  ·rename_i c; rw [Zng c]; exact YT h
  ·cases h
 unfold qst at h hok ⊢
 by_cases c1:i.Op = 10 ∨ i.Op = 13
 ·rw [Zng c1] at h hok ⊢; exact hz _ hok
 rw [Znf c1] at h hok ⊢
 by_cases c2:i.Op = 3
 ·rw [Zng c2] at h hok ⊢
  by_cases c3:i.C = 6 ∨ i.C = 7
  ·rw [Zng c3] at h hok ⊢; exact hz _ hok
  ·rw [Znf c3] at h; cases h
 rw [Znf c2] at h hok ⊢
 by_cases c4:i.Op = 7
 ·rw [Zng c4] at h hok ⊢; exact hq _ hok
 rw [Znf c4] at h hok ⊢
 by_cases c5:i.Op = 8
 ·rw [Zng c5] at h hok ⊢; exact hq _ hok
 rw [Znf c5] at h; cases h
noncomputable def dvd (p:D.Program) (s:D.Path) (i:D.Ins):List D.Path:=
 if (qst p s.Regs i).2.2 = false then [{ s with Code:=9 }]
 else if (qst p s.Regs i).2.1 = true ∧ (qst p s.Regs i).1.Op = 0 ∧ (qst p s.Regs i).1.N = 1 then [nmd s i]
 else if (flw p s i).2 = false then [{ s with Code:=9 }]
 else if (qst p s.Regs i).2.1 = false ∨ (qst p s.Regs i).1.Op = 0 then [(flw p s i).1]
 else if (mkT 1 1 0 [(qst p s.Regs i).1]).2 = false ∨ s.Cond.length = 60 ∨ s.Turns.length = 60 then [{ s with Code:=9 }]
 else [{ nmd s i with Cond:=s.Cond ++ [(qst p s.Regs i).1],Turns:=s.Turns ++ [1] },{ (flw p s i).1 with Cond:=s.Cond ++ [(mkT 1 1 0 [(qst p s.Regs i).1]).1],Turns:=s.Turns ++ [0] }]
theorem Zhw {p:D.Program} {s:D.Path} {i:D.Ins} (hp:progB p = true) (hs:okP p s) (hi:insF p.W p.Code.length i) (hpc:s.Pc < p.Code.length) (hk:stk p s i = 0):Zbx fuel p s i = some (dvd p s i):=by
 unfold Zbx dvd
 rw [ZfM hp hs hi]
 simp only [Znb]
 by_cases q1:(qst p s.Regs i).2.2 = true
 ·have hfl:¬((qst p s.Regs i).2.1 = true ∧ (qst p s.Regs i).1.Op = 0 ∧ (qst p s.Regs i).1.N = 1) → ZaF fuel p s i = some (flw p s i):=fun hn=>by
   have:=Zc9 hp hs hi q1 (fun e=>by
    cases ha:(qst p s.Regs i).2.1
    ·rw [ZhM ha] at e; exact absurd e.2 (by decide)
    ·exact hn ⟨ha,e⟩)
   exact ZgO hp hs hi hpc hk this.1 this.2
  rw [Znf (show ¬(!(qst p s.Regs i).2.2) = true by rw [q1]; simp),Znf (show ¬(qst p s.Regs i).2.2 = false by rw [q1]; simp)]
  by_cases q2:(qst p s.Regs i).2.1 = true ∧ (qst p s.Regs i).1.Op = 0 ∧ (qst p s.Regs i).1.N = 1
  ·rw [Zng q2, Zng q2.1]
   unfold Zp
   simp only [Znb]
   rw [Zng (by simp [q2]),Zfs]; rfl
  ·rw [Znf q2]
   have e:∀ {β:Type} (x y:Option β),((if (qst p s.Regs i).2.1 = true then Zp (qst p s.Regs i).1 1 else some default).bind fun x2=>if ((qst p s.Regs i).2.1 && x2) = true then x else y) = y:=fun x y=>by
    cases ha:(qst p s.Regs i).2.1
    ·rfl
    ·unfold Zp
     simp only [Znr,Znb]
     rw [Znf (by simp; intro h1 h2; exact q2 ⟨ha,h1,h2⟩)]
   rw [e,hfl q2]
   simp only [Znb]
   by_cases q3:(flw p s i).2 = true
   ·rw [Znf (show ¬(!(flw p s i).2) = true by rw [q3]; simp), Znf (show ¬(flw p s i).2 = false by rw [q3]; simp)]
    cases ha:(qst p s.Regs i).2.1
    ·simp
    ·obtain ⟨f1, f2⟩ := ZdB ha q1
     unfold Zb
     simp only [Znn,Znc,Znl,Znb,Zn9,false_or]
     by_cases q4:(qst p s.Regs i).1.Op = 0
     ·simp [q4]
     ·rw [Znf (by simpa using q4), Znf (by simp; exact q4), ZbA (sml1f f1)]
      simp only [Znb]
      have hcl:=hs.cl
      have htl:=hs.tl
      by_cases q5:(mkT 1 1 0 [(qst p s.Regs i).1]).2 = false ∨ s.Cond.length = 60 ∨ s.Turns.length = 60
      ·rw [Zng q5,Zng (by rw [Ze,Ze]; simp; rcases q5 with h | h | h <;> simp [h])]
      ·rw [Znf q5,Znf (by rw [Ze,Ze]; simp at q5 ⊢; exact ⟨⟨q5.1,by omega⟩,by omega⟩),Zfs,ZgE (by omega),ZgE (by omega),Zg5 (by omega),Zg5 (by omega)]; rfl
   ·rw [Zng (by simpa using q3),Zng (by simpa using q3)]
 ·rw [Zng (by simpa using q1),Zng (by simpa using q1)]
def insAt (p:D.Program) (k:Int):D.Ins:=(p.Code[k.toNat]?).getD ⟨0,0,0,0⟩
theorem Zee {p:D.Program} {k:Int} (h0:0 ≤ k) (h1:k < p.Code.length):get? p.Code k = some (insAt p k) ∧ insAt p k ∈ p.Code:=by
 obtain ⟨j,rfl⟩ : ∃ j:Nat,k = (j:Int):=⟨k.toNat,by omega⟩
 unfold insAt
 rw [get?_nat,Zpe,Znh (by omega)]
 exact ⟨rfl,Zo5 _⟩
theorem Zf7 {p:D.Program} {s:D.Path} (hs:okP p s) (h:s.Steps < 400):okP p { s with Steps:=s.Steps + 1 }:=⟨hs.pc,hs.rl,hs.rf,hs.ml,hs.mf,hs.sl,hs.sp,hs.inn,hs.ol,hs.of,hs.cd,by have:=hs.st; show 0 ≤ s.Steps + 1 ∧ s.Steps + 1 ≤ 400; omega,hs.cl,hs.cf,hs.tl⟩
noncomputable def stp1 (p:D.Program) (s:D.Path):List D.Path:=
 if s.Code ≠ 0 ∨ s.Steps = 400 then []
 else if s.Pc = len p.Code then [{ s with Code:=2 }]
 else if stk p { s with Steps:=s.Steps + 1 } (insAt p s.Pc) ≠ 0 then [{ s with Steps:=s.Steps + 1,Code:=stk p { s with Steps:=s.Steps + 1 } (insAt p s.Pc) }]
 else dvd p { s with Steps:=s.Steps + 1 } (insAt p s.Pc)
theorem Zj5 {p:D.Program} {s:D.Path} (hp:progB p = true) (hs:okP p s):Zal fuel p s = some (stp1 p s):=by
 have hst:=hs.st
 have hpc:=hs.pc
 rw [Ze] at hpc
 unfold Zal stp1
 by_cases c1:s.Code ≠ 0 ∨ s.Steps = 400
 ·rw [Zng c1,Zng (by simp; rcases c1 with h | h; exact .inl h; right; omega)]
 ·have d1 : s.Code = 0 ∧ s.Steps < 400 := by omega
  rw [Znf c1,Znf (by simp; omega)]
  by_cases c2:s.Pc = len p.Code
  ·rw [Zng c2,Zng (by simpa using c2)]
  ·rw [Znf c2, Znf (by simpa using c2)]
   rw [Ze] at c2
   obtain ⟨g1,g2⟩:=Zee (p:=p) (k:=s.Pc) hpc.1 (by omega)
   have hs1:=Zf7 hs d1.2
   rw [g1]
   simp only [Znb]
   rw [Zq (by omega) (by omega),Zig hs1]
   simp only [Znb]
   by_cases c3:stk p { s with Steps:=s.Steps + 1 } (insAt p s.Pc) = 0
   ·rw [Znf (by rw [c3]; simp),Znf (by rw [c3]; simp),Zhw hp hs1 (Zfy hp g2) (by show s.Pc < _; omega) c3]; rfl
   ·rw [Zng (by simpa using c3),Zng c3]
theorem ZgY {s:D.Path} {i:D.Ins} {c:List D.Term} {t:List Int}:nmd { s with Cond:=c,Turns:=t } i = { nmd s i with Cond:=c,Turns:=t }:=by
 unfold nmd
 by_cases c1:i.Op = 10
 ·simp only [c1,reduceIte]
 by_cases c2:i.Op = 13
 ·simp only [c2,Int.reduceEq,reduceIte]
 by_cases c3:i.Op = 3
 ·simp only [c3,Int.reduceEq,reduceIte]
 simp only [c1,c2,c3,reduceIte]
theorem Zlu {p:D.Program} {s:D.Path} {i:D.Ins} (h:stk p s i ≠ 0):qst p s.Regs i = (t0,false,true):=by
 have:i.Op = 5 ∨ i.Op = 6 ∨ i.Op = 11 ∨ i.Op = 12:=by
  unfold stk at h
  by_cases a:i.Op = 5 ∧ s.In = p.In
  ·exact .inl a.1
  rw [Znf a] at h
  by_cases b:i.Op = 6 ∧ s.Out.length = 6
  ·exact .inr (.inl b.1)
  rw [Znf b] at h
  by_cases c:i.Op = 11 ∧ s.Stack.length = 3
  ·exact .inr (.inr (.inl c.1))
  rw [Znf c] at h
  by_cases d:i.Op = 12 ∧ s.Stack.length = 0
  ·exact .inr (.inr (.inr d.1))
  rw [Znf d] at h
  exact absurd rfl h
 unfold qst
 rw [Znf (by omega),Znf (by omega),Znf (by omega),Znf (by omega)]
theorem Zgf {p:D.Program} {s:D.Path} {t:D.Term} {k:Int} (hp:progB p = true) (hs:okP p s):Xt fuel s t k = some { s with Cond:=s.Cond ++ [t],Turns:=s.Turns ++ [k] }:=by
 unfold Xt
 rw [Zbp (hs.fine hp)]
 simp only [Znb]
 rw [XJ (by simp; have:=hs.cl; omega)]
 simp only [Znb]
 rw [XJ (by simp; have:=hs.tl; omega)]; rfl
theorem ZiV {q:D.Term} (hf:fine q ∧ q.W = 1) (h0:q.Op = 0):q.N = 0 ∨ q.N = 1:=by
 obtain ⟨e,hv⟩:=YZ hf.1.1 (by simp [h0])
 rw [hf.2,ZZ (by omega) (by omega)] at hv
 have:q.N < 2:=by simpa using hv.2
 omega
theorem Zls {p:D.Program} {u:D.Path} {i:D.Ins} (hp:progB p = true) (hs:okP p u) (h0:u.Code = 0) (hi:insF p.W p.Code.length i) (hpc:u.Pc < p.Code.length) :
    ((Yn fuel u).bind fun x2=>
   (Y7 fuel (D.l06Maker.mk false) p u i).bind fun x4=>
   if x4.2.2.bad then
    some ([(D.Path.mk x2.Pc x2.Regs x2.Mem x2.Stack x2.In x2.Out 9 x2.Steps x2.Cond x2.Turns)]:List D.Path)
   else
    (if (!x4.2.1) then some default else (Zr x4.1 0)).bind fun x5=>
    if ((!x4.2.1) || x5) then
     (ZN fuel x4.2.2 p u i).bind fun x6=>
     if x6.2.bad then
      some ([(D.Path.mk x2.Pc x2.Regs x2.Mem x2.Stack x2.In x2.Out 9 x2.Steps x2.Cond x2.Turns)]:List D.Path)
     else
      (Yn fuel x6.1).bind fun x7=>
      some ([x7]:List D.Path)
    else
     (Zr x4.1 1).bind fun x8=>
     if x8 then
      (XF u i).bind fun x9=>
      some ([x9]:List D.Path)
     else
      (Zg fuel x4.2.2 1 1 ([x4.1]:List D.Term)).bind fun x10=>
      if ((x10.2.bad || ((len u.Cond) == 60)) || ((len u.Turns) == 60)) then
       some ([(D.Path.mk x2.Pc x2.Regs x2.Mem x2.Stack x2.In x2.Out 9 x2.Steps x2.Cond x2.Turns)]:List D.Path)
      else
       (Xt fuel u x10.1 0).bind fun x11=>
       (ZN fuel x10.2 p x11 i).bind fun x12=>
       if x12.2.bad then
        some ([(D.Path.mk x2.Pc x2.Regs x2.Mem x2.Stack x2.In x2.Out 9 x2.Steps x2.Cond x2.Turns)]:List D.Path)
       else
        (Xt fuel u x4.1 1).bind fun x13=>
        (XF x13 i).bind fun x14=>
        (Yn fuel x12.1).bind fun x15=>
        some ([x14,x15]:List D.Path)) = some (if stk p u i ≠ 0 then [{ u with Code:=stk p u i }] else dvd p u i):=by
  rw [Zbp (hs.fine hp)]
  obtain ⟨t',h1,h2⟩:=ZfQ hp hs hi
  rw [h1]
  simp only [Znb]
  by_cases hk:stk p u i = 0
  · rw [Znf (show ¬(stk p u i ≠ 0) from fun h => h hk)]
    unfold dvd
    by_cases q1:(qst p u.Regs i).2.2 = true
    · have ht := h2 q1
      subst ht
      rw [Znf (show ¬(!(qst p u.Regs i).2.2) = true by rw [q1]; simp),Znf (show ¬(qst p u.Regs i).2.2 = false by rw [q1]; simp),q1]
      have hfc:¬((qst p u.Regs i).2.1 = true ∧ (qst p u.Regs i).1.Op = 0 ∧ (qst p u.Regs i).1.N = 1) → _:=fun hn=>Zc9 hp hs hi q1 (fun e=>by
        cases ha:(qst p u.Regs i).2.1
        · rw [ZhM ha] at e; exact absurd e.2 (by decide)
        · exact hn ⟨ha,e⟩)
      have hno:¬((qst p u.Regs i).2.1 = true ∧ (qst p u.Regs i).1.Op = 0 ∧ (qst p u.Regs i).1.N = 1) → ((ZN fuel ⟨!true⟩ p u i).bind fun x6=>
          if x6.2.bad then some ([(D.Path.mk u.Pc u.Regs u.Mem u.Stack u.In u.Out 9 u.Steps u.Cond u.Turns)]:List D.Path) else (Yn fuel x6.1).bind fun x7=>some ([x7]:List D.Path)) = some (if (flw p u i).2 = false then [{ u with Code:=9 }] else [(flw p u i).1]):=fun hn=>by
        obtain ⟨f7,f8⟩:=hfc hn
        obtain ⟨s',e1,e2⟩:=Zit hp hs h0 hi hpc hk f7 f8
        rw [show (!true) = false from rfl,e1]
        simp only [Znb]
        cases hb:(flw p u i).2
        · simp
        · have := e2 hb
          subst this
          simp only [Znn,Znc,Znl]
          rw [Zbp ((ZgI hp hs hi hpc hk f7 hb).fine hp)]; simp
      cases ha:(qst p u.Regs i).2.1
      · rw [ha] at hno
        simp only [ZnW,Znr,Znb,Zpb]
        rw [hno (by simp)]
        cases (flw p u i).2 <;> simp
      · have hf := ZdB ha q1
        rw [ha] at hno hfc
        simp only [Znn,Znc,Znl,Zn9,Zr,Znb]
        by_cases z:(qst p u.Regs i).1.Op = 0
        · rcases ZiV hf z with n0 | n1
          · have r1 : ¬(true = true ∧ (qst p u.Regs i).1.Op = 0 ∧ (qst p u.Regs i).1.N = 1) := by rw [n0]; simp
            rw [Zng (show ((qst p u.Regs i).1.Op == 0 && (qst p u.Regs i).1.N == 0) = true by simp [z,n0]),Znf (fun h=>r1 ⟨rfl,h.2⟩ : ¬(True ∧ (qst p u.Regs i).1.Op = 0 ∧ (qst p u.Regs i).1.N = 1))]
            have:=hno r1
            simp only [Znn] at this
            rw [this]
            cases (flw p u i).2 <;> simp [z]
          · rw [Znf (show ¬((qst p u.Regs i).1.Op == 0 && (qst p u.Regs i).1.N == 0) = true by simp [z,n1]),Zng (show ((qst p u.Regs i).1.Op == 0 && (qst p u.Regs i).1.N == 1) = true by simp [z,n1]),Zng (⟨trivial,z,n1⟩ : True ∧ (qst p u.Regs i).1.Op = 0 ∧ (qst p u.Regs i).1.N = 1),Zhp]; rfl
        · have r1 : ¬(true = true ∧ (qst p u.Regs i).1.Op = 0 ∧ (qst p u.Regs i).1.N = 1) := fun h => z h.2.1
          rw [Znf (show ¬((qst p u.Regs i).1.Op == 0 && (qst p u.Regs i).1.N == 0) = true by simp [z]),Znf (show ¬((qst p u.Regs i).1.Op == 0 && (qst p u.Regs i).1.N == 1) = true by simp [z]),Znf (fun h=>r1 ⟨rfl,h.2⟩ : ¬(True ∧ (qst p u.Regs i).1.Op = 0 ∧ (qst p u.Regs i).1.N = 1)),X6 (sml1f hf.1)]
          simp only [Znb,Zn9]
          have hcl:=hs.cl
          have htl:=hs.tl
          by_cases q5:(mkT 1 1 0 [(qst p u.Regs i).1]).2 = false ∨ u.Cond.length = 60 ∨ u.Turns.length = 60
          · rw [Zng (show (!(mkT 1 1 0 [(qst p u.Regs i).1]).2 || len u.Cond == 60 || len u.Turns == 60) = true by rw [Ze, Ze]; simp; rcases q5 with h | h | h <;> simp [h])]
            cases (flw p u i).2
            · simp
            · simp [z,q5]
          · have q6 : (mkT 1 1 0 [(qst p u.Regs i).1]).2 = true ∧ u.Cond.length ≠ 60 ∧ u.Turns.length ≠ 60 := by simpa using q5
            rw [Znf (show ¬(!(mkT 1 1 0 [(qst p u.Regs i).1]).2 || len u.Cond == 60 || len u.Turns == 60) = true by rw [Ze,Ze,q6.1]; simp; omega),Zgf hp hs]
            simp only [Znb]
            obtain ⟨f7,f8⟩:=hfc r1
            have hs':okP p { u with Cond:=u.Cond ++ [(mkT 1 1 0 [(qst p u.Regs i).1]).1],Turns:=u.Turns ++ [0] }:=Zg3 hs (YT q6.1) hs.cf (by omega) (by omega)
            obtain ⟨s',e1,e2⟩:=Zit (s:={ u with Cond:=u.Cond ++ [(mkT 1 1 0 [(qst p u.Regs i).1]).1],Turns:=u.Turns ++ [0] }) hp hs' h0 hi hpc hk f7 f8
            rw [q6.1,show (!true) = false from rfl,e1]
            simp only [Znb]
            rw [ZdW] at e2 ⊢
            cases hb:(flw p u i).2
            · simp
            · have hfo := ZgI (s := { u with Cond := u.Cond ++ [(mkT 1 1 0 [(qst p u.Regs i).1]).1], Turns := u.Turns ++ [0] }) hp hs' hi hpc hk f7 (by rw [ZdW]; exact hb)
              rw [ZdW] at hfo
              have:=e2 hb
              subst this
              simp only [Znn,Znc,Znl]
              rw [Zgf hp hs]
              simp only [Znb]
              rw [Zhp,ZgY]
              simp only [Znb]
              rw [Zbp (hfo.fine hp)]
              simp [z,q6]
    · rw [Zng (show (!(qst p u.Regs i).2.2) = true by simpa using q1),Zng (show (qst p u.Regs i).2.2 = false by simpa using q1)]
  · have hq := Zlu hk
    have h9:0 ≤ stk p u i ∧ stk p u i ≤ 9:=by
      unfold stk
      repeat' split
      all_goals omega
    rw [hq,Zng hk]
    simp only [Znn,Znc,Znl,ZnW,Znr,Znb,Zpb]
    rw [Zlt hp hs hk]
    simp only [Znb,Znc,Znl]
    rw [Zbp ((Zb9 hs h9).fine hp)]; rfl
theorem Zjm {p:D.Program} {s:D.Path} (hp:progB p = true) (hs:okP p s):XI fuel p s = some (stp1 p s):=by
 have hst:=hs.st
 have hpc:=hs.pc
 rw [Ze] at hpc
 unfold XI stp1
 by_cases c1:s.Code ≠ 0 ∨ s.Steps = 400
 ·rw [Zng c1,Zng (by simpa using c1)]
 have d1:s.Code = 0 ∧ s.Steps < 400:=by omega
 rw [Znf c1,Znf (by simp; omega),Zbp (hs.fine hp)]
 simp only [Znb]
 by_cases c2:s.Pc = len p.Code
 ·rw [Zng c2,Zng (by simpa using c2)]
 rw [Znf c2,Znf (by simpa using c2)]
 rw [Ze] at c2
 obtain ⟨g1,g2⟩:=Zee (p:=p) (k:=s.Pc) hpc.1 (by omega)
 have hi:=Zfy hp g2
 have hs1:=Zf7 hs d1.2
 rw [g1,Zq (by omega) (by omega)]
 have hz:({ s with Steps:=s.Steps + 1 }:D.Path).Code = 0:=d1.1
 have:=Zls (u:={ s with Steps:=s.Steps + 1 }) hp hs1 hz hi (by show s.Pc < _; omega)
 simp only [Znb]
 refine Eq.trans ?_ (this.trans ?_)
 ·rfl
 ·split <;> rfl
theorem Zm4 {p:D.Program} {s:D.Path} {i:D.Ins} (hp:progB p = true) (hs:okP p s) (hi:insF p.W p.Code.length i) (hpc:s.Pc < p.Code.length) (hk:stk p s i = 0):∀ x ∈ dvd p s i,okP p x:=by
 intro x hx
 unfold dvd at hx
 by_cases q1:(qst p s.Regs i).2.2 = false
 ·rw [Zng q1, Zn0] at hx
  subst hx; exact Zb9 hs (by omega)
 rw [Znf q1] at hx
 have q1':(qst p s.Regs i).2.2 = true:=by simpa using q1
 by_cases q2:(qst p s.Regs i).2.1 = true ∧ (qst p s.Regs i).1.Op = 0 ∧ (qst p s.Regs i).1.N = 1
 ·rw [Zng q2, Zn0] at hx
  subst hx; exact Zkq hs hi
 rw [Znf q2] at hx
 have hfc:=Zc9 hp hs hi q1' (fun e=>by
  cases ha:(qst p s.Regs i).2.1
  ·rw [ZhM ha] at e; exact absurd e.2 (by decide)
  ·exact q2 ⟨ha,e⟩)
 by_cases q3:(flw p s i).2 = false
 ·rw [Zng q3, Zn0] at hx
  subst hx; exact Zb9 hs (by omega)
 rw [Znf q3] at hx
 have q3':(flw p s i).2 = true:=by simpa using q3
 by_cases q4:(qst p s.Regs i).2.1 = false ∨ (qst p s.Regs i).1.Op = 0
 ·rw [Zng q4, Zn0] at hx
  subst hx; exact ZgI hp hs hi hpc hk hfc.1 q3'
 rw [Znf q4] at hx
 by_cases q5:(mkT 1 1 0 [(qst p s.Regs i).1]).2 = false ∨ s.Cond.length = 60 ∨ s.Turns.length = 60
 ·rw [Zng q5, Zn0] at hx
  subst hx; exact Zb9 hs (by omega)
 rw [Znf q5] at hx
 have q6:(mkT 1 1 0 [(qst p s.Regs i).1]).2 = true ∧ s.Cond.length ≠ 60 ∧ s.Turns.length ≠ 60:=by simpa using q5
 have hcl:=hs.cl
 have htl:=hs.tl
 have ha:(qst p s.Regs i).2.1 = true:=by
  cases h:(qst p s.Regs i).2.1
  ·exact absurd (.inl h) q4
  ·rfl
 rcases ZnK.1 hx with rfl | hx
 ·exact Zg3 (Zkq hs hi) (ZdB ha q1') hs.cf (by omega) (by omega)
 ·rw [Zn0] at hx
  subst hx
  exact Zg3 (ZgI hp hs hi hpc hk hfc.1 q3') (YT q6.1) hs.cf (by omega) (by omega)
theorem ZmE {p:D.Program} {s:D.Path} (hp:progB p = true) (hs:okP p s):∀ x ∈ stp1 p s,okP p x:=by
 have hst:=hs.st
 have hpc:=hs.pc
 rw [Ze] at hpc
 intro x hx
 unfold stp1 at hx
 by_cases c1:s.Code ≠ 0 ∨ s.Steps = 400
 ·rw [Zng c1] at hx; cases hx
 rw [Znf c1] at hx
 by_cases c2:s.Pc = len p.Code
 ·rw [Zng c2, Zn0] at hx
  subst hx; exact Zb9 hs (by omega)
 rw [Znf c2] at hx
 rw [Ze] at c2
 have hs1:=Zf7 hs (by omega)
 obtain ⟨g1,g2⟩:=Zee (p:=p) (k:=s.Pc) hpc.1 (by omega)
 by_cases c3:stk p { s with Steps:=s.Steps + 1 } (insAt p s.Pc) = 0
 ·rw [Znf (fun h => h c3)] at hx
  exact Zm4 hp hs1 (Zfy hp g2) (by show s.Pc < _; omega) c3 x hx
 ·rw [Zng c3, Zn0] at hx
  subst hx
  refine Zb9 hs1 ?_
  unfold stk
  repeat' split
  all_goals omega
theorem Zgq {w b:Int} {m:Nat} (hb:b = (m:Int)) (hm:m ≤ 100):∀ (k j n:Nat),j + k = m → k < n → iterN (fun (s1:Int × (List D.Term))=>
   if (decide (s1.1 < b)) then
    (Z9 w 0).bind fun x2=>
    (app? s1.2 ([(D.Term.mk x2.Op x2.W x2.N x2.Name ([]:List D.Term))]:List D.Term)).bind fun x3=>
    some (.inl ((w64 (s1.1 + 1)),x3))
   else
    some (.inr (s1.2)):Int × List D.Term → Option ((Int × List D.Term) ⊕ List D.Term)) n ((j:Int),List.replicate j (kT w 0)) = some (List.replicate m (kT w 0)):=by
  intro k
  induction k with
  | zero =>
    intro j n hj hn
    refine Yb ?_ hn
    simp only
    rw [Znf (by simp; omega),show j = m by omega]
  | succ k ih =>
    intro j n hj hn
    obtain ⟨n,rfl⟩ : ∃ q,n = q + 1:=⟨n - 1,by omega⟩
    rw [← ih (j + 1) n (by omega) (by omega)]
    refine Yz ?_
    simp only [Zj,Znb]
    rw [Zng (by simp; omega),XJ (by simp; omega)]
    simp only [Znb]
    rw [Zq (by omega) (by omega),List.replicate_succ']; rfl
theorem Zgb {w b:Int} {m:Nat} {z:D.Term} (hw:wordB w 0 = true) (hb:b = (m:Int)) (hm:m ≤ 100):∀ (k j n:Nat),j + k = m → k < n → iterN (fun (s1:Int × (List D.Term))=>
   if (decide (s1.1 < b)) then
    (Z4 w 0).bind fun x3=>
    (set? s1.2 s1.1 (D.Term.mk x3.Op x3.W x3.N x3.Name ([]:List D.Term))).bind fun x4=>
    some (.inl ((w64 (s1.1 + 1)),x4))
   else
    some (.inr (s1.2)):Int × List D.Term → Option ((Int × List D.Term) ⊕ List D.Term)) n ((j:Int),List.replicate j (kT w 0) ++ List.replicate k z) = some (List.replicate m (kT w 0)):=by
  intro k
  induction k with
  | zero =>
    intro j n hj hn
    refine Yb ?_ hn
    simp only
    rw [Znf (by simp; omega),show j = m by omega]; simp
  | succ k ih =>
    intro j n hj hn
    obtain ⟨n,rfl⟩ : ∃ q,n = q + 1:=⟨n - 1,by omega⟩
    rw [← ih (j + 1) n (by omega) (by omega)]
    refine Yz ?_
    simp only [ZY hw,Znb]
    rw [Zng (by simp; omega),List.replicate_succ (n:=k),set_mid (by simp)]
    simp only [Znb]
    rw [Zq (by omega) (by omega),List.replicate_succ' (n:=j)]
    simp only [ZnD,Zof]; rfl
def path0 (p:D.Program):D.Path:=⟨0,List.replicate 4 (kT p.W 0),List.replicate p.Mem.toNat (kT p.W 0),[],0,[],0,0,[],[]⟩
theorem Zkn {p:D.Program} (hp:progB p = true):okP p (path0 p):=by
 have hm:=Yt hp
 have hq:=Zdc hp
 have hz:=Zmu (Zcu hp)
 refine ⟨⟨by show (0:Int) ≤ 0; omega,by show (0:Int) ≤ _; rw [Ze]; omega⟩,rfl,fun x hx=>?_,by show ((List.replicate p.Mem.toNat (kT p.W 0)).length:Int) = _; simp; omega,fun x hx=>?_,by show (0:Nat) ≤ 3; omega,fun x hx=>(by cases hx),⟨by show (0:Int) ≤ 0; omega,by show (0:Int) ≤ _; omega⟩,by show (0:Nat) ≤ 6; omega,fun x hx=>(by cases hx),by show (0:Int) ≤ 0 ∧ (0:Int) ≤ 9; omega,by show (0:Int) ≤ 0 ∧ (0:Int) ≤ 400; omega,by show (0:Nat) ≤ 60; omega,fun x hx=>(by cases hx),by show (0:Nat) ≤ 60; omega⟩
 ·rw [(Zo7.1 hx).2]; exact hz
 ·rw [(Zo7.1 hx).2]; exact hz
theorem ZhC {p:D.Program} (hp:progB p = true) (hl:p.Code.length ≤ 1048576):Zap fuel p = some (path0 p):=by
 have hm:=Yt hp
 unfold Zap
 rw [Zeb hl,hp]
 simp only [Znb,Znn,Znc,Znl]
 have h1:=Zgq (w:=p.W) (b:=4) (m:=4) rfl (by omega) 4 0 fuel rfl (by unfold fuel; omega)
 have h2:=Zgq (w:=p.W) (b:=p.Mem) (m:=p.Mem.toNat) (by omega) (by omega) p.Mem.toNat 0 fuel (by omega) (by unfold fuel; omega)
 rw [show ((0:Nat):Int) = 0 from rfl,List.replicate_zero] at h1 h2
 rw [h1]
 simp only [Znb]
 rw [h2]; rfl
theorem Ziq {p:D.Program} (hp:progB p = true):Zak fuel p = some (path0 p):=by
 have hm:=Yt hp
 have hz:=Zcu hp
 unfold Zak
 have m1:mk? 4 (D.Term.mk 0 0 0 ⟨[]⟩ ([]:List D.Term)) = some (List.replicate 4 t0):=by
  unfold mk?
  rw [Zng ⟨by omega,by unfold room; decide⟩]; rfl
 have m2:mk? p.Mem (D.Term.mk 0 0 0 ⟨[]⟩ ([]:List D.Term)) = some (List.replicate p.Mem.toNat t0):=by
  unfold mk?
  rw [Zng ⟨by omega,by unfold room; omega⟩]; rfl
 rw [m1,m2]
 simp only [Znb]
 have h1:=Zgb (z:=t0) (b:=len (List.replicate 4 t0)) (m:=4) hz (by rw [Ze]; simp) (by omega) 4 0 fuel rfl (by unfold fuel; omega)
 have h2:=Zgb (z:=t0) (b:=len (List.replicate p.Mem.toNat t0)) (m:=p.Mem.toNat) hz (by rw [Ze]; simp) (by omega) p.Mem.toNat 0 fuel (by omega) (by unfold fuel; omega)
 rw [show ((0:Nat):Int) = 0 from rfl,List.replicate_zero,ZoX] at h1 h2
 rw [h1]
 simp only [Znb]
 rw [h2]; rfl
theorem ZdR {l:List D.Term} {k:Int} (h:sml l) (h0:0 ≤ k) (h1:k ≤ 10000000000000000):∃ k' r,Yg fuel l k = some (k',r) ∧ k ≤ k' ∧ k' ≤ k + 4194304 ∧ ZW fuel r k = some k':=by
 unfold sml at h
 obtain ⟨⟨k',r⟩,e,a,b,c⟩:=ZiY fuel l k h (by unfold fuel; omega) h0 (by omega)
 exact ⟨k',r,e,a,by simp only at b; omega,c fuel (by unfold fuel; omega)⟩
theorem ZhI {x:D.Path} (h:smallP x):∃ k' r,Za8 fuel x 1 = some (k',r) ∧ 0 ≤ k' ∧ ∀ a b c d,XU fuel (D.Path.mk a r.Regs r.Mem r.Stack b r.Out c d r.Cond r.Turns) 1 = some k':=by
 obtain ⟨s1,s2,s3,s4,s5,s6⟩:=h
 obtain ⟨k1,r1,e1,a1,b1,c1⟩:=ZdR (k:=1) s1 (by omega) (by omega)
 obtain ⟨k2,r2,e2,a2,b2,c2⟩:=ZdR (k:=k1) s2 (by omega) (by omega)
 have e3:=ZcR (p:=x.Stack) (k:=k2) (by omega) (by omega) s3
 have c3:=Ze2 (L:=x.Stack.length) (k:=k2) (by omega) (by omega) s3
 obtain ⟨k4,r4,e4,a4,b4,c4⟩:=ZdR (k:=k2 + x.Stack.length) s4 (by omega) (by omega)
 obtain ⟨k5,r5,e5,a5,b5,c5⟩:=ZdR (k:=k4) s5 (by omega) (by omega)
 have e6:=ZcR (p:=x.Turns) (k:=k5) (by omega) (by omega) s6
 have c6:=Ze2 (L:=x.Turns.length) (k:=k5) (by omega) (by omega) s6
 refine ⟨k5 + (x.Turns.length:Int),⟨x.Pc,r1,r2,upI k2 x.Stack.length,x.In,r4,x.Code,x.Steps,r5,upI k5 x.Turns.length⟩,?_,?_,fun a b c d=>?_⟩
 ·unfold Za8
  simp only [e1,e2,e3,e4,e5,e6,Znb]
 ·omega
 ·unfold XU
  have n1:¬ k1 < 0:=by omega
  have n2:¬ k2 < 0:=by omega
  have n3:¬ k2 + (x.Stack.length:Int) < 0:=by omega
  have n4:¬ k4 < 0:=by omega
  have n5:¬ k5 < 0:=by omega
  have n6:¬ k5 + (x.Turns.length:Int) < 0:=by omega
  simp [c1,c2,c3,c4,c5,c6,n1,n2,n3,n4,n5,n6]
def inB (p:D.Program) (l:List Int):Bool:=progB p && (l.all (wordB p.W) && (len l == p.In))
theorem ZgW {p:D.Program} (h:progB p = true):0 ≤ p.In ∧ p.In ≤ 3:=by
 unfold progB at h
 simp only [Zne,Znm] at h
 exact h.1.1.2
theorem Ze3 {p:D.Program} {l:List Int} (hp:p.Code.length ≤ 1048576) (hl:l.length ≤ 1048576):XW fuel p l = some (inB p l):=by
 have h1:Za9 fuel l p.In p.W = some (l.all (wordB p.W) && (len l == p.In)):=by
  unfold Za9
  have hl:=ZgF (l:=l) (b:=wordB p.W) (fun x1 s1=>(ZB p.W x1).bind fun x2=>
    if (!x2) then
     some (.inr (.inr false))
    else
     some (.inl ((w64 (s1 + 1))))) (fun k x hx=>by
   simp only [YN,Znb]
   cases wordB p.W x <;> simp) hl (XK hl)
  rw [hl]
  cases l.all (wordB p.W) <;> rfl
 unfold XW inB
 rw [Zeb hp]
 cases progB p
 ·rfl
 ·simp only [Znb,Znr,h1]
theorem Zhd {p:D.Program} {l:List Int} (hp:p.Code.length ≤ 1048576) (hl:l.length ≤ 1048576):Za6 fuel p l = some (inB p l):=by
 have h1:ZaN fuel p.W l = some (l.all (wordB p.W)):=by
  unfold ZaN
  have hl:=ZgF (l:=l) (b:=wordB p.W) (fun x1 s1=>(ZX p.W x1).bind fun x2=>
    if (!x2) then
     some (.inr (.inr false))
    else
     some (.inl ((w64 (s1 + 1))))) (fun k x hx=>by
   simp only [X7,Znb]
   cases wordB p.W x <;> simp) hl (XK hl)
  rw [hl]
  cases l.all (wordB p.W) <;> rfl
 unfold Za6 inB
 rw [Zj1 hp]
 cases progB p
 ·rfl
 ·simp only [Znb, Zn3]
  cases len l == p.In
  ·simp
  ·simp [h1]
def vn (k:Nat):Str:=⟨[105,UInt8.ofNat (48 + k)]⟩
theorem ZkS {k:Nat} (h:k ≤ 2):Yf fuel (k:Int) = some ⟨[UInt8.ofNat (48 + k)]⟩:=by
 show Yf (4194399 + 1) (k:Int) = _
 rw [Yf]
 have hd:decide ((k:Int) < 0) = false:=by simp
 simp only [hd,Znc,Znl]
 have hk:decide ((k:Int) > 9) = false:=by simp; omega
 rw [Yb (n:=4194399) (r:=((k:Int),(⟨[]⟩ : Str))) (by simp only [hk,Znc,Znl]) (by decide)]
 have:k = 0 ∨ k = 1 ∨ k = 2:=by omega
 rcases this with rfl | rfl | rfl <;> decide
theorem ZkC {k:Nat} (h:k ≤ 2):Yk (k:Int) = some ⟨[UInt8.ofNat (48 + k)]⟩:=by
 unfold Yk strconv_Itoa
 rw [Zng (by omega),Lib.itoa,Znf (by omega)]
 have e:((k:Int)).toNat = k:=by omega
 rw [e,Lib.decDigits,dif_pos (by omega)]
 rfl
theorem Zmr (k:Nat):cat? ⟨[105]⟩ ⟨[UInt8.ofNat (48 + k)]⟩ = some (vn k):=by
 unfold cat?
 rw [Zng (by simp [room])]; rfl
def vals (w:Int) (l:List Int):List D.Value:=l.mapIdx fun k x=>⟨vn k,w,x⟩
theorem ZcM (w:Int) (l:List Int):(vals w l).length = l.length:=by unfold vals; simp
theorem Zhg (w:Int) (l:List Int) (x:Int):vals w (l ++ [x]) = vals w l ++ [⟨vn l.length,w,x⟩]:=by unfold vals; rw [List.mapIdx_append]; simp
theorem ZjC {p:D.Program} {l:List Int} (hl:l.length ≤ 3):Zaj fuel p l = some (vals p.W l):=by
 unfold Zaj
 obtain ⟨r,g1,g2⟩:=Yi (l:=l) (n:=fuel) (σ:=List D.Value) (ρ:=List D.Value) (B:=fun (s1:Int × (List D.Value))=>
  if (decide (s1.1 < (len l))) then
   (get? l s1.1).bind fun x1=>
   (Yf fuel s1.1).bind fun x2=>
   (cat? ⟨[105]⟩ x2).bind fun x3=>
   (app? s1.2 ([(D.Value.mk x3 p.W x1)]:List D.Value)).bind fun x4=>
   some (.inl ((w64 (s1.1 + 1)),x4))
  else
   some (.inr (s1.2))) (fun k a=>((k:Int),a)) (fun ys a=>∃ pre,pre ++ ys = l ∧ a = vals p.W pre) (fun r=>r = vals p.W l)
  (fun k x xs a hk' hx hlen ⟨pre, h1, h2⟩ => by
   have hd:decide ((k:Int) < len l) = true:=by rw [Ze]; simp; omega
   have hpl:pre.length = k:=by
    have:=congrArg List.length h1
    simp at this hlen; omega
   simp only [hd,Znr,get?_nat,hx,Znb,ZkS (show k ≤ 2 by omega),Zmr]
   rw [XJ (by rw [h2,ZcM]; simp; omega)]
   exact .inl ⟨vals p.W (pre ++ [x]),by simp only [Znb]; rw [Zq (by omega) (by omega),Zhg,hpl,h2]; rfl,pre ++ [x],by rw [ZnD]; exact h1,rfl⟩)
  (fun a ⟨pre, h1, h2⟩ => by
   have hd:decide ((l.length:Int) < len l) = false:=by rw [Ze]; simp
   simp only [hd,Znc,Znl]
   rw [ZnE] at h1
   exact ⟨_,rfl,by rw [h2,h1]⟩) (a:=[]) ⟨[],rfl,rfl⟩ (by unfold fuel; omega)
 rw [show ((0:Nat):Int) = 0 from rfl] at g1
 rw [g1,g2]; rfl
theorem Zjv {p:D.Program} {l:List Int} (hl:l.length ≤ 3):X5 fuel p l = some (vals p.W l):=by
 unfold X5
 have hm:mk? (len l) (⟨⟨[]⟩,0,0⟩ : D.Value) = some (List.replicate l.length ⟨⟨[]⟩,0,0⟩):=by
  unfold mk?
  rw [Ze,Zng (by unfold room; omega)]; simp
 rw [hm]
 simp only [Znb]
 obtain ⟨r,g1,g2⟩:=Yi (l:=l) (n:=fuel) (σ:=List D.Value) (ρ:=List D.Value) (B:=fun (s1:Int × (List D.Value))=>
  if (decide (s1.1 < (len l))) then
   (get? l s1.1).bind fun x2=>
   (Yk s1.1).bind fun x3=>
   (cat? ⟨[105]⟩ x3).bind fun x4=>
   (set? s1.2 s1.1 (D.Value.mk x4 p.W x2)).bind fun x5=>
   some (.inl ((w64 (s1.1 + 1)),x5))
  else
   some (.inr (s1.2))) (fun k a=>((k:Int),a)) (fun ys a=>∃ pre,pre ++ ys = l ∧ a = vals p.W pre ++ List.replicate ys.length ⟨⟨[]⟩,0,0⟩) (fun r=>r = vals p.W l)
  (fun k x xs a hk' hx hlen ⟨pre, h1, h2⟩ => by
   have hd:decide ((k:Int) < len l) = true:=by rw [Ze]; simp; omega
   have hpl:pre.length = k:=by
    have:=congrArg List.length h1
    simp at this hlen; omega
   simp only [hd,Znr,get?_nat,hx,Znb,ZkC (show k ≤ 2 by omega),Zmr]
   have hs:set? a (k:Int) (D.Value.mk (vn k) p.W x) = some (vals p.W (pre ++ [x]) ++ List.replicate xs.length ⟨⟨[]⟩,0,0⟩):=by
    unfold set?
    rw [Zng ⟨by omega,by rw [h2]; simp [ZcM]; omega⟩,h2,Zhg,hpl]
    have e:((k:Int)).toNat = (vals p.W pre).length:=by rw [ZcM,hpl]; omega
    rw [e,ZoS _ _ (Znk _),Zo3]
    simp [List.replicate_succ]
   rw [hs]
   exact .inl ⟨vals p.W (pre ++ [x]) ++ List.replicate xs.length ⟨⟨[]⟩,0,0⟩,by simp only [Znb]; rw [Zq (by omega) (by omega)]; rfl,pre ++ [x],by rw [ZnD]; exact h1,rfl⟩)
  (fun a ⟨pre, h1, h2⟩ => by
   have hd:decide ((l.length:Int) < len l) = false:=by rw [Ze]; simp
   simp only [hd,Znc,Znl]
   rw [ZnE] at h1
   exact ⟨_,rfl,by rw [h2,h1]; simp⟩) (a:=List.replicate l.length ⟨⟨[]⟩,0,0⟩) ⟨[],rfl,rfl⟩ (by unfold fuel; omega)
 rw [show ((0:Nat):Int) = 0 from rfl] at g1
 rw [g1,g2]; rfl
theorem ZeR {w:Int} {l:List Int} (hl:l.length ≤ 3) (hw:l.all (wordB w) = true):ValsOk (vals w l):=by
 rw [Zni] at hw
 match l,hl with
 | [],_=>exact ⟨Zog _,(fun x hx=>(by cases hx)),(fun x hx=>(by cases hx)),List.Pairwise.nil⟩
 | [a],_=>
  refine ⟨by simp [vals],fun x hx=>?_,fun x hx=>?_,by simp [vals]⟩ <;> (simp [vals] at hx; subst hx)
  ·exact (by decide:nameB (vn 0) = true)
  ·exact hw a (by simp)
 | [a,b],_=>
  refine ⟨by simp [vals],fun x hx=>?_,fun x hx=>?_,by simp [vals]; decide⟩ <;> (simp [vals] at hx; rcases hx with rfl | rfl)
  ·exact (by decide:nameB (vn 0) = true)
  ·exact (by decide:nameB (vn 1) = true)
  ·exact hw a (by simp)
  ·exact hw b (by simp)
 | [a,b,c],_=>
  refine ⟨by simp [vals],fun x hx=>?_,fun x hx=>?_,by simp [vals]; decide⟩ <;> (simp [vals] at hx; rcases hx with rfl | rfl | rfl)
  ·exact (by decide:nameB (vn 0) = true)
  ·exact (by decide:nameB (vn 1) = true)
  ·exact (by decide:nameB (vn 2) = true)
  ·exact hw a (by simp)
  ·exact hw b (by simp)
  ·exact hw c (by simp)
def ev (v:List D.Value) (t:D.Term):Int × Bool:=(ZP fuel t v).getD (0,false)
theorem ZlB {p:D.Program} {l:List Int} (hl:l.length ≤ 3) (hw:l.all (wordB p.W) = true) {t:D.Term} (ht:termB t = true) (hs:msz t ≤ 1048576):ZP fuel t (vals p.W l) = some (ev (vals p.W l) t):=by
 unfold termB at ht
 simp only [Zne,Znm] at ht
 have henv:EnvOf (vals p.W l) ((vals p.W l).map fun x=>(x.Name,x.N)).reverse:=fun s=>ZhH (·.N) (ZeR hl hw).nd s
 obtain ⟨r,e1,_⟩:=Zgo (by rw [ZcM]; omega) henv 240 t ht.1.1 ht.1.2 hs fuel fuel (by unfold fuel; omega) (by unfold fuel; omega)
 unfold ev
 rw [e1]; rfl
theorem Zik {p:D.Program} {l:List Int} (hl:l.length ≤ 3) (hw:l.all (wordB p.W) = true) {ts:List D.Term} {w:Int} (hts:tsB ts w = true) (hs:sml ts) (hlen:ts.length ≤ 1000) :
  Za2 fuel ts (vals p.W l) = some (if ts.all (fun t=>(ev (vals p.W l) t).2) = true then (ts.map fun t=>(ev (vals p.W l) t).1,true) else ([],false)):=by
 have hev:∀ t ∈ ts,ZP fuel t (vals p.W l) = some (ev (vals p.W l) t):=fun t ht=>by
  unfold tsB at hts
  rw [Zni] at hts
  have:=hts t ht
  simp only [Zne] at this
  exact ZlB hl hw this.1 (ZiD hs ht)
 unfold Za2
 obtain ⟨r,g1,g2⟩:=Yi (l:=ts) (n:=fuel) (σ:=List Int) (ρ:=(List Int) ⊕ ((List Int) × Bool)) (B:=fun (s1:Int × (List Int))=>
  if (decide (s1.1 < (len ts))) then
   (get? ts s1.1).bind fun x1=>
   (ZP fuel x1 (vals p.W l)).bind fun x2=>
   if (!x2.2) then
    some (.inr (.inr (([]:List Int),false)))
   else
    (app? s1.2 ([x2.1]:List Int)).bind fun x3=>
    some (.inl ((w64 (s1.1 + 1)),x3))
  else
   some (.inr (.inl (s1.2)))) (fun k a=>((k:Int),a)) (fun ys a=>∃ pre,pre ++ ys = ts ∧ a = (pre.map fun t=>(ev (vals p.W l) t).1) ∧ pre.all (fun t=>(ev (vals p.W l) t).2) = true)
  (fun r=>r = if ts.all (fun t=>(ev (vals p.W l) t).2) = true then (.inl (ts.map fun t=>(ev (vals p.W l) t).1):(List Int) ⊕ ((List Int) × Bool)) else .inr ([],false))
  (fun k x xs a hk' hx hlen' ⟨pre, h1, h2, h3⟩ => by
   have hd:decide ((k:Int) < len ts) = true:=by rw [Ze]; simp; omega
   have hpl:pre.length ≤ ts.length:=by rw [← h1]; simp
   simp only [hd,Znr,get?_nat,hx,Znb,hev x (ZnI hx)]
   cases c:(ev (vals p.W l) x).2
   ·refine .inr ⟨_, rfl, ?_⟩
    have:ts.all (fun t=>(ev (vals p.W l) t).2) = false:=by rw [← h1,Zo1,Zow,c]; simp
    rw [this]; rfl
   ·simp only [Znn, Znc, Znl]
    rw [XJ (by rw [h2]; simp; omega)]
    exact .inl ⟨(pre ++ [x]).map fun t=>(ev (vals p.W l) t).1,by simp only [Znb]; rw [Zq (by omega) (by omega),h2]; simp,pre ++ [x],by rw [ZnD]; exact h1,rfl,by simp [h3,c]⟩)
  (fun a ⟨pre, h1, h2, h3⟩ => by
   have hd:decide ((ts.length:Int) < len ts) = false:=by rw [Ze]; simp
   simp only [hd,Znc,Znl]
   rw [ZnE] at h1
   subst h1
   exact ⟨_,rfl,by rw [h3,h2]; rfl⟩) (a:=[]) ⟨[],rfl,rfl,rfl⟩ (by unfold fuel; omega)
 rw [show ((0:Nat):Int) = 0 from rfl] at g1
 rw [g1,g2]
 cases ts.all (fun t=>(ev (vals p.W l) t).2) <;> rfl
theorem ZfU {l:List Int} (b:Bool) (hl:l.length ≤ 1048576):iterN (fun (s1:Bool × Int)=>
   if (decide (s1.2 < (len l))) then
    (get? l s1.2).bind fun x5=>
    some (.inl ((s1.1 && (x5 == 1)),(w64 (s1.2 + 1))))
   else
    some (.inr (s1.1))) fuel (b,0) = some (b && l.all (· == 1)):=by
 obtain ⟨r,g1,g2⟩:=Yi (l:=l) (n:=fuel) (σ:=Bool) (ρ:=Bool) (B:=fun (s1:Bool × Int)=>
   if (decide (s1.2 < (len l))) then
    (get? l s1.2).bind fun x5=>
    some (.inl ((s1.1 && (x5 == 1)),(w64 (s1.2 + 1))))
   else
    some (.inr (s1.1))) (fun k a=>(a,(k:Int))) (fun ys a=>(a && ys.all (· == 1)) = (b && l.all (· == 1))) (fun r=>r = (b && l.all (· == 1)))
  (fun k x xs a hk' hx hlen hi => by
   have hd:decide ((k:Int) < len l) = true:=by rw [Ze]; simp; omega
   simp only [hd,Znr,get?_nat,hx,Znb]
   exact .inl ⟨a && (x == 1),by rw [Zq (by omega) (by omega)]; rfl,by rw [Zow,← Zps] at hi; exact hi⟩)
  (fun a hi => by
   have hd:decide ((l.length:Int) < len l) = false:=by rw [Ze]; simp
   simp only [hd,Znc,Znl]
   exact ⟨_,rfl,by rw [← hi]; simp⟩) (a:=b) rfl (XK hl)
 rw [show ((0:Nat):Int) = 0 from rfl] at g1
 rw [g1,g2]
def holdB (p:D.Program) (s:D.Path) (l:List Int):Bool:=pathB p s && inB p l && s.Cond.all fun t=>(ev (vals p.W l) t).2 && (ev (vals p.W l) t).1 == 1
theorem ZhE {p:D.Program} {s:D.Path} (h:pathB p s = true):tsB s.Cond 1 = true ∧ s.Cond.length ≤ 60:=by
 unfold pathB at h
 simp only [Zne,Znm,Ze] at h
 refine ⟨by grind,by grind⟩
theorem ZiT {p:D.Program} {l:List Int} (h:inB p l = true):l.all (wordB p.W) = true ∧ l.length ≤ 3:=by
 unfold inB at h
 simp only [Zne,Ze,ZnC] at h
 have:=ZgW h.1
 exact ⟨h.2.1,by omega⟩
theorem Zim {p:D.Program} {s:D.Path} {l:List Int} (hp:p.Code.length ≤ 1048576) (hs:smallP s) (hl:l.length ≤ 1048576):Z5 fuel p s l = some (holdB p s l):=by
 unfold Z5 holdB
 rw [ZjJ hp hs]
 simp only [Znb]
 cases hpb:pathB p s
 ·rfl
 simp only [Znn,Znc,Znl,Ze3 hp hl,Znb,Zn9,Zn3]
 cases hib:inB p l
 ·rfl
 obtain ⟨h1,h2⟩:=ZhE hpb
 obtain ⟨h3,h4⟩:=ZiT hib
 obtain ⟨_,_,_,_,s5,_⟩:=hs
 simp only [Znn,Znc,Znl,ZjC h4,Znb,Zik h4 h3 h1 s5 (by omega),Zn3]
 cases hall:s.Cond.all fun t=>(ev (vals p.W l) t).2
 ·simp only [Znc, Znl]
  rw [ZfU false (by simp)]
  simp only [Znb,ZnN,Option.some.injEq]
  rw [List.all_eq_false] at hall
  obtain ⟨t,ht,hf⟩:=hall
  symm
  rw [List.all_eq_false]
  exact ⟨t,ht,by simp at hf; simp [hf]⟩
 ·simp only [Znr]
  rw [ZfU true (by simp; omega)]
  simp only [Znb,Zn3,Option.some.injEq,List.all_map]
  rw [Zni] at hall
  rw [Zou,Zni,Zni]
  exact ⟨fun h t ht=>by simpa [hall t ht] using h t ht,fun h t ht=>by simpa [hall t ht] using h t ht⟩
end Go.Proofs.YthbfkjiiibfomaaGreatDoor
end
section
namespace Go.Proofs.YthbfkjiiibfomaaGreatDoor
open Go.GL
set_option linter.unusedSimpArgs false
set_option maxRecDepth 100000
mutual
def aV (A:Str → Int → Prop):D.Term → Prop
 | ⟨o,w,_,s,k⟩=>(o = 22 → k = [] → A s w) ∧ aVs A k
def aVs (A:Str → Int → Prop):List D.Term → Prop
 | []=>True
 | x :: l=>aV A x ∧ aVs A l
end
section
variable {A:Str → Int → Prop} {α β:Type}
theorem Zmy (t:D.Term):aV A t ↔ (t.Op = 22 → t.Kids = [] → A t.Name t.W) ∧ aVs A t.Kids:=by cases t; rw [aV]
theorem ZgA:∀ l:List D.Term,aVs A l ↔ ∀ x ∈ l,aV A x
 | []=>by rw [aVs]; simp
 | x :: l=>by rw [aVs,ZgA l]; simp
theorem ZlR {t:D.Term} (h:aV A t):∀ x ∈ t.Kids,aV A x:=(ZgA _).1 ((Zmy t).1 h).2
theorem Zmo {o w m:Int} {s:Str} {x:D.Term} {l:List D.Term} (h:∀ y ∈ x :: l,aV A y):aV A ⟨o,w,m,s,x :: l⟩:=by
 rw [aV]
 exact ⟨fun _ e=>(List.cons_ne_nil _ _ e).elim,(ZgA _).2 h⟩
theorem ZeH {o w m:Int} {s:Str} (h:o = 0):aV A ⟨o,w,m,s,[]⟩:=by
 rw [aV,aVs]
 exact ⟨fun e=>by omega,trivial⟩
def Po (Q:α → Prop) (e:Option α):Prop:=∀ r,e = some r → Q r
theorem Po.b {Q:β → Prop} {e:Option α} {f:α → Option β} (R:α → Prop) (h1:Po R e) (h2:∀ x,R x → Po Q (f x)):Po Q (e.bind f):=fun r h=>by
 obtain ⟨x,e1,e2⟩:=ZnY.1 h
 exact h2 x (h1 x e1) r e2
theorem Po.n {Q:β → Prop} {e:Option α} {f:α → Option β} (h2:∀ x,Po Q (f x)):Po Q (e.bind f):=fun r h=>by
 obtain ⟨x,e1,e2⟩:=ZnY.1 h
 exact h2 x r e2
theorem Po.i {Q:α → Prop} {c:Prop} [Decidable c] {a b:Option α} (h1:Po Q a) (h2:Po Q b):Po Q (if c then a else b):=by
 split
 ·exact h1
 ·exact h2
theorem Po.s {Q:α → Prop} {x:α} (h:Q x):Po Q (some x):=fun r e=>by cases e; exact h
theorem Po.kid {t:D.Term} {n:Int} (h:aV A t):Po (aV A) (get? t.Kids n):=fun r e=>ZlR h r (ZnI (get?_at e))
theorem Po.con {w v:Int}:Po (fun x:D.Term=>x.Op = 0) (Z4 w v):=by
 unfold Z4
 exact .n fun _=>.i (.s rfl) (.s rfl)
def AB (A:Str → Int → Prop):α ⊕ D.Term → Prop
 | .inl _=>True
 | .inr t=>aV A t
theorem Po.l {s:α}:Po (AB A) (some (.inl s:α ⊕ D.Term)):=fun r e=>by cases e; exact True.intro
theorem Po.r {t:D.Term} (h:aV A t):Po (AB A) (some (.inr t:α ⊕ D.Term)):=fun r e=>by cases e; exact h
structure RedV (A:Str → Int → Prop) (n:Nat):Prop where
 red:∀ t,aV A t → Po (aV A) (Z6 n t)
 rem:∀ o w m x l,(∀ y ∈ x :: l,aV A y) → Po (aV A) (Zn n o w m (x :: l))
 bin:∀ t,aV A t → Po (aV A) (Za n t)
 fst:∀ o w a b,aV A b → Po (fun r=>aV A r.1) (Zv n o w a b)
 rif:∀ t,aV A t → Po (aV A) (ZQ n t)
 cut:∀ t,aV A t → Po (aV A) (ZM n t)
 wid:∀ t,aV A t → Po (aV A) (Yd n t)
 joi:∀ t,aV A t → Po (aV A) (Ya n t)
theorem all1 {a:D.Term} (h:aV A a):∀ y ∈ [a],aV A y:=fun y hy=>by rw [Zn0] at hy; exact hy ▸ h
theorem all2 {a b:D.Term} (h:aV A a) (h':aV A b):∀ y ∈ [a,b],aV A y:=fun y hy=>by
 rcases ZnK.1 hy with rfl | hy
 ·exact h
 ·exact all1 h' y hy
theorem all3 {a b c:D.Term} (h:aV A a) (h':aV A b) (h'':aV A c):∀ y ∈ [a,b,c],aV A y:=fun y hy=>by
 rcases ZnK.1 hy with rfl | hy
 ·exact h
 ·exact all2 h' h'' y hy
theorem redV:∀ n,RedV A n:=by
 intro n
 induction n with
 | zero=>
  refine ⟨fun t _=>?_,fun _ _ _ _ _ _=>?_,fun t _=>?_,fun _ _ _ _ _=>?_,fun t _=>?_,fun t _=>?_,fun t _=>?_,fun t _=>?_⟩
  ·unfold Z6; exact fun _ h=>by cases h
  ·unfold Zn; exact fun _ h=>by cases h
  ·unfold Za; exact fun _ h=>by cases h
  ·unfold Zv; exact fun _ h=>by cases h
  ·unfold ZQ; exact fun _ h=>by cases h
  ·unfold ZM; exact fun _ h=>by cases h
  ·unfold Yd; exact fun _ h=>by cases h
  ·unfold Ya; exact fun _ h=>by cases h
 | succ n ih=>
  have R:∀ {o w m x l},(∀ y ∈ x :: l,aV A y) → Po (aV A) ((Zn n o w m (x :: l)).bind fun y=>some y):=fun h=>.b _ (ih.rem _ _ _ _ _ h) fun _ h=>.s h
  refine ⟨fun t h=>?_,fun o w m x l h=>?_,fun t h=>?_,fun o w a b h=>?_,fun t h=>?_,fun t h=>?_,fun t h=>?_,fun t h=>?_⟩
  ·unfold Z6
   refine .i (.s h) (.n fun r=>.i (.n fun _=>.b _ .con fun x hx=>.s (ZeH hx)) (.i (.b _ ?_ fun _ h=>.s h) (.i (.b _ (ih.rif t h) fun _ h=>.s h) (.i (.b _ (ih.cut t h) fun _ h=>.s h) (.i (.b _ (ih.wid t h) fun _ h=>.s h) (.i (.b _ (ih.joi t h) fun _ h=>.s h) (.b _ (ih.bin t h) fun _ h=>.s h)))))))
   unfold Y2
   exact .b _ (.kid h) fun x1 a1=>.i (.b _ (.kid a1) fun _ h=>.s h) (.s h)
  ·unfold Zn
   exact .b _ (ih.red _ (Zmo h)) fun _ h=>.s h
  ·unfold Za
   refine .b _ (.kid h) fun x1 a1=>.b _ (.kid h) fun x2 a2=>.n fun _=>.n fun _=>.i (R (all2 a2 a1)) (.n fun x6=>.b (AB A) (.i (.b _ (ih.fst _ _ x1 x2 a2) fun x7 a7=>.i (.r a7) .l) .l) fun rl1 b1=>?_)
   cases rl1 with
   | inr v=>exact .s b1
   | inl s1=>
    refine .n fun x8=>.b (AB A) (.i (.b (AB A) (.i .l (.i .l .l)) fun rl3 b3=>?_) .l) fun rl2 b2=>?_
    ·cases rl3 with
     | inr v=>exact .r b3
     | inl s3=>exact .i (.r a1) (.i (.b _ .con fun x hx=>.r (ZeH hx)) .l)
    ·cases rl2 with
     | inr v=>exact .s b2
     | inl s2=>
      refine .n fun x10=>.b (AB A) (.i (.i (.r a1) (.b (AB A) (.i .l (.i .l .l)) fun rl5 b5=>?_)) .l) fun rl4 b4=>?_
      ·cases rl5 with
       | inr v=>exact .r b5
       | inl s5=>exact .i (.b _ .con fun x hx=>.r (ZeH hx)) (.i (.b _ .con fun x hx=>.r (ZeH hx)) .l)
      ·cases rl4 with
       | inr v=>exact .s b4
       | inl s4=>exact .n fun _=>.n fun _=>.n fun _=>.n fun _=>.i (.n fun _=>.n fun _=>.b _ .con fun x hx=>.b _ (.kid a2) fun x20 a20=>R (all2 (ZeH hx) a20)) (.s h)
  ·unfold Zv
   refine .n fun x1=>.b (fun r=>r.isLeft = true) ?_ fun r hr=>?_
   ·exact .i (.s rfl) (.i (.s rfl) (.i (.s rfl) (.i (.s rfl) (.i (.s rfl) (.s rfl)))))
   ·cases r with
    | inr v=>cases hr
    | inl s=>
     refine .i (.s h) (.b (fun r=>r.isLeft = true) (.i (.s rfl) (.s rfl)) fun r hr=>?_)
     cases r with
     | inr v=>cases hr
     | inl s=>exact .i (.b _ .con fun x hx=>.s (ZeH hx)) (.i (.b _ .con fun x hx=>.s (ZeH hx)) (.i (.i (.b _ (ih.rem _ _ _ _ _ (all1 h)) fun _ h=>.s h) (.s (ZeH rfl))) (.i (.b _ (ih.rem _ _ _ _ _ (all1 h)) fun _ h=>.s h) (.s (ZeH rfl)))))
  ·unfold ZQ
   exact .b _ (.kid h) fun x1 a1=>.b _ (.kid h) fun x2 a2=>.b _ (.kid h) fun x3 a3=>.n fun _=>.i (.s a2) (.n fun _=>.i (.s a3) (.n fun _=>.i (.s a2) (.i (.b _ (.kid a1) fun x7 a7=>R (all3 a7 a3 a2)) (.n fun _=>.n fun _=>.i (.s a1) (.n fun _=>.n fun _=>.i (R (all1 a1)) (.s h))))))
  ·unfold ZM
   exact .b _ (.kid h) fun x1 a1=>.i (.s a1) (.i (.b _ (.kid a1) fun x2 a2=>R (all1 a2)) (.i (.b _ (.kid a1) fun x4 a4=>.i (R (all1 a4)) (.i (.b _ (.kid a1) fun x6 a6=>R (all1 a6)) (.s h))) (.i (.b _ (.kid a1) fun x8 a8=>.i (.b _ (.kid a1) fun x9 a9=>R (all1 a9)) (.s h)) (.s h))))
  ·unfold Yd
   exact .b _ (.kid h) fun x1 a1=>.i (.s a1) (.i (.b _ (.kid a1) fun x2 a2=>R (all1 a2)) (.s h))
  ·unfold Ya
   exact .b _ (.kid h) fun x1 a1=>.b _ (.kid h) fun x2 a2=>.n fun _=>.n fun _=>.n fun _=>.i (.b _ (.kid a2) fun x6 a6=>R (all1 a6)) (.s h)
theorem Zk0 {op w m:Int} {x:D.Term} {l:List D.Term} (h:∀ y ∈ x :: l,aV A y) (hm:(mkT op w m (x :: l)).2 = true):aV A (mkT op w m (x :: l)).1:=by
 unfold mkT at hm ⊢
 split at hm
 ·rename_i hb
  rw [Zng hb]
  have hf:=ZiC hb
  exact (redV fuel).red _ (Zmo h) _ (ZcY hf.1 hf.2).2.2.2.1
 ·cases hm
theorem ZmA:∀ n:Nat,(∀ t:D.Term,msz t < n → nodeB t = true → aV A t → ∀ v ∈ vrs t,A v.1 v.2) ∧ ∀ l:List D.Term,l.length + mszs l < n → nodesB l = true → aVs A l → ∀ v ∈ vrss l,A v.1 v.2:=by
 intro n
 induction n with
 | zero=>exact ⟨fun t h=>by omega,fun l h=>by omega⟩
 | succ n ih=>
  have hL:∀ l:List D.Term,l.length + mszs l < n + 1 → nodesB l = true → aVs A l → ∀ v ∈ vrss l,A v.1 v.2:=fun l hl hb h v hv=>by
   cases l with
   | nil=>rw [Xr] at hv; cases hv
   | cons x l=>
    rw [Y8,ZnB] at hv
    rw [aVs] at h
    rw [Xg,Zn4] at hl
    rw [ZV,Zni] at hb
    rcases hv with hv | hv
    ·exact ih.1 x (by omega) (hb x (by simp)) h.1 v hv
    ·exact ih.2 l (by omega) (by rw [ZV,Zni]; exact fun y hy=>hb y (by simp [hy])) h.2 v hv
  refine ⟨fun t ht hb h v hv=>?_,hL⟩
  have hz:=Zam t
  have hn:=hb
  rw [Xm,Zne] at hb
  rw [Zmy] at h
  rw [ZbQ] at hv
  by_cases ho:t.Op = 22
  ·rw [Zng ho, Zn0] at hv
   subst hv
   refine h.1 ho ?_
   rcases Zcv hb.1 with h | h | h | h | h | h | h | h
   ·omega
   ·exact h.2
   all_goals omega
  ·rw [Znf ho] at hv
   exact hL t.Kids (by omega) hb.2 h.2 v hv
end
end Go.Proofs.YthbfkjiiibfomaaGreatDoor
end
section
namespace Go.Proofs.YthbfkjiiibfomaaGreatDoor
open Go.GL
set_option linter.unusedSimpArgs false
set_option maxRecDepth 100000
section
variable {A:Str → Int → Prop}
def aL (A:Str → Int → Prop) (l:List D.Term):Prop:=∀ t ∈ l,aV A t
theorem Zdq {op w m:Int} {x:D.Term} {l:List D.Term} (h:∀ y ∈ x :: l,aV A y):aV A (mkT op w m (x :: l)).1:=by
 cases hb:(mkT op w m (x :: l)).2
 ·rw [Zm7 hb]; exact ZeH rfl
 ·exact Zk0 h hb
theorem Zja {w v:Int}:aV A (kT w v):=ZeH rfl
theorem Zgi:aV A t0:=ZeH rfl
theorem ZbH {l:List D.Term} (h:aL A l) (k:Int):aV A (rg l k):=by
 unfold rg
 cases hk:l[k.toNat]? with
 | none=>exact Zgi
 | some x=>exact h x (ZnI hk)
theorem Zk1 {w k:Int} {x a b:D.Term} (hx:aV A x) (ha:aV A a) (hb:aV A b):aV A (cel w k x a b).1:=by
 unfold cel
 split
 ·exact Zdq (all3 (Zdq (all2 Zja hx)) ha hb)
 ·exact Zgi
theorem Zly {w:Int} {x:D.Term} {mem:List D.Term} (hx:aV A x) (hm:aL A mem):∀ (j:Nat) (t:D.Term),aV A t → aV A (ldT w x mem j t).1
 | 0,t,h=>by unfold ldT; exact h
 | j + 1,t,h=>by
  unfold ldT
  split
  ·exact Zly hx hm j _ (Zk1 hx (ZbH hm _) h)
  ·exact Zgi
theorem ZlI {w:Int} {mem:List D.Term} {x:D.Term} (hm:aL A mem) (hx:aV A x):aV A (load w mem x).1:=by
 unfold load
 split
 ·exact ZbH hm _
 ·exact Zly hx hm _ _ (ZbH hm _)
theorem Zdu {l:List D.Term} {k:Nat} {t:D.Term} (h:aL A l) (ht:aV A t):aL A (l.set k t):=fun x hx=>by
 rcases ZoE hx with hx | rfl
 ·exact h x hx
 ·exact ht
theorem Zib {l:List D.Term} {t:D.Term} (h:aL A l) (ht:aV A t):aL A (l ++ [t]):=fun x hx=>by
 rcases ZnB.1 hx with hx | hx
 ·exact h x hx
 ·rw [Zn0] at hx; subst hx; exact ht
theorem Zfo:aL A []:=fun _ h=>by cases h
theorem ZjV {w:Int} {x v:D.Term} (hx:aV A x) (hv:aV A v):∀ (l:List D.Term) (i:Nat),aL A l → aL A (stG w x v i l).1
 | [],i,_=>by unfold stG; exact Zfo
 | t :: l,i,h=>by
  unfold stG
  split
  ·intro y hy
   rcases ZnK.1 hy with rfl | hy
   ·exact Zk1 hx hv (h t (by simp))
   ·exact ZjV hx hv l (i + 1) (fun z hz=>h z (by simp [hz])) y hy
  ·exact Zfo
theorem Zl1 {w:Int} {mem:List D.Term} {x v:D.Term} (hm:aL A mem) (hx:aV A x) (hv:aV A v):aL A (store w mem x v).1:=by
 unfold store
 split
 ·exact Zdu hm hv
 ·split
  ·exact ZjV hx hv _ _ hm
  ·exact Zfo
theorem ZmL {p:D.Program} {c:Int} {a b:D.Term} (ha:aV A a) (hb:aV A b):aV A (opd p c a b).1:=by
 unfold opd
 split
 ·exact Zdq (all1 (Zdq (all2 ha hb)))
 ·exact Zdq (all2 ha hb)
theorem Zk4 {p:D.Program} {x:D.Term} (hx:aV A x):aV A (qze p x).1:=Zdq (all2 Zja hx)
theorem Zkz {p:D.Program} {x:D.Term} (hx:aV A x):aV A (qad p x).1:=by
 unfold qad
 split
 ·exact Zdq (all1 (Zdq (all2 hx Zja)))
 ·exact Zgi
theorem Zm8 {p:D.Program} {rs:List D.Term} {i:D.Ins} (h:aL A rs):aV A (qst p rs i).1:=by
 unfold qst
 split
 ·exact Zk4 (ZbH h _)
 ·split
  ·split
   ·exact Zk4 (ZbH h _)
   ·exact Zgi
  ·split
   ·exact Zkz (ZbH h _)
   ·split
    ·exact Zkz (ZbH h _)
    ·exact Zgi
structure vP (A:Str → Int → Prop) (s:D.Path):Prop where
 rg:aL A s.Regs
 mm:aL A s.Mem
 ot:aL A s.Out
 cd:aL A s.Cond
theorem Zm9 {p:D.Program} {s:D.Path} {i:D.Ins} (h:vP A s) (h5:i.Op = 5 → aV A (inT p.W s.In)):vP A (flw p s i).1:=by
 unfold flw
 by_cases c1:i.Op = 1
 ·rw [Zng c1]; exact ⟨Zdu h.rg Zja,h.mm,h.ot,h.cd⟩
 rw [Znf c1]
 by_cases c2:i.Op = 2
 ·rw [Zng c2]; exact ⟨Zdu h.rg (ZbH h.rg _),h.mm,h.ot,h.cd⟩
 rw [Znf c2]
 by_cases c3:i.Op = 3
 ·rw [Zng c3]; exact ⟨Zdu h.rg (ZmL (ZbH h.rg _) (ZbH h.rg _)),h.mm,h.ot,h.cd⟩
 rw [Znf c3]
 by_cases c4:i.Op = 4
 ·rw [Zng c4]; exact ⟨Zdu h.rg (Zdq (all1 (ZbH h.rg _))),h.mm,h.ot,h.cd⟩
 rw [Znf c4]
 by_cases c5:i.Op = 5
 ·rw [Zng c5]; exact ⟨Zdu h.rg (h5 c5),h.mm,h.ot,h.cd⟩
 rw [Znf c5]
 by_cases c6:i.Op = 6
 ·rw [Zng c6]; exact ⟨h.rg,h.mm,Zib h.ot (ZbH h.rg _),h.cd⟩
 rw [Znf c6]
 by_cases c7:i.Op = 7
 ·rw [Zng c7]; exact ⟨Zdu h.rg (ZlI h.mm (ZbH h.rg _)),h.mm,h.ot,h.cd⟩
 rw [Znf c7]
 by_cases c8:i.Op = 8
 ·rw [Zng c8]; exact ⟨h.rg,Zl1 h.mm (ZbH h.rg _) (ZbH h.rg _),h.ot,h.cd⟩
 rw [Znf c8]
 repeat' split
 all_goals exact ⟨h.rg,h.mm,h.ot,h.cd⟩
theorem ZmC {s:D.Path} {i:D.Ins} (h:vP A s):vP A (nmd s i):=by
 unfold nmd
 repeat' split
 all_goals exact ⟨h.rg,h.mm,h.ot,h.cd⟩
theorem Zm2 {p:D.Program} {s:D.Path} {i:D.Ins} (h:vP A s) (h5:i.Op = 5 → aV A (inT p.W s.In)):∀ x ∈ dvd p s i,vP A x:=by
 have one:∀ {y x:D.Path},x ∈ [y] → vP A y → vP A x:=fun hx h=>by rw [Zn0] at hx; subst hx; exact h
 have hq:=Zm8 (p:=p) (i:=i) h.rg
 have hf:=Zm9 (p:=p) (i:=i) h h5
 have hn:=ZmC (i:=i) h
 intro x hx
 unfold dvd at hx
 split at hx
 ·exact one hx ⟨h.rg,h.mm,h.ot,h.cd⟩
 ·split at hx
  ·exact one hx hn
  ·split at hx
   ·exact one hx ⟨h.rg,h.mm,h.ot,h.cd⟩
   ·split at hx
    ·exact one hx hf
    ·split at hx
     ·exact one hx ⟨h.rg,h.mm,h.ot,h.cd⟩
     ·rcases ZnK.1 hx with rfl | hx
      ·exact ⟨hn.rg,hn.mm,hn.ot,Zib h.cd hq⟩
      ·exact one hx ⟨hf.rg,hf.mm,hf.ot,Zib h.cd (Zdq (all1 hq))⟩
end
def InV (p:D.Program) (nm:Str) (w:Int):Prop:=∃ k:Nat,(k:Int) < p.In ∧ nm = vn k ∧ w = p.W
theorem Zm3 {p:D.Program} {k:Int} (h0:0 ≤ k) (h1:k < p.In) (h3:p.In ≤ 3):aV (InV p) (inT p.W k):=by
 unfold inT
 rw [aV,aVs]
 refine ⟨fun _ _=>⟨k.toNat,by omega,?_,rfl⟩,trivial⟩
 have hk:k = 0 ∨ k = 1 ∨ k = 2:=by omega
 rcases hk with rfl | rfl | rfl <;> decide
theorem ZmJ {p:D.Program} {s:D.Path} (hp:progB p = true) (hs:okP p s) (h:vP (InV p) s):∀ x ∈ stp1 p s,vP (InV p) x:=by
 intro x hx
 unfold stp1 at hx
 by_cases c1:s.Code ≠ 0 ∨ s.Steps = 400
 ·rw [Zng c1] at hx; cases hx
 rw [Znf c1] at hx
 by_cases c2:s.Pc = len p.Code
 ·rw [Zng c2, Zn0] at hx
  subst hx; exact ⟨h.rg,h.mm,h.ot,h.cd⟩
 rw [Znf c2] at hx
 by_cases c3:stk p { s with Steps:=s.Steps + 1 } (insAt p s.Pc) = 0
 ·rw [Znf (fun h => h c3)] at hx
  refine Zm2 (s:={ s with Steps:=s.Steps + 1 }) ⟨h.rg,h.mm,h.ot,h.cd⟩ (fun c5=>?_) x hx
  have h5:s.In ≠ p.In:=fun e=>by unfold stk at c3; rw [Zng ⟨c5,e⟩] at c3; cases c3
  have:=hs.inn
  exact Zm3 this.1 (by show s.In < p.In; omega) (ZgW hp).2
 ·rw [Zng c3, Zn0] at hx
  subst hx; exact ⟨h.rg,h.mm,h.ot,h.cd⟩
theorem Zgx {env:List (Str × Int)}:∀ (d:Nat) (t:D.Term),cnt t ≤ d → nodeB t = true → (∀ q ∈ vrs t,∃ x,env.lookup q.1 = some x ∧ wordB q.2 x = true) → ∃ r,wordB t.W r = true ∧ ∀ m:Nat,d + 1 ≤ m → Zi m t (some env) = some r:=by
 intro d
 induction d with
 | zero=>intro t h; have:=Zb8 t; omega
 | succ d ih=>
  intro t hc hb hv
  obtain ⟨op,w,m,nm,ks⟩:=t
  have hsz:=Zb6 hb
  rw [ZbQ] at hv
  obtain ⟨⟨w1,w2⟩,h⟩:=Xu hb
  rcases h with ⟨rfl,rfl,hw⟩ | ⟨rfl,rfl,hw⟩ | ⟨ho,rfl,rfl,a,rfl,ha,rfl⟩ | ⟨o3,o16,rfl,rfl,a,b,rfl,ha,hb',hab,e1,e2⟩ | ⟨rfl,rfl,rfl,a,b,c,rfl,ha,hb',hcc,aw,bw,cw⟩ | ⟨rfl,rfl,rfl,a,b,rfl,ha,hb',hab⟩ | ⟨rfl,rfl,m0,m16,a,rfl,ha,haw⟩ | ⟨ho,rfl,rfl,a,rfl,ha,haw⟩
  ·exact ⟨m,hw.2,fun k hk=>by obtain ⟨k,rfl⟩ : ∃ j,k = j + 1:=⟨k - 1,by omega⟩; simp [Zi]⟩
  ·obtain ⟨x, hx, hwx⟩ := hv (nm, w) (by simp)
   refine ⟨x,hwx,fun k hk=>?_⟩
   have h1:=X4 ⟨22,w,m,nm,[]⟩
   rw [XR] at h1
   rw [Zam,h1] at hsz
   obtain ⟨k,rfl⟩ : ∃ j,k = j + 1:=⟨k - 1,by omega⟩
   unfold Zi
   simp only [Int.reduceBEq,Znc,Znl,ZnT,Znr]
   rw [geto (by simp only at hsz; omega),hx]; rfl
  ·rw [Znf (show ¬ op = 22 by omega), Y8, Xr, ZnE] at hv
   rw [cnt1] at hc
   obtain ⟨x,hx,ex⟩:=ih a (by omega) ha hv
   obtain ⟨r,s1,s2⟩:=Zcf op a.W x
   refine ⟨r,Zmt s1 ho hx,fun k hk=>?_⟩
   obtain ⟨k,rfl⟩ : ∃ j,k = j + 1:=⟨k - 1,by omega⟩
   unfold Zi
   rcases ho with rfl | rfl <;> simp [get0,ex k (by omega),s2]
  ·rw [Znf (show ¬ op = 22 by omega), Y8, Y8, Xr, ZnE] at hv
   rw [cnt2] at hc
   obtain ⟨x,hx,ex⟩:=ih a (by omega) ha (fun q hq=>hv q (Zo0 _ hq))
   obtain ⟨y,hy,ey⟩:=ih b (by omega) hb' (fun q hq=>hv q (Zoe _ hq))
   obtain ⟨r,s1,s2⟩:=ZaR op a.W x y
   have hr:=Zih s1 hx (hab ▸ hy)
   refine ⟨r,?_,fun k hk=>?_⟩
   ·by_cases o : op ≤ 13
    ·show wordB w r = true
     rw [← e1 o]; exact hr.1 ⟨o3,o⟩
    ·show wordB w r = true
     rw [e2 (by omega)]; exact hr.2 ⟨by omega,o16⟩
   ·obtain ⟨k, rfl⟩ : ∃ j, k = j + 1 := ⟨k - 1, by omega⟩
    unfold Zi
    simp [get0,get1,ex k (by omega),ey k (by omega),s2,show ¬ op = 0 by omega,show ¬ op = 22 by omega,show ¬ op = 17 by omega,show ¬ op = 1 by omega,show ¬ op = 2 by omega,show ¬ op = 19 by omega,show ¬ op = 20 by omega,show ¬ op = 21 by omega,show ¬ op = 18 by omega]
  ·rw [Znf (by simp), Y8, Y8, Y8, Xr, ZnE] at hv
   rw [cnt3] at hc
   obtain ⟨x,hx,ex⟩:=ih a (by omega) ha (fun q hq=>hv q (Zo0 _ hq))
   obtain ⟨y,hy,ey⟩:=ih b (by omega) hb' (fun q hq=>hv q (Zoe _ (Zo0 _ hq)))
   obtain ⟨z,hz,ez⟩:=ih c (by omega) hcc (fun q hq=>hv q (Zoe _ (Zoe _ hq)))
   refine ⟨if x = 1 then y else z,?_,fun k hk=>?_⟩
   ·show wordB w _ = true
    split
    ·rw [← bw]; exact hy
    ·rw [← cw]; exact hz
   ·obtain ⟨k, rfl⟩ : ∃ j, k = j + 1 := ⟨k - 1, by omega⟩
    unfold Zi
    by_cases e:x = 1 <;> simp [get0,get1,get2',ex k (by omega),ey k (by omega),ez k (by omega),e]
  ·rw [Znf (by simp), Y8, Y8, Xr, ZnE] at hv
   rw [cnt2] at hc
   obtain ⟨x,hx,ex⟩:=ih a (by omega) ha (fun q hq=>hv q (Zo0 _ hq))
   obtain ⟨y,hy,ey⟩:=ih b (by omega) hb' (fun q hq=>hv q (Zoe _ hq))
   obtain ⟨r,s1,s2⟩:=Zc2 a.W x b.W y
   refine ⟨r,by show wordB w r = true; rw [← hab]; exact ZiN s1 hx hy (by omega),fun k hk=>?_⟩
   obtain ⟨k,rfl⟩ : ∃ j,k = j + 1:=⟨k - 1,by omega⟩
   unfold Zi
   simp [get0,get1,ex k (by omega),ey k (by omega),s2]
  ·rw [Znf (by simp), Y8, Xr, ZnE] at hv
   rw [cnt1] at hc
   obtain ⟨x,hx,ex⟩:=ih a (by omega) ha hv
   obtain ⟨r,s1,s2⟩:=Zdz (w:=a.W) (a:=x) (l:=m) (n:=w) (by omega) (by omega)
   refine ⟨r,Zkl s1 hx m0 w1 haw,fun k hk=>?_⟩
   obtain ⟨k,rfl⟩ : ∃ j,k = j + 1:=⟨k - 1,by omega⟩
   unfold Zi
   simp [get0,ex k (by omega),s2]
  ·rw [Znf (show ¬ op = 22 by omega), Y8, Xr, ZnE] at hv
   rw [cnt1] at hc
   obtain ⟨x,hx,ex⟩:=ih a (by omega) ha hv
   obtain ⟨r,s1,s2⟩:=ZcE a.W x w (op == 21)
   refine ⟨r,Zhy s1 hx haw w2,fun k hk=>?_⟩
   obtain ⟨k,rfl⟩ : ∃ j,k = j + 1:=⟨k - 1,by omega⟩
   unfold Zi
   rcases ho with rfl | rfl <;> simp at s2 <;> simp [get0,ex k (by omega),s2]
theorem ZjH {c:D.Term} (hf:fine c) (h0:c.Op ≠ 0) (hw:c.W = 1) (hok:(mkT 1 1 0 [c]).2 = true):(∃ e,c = ⟨1,1,0,⟨[]⟩,[e]⟩ ∧ nodeB e = true ∧ e.W = 1 ∧ (mkT 1 1 0 [c]).1 = e) ∨ (mkT 1 1 0 [c]).1 = ⟨1,1,0,⟨[]⟩,[c]⟩:=by
 unfold mkT at hok ⊢
 split at hok
 case isFalse=>cases hok
 rename_i hb
 rw [Zng hb]
 have hn:=ZiC hb
 have hr:=(ZcY hn.1 hn.2).2.2.2.1
 rw [show fuel = (fuel - 8) + 8 from by unfold fuel; rfl,Yv (by simp) (by simp) (by simp [h0])] at hr
 simp only [ZnT,Zpb,Znr] at hr
 unfold Y2 at hr
 simp only [get0,Znb] at hr
 by_cases e:c.Op = 1
 ·obtain ⟨d, ec, hd, hdw⟩ := Zi4 hf.1 e
  rw [hw] at ec hdw
  rw [Zng (by simpa using e),show c.Kids = [d] by rw [ec]] at hr
  simp only [get0,Znb,Option.some.injEq] at hr
  exact .inl ⟨d,ec,hd,hdw,hr.symm⟩
 ·rw [Znf (by simpa using e)] at hr
  exact .inr (Option.some.inj hr).symm
theorem ZhO {x:Int} (h:wordB 1 x = true):(x = 0 ∨ x = 1) ∧ YY 1 1 x = some (1 - x):=by
 have hx:=(ZZ (by omega) (by omega) x).1 h
 have hx':x = 0 ∨ x = 1:=by
  have:(2:Int) ^ (1:Int).toNat = 2:=by decide
  omega
 refine ⟨hx',?_⟩
 unfold YY
 rw [X7,h]
 rcases hx' with rfl | rfl <;> rfl
theorem Zma {env:List (Str × Int)} {c:D.Term} {x:Int} (hf:fine c) (h0:c.Op ≠ 0) (hw:c.W = 1) (hok:(mkT 1 1 0 [c]).2 = true) (hv:∀ q ∈ vrs c,∃ x,env.lookup q.1 = some x ∧ wordB q.2 x = true)
  (hx:∀ m:Nat,241 ≤ m → Zi m c (some env) = some x):∀ m:Nat,242 ≤ m → Zi m (mkT 1 1 0 [c]).1 (some env) = some (1 - x):=by
 intro m hm
 rcases ZjH hf h0 hw hok with ⟨e,ec,he,hew,ed⟩ | ed
 ·have hce : cnt e ≤ 240 := by have := hf.2; rw [ec, cnt1] at this; omega
  have hve:∀ q ∈ vrs e,∃ x,env.lookup q.1 = some x ∧ wordB q.2 x = true:=fun q hq=>hv q (by rw [ec,ZbQ,Znf (by simp),Y8,Xr,ZnE]; exact hq)
  obtain ⟨y,hy,ey⟩:=Zgx 240 e hce he hve
  rw [hew] at hy
  obtain ⟨hy',hu⟩:=ZhO hy
  have h1:=hx 242 (by omega)
  rw [ec] at h1
  unfold Zi at h1
  simp [get0,ey 241 (by omega),hew,hu] at h1
  rw [ed,ey m (by omega),← h1]
  congr 1; omega
 ·obtain ⟨y, hy, ey⟩ := Zgx 240 c hf.2 hf.1 hv
  have hxy:x = y:=Option.some.inj ((hx 241 (by omega)).symm.trans (ey 241 (by omega)))
  rw [hw] at hy
  obtain ⟨hy',hu⟩:=ZhO hy
  rw [ed,hxy]
  obtain ⟨m,rfl⟩ : ∃ j,m = j + 1:=⟨m - 1,by omega⟩
  unfold Zi
  simp [get0,ey m (by omega),hw,hu]
def envI (w:Int) (l:List Int):List (Str × Int):=((vals w l).map fun x=>(x.Name,x.N)).reverse
theorem ZkJ {w:Int} {l:List Int} (hl:l.length ≤ 3) {k:Nat} (hk:k < l.length):∃ x,fnd (vals w l) (vn k) = some ⟨vn k,w,x⟩ ∧ x ∈ l:=by
 have n01:decide (vn 0 = vn 1) = false:=by decide
 have n02:decide (vn 0 = vn 2) = false:=by decide
 have n12:decide (vn 1 = vn 2) = false:=by decide
 have e:∀ j,decide (vn j = vn j) = true:=fun j=>by simp
 match l,hl,hk with
 | [a],_,hk=>
  obtain rfl:k = 0:=by simp at hk; omega
  exact ⟨a,by simp [vals,fnd],by simp⟩
 | [a,b],_,hk=>
  have:k = 0 ∨ k = 1:=by simp at hk; omega
  rcases this with rfl | rfl
  ·exact ⟨a,by simp [vals,fnd],by simp⟩
  ·exact ⟨b,by simp [vals,fnd,List.find?,n01],by simp⟩
 | [a,b,c],_,hk=>
  have:k = 0 ∨ k = 1 ∨ k = 2:=by simp at hk; omega
  rcases this with rfl | rfl | rfl
  ·exact ⟨a,by simp [vals,fnd],by simp⟩
  ·exact ⟨b,by simp [vals,fnd,List.find?,n01],by simp⟩
  ·exact ⟨c,by simp [vals,fnd,List.find?,n02,n12],by simp⟩
theorem Zch {p:D.Program} {l:List Int} (h:inB p l = true):progB p = true ∧ l.all (wordB p.W) = true ∧ (l.length:Int) = p.In ∧ l.length ≤ 3:=by
 have h3:=ZiT h
 unfold inB at h
 simp only [Zne,ZnC,Ze] at h
 exact ⟨h.1,h3.1,h.2.2,h3.2⟩
theorem ZhU {p:D.Program} {l:List Int} (h:inB p l = true) {q:Str × Int} (hq:InV p q.1 q.2):(∃ x,(envI p.W l).lookup q.1 = some x ∧ wordB q.2 x = true) ∧ okV (vals p.W l) q = true:=by
 obtain ⟨_,hw,hn,h3⟩:=Zch h
 obtain ⟨k,hk,e1,e2⟩:=hq
 obtain ⟨x,hx,hm⟩:=ZkJ (w:=p.W) h3 (k:=k) (by omega)
 rw [Zni] at hw
 unfold okV envI
 rw [ZhH (·.N) (ZeR h3 (Zni.2 hw)).nd,e1,e2,hx]
 exact ⟨⟨x,rfl,hw x hm⟩,by simp⟩
theorem Zfd {w:Int}:∀ (l g:List (Str × Int)),(∀ s v,g.lookup s = some v → v = w) → (∀ q ∈ l,q.2 = w) → (runV g l).isSome = true
 | [],g,_,_=>rfl
 | q :: l,g,hg,hl=>by
  unfold runV stp
  have hq:=hl q (by simp)
  cases e:g.lookup q.1 with
  | some v=>
   simp only
   rw [Zng ((hg _ _ e).trans hq.symm),Znb]
   exact Zfd l g hg fun y hy=>hl y (by simp [hy])
  | none=>
   rw [Znb]
   refine Zfd l (q :: g) (fun s v h=>?_) fun y hy=>hl y (by simp [hy])
   rw [Zn8] at h
   split at h
   ·exact (Option.some.inj h).symm.trans hq
   ·exact hg _ _ h
theorem ZgJ {p:D.Program} {t:D.Term} (hf:fine t) (ha:aV (InV p) t):∀ q ∈ vrs t,InV p q.1 q.2:=(ZmA (msz t + 1)).1 t (by omega) hf.1 ha
theorem Zkp {p:D.Program} {t:D.Term} (hf:fine t) (ha:aV (InV p) t):termB t = true:=by
 unfold termB
 rw [hf.1,Zfd (w:=p.W) (vrs t) [] (fun s v h=>by cases h) fun q hq=>by
  obtain ⟨k,_,_,e⟩:=ZgJ hf ha q hq
  exact e]
 simp [hf.2]
theorem ZgL {p:D.Program} {l:List Int} (h:inB p l = true) {t:D.Term} (hf:fine t) (ha:aV (InV p) t):∃ r,wordB t.W r = true ∧ (∀ m:Nat,241 ≤ m → Zi m t (some (envI p.W l)) = some r) ∧ ev (vals p.W l) t = (r,true):=by
 obtain ⟨_,hw,hn,h3⟩:=Zch h
 have hv:=ZgJ hf ha
 obtain ⟨r,hr,er⟩:=Zgx (env:=envI p.W l) 240 t hf.2 hf.1 fun q hq=>(ZhU h (hv q hq)).1
 refine ⟨r,hr,er,?_⟩
 have henv:EnvOf (vals p.W l) (envI p.W l):=fun s=>ZhH (·.N) (ZeR h3 hw).nd s
 obtain ⟨r',e1,e2,e3⟩:=Zgo (by rw [ZcM]; omega) henv 240 t hf.2 hf.1 (by have:=Zcb hf; omega) fuel 241 (by unfold fuel; omega) (by omega)
 have hall:(vrs t).all (okV (vals p.W l)) = true:=Zni.2 fun q hq=>(ZhU h (hv q hq)).2
 have:=e3 hall
 rw [er 241 (by omega)] at this
 unfold ev
 rw [e1,hall,Option.some.inj this]; rfl
structure gP (p:D.Program) (s:D.Path):Prop where
 ok:okP p s
 vs:vP (InV p) s
 tn:∀ x ∈ s.Turns,0 ≤ x ∧ x ≤ 1
theorem Zg6 {p:D.Program} {w:Int} {l:List D.Term} (hf:fw w l) (ha:aL (InV p) l):tsB l w = true:=by
 unfold tsB
 rw [Zni]
 intro t ht
 rw [Zkp (hf t ht).1 (ha t ht),(hf t ht).2]; simp
theorem gP.path {p:D.Program} {s:D.Path} (hp:progB p = true) (h:gP p s):pathB p s = true:=by
 have k:=h.ok
 unfold pathB
 have e1:(s.Stack.all fun x=>decide (0 ≤ x ∧ x ≤ len p.Code)) = true:=Zni.2 fun x hx=>by simpa using k.sp x hx
 have e2:(s.Turns.all fun x=>decide (0 ≤ x ∧ x ≤ 1)) = true:=Zni.2 fun x hx=>by simpa using h.tn x hx
 rw [hp,e1,e2,Zg6 k.rf h.vs.rg,Zg6 k.mf h.vs.mm,Zg6 k.of h.vs.ot,Zg6 k.cf h.vs.cd]
 have a1:=k.pc
 have a2:=k.rl
 have a3:=k.ml
 have a4:=k.sl
 have a5:=k.inn
 have a6:=k.ol
 have a7:=k.cd
 have a8:=k.st
 have a9:=k.cl
 have a10:=k.tl
 simp only [Ze] at a1 ⊢
 simp only [ZnP,Zn3,Zne,Znm,ZnC]
 and_intros <;> first | exact decide_eq_true (by omega) | omega | trivial
theorem Zli (p:D.Program) (s:D.Path) (i:D.Ins):(flw p s i).1.Cond = s.Cond ∧ (flw p s i).1.Turns = s.Turns:=by
 have h:=ZdW (p:=p) (s:=s) (i:=i) (c:=s.Cond) (t:=s.Turns)
 exact ⟨congrArg (fun q:D.Path × Bool=>q.1.Cond) h,congrArg (fun q:D.Path × Bool=>q.1.Turns) h⟩
theorem Zlr (s:D.Path) (i:D.Ins):(nmd s i).Cond = s.Cond ∧ (nmd s i).Turns = s.Turns:=by
 have h:=ZgY (s:=s) (i:=i) (c:=s.Cond) (t:=s.Turns)
 have h1:=congrArg D.Path.Cond h
 have h2:=congrArg D.Path.Turns h
 exact ⟨h1,h2⟩
theorem ZiZ {p:D.Program} {s:D.Path} {i:D.Ins}:(∃ t,dvd p s i = [t] ∧ t.Cond = s.Cond ∧ t.Turns = s.Turns) ∨
  ∃ t u c,dvd p s i = [t,u] ∧ t.Cond = s.Cond ++ [c] ∧ u.Cond = s.Cond ++ [(mkT 1 1 0 [c]).1] ∧ t.Turns = s.Turns ++ [1] ∧ u.Turns = s.Turns ++ [0] ∧ fine c ∧ c.W = 1 ∧ c.Op ≠ 0 ∧ (mkT 1 1 0 [c]).2 = true:=by
 unfold dvd
 split
 ·exact .inl ⟨_,rfl,rfl,rfl⟩
 rename_i q1
 split
 ·exact .inl ⟨_,rfl,Zlr s i⟩
 split
 ·exact .inl ⟨_,rfl,rfl,rfl⟩
 split
 ·exact .inl ⟨_,rfl,Zli p s i⟩
 rename_i q4
 split
 ·exact .inl ⟨_,rfl,rfl,rfl⟩
 rename_i q5
 have q1':(qst p s.Regs i).2.2 = true:=by simpa using q1
 have q6:(mkT 1 1 0 [(qst p s.Regs i).1]).2 = true ∧ s.Cond.length ≠ 60 ∧ s.Turns.length ≠ 60:=by simpa using q5
 have ha:(qst p s.Regs i).2.1 = true:=by
  cases h:(qst p s.Regs i).2.1
  ·exact absurd (.inl h) q4
  ·rfl
 have hf:=ZdB ha q1'
 exact .inr ⟨_,_,(qst p s.Regs i).1,rfl,rfl,rfl,rfl,rfl,hf.1,hf.2,fun h=>q4 (.inr h),q6.1⟩
theorem Zgn {p:D.Program} {s:D.Path}:stp1 p s = [] ∨ (∃ t,stp1 p s = [t] ∧ t.Cond = s.Cond ∧ t.Turns = s.Turns) ∨
  ∃ t u c,stp1 p s = [t,u] ∧ t.Cond = s.Cond ++ [c] ∧ u.Cond = s.Cond ++ [(mkT 1 1 0 [c]).1] ∧ t.Turns = s.Turns ++ [1] ∧ u.Turns = s.Turns ++ [0] ∧ fine c ∧ c.W = 1 ∧ c.Op ≠ 0 ∧ (mkT 1 1 0 [c]).2 = true:=by
 unfold stp1
 split
 ·exact .inl rfl
 split
 ·exact .inr (.inl ⟨_,rfl,rfl,rfl⟩)
 split
 ·exact .inr (.inl ⟨_,rfl,rfl,rfl⟩)
 ·exact .inr (ZiZ (s:={ s with Steps:=s.Steps + 1 }))
theorem gP.step {p:D.Program} {s:D.Path} (hp:progB p = true) (h:gP p s):∀ x ∈ stp1 p s,gP p x:=by
 intro x hx
 refine ⟨ZmE hp h.ok x hx,ZmJ hp h.ok h.vs x hx,?_⟩
 have app:∀ k:Int,0 ≤ k ∧ k ≤ 1 → ∀ y ∈ s.Turns ++ [k],0 ≤ y ∧ y ≤ 1:=fun k hk y hy=>by
  rcases ZnB.1 hy with hy | hy
  ·exact h.tn y hy
  ·rw [Zn0] at hy; subst hy; exact hk
 rcases Zgn (p:=p) (s:=s) with e | ⟨t,e,-,e2⟩ | ⟨t,u,c,e,-,-,e3,e4,-⟩
 ·rw [e] at hx; cases hx
 ·rw [e, Zn0] at hx
  subst hx; rw [e2]; exact h.tn
 ·rw [e] at hx
  rcases ZnK.1 hx with rfl | hx
  ·rw [e3]; exact app 1 (by omega)
  ·rw [Zn0] at hx; subst hx; rw [e4]; exact app 0 (by omega)
abbrev TP:=Int × (List D.Term) × (List D.Term) × (List Int) × Int × (List D.Term) × Int × Int × (List D.Term) × (List Int)
abbrev tupP (s:D.Path):TP:=(s.Pc,s.Regs,s.Mem,s.Stack,s.In,s.Out,s.Code,s.Steps,s.Cond,s.Turns)
abbrev pz:D.Path:=D.Path.mk 0 ([]:List D.Term) ([]:List D.Term) ([]:List Int) 0 ([]:List D.Term) 0 0 ([]:List D.Term) ([]:List Int)
def one (v:List D.Value) (c:D.Term):Bool:=(ev v c).2 && (ev v c).1 == 1
structure hP (p:D.Program) (l:List Int) (s:D.Path):Prop where
 good:gP p s
 held:s.Cond.all (one (vals p.W l)) = true
theorem ZiM {p:D.Program} {l:List Int} {s:D.Path} (hi:inB p l = true) (h:gP p s):holdB p s l = s.Cond.all (one (vals p.W l)):=by
 unfold holdB
 rw [h.path (Zch hi).1,hi]; rfl
def nxt (p:D.Program) (l:List Int) (s:D.Path):List D.Path → Option D.Path
 | []=>none
 | [t]=>some t
 | t :: u :: _=>if (t.Cond.drop s.Cond.length).all (one (vals p.W l)) = true then some t else some u
noncomputable def runF (p:D.Program) (l:List Int):Nat → D.Path → D.Path
 | 0,s=>s
 | k + 1,s=>match nxt p l s (stp1 p s) with
  | none=>s
  | some t=>runF p l k t
theorem Zko {p:D.Program} {l:List Int} {s:D.Path} (hi:inB p l = true) (h:hP p l s):stp1 p s = [] ∨ (∃ t,stp1 p s = [t] ∧ hP p l t) ∨
  ∃ t u c r,stp1 p s = [t,u] ∧ gP p t ∧ gP p u ∧ t.Cond = s.Cond ++ [c] ∧ (∀ m:Nat,241 ≤ m → Zi m c (some (envI p.W l)) = some r) ∧ t.Cond.all (one (vals p.W l)) = (r == 1) ∧ u.Cond.all (one (vals p.W l)) = !(r == 1):=by
 have hp:=(Zch hi).1
 have hg:=h.good.step hp
 rcases Zgn (p:=p) (s:=s) with e | ⟨t,e,e2,-⟩ | ⟨t,u,c,e,e2,e3,-,-,hf,hw,h0,hok⟩
 ·exact .inl e
 ·exact .inr (.inl ⟨t,e,hg t (by rw [e]; simp),by rw [e2]; exact h.held⟩)
 ·have gt := hg t (by rw [e]; simp)
  have gu:=hg u (by rw [e]; simp)
  have ha:aV (InV p) c:=gt.vs.cd c (by rw [e2]; simp)
  obtain ⟨r,hr,er,hv⟩:=ZgL hi hf ha
  have hn:=Zma hf h0 hw hok (fun q hq=>(ZhU hi (ZgJ hf ha q hq)).1) er
  have hfn:fine (mkT 1 1 0 [c]).1:=(YT hok).1
  have han:aV (InV p) (mkT 1 1 0 [c]).1:=gu.vs.cd _ (by rw [e3]; simp)
  have hb:=(ZhO (hw ▸ hr)).1
  obtain ⟨r2,hr2,er2,hv2⟩:=ZgL hi hfn han
  have h2:r2 = 1 - r:=Option.some.inj ((er2 242 (by omega)).symm.trans (hn 242 (by omega)))
  refine .inr (.inr ⟨t,u,c,r,e,gt,gu,e2,er,?_,?_⟩)
  ·rw [e2, Zo1, h.held]
   simp [one,hv]
  ·rw [e3, Zo1, h.held]
   simp only [Zow,List.all_nil,ZnP,Zn3,one,hv2,h2]
   rcases hb with rfl | rfl <;> decide
theorem Zfp {p:D.Program} {l:List Int} {s:D.Path} (hi:inB p l = true) (h:hP p l s):(stp1 p s = [] ∧ nxt p l s (stp1 p s) = none) ∨
  (∃ t,stp1 p s = [t] ∧ nxt p l s (stp1 p s) = some t ∧ hP p l t) ∨
  ∃ t u c r,stp1 p s = [t,u] ∧ gP p t ∧ gP p u ∧ t.Cond = s.Cond ++ [c] ∧ (∀ m:Nat,241 ≤ m → Zi m c (some (envI p.W l)) = some r) ∧ ((r = 1 ∧ nxt p l s (stp1 p s) = some t ∧ hP p l t) ∨ (r ≠ 1 ∧ holdB p t l = false ∧ nxt p l s (stp1 p s) = some u ∧ hP p l u)):=by
 rcases Zko hi h with e | ⟨t,e,ht⟩ | ⟨t,u,c,r,e,gt,gu,e2,er,h1,h2⟩
 ·exact .inl ⟨e,by rw [e]; rfl⟩
 ·exact .inr (.inl ⟨t,e,by rw [e]; rfl,ht⟩)
 ·have h3:(t.Cond.drop s.Cond.length).all (one (vals p.W l)) = (r == 1):=by
   rw [e2,Zo1,h.held,Zn3] at h1
   rw [e2,List.drop_left]; exact h1
  refine .inr (.inr ⟨t,u,c,r,e,gt,gu,e2,er,?_⟩)
  by_cases hr:r = 1
  ·have hb : (r == 1) = true := by simpa using hr
   rw [hb] at h1 h3
   exact .inl ⟨hr,by rw [e]; exact Zng h3,gt,h1⟩
  ·have hb : (r == 1) = false := by simpa using hr
   rw [hb] at h1 h2 h3
   exact .inr ⟨hr,by rw [ZiM hi gt]; exact h1,by rw [e]; exact Znf (by rw [h3]; decide),gu,h2⟩
theorem Zcx {p:D.Program} {l:List Int} (hi:inB p l = true):∀ (k:Nat) (s:D.Path),hP p l s → hP p l (runF p l k s)
 | 0,s,h=>h
 | k + 1,s,h=>by
  unfold runF
  rcases Zfp hi h with ⟨_,e⟩ | ⟨t,_,e,ht⟩ | ⟨t,u,c,r,_,_,_,_,_,⟨_,e,ht⟩ | ⟨_,_,e,hu⟩⟩
  ·rw [e]; exact h
  ·rw [e]; exact Zcx hi k t ht
  ·rw [e]; exact Zcx hi k t ht
  ·rw [e]; exact Zcx hi k u hu
theorem hP0 {p:D.Program} {l:List Int} (hi:inB p l = true):hP p l (path0 p):=by
 have hp:=(Zch hi).1
 refine ⟨⟨Zkn hp,⟨?_,?_,Zfo,Zfo⟩,fun x hx=>by cases hx⟩,rfl⟩
 ·intro t ht
  rw [(Zo7.1 ht).2]; exact Zja
 ·intro t ht
  rw [(Zo7.1 ht).2]; exact Zja
theorem Zjs {v:List D.Value} (h:ValsOk v) {n:Nat} (hn:1000 ≤ n):iterN (fun (s1:Int × (List (Str × Int)))=>
  if (decide (s1.1 < (len v))) then
   (get? v s1.1).bind fun x2=>
   (mputE? fitS fitZ s1.2 x2.Name x2.N).bind fun x3=>
   some (.inl ((w64 (s1.1 + 1)),x3))
  else
   some (.inr (s1.2))) n (0,[]) = some (v.map fun x=>(x.Name,x.N)).reverse:=by
  have hlv:=h.len
  obtain ⟨r,g1,g2⟩:=Yi (l:=v) (n:=n) (σ:=List (Str × Int)) (ρ:=List (Str × Int)) (B:=fun (s1:Int × (List (Str × Int)))=>
  if (decide (s1.1 < (len v))) then
   (get? v s1.1).bind fun x2=>
   (mputE? fitS fitZ s1.2 x2.Name x2.N).bind fun x3=>
   some (.inl ((w64 (s1.1 + 1)),x3))
  else
   some (.inr (s1.2))) (fun k a=>((k:Int),a)) (fun ys a=>∃ pre,pre ++ ys = v ∧ a = (pre.map fun x=>(x.Name,x.N)).reverse)
      (fun r=>r = (v.map fun x=>(x.Name,x.N)).reverse)
      (fun k x xs a hk' hx hlen ⟨pre,h1,h2⟩=>by
        have hd:decide ((k:Int) < len v) = true:=by rw [Ze]; simp; omega
        have hpl:pre.length ≤ v.length:=by rw [← h1]; simp
        have hxv:=ZnI hx
        have hw:=h.word x hxv
        obtain ⟨b1,b2⟩:=Zf3 hw
        subst h2
        simp only [hd,Znr,get?_nat,hx,Znb]
        rw [ZmN (h.name x hxv) b1 b2 (by simp; omega)]
        refine .inl ⟨(x.Name,x.N) :: (pre.map fun x=>(x.Name,x.N)).reverse,by simp only [Znb]; rw [Zq (by omega) (by omega)]; rfl,pre ++ [x],by rw [ZnD]; exact h1,by simp⟩)
      (fun a ⟨pre,h1,h2⟩=>by
        have hd:decide ((v.length:Int) < len v) = false:=by rw [Ze]; simp
        simp only [hd,Znc,Znl]
        rw [ZnE] at h1
        subst h1
        exact ⟨_,rfl,h2⟩) (a:=[]) ⟨[],rfl,rfl⟩ (by omega)
  rw [show ((0:Nat):Int) = 0 from rfl] at g1
  rw [g1,g2]
section
variable {p:D.Program} {l:List Int}
theorem inner0 {x4:List D.Path} (h:x4 = []) {n:Nat} (hn:10 ≤ n):iterN (fun (s2:Int × Int)=>
     if (decide (s2.2 < (len x4))) then
      (get? x4 s2.2).bind fun x5=>
      (if (decide (s2.1 < 0)) then (Z5 fuel p x5 l) else some default).bind fun x6=>
      some (.inl ((cond ((decide (s2.1 < 0)) && x6) s2.2 s2.1),(w64 (s2.2 + 1))))
     else
      some (.inr (s2.1))) n ((-1),0) = some (-1):=by
  subst h
  exact Yb rfl (by omega:0 < _)
theorem inner1 {x4:List D.Path} {t:D.Path} (h:x4 = [t]) (ht:Z5 fuel p t l = some true) {n:Nat} (hn:10 ≤ n):iterN (fun (s2:Int × Int)=>
     if (decide (s2.2 < (len x4))) then
      (get? x4 s2.2).bind fun x5=>
      (if (decide (s2.1 < 0)) then (Z5 fuel p x5 l) else some default).bind fun x6=>
      some (.inl ((cond ((decide (s2.1 < 0)) && x6) s2.2 s2.1),(w64 (s2.2 + 1))))
     else
      some (.inr (s2.1))) n ((-1),0) = some 0:=by
  subst h
  obtain ⟨n,rfl⟩ : ∃ q,n = q + 1:=⟨n - 1,by omega⟩
  rw [Yz (s':=(0,1)) (by
    show ((get? [t] 0).bind fun x5=>(Z5 fuel p x5 l).bind fun x6=>some (Sum.inl ((cond (true && x6) 0 (-1)),(w64 (0 + 1))))) = some (Sum.inl _)
    rw [show get? [t] 0 = some t from rfl,Znb,ht,Znb]; rfl)]
  exact Yb rfl (by omega:0 < _)
theorem inner2 {x4:List D.Path} {t u:D.Path} (h:x4 = [t,u]) (ht:Z5 fuel p t l = some true) {n:Nat} (hn:10 ≤ n):iterN (fun (s2:Int × Int)=>
     if (decide (s2.2 < (len x4))) then
      (get? x4 s2.2).bind fun x5=>
      (if (decide (s2.1 < 0)) then (Z5 fuel p x5 l) else some default).bind fun x6=>
      some (.inl ((cond ((decide (s2.1 < 0)) && x6) s2.2 s2.1),(w64 (s2.2 + 1))))
     else
      some (.inr (s2.1))) n ((-1),0) = some 0:=by
  subst h
  obtain ⟨n,rfl⟩ : ∃ q,n = q + 2:=⟨n - 2,by omega⟩
  rw [show n + 2 = (n + 1) + 1 from rfl,Yz (s':=(0,1)) (by
    show ((get? [t,u] 0).bind fun x5=>(Z5 fuel p x5 l).bind fun x6=>some (Sum.inl ((cond (true && x6) 0 (-1)),(w64 (0 + 1))))) = some (Sum.inl _)
    rw [show get? [t,u] 0 = some t from rfl,Znb,ht,Znb]; rfl),Yz (s':=(0,2)) (by rfl)]
  exact Yb rfl (by omega:0 < _)
theorem inner3 {x4:List D.Path} {t u:D.Path} (h:x4 = [t,u]) (ht:Z5 fuel p t l = some false) (hu:Z5 fuel p u l = some true) {n:Nat} (hn:10 ≤ n):iterN (fun (s2:Int × Int)=>
     if (decide (s2.2 < (len x4))) then
      (get? x4 s2.2).bind fun x5=>
      (if (decide (s2.1 < 0)) then (Z5 fuel p x5 l) else some default).bind fun x6=>
      some (.inl ((cond ((decide (s2.1 < 0)) && x6) s2.2 s2.1),(w64 (s2.2 + 1))))
     else
      some (.inr (s2.1))) n ((-1),0) = some 1:=by
  subst h
  obtain ⟨n,rfl⟩ : ∃ q,n = q + 2:=⟨n - 2,by omega⟩
  rw [show n + 2 = (n + 1) + 1 from rfl,Yz (s':=(-1,1)) (by
    show ((get? [t,u] 0).bind fun x5=>(Z5 fuel p x5 l).bind fun x6=>some (Sum.inl ((cond (true && x6) 0 (-1)),(w64 (0 + 1))))) = some (Sum.inl _)
    rw [show get? [t,u] 0 = some t from rfl,Znb,ht,Znb]; rfl),Yz (s':=(1,2)) (by
    show ((get? [t,u] 1).bind fun x5=>(Z5 fuel p x5 l).bind fun x6=>some (Sum.inl ((cond (true && x6) 1 (-1)),(w64 (1 + 1))))) = some (Sum.inl _)
    rw [show get? [t,u] 1 = some u from rfl,Znb,hu,Znb]; rfl)]
  exact Yb rfl (by omega:0 < _)
end
theorem ZkX {p:D.Program} {l:List Int} {f:Int} (hl:p.Code.length ≤ 1048576) (hll:l.length ≤ 1048576) (hi:inB p l = true) (hf:f ≤ 400):∀ (k:Nat) (j:Int) (s:D.Path) (n:Nat),hP p l s → 0 ≤ j → j + k = f → k < n →
    iterN (fun (s1:Int × TP)=>
   if (decide (s1.1 < f)) then
    (XI fuel p (D.Path.mk s1.2.1 s1.2.2.1 s1.2.2.2.1 s1.2.2.2.2.1 s1.2.2.2.2.2.1 s1.2.2.2.2.2.2.1 s1.2.2.2.2.2.2.2.1 s1.2.2.2.2.2.2.2.2.1 s1.2.2.2.2.2.2.2.2.2.1 s1.2.2.2.2.2.2.2.2.2.2)).bind fun x4 =>
    (iterN (fun (s2 : Int × Int) =>
     if (decide (s2.2 < (len x4))) then
      (get? x4 s2.2).bind fun x5=>
      (if (decide (s2.1 < 0)) then (Z5 fuel p x5 l) else some default).bind fun x6=>
      some (.inl ((cond ((decide (s2.1 < 0)) && x6) s2.2 s2.1),(w64 (s2.2 + 1))))
     else
      some (.inr (s2.1))
    ) fuel ((-1),0)).bind fun (rl2:Int)=>
    if (decide (rl2 < 0)) then
     some (.inr (s1.2.1,s1.2.2.1,s1.2.2.2.1,s1.2.2.2.2.1,s1.2.2.2.2.2.1,s1.2.2.2.2.2.2.1,s1.2.2.2.2.2.2.2.1,s1.2.2.2.2.2.2.2.2.1,s1.2.2.2.2.2.2.2.2.2.1,s1.2.2.2.2.2.2.2.2.2.2))
    else
     (get? x4 rl2).bind fun x7=>
     some (.inl ((w64 (s1.1 + 1)),x7.Pc,x7.Regs,x7.Mem,x7.Stack,x7.In,x7.Out,x7.Code,x7.Steps,x7.Cond,x7.Turns))
   else
    some (.inr (s1.2.1,s1.2.2.1,s1.2.2.2.1,s1.2.2.2.2.1,s1.2.2.2.2.2.1,s1.2.2.2.2.2.2.1,s1.2.2.2.2.2.2.2.1,s1.2.2.2.2.2.2.2.2.1,s1.2.2.2.2.2.2.2.2.2.1,s1.2.2.2.2.2.2.2.2.2.2)):Int × TP → Option ((Int × TP) ⊕ TP)) n (j,tupP s) = some (tupP (runF p l k s)):=by
  have hp:=(Zch hi).1
  intro k
  induction k with
  | zero =>
    intro j s n hs hj hjk hn
    refine Yb ?_ hn
    simp only
    rw [Znf (by simp; omega)]; rfl
  | succ k ih =>
    intro j s n hs hj hjk hn
    obtain ⟨n,rfl⟩ : ∃ q,n = q + 1:=⟨n - 1,by omega⟩
    have hst:=Zjm hp hs.good.ok
    have hd:decide (j < f) = true:=by simp; omega
    have hf10:10 ≤ fuel:=by unfold fuel; omega
    have hh:∀ {t:D.Path},gP p t → Z5 fuel p t l = some (holdB p t l):=fun h=>Zim hl (Ze0 (h.ok.fine hp)) hll
    have ht1:∀ {t:D.Path},hP p l t → Z5 fuel p t l = some true:=fun h=>by rw [hh h.good,ZiM hi h.good,h.held]
    have wj:w64 (j + 1) = j + 1:=Zq (by omega) (by omega)
    have hst':XI fuel p (D.Path.mk s.Pc s.Regs s.Mem s.Stack s.In s.Out s.Code s.Steps s.Cond s.Turns) = some (stp1 p s):=hst
    unfold runF
    rcases Zfp hi hs with ⟨e,e2⟩ | ⟨t,e,e2,ht⟩ | ⟨t,u,c,r,e,gt,gu,ec,er,⟨hr,e2,ht⟩ | ⟨hr,hnt,e2,hu⟩⟩
    · rw [e2]
      refine Yb ?_ (by omega)
      simp only [tupP,hd,Znr]
      rw [hst']
      simp only [Znb]
      rw [inner0 e hf10]
      rfl
    · rw [e2]
      simp only
      rw [← ih (j + 1) t n ht (by omega) (by omega) (by omega)]
      refine Yz ?_
      simp only [tupP,hd,Znr]
      rw [hst']
      simp only [Znb]
      rw [inner1 e (ht1 ht) hf10,e,wj]
      rfl
    · rw [e2]
      simp only
      rw [← ih (j + 1) t n ht (by omega) (by omega) (by omega)]
      refine Yz ?_
      simp only [tupP,hd,Znr]
      rw [hst']
      simp only [Znb]
      rw [inner2 e (ht1 ht) hf10,e,wj]
      rfl
    · rw [e2]
      simp only
      rw [← ih (j + 1) u n hu (by omega) (by omega) (by omega)]
      refine Yz ?_
      simp only [tupP,hd,Znr]
      rw [hst']
      simp only [Znb]
      rw [inner3 e (by rw [hh gt,hnt]) (ht1 hu) hf10,e,wj]
      rfl
theorem ZjY {p:D.Program} {l:List Int} {f:Int} (hi:inB p l = true) (hf:f ≤ 400):∀ (k:Nat) (j:Int) (s:D.Path) (n:Nat),hP p l s → 0 ≤ j → j + k = f → k < n →
    ∃ q,iterN (fun (s2:Int × TP)=>
  if (decide (s2.1 < f)) then
   (Zal fuel p (D.Path.mk s2.2.1 s2.2.2.1 s2.2.2.2.1 s2.2.2.2.2.1 s2.2.2.2.2.2.1 s2.2.2.2.2.2.2.1 s2.2.2.2.2.2.2.2.1 s2.2.2.2.2.2.2.2.2.1 s2.2.2.2.2.2.2.2.2.2.1 s2.2.2.2.2.2.2.2.2.2.2)).bind fun x5=>
   if ((len x5) == 0) then
    some (.inr (.inr (D.Path.mk s2.2.1 s2.2.2.1 s2.2.2.2.1 s2.2.2.2.2.1 s2.2.2.2.2.2.1 s2.2.2.2.2.2.2.1 s2.2.2.2.2.2.2.2.1 s2.2.2.2.2.2.2.2.2.1 s2.2.2.2.2.2.2.2.2.2.1 s2.2.2.2.2.2.2.2.2.2.2)))
   else
    (if ((len x5) == 2) then (get? x5 0) else some default).bind fun x6=>
    (if ((len x5) == 2) then (get? x6.Cond (len s2.2.2.2.2.2.2.2.2.2.1)) else some default).bind fun x7=>
    (if ((len x5) == 2) then (Zi fuel x7 (some (envI p.W l))) else some default).bind fun x8=>
    if (((len x5) == 2) && (x8 != 1)) then
     (get? x5 1).bind fun x9=>
     some (.inl ((w64 (s2.1 + 1)),x9.Pc,x9.Regs,x9.Mem,x9.Stack,x9.In,x9.Out,x9.Code,x9.Steps,x9.Cond,x9.Turns))
    else
     (get? x5 0).bind fun x10=>
     some (.inl ((w64 (s2.1 + 1)),x10.Pc,x10.Regs,x10.Mem,x10.Stack,x10.In,x10.Out,x10.Code,x10.Steps,x10.Cond,x10.Turns))
  else
   some (.inr (.inl (s2.2.1,s2.2.2.1,s2.2.2.2.1,s2.2.2.2.2.1,s2.2.2.2.2.2.1,s2.2.2.2.2.2.2.1,s2.2.2.2.2.2.2.2.1,s2.2.2.2.2.2.2.2.2.1,s2.2.2.2.2.2.2.2.2.2.1,s2.2.2.2.2.2.2.2.2.2.2))):Int × TP → Option ((Int × TP) ⊕ (TP ⊕ D.Path))) n (j,tupP s) = some q ∧ (q = .inl (tupP (runF p l k s)) ∨ q = .inr (runF p l k s)):=by
  have hp:=(Zch hi).1
  intro k
  induction k with
  | zero =>
    intro j s n hs hj hjk hn
    refine ⟨_,Yb ?_ hn,.inl rfl⟩
    simp only
    rw [Znf (by simp; omega)]; rfl
  | succ k ih =>
    intro j s n hs hj hjk hn
    obtain ⟨n,rfl⟩ : ∃ q,n = q + 1:=⟨n - 1,by omega⟩
    have hst:=Zj5 hp hs.good.ok
    have hd:decide (j < f) = true:=by simp; omega
    have wj:w64 (j + 1) = j + 1:=Zq (by omega) (by omega)
    have hst':Zal fuel p (D.Path.mk s.Pc s.Regs s.Mem s.Stack s.In s.Out s.Code s.Steps s.Cond s.Turns) = some (stp1 p s):=hst
    have two:∀ {t u:D.Path},stp1 p s = [t,u] → (len (stp1 p s) == 0) = false ∧ (len (stp1 p s) == 2) = true:=fun e=>by rw [e]; exact ⟨rfl,rfl⟩
    unfold runF
    rcases Zfp hi hs with ⟨e,e2⟩ | ⟨t,e,e2,ht⟩ | ⟨t,u,c,r,e,gt,gu,ec,er,hor⟩
    · rw [e2]
      refine ⟨_,Yb ?_ (by omega:0 < n + 1),.inr rfl⟩
      simp only [tupP,hd,Znr]
      rw [hst',e]
      rfl
    · rw [e2]
      simp only
      obtain ⟨q,g1,g2⟩:=ih (j + 1) t n ht (by omega) (by omega) (by omega)
      refine ⟨q,?_,g2⟩
      rw [← g1]
      refine Yz ?_
      simp only [tupP,hd,Znr]
      rw [hst',e,wj]
      rfl
    · have hcond:get? t.Cond (len s.Cond) = some c:=by
        rw [ec,Ze,get?_nat,Znp (Znk _)]; simp
      have hev:=er fuel (by unfold fuel; omega)
      obtain ⟨z1,z2⟩:=two e
      rcases hor with ⟨hr,e2,ht⟩ | ⟨hr,hnt,e2,hu⟩
      · rw [e2]
        simp only
        obtain ⟨q,g1,g2⟩:=ih (j + 1) t n ht (by omega) (by omega) (by omega)
        refine ⟨q,?_,g2⟩
        rw [← g1]
        refine Yz ?_
        simp only [tupP,hd,Znr]
        rw [hst']
        simp only [Znb,z1,z2,Znc,Znl,Znr,Zn3]
        rw [e,show get? [t,u] 0 = some t from rfl]
        simp only [Znb]
        rw [hcond]
        simp only [Znb]
        rw [hev]
        simp only [Znb]
        rw [Znf (by simp [hr]),wj]
      · rw [e2]
        simp only
        obtain ⟨q,g1,g2⟩:=ih (j + 1) u n hu (by omega) (by omega) (by omega)
        refine ⟨q,?_,g2⟩
        rw [← g1]
        refine Yz ?_
        simp only [tupP,hd,Znr]
        rw [hst']
        simp only [Znb,z1,z2,Znc,Znl,Znr,Zn3]
        rw [e,show get? [t,u] 0 = some t from rfl]
        simp only [Znb]
        rw [hcond]
        simp only [Znb]
        rw [hev]
        simp only [Znb]
        rw [Zng (by simp [hr]),wj]
        rfl
end Go.Proofs.YthbfkjiiibfomaaGreatDoor
end
