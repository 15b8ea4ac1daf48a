/- Texts of this claim put into one: library or plain laws, without the program under test. -/
import Derived.Test.YtginipeibmnikaaGreatDoorPLib1
section
namespace Go.Proofs.YtginipeibmnikaaGreatDoor
open Go.GL
set_option linter.unusedSimpArgs false
set_option maxRecDepth 100000
theorem Zv {k:Nat} {op w:Int} {a b:D.Term} (h3:3 ≤ op) (h16:op ≤ 16) (hc:(a.Op == 0 && b.Op == 0) = false):ZA (k + 8) ⟨op,w,0,⟨[]⟩,[a,b]⟩ = Za (k + 7) ⟨op,w,0,⟨[]⟩,[a,b]⟩:=by
 rw [Yq (by simp) (by simp) (by simpa using hc)]
 rw [show ((op == 1) || (op == 2)) = false by simp; omega,show (op == 17) = false by simp; omega,show (op == 19) = false by simp; omega,show ((op == 20) || (op == 21)) = false by simp; omega,show (op == 18) = false by simp; omega]
 rfl
theorem Zu {k:Nat} {op w:Int} {a b:D.Term} (h3:3 ≤ op) (h16:op ≤ 16) (hc:(a.Op == 0 && b.Op == 0) = false):Z0 (k + 8) ⟨op,w,0,⟨[]⟩,[a,b]⟩ = Zh (k + 7) ⟨op,w,0,⟨[]⟩,[a,b]⟩:=by
 rw [Yo (by simp) (by rw [show ([a,b].all fun x=>x.Op == 0) = false by simpa using hc]; simp)]
 rw [show decide (3 ≤ op ∧ op ≤ 16) = true by simp; omega]
 rfl
theorem ZdG {w:Int} (h1:1 ≤ w) (h2:w ≤ 16):wordB w 0 = true:=by
 obtain ⟨p1,p2,p3⟩:=Zeq h1 h2
 rw [ZR h1 h2,p1]; omega
theorem ZiV {op w:Int} {a b:D.Term} (ho:op = 3 ∨ op = 5 ∨ op = 8 ∨ op = 9 ∨ op = 10 ∨ op = 14) (ha:nodeB a = true) (hb:nodeB b = true) (hw:a.W = b.W) (h1:op ≤ 13 → a.W = w) (h2:14 ≤ op → w = 1)
  (hc:(a.Op == 0 && b.Op == 0) = false) (hn:cnt a ≤ 240) (hs:ctm a b = 1):Stp ⟨op,w,0,⟨[]⟩,[a,b]⟩:=by
 have hma:=ZbY ha
 have i1:∀ k,1100000 ≤ k → ZH (k + 6) a b = some (ctm a b):=fun k hk=>ZcW _ _ _ (by omega) (by omega)
 have s1:∀ k,1100000 ≤ k → ZG (k + 6) a b = some (ctm a b):=fun k hk=>ZcL _ _ _ (by omega) (by omega)
 refine .go 5 6 (u:=⟨op,w,0,⟨[]⟩,[b,a]⟩) ⟨Zen (by omega) (by omega) hb ha hw.symm (fun o=>by have:=h1 o; omega) h2,rfl,by rw [cnt2,cnt2]; omega,?_⟩ (fun k hk=>?_) (fun k hk=>?_)
 ·have e : ctm b a = -1 := by rw [Zl6, hs]
  unfold mea swp
  rw [cnt2,cnt2]
  simp [e,hs]; omega
 ·rw [Zv (by omega) (by omega) hc]
  rcases ho with rfl | rfl | rfl | rfl | rfl | rfl <;> simp [Za,Zo,Zd,Zc,get0,get1,i1 k hk,hs]
 ·rw [Zu (by omega) (by omega) hc]
  rcases ho with rfl | rfl | rfl | rfl | rfl | rfl <;> simp [Zh,Zd,get0,get1,s1 k hk,hs,Zl]
theorem ZbM {op w:Int} {a b:D.Term} (ho:op = 3 ∨ op = 5 ∨ op = 8 ∨ op = 9 ∨ op = 10) (ha:nodeB a = true) (hb:nodeB b = true) (hw:a.W = b.W) (h1:a.W = w)
  (ha0:a.Op = 0) (hb0:b.Op ≠ 0) (hn:cnt a ≤ 240) (hs:ctm a b ≠ 1) (hs2:ctm a b ≠ 0)
  (f1:∀ k,1100000 ≤ k → ∃ x,Zx (k + 6) op w a b = some (x,false)) (f2:∀ k,1100000 ≤ k → ∃ x,Z5 (k + 6) ⟨op,w,0,⟨[]⟩,[a,b]⟩ = some (x,false)):Stp ⟨op,w,0,⟨[]⟩,[a,b]⟩:=by
 have hma:=ZbY ha
 have hc:(a.Op == 0 && b.Op == 0) = false:=by simp [hb0]
 have gt:¬ 0 < ctm a b:=by have:=Zfp a b; omega
 have i1:∀ k,1100000 ≤ k → ZH (k + 6) a b = some (ctm a b):=fun k hk=>ZcW _ _ _ (by omega) (by omega)
 have s1:∀ k,1100000 ≤ k → ZG (k + 6) a b = some (ctm a b):=fun k hk=>ZcL _ _ _ (by omega) (by omega)
 have i2:∀ k,1100000 ≤ k → Ye (k + 6) a b = some (ctm a b == 0):=fun k hk=>ZbI (by omega) (by omega)
 have s2:∀ k,1100000 ≤ k → Yi (k + 6) a b = some (ctm a b == 0):=fun k hk=>ZbH (by omega) (by omega)
 have me:nodeB ⟨op,w,0,⟨[]⟩,[a,b]⟩ = true:=Zen (by omega) (by omega) ha hb hw (fun _=>h1) (fun o=>by omega)
 obtain ⟨ea,va⟩:=Xa ha ha0
 by_cases e1:b.Op = op
 rotate_left
 ·refine .fin me rfl (Zm9 _) (fun k hk => ?_) (fun k hk => ?_)
  ·obtain ⟨x, f⟩ := f1 k hk
   rw [Zv (by omega) (by omega) hc]
   rcases ho with rfl | rfl | rfl | rfl | rfl <;> simp [Za,Zd,Zc,Zp,Zb,get0,get1,i1 k hk,i2 k hk,hs,hs2,ha0,hb0,f,e1]
  ·obtain ⟨x, f⟩ := f2 k hk
   rw [Zu (by omega) (by omega) hc]
   rcases ho with rfl | rfl | rfl | rfl | rfl <;> simp [Zh,Zd,Zq,get0,get1,s1 k hk,s2 k hk,gt,hs2,ha0,hb0,f,e1,Zl]
 obtain ⟨c,d,eb,hcc,hd,hcd,hcw⟩:=Zlo hb e1 (by omega) (by omega)
 have ekb:b.Kids = [c,d]:=by rw [eb]
 by_cases e2:c.Op = 0
 rotate_left
 ·refine .fin me rfl (Zm9 _) (fun k hk => ?_) (fun k hk => ?_)
  ·obtain ⟨x, f⟩ := f1 k hk
   rw [Zv (by omega) (by omega) hc]
   rcases ho with rfl | rfl | rfl | rfl | rfl <;> simp [Za,Zd,Zc,Zp,Zb,get0,get1,i1 k hk,i2 k hk,hs,hs2,ha0,hb0,f,e1,ekb,e2]
  ·obtain ⟨x, f⟩ := f2 k hk
   rw [Zu (by omega) (by omega) hc]
   rcases ho with rfl | rfl | rfl | rfl | rfl <;> simp [Zh,Zd,Zq,get0,get1,s1 k hk,s2 k hk,gt,hs2,ha0,hb0,f,e1,Zl,ekb,e2]
 obtain ⟨ec,vc⟩:=Xa hcc e2
 obtain ⟨r,q1,q2⟩:=ZcQ op w a.N c.N
 have vr:wordB w r = true:=(Zkv q1 (by rw [← h1]; exact va) (by rw [← h1,hw,← hcw (by omega)]; exact vc)).1 ⟨by omega,by omega⟩
 have gw:=Yl vr
 refine .go 5 6 (u:=⟨op,w,0,⟨[]⟩,[⟨0,w,r,⟨[]⟩,[]⟩,d]⟩) (X4 (Zen (by omega) (by omega) (ZaX vr) hd (by show w = d.W; have:=hcw (by omega); omega) (fun _=>rfl) (fun o=>by omega)) rfl (by
  have pa:=Zcd a
  have pc:=Zcd c
  rw [eb,cnt2,cnt2,cnt2,cnt0]; omega)) (fun k hk=>?_) (fun k hk=>?_)
 ·obtain ⟨x, f⟩ := f1 k hk
  rw [Zv (by omega) (by omega) hc]
  rcases ho with rfl | rfl | rfl | rfl | rfl <;> simp [Za,Zo,Zd,Zc,Zp,Zb,get0,get1,i1 k hk,i2 k hk,hs,hs2,ha0,hb0,f,e1,ekb,e2,q2,ZT vr]
 ·obtain ⟨x, f⟩ := f2 k hk
  rw [Zu (by omega) (by omega) hc]
  rcases ho with rfl | rfl | rfl | rfl | rfl <;> simp [Zh,Zd,Zq,get0,get1,s1 k hk,s2 k hk,gt,hs2,ha0,hb0,f,e1,Zl,ekb,e2,q1,Zi]
theorem Zi4 {a:D.Term} (ha:nodeB a = true) (ha0:a.Op = 0):∃ o,Zbr a.W = some o ∧ ZaQ a = some (a.N == o) ∧ 1 ≤ o ∧ wordB a.W o = true:=by
 have g:=YI ha
 obtain ⟨a1,a2,a3,a4,a5⟩:=Zbk g.1 g.2
 refine ⟨2 ^ a.W.toNat - 1,?_,?_,by omega,by rw [ZR g.1 g.2]; omega⟩
 ·unfold Zbr; rw [a2]; simp only [Zm1]; rw [a3]
 ·unfold ZaQ; simp only [ha0,Znw,ZmO,a1,Zm1,ZmY]; rw [a3]
theorem ZhX {op w:Int} {a b:D.Term} (ho:op = 3 ∨ op = 5 ∨ op = 8 ∨ op = 9 ∨ op = 10 ∨ op = 14) (ha:nodeB a = true) (hb:nodeB b = true) (hw:a.W = b.W) (h1:op ≤ 13 → a.W = w) (h2:14 ≤ op → w = 1)
  (ha0:a.Op = 0) (hb0:b.Op ≠ 0) (hn:cnt a ≤ 240) (hs:ctm a b ≠ 1):Stp ⟨op,w,0,⟨[]⟩,[a,b]⟩:=by
 have hma:=ZbY ha
 have hc:(a.Op == 0 && b.Op == 0) = false:=by simp [hb0]
 have gt:¬ 0 < ctm a b:=by have:=Zfp a b; omega
 have hs2:ctm a b ≠ 0:=fun e=>by
  rw [ZcN] at e
  by_cases q:sg a.Op b.Op = 0
  ·unfold sg at q; split at q <;> (try split at q) <;> omega
  ·simp [q] at e
 have i1:∀ k,1100000 ≤ k → ZH (k + 6) a b = some (ctm a b):=fun k hk=>ZcW _ _ _ (by omega) (by omega)
 have s1:∀ k,1100000 ≤ k → ZG (k + 6) a b = some (ctm a b):=fun k hk=>ZcL _ _ _ (by omega) (by omega)
 have i2:∀ k,1100000 ≤ k → Ye (k + 6) a b = some (ctm a b == 0):=fun k hk=>ZbI (by omega) (by omega)
 have s2:∀ k,1100000 ≤ k → Yi (k + 6) a b = some (ctm a b == 0):=fun k hk=>ZbH (by omega) (by omega)
 have me:nodeB ⟨op,w,0,⟨[]⟩,[a,b]⟩ = true:=Zen (by omega) (by omega) ha hb hw h1 h2
 obtain ⟨o,o1,o2,o3,o4⟩:=Zi4 ha ha0
 obtain ⟨ea,va⟩:=Xa ha ha0
 have ga:=YI ha
 have tb:cnt b ≤ cnt ⟨op,w,0,⟨[]⟩,[a,b]⟩:=by rw [cnt2]; omega
 have tc:∀ v,cnt ⟨0,w,v,⟨[]⟩,[]⟩ ≤ cnt ⟨op,w,0,⟨[]⟩,[a,b]⟩:=fun v=>by rw [cnt2,cnt0]; omega
 have ea0:op ≤ 13 → a.N = 0 → a = ⟨0,w,0,⟨[]⟩,[]⟩:=fun q e=>by rw [ea,e,h1 q]
 have eao:op ≤ 13 → a.N = o → a = ⟨0,w,o,⟨[]⟩,[]⟩:=fun q e=>by rw [ea,e,h1 q]
 rcases ho with rfl | rfl | rfl | rfl | rfl | rfl
 ·by_cases e0 : a.N = 0
  ·refine .fin hb (by show b.W = w; have := h1 (by omega); omega) tb (fun k hk => ?_) (fun k hk => ?_)
   ·rw [Zv (by omega) (by omega) hc]; simp [Za,Zx,Zo,Zd,Zc,Zp,Zb,get0,get1,i1 k hk,i2 k hk,hs,hs2,ha0,hb0,o1,e0]
   ·rw [Zu (by omega) (by omega) hc]; simp [Zh,Z5,Zd,Zq,Zi,get0,get1,s1 k hk,s2 k hk,gt,hs2,ha0,hb0,o2,Zl,e0]
  refine ZbM (by simp) ha hb hw (h1 (by omega)) ha0 hb0 hn hs hs2 (fun k hk=>?_) (fun k hk=>?_)
  ·exact ⟨⟨0,0,0,⟨[]⟩,[]⟩,by simp [Zx,ha0,o1,e0]⟩
  ·exact ⟨_,by simp [Z5,Zq,get0,get1,ha0,o2,e0]; rfl⟩
 ·by_cases e0 : a.N = 1
  ·refine .fin hb (by show b.W = w; have := h1 (by omega); omega) tb (fun k hk => ?_) (fun k hk => ?_)
   ·rw [Zv (by omega) (by omega) hc]; simp [Za,Zx,Zo,Zd,Zc,Zp,Zb,get0,get1,i1 k hk,i2 k hk,hs,hs2,ha0,hb0,o1,e0]
   ·rw [Zu (by omega) (by omega) hc]; simp [Zh,Z5,Zd,Zq,Zi,get0,get1,s1 k hk,s2 k hk,gt,hs2,ha0,hb0,o2,Zl,e0]
  by_cases e1:a.N = 0
  ·refine .fin ha (h1 (by omega)) (by rw [cnt2]; omega) (fun k hk => ?_) (fun k hk => ?_)
   ·rw [Zv (by omega) (by omega) hc]; simp [Za,Zx,Zo,Zd,Zc,Zp,Zb,get0,get1,i1 k hk,i2 k hk,hs,hs2,ha0,hb0,o1,e0,e1,ZT (w:=w) (v:=0) (by have:=h1 (by omega); exact ZdG (by omega) (by omega))]; exact (ea0 (by omega) (by assumption)).symm
   ·rw [Zu (by omega) (by omega) hc]; simp [Zh,Z5,Zd,Zq,Zi,get0,get1,s1 k hk,s2 k hk,gt,hs2,ha0,hb0,o2,Zl,e0,e1,ZT (w:=w) (v:=0) (by have:=h1 (by omega); exact ZdG (by omega) (by omega))]
  refine ZbM (by simp) ha hb hw (h1 (by omega)) ha0 hb0 hn hs hs2 (fun k hk=>?_) (fun k hk=>?_)
  ·exact ⟨⟨0,0,0,⟨[]⟩,[]⟩,by simp [Zx,ha0,o1,e0,e1]⟩
  ·exact ⟨_,by simp [Z5,Zq,get0,get1,ha0,o2,e0,e1]; rfl⟩
 ·by_cases e0 : a.N = o
  ·refine .fin hb (by show b.W = w; have := h1 (by omega); omega) tb (fun k hk => ?_) (fun k hk => ?_)
   ·rw [Zv (by omega) (by omega) hc]; simp [Za,Zx,Zo,Zd,Zc,Zp,Zb,get0,get1,i1 k hk,i2 k hk,hs,hs2,ha0,hb0,o1,e0,show ¬ o = 0 by omega]
   ·rw [Zu (by omega) (by omega) hc]; simp [Zh,Z5,Zd,Zq,Zi,get0,get1,s1 k hk,s2 k hk,gt,hs2,ha0,hb0,o2,Zl,e0,show ¬ o = 0 by omega]
  by_cases e1:a.N = 0
  ·refine .fin ha (h1 (by omega)) (by rw [cnt2]; omega) (fun k hk => ?_) (fun k hk => ?_)
   ·rw [Zv (by omega) (by omega) hc]; simp [Za,Zx,Zo,Zd,Zc,Zp,Zb,get0,get1,i1 k hk,i2 k hk,hs,hs2,ha0,hb0,o1,e0,e1,ZT (w:=w) (v:=0) (by have:=h1 (by omega); exact ZdG (by omega) (by omega)),show ¬ 0 = o by omega]; exact (ea0 (by omega) (by assumption)).symm
   ·rw [Zu (by omega) (by omega) hc]; simp [Zh,Z5,Zd,Zq,Zi,get0,get1,s1 k hk,s2 k hk,gt,hs2,ha0,hb0,o2,Zl,e0,e1,ZT (w:=w) (v:=0) (by have:=h1 (by omega); exact ZdG (by omega) (by omega)),show ¬ 0 = o by omega]
  refine ZbM (by simp) ha hb hw (h1 (by omega)) ha0 hb0 hn hs hs2 (fun k hk=>?_) (fun k hk=>?_)
  ·exact ⟨⟨0,0,0,⟨[]⟩,[]⟩,by simp [Zx,ha0,o1,e0,e1]⟩
  ·exact ⟨_,by simp [Z5,Zq,get0,get1,ha0,o2,e0,e1]; rfl⟩
 ·by_cases e0 : a.N = 0
  ·refine .fin hb (by show b.W = w; have := h1 (by omega); omega) tb (fun k hk => ?_) (fun k hk => ?_)
   ·rw [Zv (by omega) (by omega) hc]; simp [Za,Zx,Zo,Zd,Zc,Zp,Zb,get0,get1,i1 k hk,i2 k hk,hs,hs2,ha0,hb0,o1,e0]
   ·rw [Zu (by omega) (by omega) hc]; simp [Zh,Z5,Zd,Zq,Zi,get0,get1,s1 k hk,s2 k hk,gt,hs2,ha0,hb0,o2,Zl,e0]
  by_cases e1:a.N = o
  ·refine .fin ha (h1 (by omega)) (by rw [cnt2]; omega) (fun k hk => ?_) (fun k hk => ?_)
   ·rw [Zv (by omega) (by omega) hc]; simp [Za,Zx,Zo,Zd,Zc,Zp,Zb,get0,get1,i1 k hk,i2 k hk,hs,hs2,ha0,hb0,o1,e0,e1,ZT (w:=w) (v:=o) (by have:=h1 (by omega); rw [← this]; exact o4),show ¬ o = 0 by omega]; exact (eao (by omega) (by assumption)).symm
   ·rw [Zu (by omega) (by omega) hc]; simp [Zh,Z5,Zd,Zq,Zi,get0,get1,s1 k hk,s2 k hk,gt,hs2,ha0,hb0,o2,Zl,e0,e1,ZT (w:=w) (v:=o) (by have:=h1 (by omega); rw [← this]; exact o4),show ¬ o = 0 by omega]
  refine ZbM (by simp) ha hb hw (h1 (by omega)) ha0 hb0 hn hs hs2 (fun k hk=>?_) (fun k hk=>?_)
  ·exact ⟨⟨0,0,0,⟨[]⟩,[]⟩,by simp [Zx,ha0,o1,e0,e1]⟩
  ·exact ⟨_,by simp [Z5,Zq,get0,get1,ha0,o2,e0,e1]; rfl⟩
 ·by_cases e0 : a.N = 0
  ·refine .fin hb (by show b.W = w; have := h1 (by omega); omega) tb (fun k hk => ?_) (fun k hk => ?_)
   ·rw [Zv (by omega) (by omega) hc]; simp [Za,Zx,Zo,Zd,Zc,Zp,Zb,get0,get1,i1 k hk,i2 k hk,hs,hs2,ha0,hb0,o1,e0]
   ·rw [Zu (by omega) (by omega) hc]; simp [Zh,Z5,Zd,Zq,Zi,get0,get1,s1 k hk,s2 k hk,gt,hs2,ha0,hb0,o2,Zl,e0]
  by_cases e1:a.N = o
  ·refine .go 4 5 (u := ⟨1, w, 0, ⟨[]⟩, [b]⟩) (X4 (ZgI (.inl rfl) hb (by have := h1 (by omega); omega)) rfl (by have := Zcd a; rw [cnt1, cnt2]; omega)) (fun k hk => ?_) (fun k hk => ?_)
   ·rw [Zv (by omega) (by omega) hc]; simp [Za,Zx,Zo,Zd,Zc,Zp,Zb,get0,get1,i1 k hk,i2 k hk,hs,hs2,ha0,hb0,o1,e0,e1,show ¬ o = 0 by omega]; generalize ZA (k + 4) _ = z; cases z <;> simp
   ·rw [Zu (by omega) (by omega) hc]; simp [Zh,Z5,Zd,Zq,Zi,get0,get1,s1 k hk,s2 k hk,gt,hs2,ha0,hb0,o2,Zl,e0,e1,show ¬ o = 0 by omega]; generalize Z0 (k + 5) _ = z; cases z <;> simp
  refine ZbM (by simp) ha hb hw (h1 (by omega)) ha0 hb0 hn hs hs2 (fun k hk=>?_) (fun k hk=>?_)
  ·exact ⟨⟨0,0,0,⟨[]⟩,[]⟩,by simp [Zx,ha0,o1,e0,e1]⟩
  ·exact ⟨_,by simp [Z5,Zq,get0,get1,ha0,o2,e0,e1]; rfl⟩
 ·have hw1 := h2 (by omega)
  by_cases q:a.W = 1
  ·rw [q] at va o1
   have hv:=(ZR (by omega) (by omega) a.N).1 va
   have hv2:a.N = 0 ∨ a.N = 1:=by
    have:(2:Int) ^ (1:Int).toNat = 2:=rfl
    omega
   rcases hv2 with e | e
   ·refine .go 4 5 (u := ⟨1, 1, 0, ⟨[]⟩, [b]⟩) (X4 (ZgI (.inl rfl) hb (by omega)) hw1.symm (by have := Zcd a; rw [cnt1, cnt2]; omega)) (fun k hk => ?_) (fun k hk => ?_)
    ·rw [Zv (by omega) (by omega) hc]; simp [Za,Zx,Zo,Zd,Zc,Zp,Zb,get0,get1,i1 k hk,i2 k hk,hs,hs2,ha0,hb0,o1,e,q,hw1]; generalize ZA (k + 4) _ = z; cases z <;> simp
    ·rw [Zu (by omega) (by omega) hc]; simp [Zh,Z5,Zd,Zq,Zi,get0,get1,s1 k hk,s2 k hk,gt,hs2,ha0,hb0,o2,Zl,e,q,hw1]; generalize Z0 (k + 5) _ = z; cases z <;> simp
   ·refine .fin hb (by show b.W = w; omega) tb (fun k hk => ?_) (fun k hk => ?_)
    ·rw [Zv (by omega) (by omega) hc]; simp [Za,Zx,Zo,Zd,Zc,Zp,Zb,get0,get1,i1 k hk,i2 k hk,hs,hs2,ha0,hb0,o1,e,q]
    ·rw [Zu (by omega) (by omega) hc]; simp [Zh,Z5,Zd,Zq,Zi,get0,get1,s1 k hk,s2 k hk,gt,hs2,ha0,hb0,o2,Zl,e,q]
  ·refine .fin me rfl (Zm9 _) (fun k hk => ?_) (fun k hk => ?_)
   ·rw [Zv (by omega) (by omega) hc]; simp [Za,Zx,Zo,Zd,Zc,Zp,Zb,get0,get1,i1 k hk,i2 k hk,hs,hs2,ha0,hb0,o1,q]
   ·rw [Zu (by omega) (by omega) hc]; simp [Zh,Z5,Zd,Zq,Zi,get0,get1,s1 k hk,s2 k hk,gt,hs2,ha0,hb0,o2,Zl,q]
theorem ZgP {op w:Int} {a b:D.Term} (ho:op = 4 ∨ op = 6 ∨ op = 7 ∨ op = 11 ∨ op = 12 ∨ op = 13 ∨ op = 15 ∨ op = 16) (ha:nodeB a = true) (hb:nodeB b = true) (hw:a.W = b.W) (h1:op ≤ 13 → a.W = w) (h2:14 ≤ op → w = 1)
  (ha0:a.Op = 0) (hb0:b.Op ≠ 0) (hn:cnt a ≤ 240):Stp ⟨op,w,0,⟨[]⟩,[a,b]⟩:=by
 have hma:=ZbY ha
 have hc:(a.Op == 0 && b.Op == 0) = false:=by simp [hb0]
 have hs2:ctm a b ≠ 0:=fun e=>by
  rw [ZcN] at e
  by_cases q:sg a.Op b.Op = 0
  ·unfold sg at q; split at q <;> (try split at q) <;> omega
  ·simp [q] at e
 have i2:∀ k,1100000 ≤ k → Ye (k + 6) a b = some (ctm a b == 0):=fun k hk=>ZbI (by omega) (by omega)
 have s2:∀ k,1100000 ≤ k → Yi (k + 6) a b = some (ctm a b == 0):=fun k hk=>ZbH (by omega) (by omega)
 have me:nodeB ⟨op,w,0,⟨[]⟩,[a,b]⟩ = true:=Zen (by omega) (by omega) ha hb hw h1 h2
 obtain ⟨o,o1,o2,o3,o4⟩:=Zi4 ha ha0
 refine .fin me rfl (Zm9 _) (fun k hk=>?_) (fun k hk=>?_)
 ·rw [Zv (by omega) (by omega) hc]
  rcases ho with rfl | rfl | rfl | rfl | rfl | rfl | rfl | rfl <;> simp [Za,Zx,Zd,Zc,Zp,Zb,get0,get1,i2 k hk,hs2,ha0,hb0,o1]
 ·rw [Zu (by omega) (by omega) hc]
  rcases ho with rfl | rfl | rfl | rfl | rfl | rfl | rfl | rfl <;> simp [Zh,Z5,Zd,Zq,get0,get1,s2 k hk,hs2,ha0,hb0,o2,Zl]
theorem Zgo {op w:Int} {a b:D.Term} (h3:3 ≤ op) (h16:op ≤ 16) (ha:nodeB a = true) (hb:nodeB b = true) (hw:a.W = b.W) (h1:op ≤ 13 → a.W = w) (h2:14 ≤ op → w = 1)
  (ha0:a.Op ≠ 0) (hn:cnt a ≤ 240) (hs:op = 3 ∨ op = 5 ∨ op = 8 ∨ op = 9 ∨ op = 10 ∨ op = 14 → ctm a b ≠ 1):Stp ⟨op,w,0,⟨[]⟩,[a,b]⟩:=by
 have hma:=ZbY ha
 have hc:(a.Op == 0 && b.Op == 0) = false:=by simp [ha0]
 have ga:=YI ha
 have i1:∀ k,1100000 ≤ k → ZH (k + 6) a b = some (ctm a b):=fun k hk=>ZcW _ _ _ (by omega) (by omega)
 have s1:∀ k,1100000 ≤ k → ZG (k + 6) a b = some (ctm a b):=fun k hk=>ZcL _ _ _ (by omega) (by omega)
 have i2:∀ k,1100000 ≤ k → Ye (k + 6) a b = some (ctm a b == 0):=fun k hk=>ZbI (by omega) (by omega)
 have s2:∀ k,1100000 ≤ k → Yi (k + 6) a b = some (ctm a b == 0):=fun k hk=>ZbH (by omega) (by omega)
 have me:nodeB ⟨op,w,0,⟨[]⟩,[a,b]⟩ = true:=Zen (by omega) (by omega) ha hb hw h1 h2
 have hw1:1 ≤ w ∧ w ≤ 16:=by omega
 have hz:=ZdG hw1.1 hw1.2
 have ta:cnt a ≤ cnt ⟨op,w,0,⟨[]⟩,[a,b]⟩:=by rw [cnt2]; omega
 have tc:∀ v,cnt ⟨0,w,v,⟨[]⟩,[]⟩ ≤ cnt ⟨op,w,0,⟨[]⟩,[a,b]⟩:=fun v=>by rw [cnt2,cnt0]; omega
 have hop:op = 3 ∨ op = 4 ∨ op = 5 ∨ op = 6 ∨ op = 7 ∨ op = 8 ∨ op = 9 ∨ op = 10 ∨ op = 11 ∨ op = 12 ∨ op = 13 ∨ op = 14 ∨ op = 15 ∨ op = 16:=by omega
 have gt:op = 3 ∨ op = 5 ∨ op = 8 ∨ op = 9 ∨ op = 10 ∨ op = 14 → ¬ 0 < ctm a b:=fun o=>by have:=Zfp a b; have:=hs o; omega
 by_cases z:b.Op = 0 ∧ b.N = 0
 ·have c1 : Zp b 0 = some true := by simp [Zp, z.1, z.2]
  have c2:Zq b 0 = some true:=by simp [Zq,z.1,z.2]
  have hs2:ctm a b ≠ 0:=fun e=>by
   rw [ZcN] at e
   by_cases q:sg a.Op b.Op = 0
   ·unfold sg at q; split at q <;> (try split at q) <;> omega
   ·simp [q] at e
  rcases hop with rfl | rfl | rfl | rfl | rfl | rfl | rfl | rfl | rfl | rfl | rfl | rfl | rfl | rfl
  ·refine .fin me rfl (Zm9 _) (fun k hk => ?_) (fun k hk => ?_)
   ·rw [Zv (by omega) (by omega) hc]; simp [Za,Zd,Zc,Zb,get0,get1,i1 k hk,i2 k hk,ha0,c1,hs2,hs (by simp)]
   ·rw [Zu (by omega) (by omega) hc]; simp [Zh,Zj,Zd,Zi,get0,get1,s1 k hk,s2 k hk,ha0,c2,Zl,hs2,gt (by simp)]
  ·refine .fin ha (h1 (by omega)) ta (fun k hk => ?_) (fun k hk => ?_)
   ·rw [Zv (by omega) (by omega) hc]; simp [Za,Zd,Zc,Zb,get0,get1,i1 k hk,i2 k hk,ha0,c1]
   ·rw [Zu (by omega) (by omega) hc]; simp [Zh,Zj,Zd,Zi,get0,get1,s1 k hk,s2 k hk,ha0,c2,Zl]
  ·refine .fin me rfl (Zm9 _) (fun k hk => ?_) (fun k hk => ?_)
   ·rw [Zv (by omega) (by omega) hc]; simp [Za,Zd,Zc,Zb,get0,get1,i1 k hk,i2 k hk,ha0,c1,hs2,hs (by simp)]
   ·rw [Zu (by omega) (by omega) hc]; simp [Zh,Zj,Zd,Zi,get0,get1,s1 k hk,s2 k hk,ha0,c2,Zl,hs2,gt (by simp)]
  ·refine .fin me rfl (Zm9 _) (fun k hk => ?_) (fun k hk => ?_)
   ·rw [Zv (by omega) (by omega) hc]; simp [Za,Zd,Zc,Zb,get0,get1,i1 k hk,i2 k hk,ha0,c1,hs2]
   ·rw [Zu (by omega) (by omega) hc]; simp [Zh,Zj,Zd,Zi,get0,get1,s1 k hk,s2 k hk,ha0,c2,Zl,hs2]
  ·refine .fin me rfl (Zm9 _) (fun k hk => ?_) (fun k hk => ?_)
   ·rw [Zv (by omega) (by omega) hc]; simp [Za,Zd,Zc,Zb,get0,get1,i1 k hk,i2 k hk,ha0,c1,hs2]
   ·rw [Zu (by omega) (by omega) hc]; simp [Zh,Zj,Zd,Zi,get0,get1,s1 k hk,s2 k hk,ha0,c2,Zl,hs2]
  ·refine .fin me rfl (Zm9 _) (fun k hk => ?_) (fun k hk => ?_)
   ·rw [Zv (by omega) (by omega) hc]; simp [Za,Zd,Zc,Zb,get0,get1,i1 k hk,i2 k hk,ha0,c1,hs2,hs (by simp)]
   ·rw [Zu (by omega) (by omega) hc]; simp [Zh,Zj,Zd,Zi,get0,get1,s1 k hk,s2 k hk,ha0,c2,Zl,hs2,gt (by simp)]
  ·refine .fin me rfl (Zm9 _) (fun k hk => ?_) (fun k hk => ?_)
   ·rw [Zv (by omega) (by omega) hc]; simp [Za,Zd,Zc,Zb,get0,get1,i1 k hk,i2 k hk,ha0,c1,hs2,hs (by simp)]
   ·rw [Zu (by omega) (by omega) hc]; simp [Zh,Zj,Zd,Zi,get0,get1,s1 k hk,s2 k hk,ha0,c2,Zl,hs2,gt (by simp)]
  ·refine .fin me rfl (Zm9 _) (fun k hk => ?_) (fun k hk => ?_)
   ·rw [Zv (by omega) (by omega) hc]; simp [Za,Zd,Zc,Zb,get0,get1,i1 k hk,i2 k hk,ha0,c1,hs2,hs (by simp)]
   ·rw [Zu (by omega) (by omega) hc]; simp [Zh,Zj,Zd,Zi,get0,get1,s1 k hk,s2 k hk,ha0,c2,Zl,hs2,gt (by simp)]
  ·refine .fin ha (h1 (by omega)) ta (fun k hk => ?_) (fun k hk => ?_)
   ·rw [Zv (by omega) (by omega) hc]; simp [Za,Zd,Zc,Zb,get0,get1,i1 k hk,i2 k hk,ha0,c1]
   ·rw [Zu (by omega) (by omega) hc]; simp [Zh,Zj,Zd,Zi,get0,get1,s1 k hk,s2 k hk,ha0,c2,Zl]
  ·refine .fin ha (h1 (by omega)) ta (fun k hk => ?_) (fun k hk => ?_)
   ·rw [Zv (by omega) (by omega) hc]; simp [Za,Zd,Zc,Zb,get0,get1,i1 k hk,i2 k hk,ha0,c1]
   ·rw [Zu (by omega) (by omega) hc]; simp [Zh,Zj,Zd,Zi,get0,get1,s1 k hk,s2 k hk,ha0,c2,Zl]
  ·refine .fin ha (h1 (by omega)) ta (fun k hk => ?_) (fun k hk => ?_)
   ·rw [Zv (by omega) (by omega) hc]; simp [Za,Zd,Zc,Zb,get0,get1,i1 k hk,i2 k hk,ha0,c1]
   ·rw [Zu (by omega) (by omega) hc]; simp [Zh,Zj,Zd,Zi,get0,get1,s1 k hk,s2 k hk,ha0,c2,Zl]
  ·refine .fin me rfl (Zm9 _) (fun k hk => ?_) (fun k hk => ?_)
   ·rw [Zv (by omega) (by omega) hc]; simp [Za,Zd,Zc,Zb,get0,get1,i1 k hk,i2 k hk,ha0,c1,hs2,hs (by simp)]
   ·rw [Zu (by omega) (by omega) hc]; simp [Zh,Zj,Zd,Zi,get0,get1,s1 k hk,s2 k hk,ha0,c2,Zl,hs2,gt (by simp)]
  ·obtain rfl := h2 (by omega)
   refine .fin (ZaX (w:=1) (v:=0) (hz)) rfl (tc _) (fun k hk=>?_) (fun k hk=>?_)
   ·rw [Zv (by omega) (by omega) hc]; simp [Za,Zd,Zc,Zb,get0,get1,i1 k hk,i2 k hk,ha0,c1,ZT hz]
   ·rw [Zu (by omega) (by omega) hc]; simp [Zh,Zj,Zd,Zi,get0,get1,s1 k hk,s2 k hk,ha0,c2,Zl]
  ·refine .fin me rfl (Zm9 _) (fun k hk => ?_) (fun k hk => ?_)
   ·rw [Zv (by omega) (by omega) hc]; simp [Za,Zd,Zc,Zb,get0,get1,i1 k hk,i2 k hk,ha0,c1,hs2]
   ·rw [Zu (by omega) (by omega) hc]; simp [Zh,Zj,Zd,Zi,get0,get1,s1 k hk,s2 k hk,ha0,c2,Zl,hs2]
 ·have c1:Zp b 0 = some false:=by
   unfold Zp
   cases h:(b.Op == 0 && b.N == 0)
   ·rfl
   ·rw [Zm4,Znb,Znb] at h; exact absurd h z
  have c2:Zq b 0 = some false:=by
   unfold Zq
   cases h:(b.Op == 0 && b.N == 0)
   ·rfl
   ·rw [Zm4,Znb,Znb] at h; exact absurd h z
  by_cases e:ctm a b = 0
  ·rcases hop with rfl | rfl | rfl | rfl | rfl | rfl | rfl | rfl | rfl | rfl | rfl | rfl | rfl | rfl
   ·refine .fin me rfl (Zm9 _) (fun k hk => ?_) (fun k hk => ?_)
    ·rw [Zv (by omega) (by omega) hc]; simp [Za,Zd,Zc,Zb,get0,get1,i1 k hk,i2 k hk,ha0,c1,e]
    ·rw [Zu (by omega) (by omega) hc]; simp [Zh,Zj,Zd,Zi,get0,get1,s1 k hk,s2 k hk,ha0,c2,Zl,e]
   ·refine .fin (ZaX (w := w) (v := 0) (hz)) rfl (tc _) (fun k hk => ?_) (fun k hk => ?_)
    ·rw [Zv (by omega) (by omega) hc]; simp [Za,Zd,Zc,Zb,get0,get1,i1 k hk,i2 k hk,ha0,c1,e,ZT hz]
    ·rw [Zu (by omega) (by omega) hc]; simp [Zh,Zj,Zd,Zi,get0,get1,s1 k hk,s2 k hk,ha0,c2,Zl,e]
   ·refine .fin me rfl (Zm9 _) (fun k hk => ?_) (fun k hk => ?_)
    ·rw [Zv (by omega) (by omega) hc]; simp [Za,Zd,Zc,Zb,get0,get1,i1 k hk,i2 k hk,ha0,c1,e]
    ·rw [Zu (by omega) (by omega) hc]; simp [Zh,Zj,Zd,Zi,get0,get1,s1 k hk,s2 k hk,ha0,c2,Zl,e]
   ·refine .fin me rfl (Zm9 _) (fun k hk => ?_) (fun k hk => ?_)
    ·rw [Zv (by omega) (by omega) hc]; simp [Za,Zd,Zc,Zb,get0,get1,i1 k hk,i2 k hk,ha0,c1,e]
    ·rw [Zu (by omega) (by omega) hc]; simp [Zh,Zj,Zd,Zi,get0,get1,s1 k hk,s2 k hk,ha0,c2,Zl,e]
   ·refine .fin me rfl (Zm9 _) (fun k hk => ?_) (fun k hk => ?_)
    ·rw [Zv (by omega) (by omega) hc]; simp [Za,Zd,Zc,Zb,get0,get1,i1 k hk,i2 k hk,ha0,c1,e]
    ·rw [Zu (by omega) (by omega) hc]; simp [Zh,Zj,Zd,Zi,get0,get1,s1 k hk,s2 k hk,ha0,c2,Zl,e]
   ·refine .fin ha (h1 (by omega)) ta (fun k hk => ?_) (fun k hk => ?_)
    ·rw [Zv (by omega) (by omega) hc]; simp [Za,Zd,Zc,Zb,get0,get1,i1 k hk,i2 k hk,ha0,c1,e]
    ·rw [Zu (by omega) (by omega) hc]; simp [Zh,Zj,Zd,Zi,get0,get1,s1 k hk,s2 k hk,ha0,c2,Zl,e]
   ·refine .fin ha (h1 (by omega)) ta (fun k hk => ?_) (fun k hk => ?_)
    ·rw [Zv (by omega) (by omega) hc]; simp [Za,Zd,Zc,Zb,get0,get1,i1 k hk,i2 k hk,ha0,c1,e]
    ·rw [Zu (by omega) (by omega) hc]; simp [Zh,Zj,Zd,Zi,get0,get1,s1 k hk,s2 k hk,ha0,c2,Zl,e]
   ·refine .fin (ZaX (w := w) (v := 0) (hz)) rfl (tc _) (fun k hk => ?_) (fun k hk => ?_)
    ·rw [Zv (by omega) (by omega) hc]; simp [Za,Zd,Zc,Zb,get0,get1,i1 k hk,i2 k hk,ha0,c1,e,ZT hz]
    ·rw [Zu (by omega) (by omega) hc]; simp [Zh,Zj,Zd,Zi,get0,get1,s1 k hk,s2 k hk,ha0,c2,Zl,e]
   ·refine .fin me rfl (Zm9 _) (fun k hk => ?_) (fun k hk => ?_)
    ·rw [Zv (by omega) (by omega) hc]; simp [Za,Zd,Zc,Zb,get0,get1,i1 k hk,i2 k hk,ha0,c1,e]
    ·rw [Zu (by omega) (by omega) hc]; simp [Zh,Zj,Zd,Zi,get0,get1,s1 k hk,s2 k hk,ha0,c2,Zl,e]
   ·refine .fin me rfl (Zm9 _) (fun k hk => ?_) (fun k hk => ?_)
    ·rw [Zv (by omega) (by omega) hc]; simp [Za,Zd,Zc,Zb,get0,get1,i1 k hk,i2 k hk,ha0,c1,e]
    ·rw [Zu (by omega) (by omega) hc]; simp [Zh,Zj,Zd,Zi,get0,get1,s1 k hk,s2 k hk,ha0,c2,Zl,e]
   ·refine .fin me rfl (Zm9 _) (fun k hk => ?_) (fun k hk => ?_)
    ·rw [Zv (by omega) (by omega) hc]; simp [Za,Zd,Zc,Zb,get0,get1,i1 k hk,i2 k hk,ha0,c1,e]
    ·rw [Zu (by omega) (by omega) hc]; simp [Zh,Zj,Zd,Zi,get0,get1,s1 k hk,s2 k hk,ha0,c2,Zl,e]
   ·obtain rfl := h2 (by omega)
    refine .fin (ZaX (w:=1) (v:=1) (by decide)) rfl (tc _) (fun k hk=>?_) (fun k hk=>?_)
    ·rw [Zv (by omega) (by omega) hc]; simp [Za,Zd,Zc,Zb,get0,get1,i1 k hk,i2 k hk,ha0,c1,e,ZT (w:=1) (v:=1) (by decide)]
    ·rw [Zu (by omega) (by omega) hc]; simp [Zh,Zj,Zd,Zi,get0,get1,s1 k hk,s2 k hk,ha0,c2,Zl,e]
   ·refine .fin (ZaX (w := w) (v := 0) (hz)) rfl (tc _) (fun k hk => ?_) (fun k hk => ?_)
    ·rw [Zv (by omega) (by omega) hc]; simp [Za,Zd,Zc,Zb,get0,get1,i1 k hk,i2 k hk,ha0,c1,e,ZT hz]
    ·rw [Zu (by omega) (by omega) hc]; simp [Zh,Zj,Zd,Zi,get0,get1,s1 k hk,s2 k hk,ha0,c2,Zl,e]
   ·refine .fin (ZaX (w := w) (v := 0) (hz)) rfl (tc _) (fun k hk => ?_) (fun k hk => ?_)
    ·rw [Zv (by omega) (by omega) hc]; simp [Za,Zd,Zc,Zb,get0,get1,i1 k hk,i2 k hk,ha0,c1,e,ZT hz]
    ·rw [Zu (by omega) (by omega) hc]; simp [Zh,Zj,Zd,Zi,get0,get1,s1 k hk,s2 k hk,ha0,c2,Zl,e]
  ·rcases hop with rfl | rfl | rfl | rfl | rfl | rfl | rfl | rfl | rfl | rfl | rfl | rfl | rfl | rfl
   ·refine .fin me rfl (Zm9 _) (fun k hk => ?_) (fun k hk => ?_)
    ·rw [Zv (by omega) (by omega) hc]; simp [Za,Zd,Zc,Zb,get0,get1,i1 k hk,i2 k hk,ha0,c1,e,hs (by simp)]
    ·rw [Zu (by omega) (by omega) hc]; simp [Zh,Zj,Zd,Zi,get0,get1,s1 k hk,s2 k hk,ha0,c2,Zl,e,gt (by simp)]
   ·refine .fin me rfl (Zm9 _) (fun k hk => ?_) (fun k hk => ?_)
    ·rw [Zv (by omega) (by omega) hc]; simp [Za,Zd,Zc,Zb,get0,get1,i1 k hk,i2 k hk,ha0,c1,e]
    ·rw [Zu (by omega) (by omega) hc]; simp [Zh,Zj,Zd,Zi,get0,get1,s1 k hk,s2 k hk,ha0,c2,Zl,e]
   ·refine .fin me rfl (Zm9 _) (fun k hk => ?_) (fun k hk => ?_)
    ·rw [Zv (by omega) (by omega) hc]; simp [Za,Zd,Zc,Zb,get0,get1,i1 k hk,i2 k hk,ha0,c1,e,hs (by simp)]
    ·rw [Zu (by omega) (by omega) hc]; simp [Zh,Zj,Zd,Zi,get0,get1,s1 k hk,s2 k hk,ha0,c2,Zl,e,gt (by simp)]
   ·refine .fin me rfl (Zm9 _) (fun k hk => ?_) (fun k hk => ?_)
    ·rw [Zv (by omega) (by omega) hc]; simp [Za,Zd,Zc,Zb,get0,get1,i1 k hk,i2 k hk,ha0,c1,e]
    ·rw [Zu (by omega) (by omega) hc]; simp [Zh,Zj,Zd,Zi,get0,get1,s1 k hk,s2 k hk,ha0,c2,Zl,e]
   ·refine .fin me rfl (Zm9 _) (fun k hk => ?_) (fun k hk => ?_)
    ·rw [Zv (by omega) (by omega) hc]; simp [Za,Zd,Zc,Zb,get0,get1,i1 k hk,i2 k hk,ha0,c1,e]
    ·rw [Zu (by omega) (by omega) hc]; simp [Zh,Zj,Zd,Zi,get0,get1,s1 k hk,s2 k hk,ha0,c2,Zl,e]
   ·refine .fin me rfl (Zm9 _) (fun k hk => ?_) (fun k hk => ?_)
    ·rw [Zv (by omega) (by omega) hc]; simp [Za,Zd,Zc,Zb,get0,get1,i1 k hk,i2 k hk,ha0,c1,e,hs (by simp)]
    ·rw [Zu (by omega) (by omega) hc]; simp [Zh,Zj,Zd,Zi,get0,get1,s1 k hk,s2 k hk,ha0,c2,Zl,e,gt (by simp)]
   ·refine .fin me rfl (Zm9 _) (fun k hk => ?_) (fun k hk => ?_)
    ·rw [Zv (by omega) (by omega) hc]; simp [Za,Zd,Zc,Zb,get0,get1,i1 k hk,i2 k hk,ha0,c1,e,hs (by simp)]
    ·rw [Zu (by omega) (by omega) hc]; simp [Zh,Zj,Zd,Zi,get0,get1,s1 k hk,s2 k hk,ha0,c2,Zl,e,gt (by simp)]
   ·refine .fin me rfl (Zm9 _) (fun k hk => ?_) (fun k hk => ?_)
    ·rw [Zv (by omega) (by omega) hc]; simp [Za,Zd,Zc,Zb,get0,get1,i1 k hk,i2 k hk,ha0,c1,e,hs (by simp)]
    ·rw [Zu (by omega) (by omega) hc]; simp [Zh,Zj,Zd,Zi,get0,get1,s1 k hk,s2 k hk,ha0,c2,Zl,e,gt (by simp)]
   ·refine .fin me rfl (Zm9 _) (fun k hk => ?_) (fun k hk => ?_)
    ·rw [Zv (by omega) (by omega) hc]; simp [Za,Zd,Zc,Zb,get0,get1,i1 k hk,i2 k hk,ha0,c1,e]
    ·rw [Zu (by omega) (by omega) hc]; simp [Zh,Zj,Zd,Zi,get0,get1,s1 k hk,s2 k hk,ha0,c2,Zl,e]
   ·refine .fin me rfl (Zm9 _) (fun k hk => ?_) (fun k hk => ?_)
    ·rw [Zv (by omega) (by omega) hc]; simp [Za,Zd,Zc,Zb,get0,get1,i1 k hk,i2 k hk,ha0,c1,e]
    ·rw [Zu (by omega) (by omega) hc]; simp [Zh,Zj,Zd,Zi,get0,get1,s1 k hk,s2 k hk,ha0,c2,Zl,e]
   ·refine .fin me rfl (Zm9 _) (fun k hk => ?_) (fun k hk => ?_)
    ·rw [Zv (by omega) (by omega) hc]; simp [Za,Zd,Zc,Zb,get0,get1,i1 k hk,i2 k hk,ha0,c1,e]
    ·rw [Zu (by omega) (by omega) hc]; simp [Zh,Zj,Zd,Zi,get0,get1,s1 k hk,s2 k hk,ha0,c2,Zl,e]
   ·refine .fin me rfl (Zm9 _) (fun k hk => ?_) (fun k hk => ?_)
    ·rw [Zv (by omega) (by omega) hc]; simp [Za,Zd,Zc,Zb,get0,get1,i1 k hk,i2 k hk,ha0,c1,e,hs (by simp)]
    ·rw [Zu (by omega) (by omega) hc]; simp [Zh,Zj,Zd,Zi,get0,get1,s1 k hk,s2 k hk,ha0,c2,Zl,e,gt (by simp)]
   ·refine .fin me rfl (Zm9 _) (fun k hk => ?_) (fun k hk => ?_)
    ·rw [Zv (by omega) (by omega) hc]; simp [Za,Zd,Zc,Zb,get0,get1,i1 k hk,i2 k hk,ha0,c1,e]
    ·rw [Zu (by omega) (by omega) hc]; simp [Zh,Zj,Zd,Zi,get0,get1,s1 k hk,s2 k hk,ha0,c2,Zl,e]
   ·refine .fin me rfl (Zm9 _) (fun k hk => ?_) (fun k hk => ?_)
    ·rw [Zv (by omega) (by omega) hc]; simp [Za,Zd,Zc,Zb,get0,get1,i1 k hk,i2 k hk,ha0,c1,e]
    ·rw [Zu (by omega) (by omega) hc]; simp [Zh,Zj,Zd,Zi,get0,get1,s1 k hk,s2 k hk,ha0,c2,Zl,e]
theorem Zko {op w:Int} {a b:D.Term} (h3:3 ≤ op) (h16:op ≤ 16) (ha:nodeB a = true) (hb:nodeB b = true) (hw:a.W = b.W) (h1:op ≤ 13 → a.W = w) (h2:14 ≤ op → w = 1) (hc:(a.Op == 0 && b.Op == 0) = false) (hn:cnt a ≤ 240):Stp ⟨op,w,0,⟨[]⟩,[a,b]⟩:=by
 by_cases ho:op = 3 ∨ op = 5 ∨ op = 8 ∨ op = 9 ∨ op = 10 ∨ op = 14
 ·by_cases hs : ctm a b = 1
  ·exact ZiV ho ha hb hw h1 h2 hc hn hs
  by_cases ha0:a.Op = 0
  ·exact ZhX ho ha hb hw h1 h2 ha0 (fun e=>by simp [ha0,e] at hc) hn hs
  ·exact Zgo h3 h16 ha hb hw h1 h2 ha0 hn fun _=>hs
 ·by_cases ha0 : a.Op = 0
  ·exact ZgP (by omega) ha hb hw h1 h2 ha0 (fun e=>by simp [ha0,e] at hc) hn
  ·exact Zgo h3 h16 ha hb hw h1 h2 ha0 hn fun o=>absurd o ho
theorem step {t:D.Term} (h:nodeB t = true) (hn:cnt t ≤ 240):Stp t:=by
 obtain ⟨op,w,m,nm,ks⟩:=t
 obtain ⟨⟨w1,w2⟩,hs⟩:=XF h
 by_cases hc:ks ≠ [] ∧ (ks.all fun x=>x.Op == 0) = true
 ·refine ZhO h hc.1 ?_ hc.2
  rcases hs with ⟨_,rfl,_⟩ | ⟨_,rfl,_⟩ | ⟨_,_,_,a,rfl,_⟩ | ⟨_,_,_,_,a,b,rfl,_⟩ | ⟨_,_,_,a,b,c,rfl,_⟩ | ⟨_,_,_,a,b,rfl,_⟩ | ⟨_,_,_,_,a,rfl,_⟩ | ⟨_,_,_,a,rfl,_⟩ <;> simp
 have hc:ks ≠ [] → (ks.all fun x=>x.Op == 0) = false:=fun e=>by
  cases q:ks.all fun x=>x.Op == 0
  ·rfl
  ·exact absurd ⟨e,q⟩ hc
 rcases hs with ⟨ho,rfl,rfl,hv⟩ | ⟨ho,rfl,rfl⟩ | ⟨ho,rfl,rfl,a,rfl,ha,hw⟩ | ⟨h3,h16,rfl,rfl,a,b,rfl,ha,hb,hab,e1,e2⟩ | ⟨rfl,rfl,rfl,a,b,c,rfl,ha,hb,hcc,aw,bw,cw⟩ | ⟨rfl,rfl,rfl,a,b,rfl,ha,hb,hab⟩ | ⟨rfl,rfl,m0,m16,a,rfl,ha,haw⟩ | ⟨ho,rfl,rfl,a,rfl,ha,haw⟩
 ·exact Zgl h (.inl ho)
 ·exact Zgl h (.inr ho)
 ·exact ZlA ho ha hw (by have:=hc (by simp); simpa using this)
 ·rw [cnt2] at hn
  exact Zko h3 h16 ha hb hab e1 e2 (by have:=hc (by simp); simpa using this) (by omega)
 ·rw [cnt3] at hn
  exact Zl3 ha hb hcc aw bw cw (by have:=hc (by simp); simpa using this) (by omega)
 ·rw [cnt2] at hn
  exact Zja ha hb hab w2 (by have:=hc (by simp); simpa using this) (by omega)
 ·exact ZkR ha m0 m16 w1 haw (by have:=hc (by simp); simpa using this)
 ·exact ZjI ho ha haw w2 (by have:=hc (by simp); simpa using this)
theorem simpler:∀ (d:Nat) (t:D.Term),mea t ≤ d → nodeB t = true → cnt t ≤ 240 → ∃ r,nodeB r = true ∧ r.W = t.W ∧ cnt r ≤ cnt t ∧ (∀ n,1100000 + 8 * (d + 1) ≤ n → ZA n t = some r) ∧ ∀ n,1100000 + 8 * (d + 1) ≤ n → Z0 n t = some r:=by
 intro d
 induction d with
 | zero=>
  intro t h
  have:=Zcd t
  unfold mea at h; omega
 | succ d ih=>
  intro t hm h hn
  obtain ⟨s,hg,h1,h2⟩:=step h hn
  cases s with
  | inl r=>
   refine ⟨r,hg.1,hg.2.1,hg.2.2,fun n hn=>?_,fun n hn=>?_⟩
   ·obtain ⟨k, rfl⟩ : ∃ k, n = k + 8 := ⟨n - 8, by omega⟩
    obtain ⟨k',_,e⟩:=h1 k (by omega)
    exact e
   ·obtain ⟨k, rfl⟩ : ∃ k, n = k + 8 := ⟨n - 8, by omega⟩
    obtain ⟨k',_,e⟩:=h2 k (by omega)
    exact e
  | inr u=>
   obtain ⟨g1,g2,g3,g4⟩:=hg
   obtain ⟨r,q1,q2,q3,q4,q5⟩:=ih u (by omega) g1 (by omega)
   refine ⟨r,q1,by rw [q2,g2],by omega,fun n hn=>?_,fun n hn=>?_⟩
   ·obtain ⟨k, rfl⟩ : ∃ k, n = k + 8 := ⟨n - 8, by omega⟩
    obtain ⟨k',hk',e⟩:=h1 k (by omega)
    rw [e]; exact q4 k' (by omega)
   ·obtain ⟨k, rfl⟩ : ∃ k, n = k + 8 := ⟨n - 8, by omega⟩
    obtain ⟨k',hk',e⟩:=h2 k (by omega)
    rw [e]; exact q5 k' (by omega)
theorem simple {t:D.Term} (h:nodeB t = true) (hn:cnt t ≤ 240):∃ r,nodeB r = true ∧ r.W = t.W ∧ cnt r ≤ cnt t ∧ ZA fuel t = some r ∧ Z0 fuel t = some r:=by
 obtain ⟨r,q1,q2,q3,q4,q5⟩:=simpler (mea t) t (Zm9 _) h hn
 have:=ZkM t
 have e:mea t = 2 * cnt t + swp t:=rfl
 exact ⟨r,q1,q2,q3,q4 _ (by unfold fuel; omega),q5 _ (by unfold fuel; omega)⟩
theorem ZiJ:∀ (n:Nat) (t:D.Term),msz t ≤ 1048576 → 1048580 + cnt t ≤ n → YB n t = some t:=by
 intro n
 induction n with
 | zero=>intro t _ h; omega
 | succ n ih=>
  intro t hs hn
  have hz:=Zab t
  have hc:=Zai t
  rw [YB]
  obtain ⟨r,g1,g2⟩:=ZZ (l:=t.Kids) (n:=n) (σ:=List D.Term) (ρ:=List D.Term) (B:=fun (s1:Int × (List D.Term))=>
  if (decide (s1.1 < (len t.Kids))) then
   (get? t.Kids s1.1).bind fun x1=>
   (YB n x1).bind fun x2=>
   (app? s1.2 ([x2]:List D.Term)).bind fun x3=>
   some (.inl ((w64 (s1.1 + 1)),x3))
  else
   some (.inr (s1.2))) (fun j a=>((j:Int),a)) (fun ys a=>a ++ ys = t.Kids ∧ (∀ x ∈ ys,x ∈ t.Kids)) (fun r=>r = t.Kids)
   (fun j x xs a hj hx hlen ⟨h1, h2⟩ => by
    have hd:decide ((j:Int) < len t.Kids) = true:=by rw [Ze]; simp; omega
    have hm:=h2 x (by simp)
    have m1:=XN hm
    have m2:=Zcl hm
    have hl:=congrArg List.length h1
    simp only [ZmM,ZmS] at hl
    simp only [hd,ZmO,get?_nat,hx,Zm1,ih x (by omega) (by omega)]
    rw [ZaR (by simp; omega)]
    exact .inl ⟨a ++ [x],by simp only [Zm1]; rw [Zm (by omega) (by omega)]; rfl,by simp [← h1],fun y hy=>h2 y (by simp [hy])⟩)
   (fun a ⟨h1, _⟩ => by
    have hd:decide ((t.Kids.length:Int) < len t.Kids) = false:=by rw [Ze]; simp
    simp only [hd,Zm2,ZmA]
    exact ⟨_,rfl,by simpa using h1⟩) (a:=[]) ⟨rfl,fun _ h=>h⟩ (by omega)
  rw [show ((0:Nat):Int) = 0 from rfl] at g1
  rw [g1,g2]
  cases t; rfl
theorem Zj0:∀ n:Nat,(∀ t:D.Term,msz t ≤ 1048576 → 1048580 + 2 * msz t + 1 ≤ n → Xx n t = some t) ∧ (∀ l:List D.Term,sml l → 1048580 + 2 * (l.length + mszs l) ≤ n → Yb n l = some l):=by
 intro n
 induction n with
 | zero=>exact ⟨fun t _ _=>by omega,fun l _ _=>by omega⟩
 | succ n ih=>
  refine ⟨fun t h hn=>?_,fun l h hn=>?_⟩
  ·have := Zab t
   unfold Xx
   rw [ih.2 t.Kids (by unfold sml; omega) (by omega)]
   cases t; rfl
  ·unfold sml at h
   unfold Yb
   by_cases c0:l.length = 0
   ·have : l = [] := Znn.1 c0
    subst this; rfl
   rw [Zm5 (by rw [Ze]; simp; exact fun e=>c0 (by simp [e])),mk?_len (by unfold room; omega)]
   simp only [Zm1]
   obtain ⟨r,g1,g2⟩:=ZZ (l:=l) (n:=n) (σ:=List D.Term) (ρ:=List D.Term) (B:=fun (s1:Int × (List D.Term))=>
     if (decide (s1.1 < (len l))) then
      (get? l s1.1).bind fun x2=>
      (Xx n x2).bind fun x3=>
      (set? s1.2 s1.1 x3).bind fun x4=>
      some (.inl ((w64 (s1.1 + 1)),x4))
     else
      some (.inr (s1.2))) (fun k (a:List D.Term)=>((k:Int),a)) (fun ys a=>(∃ pre zs:List D.Term,pre ++ ys = l ∧ a = pre ++ zs ∧ zs.length = ys.length) ∧ ∀ x ∈ ys,x ∈ l) (fun r=>r = l)
     (fun k x xs a hk' hx hlen ⟨⟨pre, zs, h1, hz, hz'⟩, hm⟩ => by
      have hxl:=hm x (by simp)
      have:=XN hxl
      have hl:=congrArg List.length h1
      simp only [ZmS,ZmM] at hlen hz' hl
      simp only [get?_nat,hx,Zm1,Ze]
      rw [Zm6 (by simpa using hk'),ih.1 x (by omega) (by omega)]
      simp only [Zm1]
      obtain ⟨z,zs,rfl⟩ : ∃ z zs',zs = z :: zs':=by cases zs with | nil=>simp at hz' | cons z zs=>exact ⟨_,_,rfl⟩
      have e1:pre.length = k:=by omega
      subst hz
      rw [set?_nat (by simp; omega)]
      refine .inl ⟨(pre ++ z :: zs).set k x,by simp only [Zm1]; rw [Zm (by omega) (by omega)]; rfl,⟨pre ++ [x],zs,by simp [← h1],?_,by simpa using hz'⟩,fun y hy=>hm y (by simp [hy])⟩
      rw [ZnE _ _ (by omega),e1,Zn7]; simp)
     (fun a ⟨⟨pre, zs, h1, h2, h3⟩, _⟩ => by
      have hd:decide ((l.length:Int) < len l) = false:=by rw [Ze]; simp
      simp only [hd,Zm2,ZmA]
      simp only [Znu,Znn] at h3
      subst h3
      exact ⟨_,rfl,by rw [h2]; simpa using h1⟩) (a:=List.replicate l.length _) ⟨⟨[],_,rfl,rfl,by simp⟩,fun _ h=>h⟩ (by omega)
   rw [show ((0:Nat):Int) = 0 from rfl] at g1
   rw [g1,g2]
   rfl
theorem Zf4 {t:D.Term} (h:nodeB t = true) (hn:cnt t ≤ 240):msz t ≤ 2640:=by
 have:=ZbY h
 omega
theorem Ziy {t:D.Term} (h:nodeB t = true) (hn:cnt t ≤ 240):YB fuel t = some t:=ZiJ _ _ (by have:=Zf4 h hn; omega) (by unfold fuel; omega)
def t0:D.Term:=⟨0,0,0,⟨[]⟩,[]⟩
noncomputable def simp1 (t:D.Term):D.Term:=(ZA fuel t).getD t0
theorem Zfn {t:D.Term} (h:nodeB t = true) (hn:cnt t ≤ 240):nodeB (simp1 t) = true ∧ (simp1 t).W = t.W ∧ cnt (simp1 t) ≤ cnt t ∧ ZA fuel t = some (simp1 t) ∧ Z0 fuel t = some (simp1 t):=by
 obtain ⟨r,q1,q2,q3,q4,q5⟩:=simple h hn
 have e:simp1 t = r:=by unfold simp1; rw [q4]; rfl
 rw [e]; exact ⟨q1,q2,q3,q4,q5⟩
theorem Zb0 {t:D.Term} (h:termB t = true):nodeB t = true ∧ cnt t ≤ 240:=by
 unfold termB at h
 simp only [Zm4,ZmG] at h
 exact ⟨h.1.2,h.1.1⟩
noncomputable def mkT (op w m:Int) (ks:List D.Term):D.Term × Bool:=if termB ⟨op,w,m,⟨[]⟩,ks⟩ = true then (simp1 ⟨op,w,m,⟨[]⟩,ks⟩,true) else (t0,false)
theorem ZlL {op w m:Int} {ks:List D.Term} (h:sml ks):msz ⟨op,w,m,⟨[]⟩,ks⟩ ≤ 1048576:=by
 rw [Zab]; unfold sml at h; simp; omega
theorem ZlI {op w m:Int} {ks:List D.Term} (h:sml ks):Za2 fuel op w m ks = some (mkT op w m ks):=by
 unfold Za2 mkT
 rw [ZfS (ZlL h)]
 simp only [Zm1]
 cases c:termB ⟨op,w,m,⟨[]⟩,ks⟩
 ·rfl
 ·obtain ⟨a, b⟩ := Zb0 c
  obtain ⟨q1,q2,q3,q4,q5⟩:=Zfn a b
  simp only [ZmF,Zm2,ZmA,ZmO,q5,Zm1,Ziy q1 (by omega)]
theorem ZbE {op w m:Int} {ks:List D.Term} (h:sml ks):ZK fuel op w m ks = some (mkT op w m ks):=by
 unfold ZK mkT
 rw [ZfW (ZlL h)]
 simp only [Zm1]
 cases c:termB ⟨op,w,m,⟨[]⟩,ks⟩
 ·rfl
 ·obtain ⟨a, b⟩ := Zb0 c
  obtain ⟨q1,q2,q3,q4,q5⟩:=Zfn a b
  simp only [ZmF,Zm2,ZmA,ZmO,q4,Zm1]
def fine (t:D.Term):Prop:=nodeB t = true ∧ cnt t ≤ 240
theorem ZlC {t:D.Term} (h:termB t = true):fine t:=Zb0 h
theorem YZ {op w m:Int} {ks:List D.Term} (h:(mkT op w m ks).2 = true):fine (mkT op w m ks).1 ∧ (mkT op w m ks).1.W = w:=by
 unfold mkT at h ⊢
 cases c:termB ⟨op,w,m,⟨[]⟩,ks⟩
 ·rw [c] at h; simp at h
 ·obtain ⟨a, b⟩ := Zb0 c
  obtain ⟨q1,q2,q3,q4,q5⟩:=Zfn a b
  simp only [ZmO]
  exact ⟨⟨q1,by omega⟩,q2⟩
theorem Zc9 {t:D.Term} (h:fine t):msz t ≤ 2640:=Zf4 h.1 h.2
theorem sml2 {a b:D.Term} (ha:msz a ≤ 2640) (hb:msz b ≤ 1000000):sml [a,b]:=by
 unfold sml
 rw [YS,YS,Zbz]; simp; omega
def c11:D.Term:=⟨0,1,1,⟨[]⟩,[]⟩
theorem Zik {l:List D.Term} {w:Int} (h:tsB l w = true) {x:D.Term} (hx:x ∈ l):termB x = true ∧ x.W = w:=by
 unfold tsB at h
 rw [ZmD] at h
 have:=h x hx
 simpa using this
theorem Zbn {σt ρt:Type} {B:σt → Option (σt ⊕ ρt)} {s s':σt} {n:Nat} (h:B s = some (.inl s')):iterN B (n + 1) s = iterN B n s':=by
 conv=>lhs; unfold iterN
 rw [h]
def fineL (l:List D.Term):Prop:=l.length ≤ 100 ∧ ∀ x ∈ l,fine x
theorem Zf1 {m:Nat}:∀ {l:List D.Term},(∀ x ∈ l,msz x ≤ m) → mszs l ≤ l.length * m
 | [],_=>by rw [Zbz]; simp
 | x :: l,h=>by
  have h1:=h x (by simp)
  have h2:=Zf1 (l:=l) fun y hy=>h y (by simp [hy])
  rw [YS,ZmS,Zo6]; omega
theorem ZbJ {l:List D.Term} (h:fineL l):sml l:=by
 have h1:=Zf1 (m:=2640) fun x hx=>Zc9 (h.2 x hx)
 have h2:=h.1
 unfold sml
 have:l.length * 2640 ≤ 100 * 2640:=ZnH _ h2
 omega
theorem ZbS {l:List D.Term} (h:fineL l):YG fuel l = some l:=by
 unfold YG
 have hl:=h.1
 obtain ⟨r,g1,g2⟩:=ZZ (l:=l) (n:=fuel) (σ:=List D.Term) (ρ:=List D.Term) (B:=fun (s1:Int × (List D.Term))=>
  if (decide (s1.1 < (len l))) then
   (get? l s1.1).bind fun x1=>
   (YB fuel x1).bind fun x2=>
   (app? s1.2 ([x2]:List D.Term)).bind fun x3=>
   some (.inl ((w64 (s1.1 + 1)),x3))
  else
   some (.inr (s1.2))) (fun j a=>((j:Int),a)) (fun ys a=>a ++ ys = l ∧ ∀ x ∈ ys,x ∈ l) (fun r=>r = l)
  (fun j x xs a hj hx hlen ⟨h1, h2⟩ => by
   have hd:decide ((j:Int) < len l) = true:=by rw [Ze]; simp; omega
   have hm:=h2 x (by simp)
   have hc:=congrArg List.length h1
   simp only [ZmM,ZmS] at hc
   simp only [hd,ZmO,get?_nat,hx,Zm1,Ziy (h.2 x hm).1 (h.2 x hm).2]
   rw [ZaR (by simp; omega)]
   exact .inl ⟨a ++ [x],by simp only [Zm1]; rw [Zm (by omega) (by omega)]; rfl,by simp [← h1],fun y hy=>h2 y (by simp [hy])⟩)
  (fun a ⟨h1, _⟩ => by
   have hd:decide ((l.length:Int) < len l) = false:=by rw [Ze]; simp
   simp only [hd,Zm2,ZmA]
   exact ⟨_,rfl,by simpa using h1⟩) (a:=[]) ⟨rfl,fun _ h=>h⟩ (by unfold fuel; omega)
 rw [show ((0:Nat):Int) = 0 from rfl] at g1
 rw [g1,g2]; rfl
theorem Zca {l:List D.Term} (h:fineL l):Yb fuel l = some l:=(Zj0 fuel).2 l (ZbJ h) (by
 have:=ZbJ h
 unfold sml at this
 unfold fuel; omega)
def fineP (s:D.Path):Prop:=fineL s.Regs ∧ fineL s.Mem ∧ s.Stack.length ≤ 100 ∧ fineL s.Out ∧ fineL s.Cond ∧ s.Turns.length ≤ 100
theorem Zh2 {s:D.Path} (h:fineP s):smallP s:=⟨ZbJ h.1,ZbJ h.2.1,by have:=h.2.2.1; omega,ZbJ h.2.2.2.1,ZbJ h.2.2.2.2.1,by have:=h.2.2.2.2.2; omega⟩
theorem Zgm {l:List Int} (h:l.length ≤ 100):app? ([]:List Int) l = some l:=by
 rw [ZaR (by simp; omega)]; rfl
theorem ZlP {l:List D.Term} (h:l.length ≤ 1000):app? ([]:List D.Term) l = some l:=by
 rw [ZaR (by simp; omega)]; rfl
theorem Zbl {s:D.Path} (h:fineP s):Yh fuel s = some s:=by
 obtain ⟨h1,h2,h3,h4,h5,h6⟩:=h
 unfold Yh
 simp only [ZbS h1,ZbS h2,Zgm h3,ZbS h4,ZbS h5,Zgm h6,Zm1]
theorem Zka {s:D.Path} (h:fineP s):XU fuel s = some s:=by
 obtain ⟨h1,h2,h3,h4,h5,h6⟩:=h
 unfold XU Z7
 simp only [Zca h1,Zca h2,Zgm h3,Zca h4,Zca h5,Zgm h6,Zm1]
theorem Zeh {p:D.Program} (h:progB p = true):1 ≤ p.W ∧ p.W ≤ 16 ∧ 0 ≤ p.Mem ∧ p.Mem ≤ 6 ∧ 0 ≤ p.In ∧ p.In ≤ 3:=by
 unfold progB at h
 simp only [Zm4,ZmG] at h
 omega
theorem sml3' {a b c:D.Term} (ha:msz a ≤ 2640) (hb:msz b ≤ 2640) (hc:msz c ≤ 2640):sml [a,b,c]:=by
 unfold sml
 rw [YS,YS,YS,Zbz]; simp; omega
def fw (w:Int) (l:List D.Term):Prop:=∀ t ∈ l,fine t ∧ t.W = w
structure okP (p:D.Program) (s:D.Path):Prop where
 pc:0 ≤ s.Pc ∧ s.Pc ≤ len p.Code
 rl:s.Regs.length = 4
 rf:fw p.W s.Regs
 ml:(s.Mem.length:Int) = p.Mem
 mf:fw p.W s.Mem
 sl:s.Stack.length ≤ 3
 sp:∀ x ∈ s.Stack,0 ≤ x ∧ x ≤ len p.Code
 inn:0 ≤ s.In ∧ s.In ≤ p.In
 ol:s.Out.length ≤ 6
 of:fw p.W s.Out
 cd:0 ≤ s.Code ∧ s.Code ≤ 9
 st:0 ≤ s.Steps ∧ s.Steps ≤ 400
 cl:s.Cond.length ≤ 60
 cf:fw 1 s.Cond
 tl:s.Turns.length ≤ 60
theorem ZeG {w:Int} {l:List D.Term} (h:fw w l) (hl:l.length ≤ 100):fineL l:=⟨hl,fun x hx=>(h x hx).1⟩
theorem okP.fine {p:D.Program} {s:D.Path} (h:okP p s) (hp:progB p = true):fineP s:=by
 have hm:=Zeh hp
 have:=h.ml
 exact ⟨ZeG h.rf (by have:=h.rl; omega),ZeG h.mf (by omega),by have:=h.sl; omega,ZeG h.of (by have:=h.ol; omega),ZeG h.cf (by have:=h.cl; omega),by have:=h.tl; omega⟩
theorem Zkg {w:Int} {l:List D.Term} (h:fw w l) {k:Nat} {t:D.Term} (ht:fine t ∧ t.W = w):fw w (l.set k t):=fun x hx=>by
 rcases Zox hx with hx | rfl
 ·exact h x hx
 ·exact ht
theorem ZjN {w:Int} {l:List D.Term} (h:fw w l) {t:D.Term} (ht:fine t ∧ t.W = w):fw w (l ++ [t]):=fun x hx=>by
 rcases Znh.1 hx with hx | hx
 ·exact h x hx
 ·rw [ZmX] at hx; subst hx; exact ht
def rg (l:List D.Term) (k:Int):D.Term:=(l[k.toNat]?).getD t0
theorem Zch {l:List D.Term} {k:Int} (h0:0 ≤ k) (h1:k < l.length):get? l k = some (rg l k):=by
 obtain ⟨j,rfl⟩ : ∃ j:Nat,k = (j:Int):=⟨k.toNat,by omega⟩
 unfold rg
 rw [get?_nat,Zo0,Zm7 (by omega)]; rfl
theorem Zcr {w:Int} {l:List D.Term} {k:Int} (h:fw w l) (h0:0 ≤ k) (h1:k < l.length):fine (rg l k) ∧ (rg l k).W = w:=by
 unfold rg
 rw [Zm7 (by omega)]
 exact h _ (ZnQ _)
theorem ZhK {α:Type} {l:List α} {k:Int} (h0:0 ≤ k) (h1:k < l.length) (x:α):set? l k x = some (l.set k.toNat x):=by
 obtain ⟨j,rfl⟩ : ∃ j:Nat,k = (j:Int):=⟨k.toNat,by omega⟩
 rw [set?_nat (by omega),Zo0]
theorem ZiA {l:List D.Term} (h:l.length ≤ 1000):Z8 l = some l:=by
 unfold Z8
 rw [ZlP h]; rfl
theorem put_eq {l:List D.Term} {k:Int} {t:D.Term} (hl:l.length ≤ 1000) (h0:0 ≤ k) (h1:k < l.length):XQ l k t = some (l.set k.toNat t):=by
 unfold XQ
 rw [ZiA hl]
 simp only [Zm1]
 rw [ZhK h0 h1]; rfl
theorem Zgw {l:List D.Term} {t:D.Term} (hl:l.length ≤ 1000):Zbb l t = some (l ++ [t]):=by
 unfold Zbb ZY
 rw [ZiA hl]
 simp only [Zm1]
 rw [ZaR (by simp; omega)]; rfl
theorem Zg2 {l:List Int} {x:Int} (hl:l.length ≤ 100):Zbf l x = some (l ++ [x]):=by
 unfold Zbf Z7
 rw [Zgm hl]
 simp only [Zm1]
 rw [ZaR (by simp; omega)]; rfl
def kT (w v:Int):D.Term:=⟨0,w,v,⟨[]⟩,[]⟩
theorem ZbX {w v:Int} (h:wordB w v = true):fine (kT w v):=⟨ZaX h,by unfold kT; rw [cnt0]; omega⟩
theorem Y2 {p:D.Program} (hp:progB p = true):wordB p.W p.Mem = true ∧ 2 ≤ p.W ∧ p.W ≤ 8 ∧ 1 ≤ p.Mem ∧ p.Mem ≤ 6:=by
 unfold progB at hp
 simp only [Zm4,ZmG] at hp
 exact ⟨by simp [hp],by omega,by omega,by omega,by omega⟩
theorem Zcs {p:D.Program} (hp:progB p = true) {k:Int} (h0:0 ≤ k) (h1:k ≤ p.Mem):wordB p.W k = true:=by
 obtain ⟨m1,m2,m3,m4,m5⟩:=Y2 hp
 rw [ZR (by omega) (by omega)] at m1 ⊢
 omega
theorem sml2f {a b:D.Term} (ha:fine a) (hb:fine b):sml [a,b]:=sml2 (Zc9 ha) (by have:=Zc9 hb; omega)
theorem sml1f {a:D.Term} (ha:fine a):sml [a]:=by
 have:=Zc9 ha
 unfold sml
 rw [YS,Zbz]; simp; omega
theorem sml3f {a b c:D.Term} (ha:fine a) (hb:fine b) (hc:fine c):sml [a,b,c]:=sml3' (Zc9 ha) (Zc9 hb) (Zc9 hc)
noncomputable def cel (w k:Int) (x a b:D.Term):D.Term × Bool:=
 if (mkT 14 1 0 [kT w k,x]).2 = true then mkT 17 w 0 [(mkT 14 1 0 [kT w k,x]).1,a,b] else (t0,false)
theorem ZfC {w k:Int} {x a b:D.Term} (h:(cel w k x a b).2 = true):fine (cel w k x a b).1 ∧ (cel w k x a b).1.W = w:=by
 unfold cel at h ⊢
 split at h
 ·rename_i c; rw [Zm6 c]; exact YZ h
 ·cases h
theorem Zhk {p:D.Program} {k:Int} {x a b:D.Term} (hw:wordB p.W k = true) (hx:fine x) (ha:fine a) (hb:fine b):XA fuel p k x a b = some (cel p.W k x a b):=by
 unfold XA cel
 rw [ZT hw]
 simp only [Zm1]
 show ((ZK fuel 14 1 0 [kT p.W k,x]).bind _) = _
 rw [ZbE (sml2f (ZbX hw) hx)]
 simp only [Zm1]
 by_cases c:(mkT 14 1 0 [kT p.W k,x]).2 = true
 ·rw [Zm5 (by rw [c]; simp),Zm6 c,ZbE (sml3f (YZ c).1 ha hb)]; rfl
 ·rw [Zm6 (by simpa using c),Zm5 c]; rfl
theorem X5 {b:Bool} {op w:Int} {ks:List D.Term} (h:sml ks):Zg fuel ⟨b⟩ op w ks = some ((mkT op w 0 ks).1,⟨b || !(mkT op w 0 ks).2⟩):=by
 unfold Zg
 rw [ZlI h]
 simp only [Zm1]
 cases (mkT op w 0 ks).2 <;> cases b <;> rfl
noncomputable def ldT (w:Int) (x:D.Term) (mem:List D.Term):Nat → D.Term → D.Term × Bool
 | 0,t=>(t,true)
 | j + 1,t=>if (cel w (j:Int) x (rg mem j) t).2 = true then ldT w x mem j (cel w (j:Int) x (rg mem j) t).1 else (t0,false)
theorem Zh0 {w:Int} {x:D.Term} {mem:List D.Term}:∀ {j:Nat} {t:D.Term},fine t ∧ t.W = w → (ldT w x mem j t).2 = true → fine (ldT w x mem j t).1 ∧ (ldT w x mem j t).1.W = w
 | 0,t,ht,_=>ht
 | j + 1,t,ht,h=>by
  unfold ldT at h ⊢
  split at h
  ·rename_i c; rw [Zm6 c]; exact Zh0 (ZfC c) h
  ·cases h
theorem ZkS {w:Int} {x:D.Term} {mem:List D.Term}:∀ {j:Nat} {t:D.Term},(ldT w x mem j t).2 = false → ldT w x mem j t = (t0,false)
 | 0,t,h=>by cases h
 | j + 1,t,h=>by
  unfold ldT at h ⊢
  split at h
  ·rename_i c; rw [Zm6 c]; exact ZkS h
  ·rename_i c; rw [Zm5 c]
noncomputable def load (w:Int) (mem:List D.Term) (x:D.Term):D.Term × Bool:=if x.Op = 0 then (rg mem x.N,true) else ldT w x mem (mem.length - 1) (rg mem ((mem.length - 1:Nat):Int))
abbrev T5:=Int × Int × Int × Str × (List D.Term)
abbrev tup5 (t:D.Term):T5:=(t.Op,t.W,t.N,t.Name,t.Kids)
theorem Zeb (t:D.Term):(D.Term.mk t.Op t.W t.N t.Name t.Kids) = t:=by cases t; rfl
theorem Zl0 {p:D.Program} {mem:List D.Term} {x:D.Term} (hp:progB p = true) (hm:(mem.length:Int) = p.Mem) (hf:fw p.W mem) (hx:fine x):∀ (j:Nat) (t:D.Term) (n:Nat),fine t ∧ t.W = p.W → j ≤ mem.length → j < n →
    iterN (fun (s1:Int × Int × Int × Int × Str × (List D.Term))=>
   if (decide (s1.1 ≥ 0)) then
    (get? mem s1.1).bind fun x4=>
    (XA fuel p s1.1 x x4 (D.Term.mk s1.2.1 s1.2.2.1 s1.2.2.2.1 s1.2.2.2.2.1 s1.2.2.2.2.2)).bind fun x5=>
    if (!x5.2) then
     some (.inr (.inr ((D.Term.mk 0 0 0 ⟨[]⟩ ([]:List D.Term)),false)))
    else
     some (.inl ((w64 (s1.1 - 1)),x5.1.Op,x5.1.W,x5.1.N,x5.1.Name,x5.1.Kids))
   else
    some (.inr (.inl (s1.2.1,s1.2.2.1,s1.2.2.2.1,s1.2.2.2.2.1,s1.2.2.2.2.2))):Int × T5 → Option ((Int × T5) ⊕ (T5 ⊕ (D.Term × Bool))))
     n ((j:Int) - 1,tup5 t) = some (if (ldT p.W x mem j t).2 = true then (.inl (tup5 (ldT p.W x mem j t).1):T5 ⊕ (D.Term × Bool)) else .inr (t0,false)):=by
  intro j
  induction j with
  | zero =>
    intro t n ht _ hn
    refine XH ?_ hn
    simp only
    rw [Zm5 (by simp)]; rfl
  | succ j ih =>
    intro t n ht hj hn
    obtain ⟨n,rfl⟩ : ∃ m,n = m + 1:=⟨n - 1,by omega⟩
    have hm6:=Y2 hp
    have e1:((j + 1:Nat):Int) - 1 = (j:Int):=by omega
    have eg:=Zch (l:=mem) (k:=(j:Int)) (by omega) (by omega)
    have ec:=Zhk (p:=p) (k:=(j:Int)) (x:=x) (a:=rg mem j) (b:=t) (Zcs hp (by omega) (by omega)) hx (Zcr hf (by omega) (by omega)).1 ht.1
    rw [e1]
    unfold ldT
    by_cases c:(cel p.W (j:Int) x (rg mem j) t).2 = true
    · rw [Zm6 c, ← ih _ n (ZfC c) (by omega) (by omega)]
      refine Zbn ?_
      simp only [tup5,eg,Zm1,Zeb,ec,c]
      rw [Zm6 (by simp),Zm5 (by simp),Zm (by omega) (by omega)]
    · rw [Zm5 c]
      refine XH ?_ (by omega)
      simp only [tup5,eg,Zm1,Zeb,ec]
      rw [Zm6 (by simp),Zm6 (by simpa using c)]; rfl
theorem ZiL {p:D.Program} {s:D.Path} {x:D.Term} (hp:progB p = true) (hm:(s.Mem.length:Int) = p.Mem) (hf:fw p.W s.Mem) (hx:fine x) (hc:x.Op = 0 → 0 ≤ x.N ∧ x.N < p.Mem):Zbt fuel p s x = some (load p.W s.Mem x):=by
 have hm6:=Y2 hp
 unfold Zbt load Zb
 simp only [Zm1]
 by_cases c:x.Op = 0
 ·obtain ⟨n0, n1⟩ := hc c
  rw [Zm6 (by simpa using c),Zm6 c,Zch n0 (by omega)]; rfl
 ·rw [Zm5 (by simpa using c), Zm5 c]
  have e1:w64 (p.Mem - 1) = ((s.Mem.length - 1:Nat):Int):=by rw [Zm (by omega) (by omega)]; omega
  have e2:w64 (p.Mem - 2) = ((s.Mem.length - 1:Nat):Int) - 1:=by rw [Zm (by omega) (by omega)]; omega
  rw [e1,e2,Zch (by omega) (by omega)]
  simp only [Zm1]
  have:=Zl0 hp hm hf hx (s.Mem.length - 1) (rg s.Mem ((s.Mem.length - 1:Nat):Int)) fuel (Zcr hf (by omega) (by omega)) (by omega) (by unfold fuel; omega)
  rw [this]
  simp only [Zm1]
  cases h:(ldT p.W x s.Mem (s.Mem.length - 1) (rg s.Mem ((s.Mem.length - 1:Nat):Int))).2
  ·rw [ZkS h]; simp
  ·simp only [ZmO, Zeb]
   simp [← h]
theorem Zly {p:D.Program} {mem:List D.Term} {x:D.Term} (hp:progB p = true) (hm:(mem.length:Int) = p.Mem) (hf:fw p.W mem) (hx:fine x):∀ (j:Nat) (t:D.Term) (n:Nat),fine t ∧ t.W = p.W → j ≤ mem.length → j + 1 < n →
    ∃ t',iterN (fun (s1:Int × Bool × Int × Int × Int × Str × (List D.Term))=>
   if ((decide (s1.1 ≥ 0)) && (!s1.2.1)) then
    (ZJ p.W s1.1).bind fun x3=>
    (Zg fuel (D.l06Maker.mk s1.2.1) 14 1 ([(D.Term.mk x3.Op x3.W x3.N x3.Name ([]:List D.Term)),x]:List D.Term)).bind fun x4=>
    if (!x4.2.bad) then
     (get? mem s1.1).bind fun x5=>
     (Zg fuel x4.2 17 p.W ([x4.1,x5,(D.Term.mk s1.2.2.1 s1.2.2.2.1 s1.2.2.2.2.1 s1.2.2.2.2.2.1 s1.2.2.2.2.2.2)]:List D.Term)).bind fun x6=>
     some (.inl ((w64 (s1.1 - 1)),x6.2.bad,x6.1.Op,x6.1.W,x6.1.N,x6.1.Name,x6.1.Kids))
    else
     some (.inl ((w64 (s1.1 - 1)),x4.2.bad,s1.2.2.1,s1.2.2.2.1,s1.2.2.2.2.1,s1.2.2.2.2.2.1,s1.2.2.2.2.2.2))
   else
    some (.inr (s1.2.1,s1.2.2.1,s1.2.2.2.1,s1.2.2.2.2.1,s1.2.2.2.2.2.1,s1.2.2.2.2.2.2)):Int × Bool × T5 → Option ((Int × Bool × T5) ⊕ (Bool × T5))) n ((j:Int) - 1,false,tup5 t) = some (!(ldT p.W x mem j t).2,tup5 t') ∧ ((ldT p.W x mem j t).2 = true → t' = (ldT p.W x mem j t).1):=by
  intro j
  induction j with
  | zero =>
    intro t n ht _ hn
    refine ⟨t,XH ?_ (by omega),fun _=>rfl⟩
    simp only
    rw [Zm5 (by simp)]; rfl
  | succ j ih =>
    intro t n ht hj hn
    obtain ⟨n,rfl⟩ : ∃ m,n = m + 1:=⟨n - 1,by omega⟩
    have hm6:=Y2 hp
    have e1:((j + 1:Nat):Int) - 1 = (j:Int):=by omega
    have eg:=Zch (l:=mem) (k:=(j:Int)) (by omega) (by omega)
    have hw:=Zcs hp (k:=(j:Int)) (by omega) (by omega)
    have em:=X5 (b:=false) (op:=14) (w:=1) (ks:=[kT p.W j,x]) (sml2f (ZbX hw) hx)
    unfold kT at em
    rw [e1]
    have stop:∀ u:D.Term,∀ i:Int,0 < n → iterN (fun (s1:Int × Bool × Int × Int × Int × Str × (List D.Term))=>
     if ((decide (s1.1 ≥ 0)) && (!s1.2.1)) then
      (ZJ p.W s1.1).bind fun x3=>
      (Zg fuel (D.l06Maker.mk s1.2.1) 14 1 ([(D.Term.mk x3.Op x3.W x3.N x3.Name ([]:List D.Term)),x]:List D.Term)).bind fun x4=>
      if (!x4.2.bad) then
       (get? mem s1.1).bind fun x5=>
       (Zg fuel x4.2 17 p.W ([x4.1,x5,(D.Term.mk s1.2.2.1 s1.2.2.2.1 s1.2.2.2.2.1 s1.2.2.2.2.2.1 s1.2.2.2.2.2.2)]:List D.Term)).bind fun x6=>
       some (.inl ((w64 (s1.1 - 1)),x6.2.bad,x6.1.Op,x6.1.W,x6.1.N,x6.1.Name,x6.1.Kids))
      else
       some (.inl ((w64 (s1.1 - 1)),x4.2.bad,s1.2.2.1,s1.2.2.2.1,s1.2.2.2.2.1,s1.2.2.2.2.2.1,s1.2.2.2.2.2.2))
     else
      some (.inr (s1.2.1,s1.2.2.1,s1.2.2.2.1,s1.2.2.2.2.1,s1.2.2.2.2.2.1,s1.2.2.2.2.2.2)):Int × Bool × T5 → Option ((Int × Bool × T5) ⊕ (Bool × T5))) n (i,true,tup5 u) = some (true,tup5 u):=fun u i h0=>by
      refine XH ?_ h0
      simp
    have hd:decide ((j:Int) ≥ 0) = true:=by simp
    by_cases c1:(mkT 14 1 0 [⟨0,p.W,(j:Int),⟨[]⟩,[]⟩,x]).2 = true
    · have hf1 : fine (mkT 14 1 0 [⟨0, p.W, (j : Int), ⟨[]⟩, []⟩, x]).1 := (YZ c1).1
      have em2:=X5 (b:=false) (op:=17) (w:=p.W) (ks:=[(mkT 14 1 0 [⟨0,p.W,(j:Int),⟨[]⟩,[]⟩,x]).1,rg mem j,t]) (sml3f hf1 (Zcr hf (by omega) (by omega)).1 ht.1)
      have ecel:cel p.W (j:Int) x (rg mem j) t = mkT 17 p.W 0 [(mkT 14 1 0 [⟨0,p.W,(j:Int),⟨[]⟩,[]⟩,x]).1,rg mem j,t]:=by unfold cel kT; rw [Zm6 c1]
      by_cases c2:(mkT 17 p.W 0 [(mkT 14 1 0 [⟨0,p.W,(j:Int),⟨[]⟩,[]⟩,x]).1,rg mem j,t]).2 = true
      · obtain ⟨t', h1, h2⟩ := ih (mkT 17 p.W 0 [(mkT 14 1 0 [⟨0, p.W, (j : Int), ⟨[]⟩, []⟩, x]).1, rg mem j, t]).1 n (YZ c2) (by omega) (by omega)
        have hl:ldT p.W x mem (j + 1) t = ldT p.W x mem j (mkT 17 p.W 0 [(mkT 14 1 0 [⟨0,p.W,(j:Int),⟨[]⟩,[]⟩,x]).1,rg mem j,t]).1:=by
          conv=>lhs; unfold ldT
          rw [ecel,Zm6 c2]
        rw [hl]
        refine ⟨t',?_,h2⟩
        rw [← h1]
        refine Zbn ?_
        simp only [tup5,hd,Znl,ZmO,Zi,Zm1,em,c1,ZmF,ZnY,Znv,Znl,eg,Zeb,em2,c2]
        rw [Zm (by omega) (by omega)]
      · have hl:ldT p.W x mem (j + 1) t = (t0,false):=by
          conv=>lhs; unfold ldT
          rw [ecel,Zm5 c2]
        have c2':(mkT 17 p.W 0 [(mkT 14 1 0 [⟨0,p.W,(j:Int),⟨[]⟩,[]⟩,x]).1,rg mem j,t]).2 = false:=by simpa using c2
        rw [hl]
        refine ⟨(mkT 17 p.W 0 [(mkT 14 1 0 [⟨0,p.W,(j:Int),⟨[]⟩,[]⟩,x]).1,rg mem j,t]).1,?_,fun h=>by cases h⟩
        rw [Zbn (s':=(w64 ((j:Int) - 1),true,tup5 (mkT 17 p.W 0 [(mkT 14 1 0 [⟨0,p.W,(j:Int),⟨[]⟩,[]⟩,x]).1,rg mem j,t]).1)),stop _ _ (by omega)]
        · rfl
        · simp only [tup5,hd,Znl,ZmO,Zi,Zm1,em,c1,ZmF,ZnY,Znv,eg,Zeb,em2,c2',ZmZ]
    · have c1' : (mkT 14 1 0 [⟨0, p.W, (j : Int), ⟨[]⟩, []⟩, x]).2 = false := by simpa using c1
      have hl:ldT p.W x mem (j + 1) t = (t0,false):=by
        conv=>lhs; unfold ldT
        have:cel p.W (j:Int) x (rg mem j) t = (t0,false):=by unfold cel kT; rw [Zm5 c1]
        rw [this]; rfl
      rw [hl]
      refine ⟨t,?_,fun h=>by cases h⟩
      rw [Zbn (s':=(w64 ((j:Int) - 1),true,tup5 t)),stop _ _ (by omega)]
      · rfl
      · simp only [tup5,hd,Znl,ZmO,Zi,Zm1,em,c1',Znv,Bool.or_true,ZmF,Zm2,ZmA,ZmZ]
theorem Zj2 {p:D.Program} {s:D.Path} {x:D.Term} (hp:progB p = true) (hm:(s.Mem.length:Int) = p.Mem) (hf:fw p.W s.Mem) (hx:fine x) (hc:x.Op = 0 → 0 ≤ x.N ∧ x.N < p.Mem) :
  ∃ t',YK fuel ⟨false⟩ p s x = some (t',⟨!(load p.W s.Mem x).2⟩) ∧ ((load p.W s.Mem x).2 = true → t' = (load p.W s.Mem x).1):=by
 have hm6:=Y2 hp
 unfold YK load
 by_cases c:x.Op = 0
 ·obtain ⟨n0, n1⟩ := hc c
  refine ⟨rg s.Mem x.N,?_,fun _=>by rw [Zm6 c]⟩
  rw [Zm6 (by simpa using c),Zm6 c,Zch n0 (by omega)]; rfl
 ·have e1 : w64 (p.Mem - 1) = ((s.Mem.length - 1 : Nat) : Int) := by rw [Zm (by omega) (by omega)]; omega
  have e2:w64 (p.Mem - 2) = ((s.Mem.length - 1:Nat):Int) - 1:=by rw [Zm (by omega) (by omega)]; omega
  obtain ⟨t',h1,h2⟩:=Zly hp hm hf hx (s.Mem.length - 1) (rg s.Mem ((s.Mem.length - 1:Nat):Int)) fuel (Zcr hf (by omega) (by omega)) (by omega) (by unfold fuel; omega)
  refine ⟨t',?_,fun h=>by rw [Zm5 c] at h ⊢; exact h2 h⟩
  rw [Zm5 (by simpa using c),Zm5 c,e1,e2,Zch (by omega) (by omega)]
  simp only [Zm1]
  rw [h1]
  simp only [Zm1,Zeb]
theorem ZiZ {p:D.Program} {s:D.Path} {x:D.Term} (hp:progB p = true) (hm:(s.Mem.length:Int) = p.Mem) (hf:fw p.W s.Mem) (hc:x.Op = 0 → 0 ≤ x.N ∧ x.N < p.Mem) (h:(load p.W s.Mem x).2 = true):fine (load p.W s.Mem x).1 ∧ (load p.W s.Mem x).1.W = p.W:=by
 have hm6:=Y2 hp
 unfold load at h ⊢
 by_cases c:x.Op = 0
 ·rw [Zm6 c]
  obtain ⟨n0,n1⟩:=hc c
  exact Zcr hf n0 (by omega)
 ·rw [Zm5 c] at h ⊢
  exact Zh0 (Zcr hf (by omega) (by omega)) h
theorem Zim {α:Type} {m1 m2:List α} {t:α} {i:Int} (h:i = (m1.length:Int)):get? (m1 ++ t :: m2) i = some t:=by
 subst h
 rw [get?_nat]; simp
theorem set_mid {α:Type} {m1 m2:List α} {t u:α} {i:Int} (h:i = (m1.length:Int)):set? (m1 ++ t :: m2) i u = some (m1 ++ u :: m2):=by
 subst h
 rw [set?_nat (by simp)]; simp
noncomputable def stG (w:Int) (x v:D.Term):Nat → List D.Term → List D.Term × Bool
 | _,[]=>([],true)
 | i,t :: l=>if (cel w (i:Int) x v t).2 = true then ((cel w (i:Int) x v t).1 :: (stG w x v (i + 1) l).1,(stG w x v (i + 1) l).2) else ([],false)
theorem Zit {w:Int} {x v:D.Term}:∀ {l:List D.Term} {i:Nat},(stG w x v i l).2 = true → (stG w x v i l).1.length = l.length
 | [],i,_=>rfl
 | t :: l,i,h=>by
  unfold stG at h ⊢
  split at h
  ·rename_i c; rw [Zm6 c]; simp only [ZmS,Zit (l:=l) (i:=i + 1) h]
  ·cases h
theorem Zk5 {w:Int} {x v:D.Term}:∀ {l:List D.Term} {i:Nat},(stG w x v i l).2 = true → fw w (stG w x v i l).1
 | [],i,_=>fun t ht=>by cases ht
 | t :: l,i,h=>by
  unfold stG at h ⊢
  split at h
  ·rename_i c
   rw [Zm6 c]
   intro y hy
   rcases Zn0.1 hy with rfl | hy
   ·exact ZfC c
   ·exact Zk5 (l:=l) (i:=i + 1) h y hy
  ·cases h
theorem Zlm {p:D.Program} {mem x3:List D.Term} {x v:D.Term} (hp:progB p = true) (hm:(mem.length:Int) = p.Mem) (hf:fw p.W mem) (hx:fine x) (hv:fine v) (h3:len x3 = (mem.length:Int)):∀ (m2 m1 done rest:List D.Term) (n:Nat),mem = m1 ++ m2 → done.length = m1.length → rest.length = m2.length → m2.length < n →
    iterN (fun (s1:Int × (List D.Term))=>
   if (decide (s1.1 < (len x3))) then
    (get? mem s1.1).bind fun x4=>
    (XA fuel p s1.1 x v x4).bind fun x5=>
    if (!x5.2) then
     some (.inr (.inr (([]:List D.Term),false)))
    else
     (set? s1.2 s1.1 x5.1).bind fun x6=>
     some (.inl ((w64 (s1.1 + 1)),x6))
   else
    some (.inr (.inl (s1.2))):Int × List D.Term → Option ((Int × List D.Term) ⊕ (List D.Term ⊕ (List D.Term × Bool))))
     n ((m1.length:Int),done ++ rest) = some (if (stG p.W x v m1.length m2).2 = true then (.inl (done ++ (stG p.W x v m1.length m2).1):List D.Term ⊕ (List D.Term × Bool)) else .inr ([],false)):=by
  have hm6:=Y2 hp
  intro m2
  induction m2 with
  | nil =>
    intro m1 done rest n he hd hr hn
    have:rest = []:=Znn.1 hr
    subst this
    refine XH ?_ (by omega)
    have hml:(m1.length:Int) = mem.length:=by rw [he]; simp
    simp only
    rw [Zm5 (by rw [h3]; simp; omega)]
    simp [stG]
  | cons t m2 ih =>
    intro m1 done rest n he hd hr hn
    obtain ⟨n,rfl⟩ : ∃ m,n = m + 1:=⟨n - 1,by simp at hn; omega⟩
    obtain ⟨r,rest,rfl⟩ : ∃ r l,rest = r :: l:=by
      cases rest with
      | nil=>simp at hr
      | cons r l=>exact ⟨r,l,rfl⟩
    have hml:(mem.length:Int) = m1.length + (m2.length + 1):=by rw [he]; simp
    have ht:fine t ∧ t.W = p.W:=hf t (by rw [he]; simp)
    have hg:get? mem (m1.length:Int) = some t:=by rw [he]; exact Zim rfl
    have ec:=Zhk (p:=p) (k:=(m1.length:Int)) (x:=x) (a:=v) (b:=t) (Zcs hp (by omega) (by omega)) hx hv ht.1
    have hc:decide ((m1.length:Int) < len x3) = true:=by rw [h3]; simp; omega
    have e1:w64 ((m1.length:Int) + 1) = ((m1 ++ [t]).length:Int):=by rw [Zm (by omega) (by omega)]; simp
    unfold stG
    by_cases c:(cel p.W (m1.length:Int) x v t).2 = true
    · rw [Zm6 c]
      have:=ih (m1 ++ [t]) (done ++ [(cel p.W (m1.length:Int) x v t).1]) rest n (by rw [he]; simp) (by simp [hd]) (by simpa using hr) (by simp at hn; omega)
      have el:(m1 ++ [t]).length = m1.length + 1:=by simp
      rw [el] at this
      simp only [Zn3,ZnK] at this
      rw [← this]
      refine Zbn ?_
      simp only [hc,hg,Zm1,ec,c,ZmO,ZmF,Zm2,ZmA]
      rw [set_mid (by rw [hd])]
      simp only [Zm1,e1,el]
    · rw [Zm5 c]
      refine XH ?_ (by omega)
      simp only [hc,hg,Zm1,ec,ZmO]
      rw [Zm6 (by simpa using c)]; rfl
noncomputable def store (w:Int) (mem:List D.Term) (x v:D.Term):List D.Term × Bool:=if x.Op = 0 then (mem.set x.N.toNat v,true) else if (stG w x v 0 mem).2 = true then ((stG w x v 0 mem).1,true) else ([],false)
theorem ZhW {p:D.Program} {s:D.Path} {x v:D.Term} (hp:progB p = true) (hm:(s.Mem.length:Int) = p.Mem) (hf:fw p.W s.Mem) (hx:fine x) (hv:fine v) (hc:x.Op = 0 → 0 ≤ x.N ∧ x.N < p.Mem):Zby fuel p s x v = some (store p.W s.Mem x v):=by
 have hm6:=Y2 hp
 unfold Zby store Zb
 simp only [Zm1]
 by_cases c:x.Op = 0
 ·obtain ⟨n0, n1⟩ := hc c
  rw [Zm6 (by simpa using c),Zm6 c,put_eq (by omega) n0 (by omega)]; rfl
 ·rw [Zm5 (by simpa using c), Zm5 c]
  obtain ⟨x3,e3,l3⟩ : ∃ x3,mk? p.Mem (D.Term.mk 0 0 0 ⟨[]⟩ ([]:List D.Term)) = some x3 ∧ x3.length = s.Mem.length:=by
   refine ⟨List.replicate p.Mem.toNat (D.Term.mk 0 0 0 ⟨[]⟩ ([]:List D.Term)),?_,by simp; omega⟩
   unfold mk?
   rw [Zm6 ⟨by omega,by unfold room; omega⟩]
  rw [e3]
  simp only [Zm1]
  have:=Zlm hp hm hf hx hv (x3:=x3) (by unfold len; omega) s.Mem [] [] x3 fuel rfl rfl l3 (by unfold fuel; omega)
  simp only [Znu,Zo8] at this
  rw [show ((0:Nat):Int) = 0 from rfl] at this
  rw [this]
  simp only [Zm1]
  cases h:(stG p.W x v 0 s.Mem).2 <;> simp
theorem ZkZ {p:D.Program} {mem:List D.Term} {x v:D.Term} (hp:progB p = true) (hm:(mem.length:Int) = p.Mem) (hf:fw p.W mem) (hx:fine x) (hv:fine v):∀ (m2 m1 done rest:List D.Term) (n:Nat),mem = m1 ++ m2 → done.length = m1.length → rest.length = m2.length → m2.length + 1 < n →
    ∃ l',iterN (fun (s1:Int × Bool × (List D.Term))=>
   if ((decide (s1.1 < p.Mem)) && (!s1.2.1)) then
    (ZJ p.W s1.1).bind fun x3=>
    (Zg fuel (D.l06Maker.mk s1.2.1) 14 1 ([(D.Term.mk x3.Op x3.W x3.N x3.Name ([]:List D.Term)),x]:List D.Term)).bind fun x4=>
    if (!x4.2.bad) then
     (get? mem s1.1).bind fun x5=>
     (Zg fuel x4.2 17 p.W ([x4.1,v,x5]:List D.Term)).bind fun x6=>
     (set? s1.2.2 s1.1 x6.1).bind fun x7=>
     some (.inl ((w64 (s1.1 + 1)),x6.2.bad,x7))
    else
     some (.inl ((w64 (s1.1 + 1)),x4.2.bad,s1.2.2))
   else
    some (.inr (s1.2.1,s1.2.2)):Int × Bool × List D.Term → Option ((Int × Bool × List D.Term) ⊕ (Bool × List D.Term)))
     n ((m1.length:Int),false,done ++ rest) = some (!(stG p.W x v m1.length m2).2,l') ∧ l'.length = mem.length ∧ ((stG p.W x v m1.length m2).2 = true → l' = done ++ (stG p.W x v m1.length m2).1):=by
  have hm6:=Y2 hp
  intro m2
  induction m2 with
  | nil =>
    intro m1 done rest n he hd hr hn
    have:rest = []:=Znn.1 hr
    subst this
    have hml:(m1.length:Int) = mem.length:=by rw [he]; simp
    refine ⟨done,?_,by omega,fun _=>by simp [stG]⟩
    refine XH ?_ (by omega)
    simp only
    rw [Zm5 (by simp; omega)]
    simp [stG]
  | cons t m2 ih =>
    intro m1 done rest n he hd hr hn
    obtain ⟨n,rfl⟩ : ∃ m,n = m + 1:=⟨n - 1,by simp at hn; omega⟩
    obtain ⟨r,rest,rfl⟩ : ∃ r l,rest = r :: l:=by
      cases rest with
      | nil=>simp at hr
      | cons r l=>exact ⟨r,l,rfl⟩
    simp only [ZmS] at hr hn
    have hml:(mem.length:Int) = m1.length + (m2.length + 1):=by rw [he]; simp
    have hmn:mem.length = m1.length + (m2.length + 1):=by omega
    have ht:fine t ∧ t.W = p.W:=hf t (by rw [he]; simp)
    have hg:get? mem (m1.length:Int) = some t:=by rw [he]; exact Zim rfl
    have hw:=Zcs hp (k:=(m1.length:Int)) (by omega) (by omega)
    have em:=X5 (b:=false) (op:=14) (w:=1) (ks:=[kT p.W m1.length,x]) (sml2f (ZbX hw) hx)
    unfold kT at em
    have hc:decide ((m1.length:Int) < p.Mem) = true:=by simp; omega
    have e1:w64 ((m1.length:Int) + 1) = ((m1 ++ [t]).length:Int):=by rw [Zm (by omega) (by omega)]; simp
    have el:(m1 ++ [t]).length = m1.length + 1:=by simp
    have stop:∀ u:List D.Term,∀ i:Int,0 < n → iterN (fun (s1:Int × Bool × (List D.Term))=>
       if ((decide (s1.1 < p.Mem)) && (!s1.2.1)) then
        (ZJ p.W s1.1).bind fun x3=>
        (Zg fuel (D.l06Maker.mk s1.2.1) 14 1 ([(D.Term.mk x3.Op x3.W x3.N x3.Name ([]:List D.Term)),x]:List D.Term)).bind fun x4=>
        if (!x4.2.bad) then
         (get? mem s1.1).bind fun x5=>
         (Zg fuel x4.2 17 p.W ([x4.1,v,x5]:List D.Term)).bind fun x6=>
         (set? s1.2.2 s1.1 x6.1).bind fun x7=>
         some (.inl ((w64 (s1.1 + 1)),x6.2.bad,x7))
        else
         some (.inl ((w64 (s1.1 + 1)),x4.2.bad,s1.2.2))
       else
        some (.inr (s1.2.1,s1.2.2)):Int × Bool × List D.Term → Option ((Int × Bool × List D.Term) ⊕ (Bool × List D.Term))) n (i,true,u) = some (true,u):=fun u i h0=>by
      refine XH ?_ h0
      simp
    by_cases c1:(mkT 14 1 0 [⟨0,p.W,(m1.length:Int),⟨[]⟩,[]⟩,x]).2 = true
    · have hf1 : fine (mkT 14 1 0 [⟨0, p.W, (m1.length : Int), ⟨[]⟩, []⟩, x]).1 := (YZ c1).1
      have em2:=X5 (b:=false) (op:=17) (w:=p.W) (ks:=[(mkT 14 1 0 [⟨0,p.W,(m1.length:Int),⟨[]⟩,[]⟩,x]).1,v,t]) (sml3f hf1 hv ht.1)
      have ecel:cel p.W (m1.length:Int) x v t = mkT 17 p.W 0 [(mkT 14 1 0 [⟨0,p.W,(m1.length:Int),⟨[]⟩,[]⟩,x]).1,v,t]:=by unfold cel kT; rw [Zm6 c1]
      by_cases c2:(mkT 17 p.W 0 [(mkT 14 1 0 [⟨0,p.W,(m1.length:Int),⟨[]⟩,[]⟩,x]).1,v,t]).2 = true
      · have hl:stG p.W x v m1.length (t :: m2) = ((mkT 17 p.W 0 [(mkT 14 1 0 [⟨0,p.W,(m1.length:Int),⟨[]⟩,[]⟩,x]).1,v,t]).1 :: (stG p.W x v (m1.length + 1) m2).1,(stG p.W x v (m1.length + 1) m2).2):=by
          conv=>lhs; unfold stG
          rw [ecel,Zm6 c2]
        obtain ⟨l',h1,h2,h3⟩:=ih (m1 ++ [t]) (done ++ [(mkT 17 p.W 0 [(mkT 14 1 0 [⟨0,p.W,(m1.length:Int),⟨[]⟩,[]⟩,x]).1,v,t]).1]) rest n (by rw [he]; simp) (by simp [hd]) (by omega) (by omega)
        rw [el] at h1 h3
        simp only [Zn3,ZnK] at h1 h3
        rw [hl]
        refine ⟨l',?_,h2,h3⟩
        rw [← h1]
        refine Zbn ?_
        simp only [hc,Znl,ZmO,Zi,Zm1,em,c1,ZmF,ZnY,Znv,hg,em2,c2]
        rw [set_mid (by rw [hd])]
        simp only [Zm1,e1,el]
      · have c2' : (mkT 17 p.W 0 [(mkT 14 1 0 [⟨0, p.W, (m1.length : Int), ⟨[]⟩, []⟩, x]).1, v, t]).2 = false := by simpa using c2
        have hl:stG p.W x v m1.length (t :: m2) = ([],false):=by
          conv=>lhs; unfold stG
          rw [ecel,Zm5 c2]
        rw [hl]
        refine ⟨done ++ (mkT 17 p.W 0 [(mkT 14 1 0 [⟨0,p.W,(m1.length:Int),⟨[]⟩,[]⟩,x]).1,v,t]).1 :: rest,?_,by simp; omega,fun h=>by cases h⟩
        rw [Zbn (s':=(w64 ((m1.length:Int) + 1),true,done ++ (mkT 17 p.W 0 [(mkT 14 1 0 [⟨0,p.W,(m1.length:Int),⟨[]⟩,[]⟩,x]).1,v,t]).1 :: rest)),stop _ _ (by omega)]
        · rfl
        · simp only [hc, Znl, ZmO, Zi, Zm1, em, c1, ZmF, ZnY, Znv, hg, em2, c2', ZmZ]
          rw [set_mid (by rw [hd])]
          simp only [Zm1]
    · have c1' : (mkT 14 1 0 [⟨0, p.W, (m1.length : Int), ⟨[]⟩, []⟩, x]).2 = false := by simpa using c1
      have hl:stG p.W x v m1.length (t :: m2) = ([],false):=by
        conv=>lhs; unfold stG
        have:cel p.W (m1.length:Int) x v t = (t0,false):=by unfold cel kT; rw [Zm5 c1]
        rw [this]; rfl
      rw [hl]
      refine ⟨done ++ r :: rest,?_,by simp; omega,fun h=>by cases h⟩
      rw [Zbn (s':=(w64 ((m1.length:Int) + 1),true,done ++ r :: rest)),stop _ _ (by omega)]
      · rfl
      · simp only [hc,Znl,ZmO,Zi,Zm1,em,c1',Znv,Bool.or_true,ZmF,Zm2,ZmA,ZmZ]
theorem ZhU {p:D.Program} {s:D.Path} {x v:D.Term} (hp:progB p = true) (hm:(s.Mem.length:Int) = p.Mem) (hf:fw p.W s.Mem) (hx:fine x) (hv:fine v) (hc:x.Op = 0 → 0 ≤ x.N ∧ x.N < p.Mem) :
  ∃ l',YC fuel ⟨false⟩ p s x v = some (l',⟨!(store p.W s.Mem x v).2⟩) ∧ l'.length = s.Mem.length ∧ ((store p.W s.Mem x v).2 = true → l' = (store p.W s.Mem x v).1):=by
 have hm6:=Y2 hp
 unfold YC store
 rw [ZlP (by omega)]
 simp only [Zm1]
 by_cases c:x.Op = 0
 ·obtain ⟨n0, n1⟩ := hc c
  refine ⟨s.Mem.set x.N.toNat v,?_,by simp,fun _=>by rw [Zm6 c]⟩
  rw [Zm6 (by simpa using c),Zm6 c,ZhK n0 (by omega)]; rfl
 ·obtain ⟨l', h1, h2, h3⟩ := ZkZ hp hm hf hx hv s.Mem [] [] s.Mem fuel rfl rfl rfl (by unfold fuel; omega)
  simp only [Znu,Zo8] at h1 h3
  rw [show ((0:Nat):Int) = 0 from rfl] at h1
  refine ⟨l',?_,h2,fun h=>?_⟩
  ·rw [Zm5 (by simpa using c), Zm5 c, h1]
   simp only [Zm1]
   cases h:(stG p.W x v 0 s.Mem).2 <;> simp
  ·rw [Zm5 c] at h ⊢
   by_cases d:(stG p.W x v 0 s.Mem).2 = true
   ·rw [Zm6 d]; exact h3 d
   ·rw [Zm5 d] at h; cases h
theorem Zh9 {p:D.Program} {s:D.Path} {x v:D.Term} (hf:fw p.W s.Mem) (hv:fine v ∧ v.W = p.W) (h:(store p.W s.Mem x v).2 = true):fw p.W (store p.W s.Mem x v).1 ∧ (store p.W s.Mem x v).1.length = s.Mem.length:=by
 unfold store at h ⊢
 by_cases c:x.Op = 0
 ·rw [Zm6 c]
  exact ⟨Zkg hf hv,by simp⟩
 ·rw [Zm5 c] at h ⊢
  by_cases d:(stG p.W x v 0 s.Mem).2 = true
  ·rw [Zm6 d]; exact ⟨Zk5 d,Zit d⟩
  ·rw [Zm5 d] at h; cases h
structure insF (w n:Int) (i:D.Ins):Prop where
 op:1 ≤ i.Op ∧ i.Op ≤ 14
 a:i.Op ≠ 9 → i.Op ≠ 11 → i.Op ≠ 12 → i.Op ≠ 14 → 0 ≤ i.A ∧ i.A < 4
 b:i.Op = 2 ∨ i.Op = 3 ∨ i.Op = 7 ∨ i.Op = 8 → 0 ≤ i.B ∧ i.B < 4
 v:i.Op = 1 → wordB w i.B = true
 c:i.Op = 3 → 3 ≤ i.C ∧ i.C ≤ 16
 t:i.Op = 9 ∨ i.Op = 10 ∨ i.Op = 11 → 0 ≤ i.B ∧ i.B ≤ n
theorem Zmm (a:Int):Yz a = some (decide (0 ≤ a ∧ a < 4)):=by
 unfold Yz Zk
 by_cases h:0 ≤ a ∧ a < 4
 ·have h1 := h.1; have h2 : a ≤ 3 := by omega
  simp [h1,h2,h]
 ·have : ¬(0 ≤ a ∧ a ≤ 3) := by omega
  simp only [decide_eq_false h,Option.some.injEq]
  simp; omega
theorem ZiH {w n:Int} {i:D.Ins} (h:insB w n i = true):insF w n i:=by
 unfold insB Xt Zk at h
 simp only [Zmm,YT,Zm1] at h
 by_cases c:1 ≤ i.Op ∧ i.Op ≤ 14
 ·have : i.Op = 1 ∨ i.Op = 2 ∨ i.Op = 3 ∨ i.Op = 4 ∨ i.Op = 5 ∨ i.Op = 6 ∨ i.Op = 7 ∨ i.Op = 8 ∨ i.Op = 9 ∨ i.Op = 10 ∨ i.Op = 11 ∨ i.Op = 12 ∨ i.Op = 13 ∨ i.Op = 14 := by omega
  rcases this with c | c | c | c | c | c | c | c | c | c | c | c | c | c <;> simp [c,Zk] at h
  all_goals (by_cases ha:0 ≤ i.A ∧ i.A < 4)
  all_goals (by_cases hb:0 ≤ i.B ∧ i.B < 4)
  all_goals (try simp [ha,hb] at h)
  all_goals (first
   | (exfalso; omega)
   | exact ⟨by omega,fun _ _ _ _=>by omega,fun _=>by omega,fun e=>by first | omega | exact h.1 | exact h.2.1 | simp_all,fun _=>by omega,fun _=>by omega⟩)
 ·exfalso
  have n1:∀ k:Int,1 ≤ k → k ≤ 14 → i.Op ≠ k:=fun k h1 h2 e=>c (by omega)
  simp [n1 1,n1 2,n1 3,n1 4,n1 5,n1 6,n1 7,n1 8,n1 9,n1 10,n1 11,n1 12,n1 13,n1 14] at h
theorem ZeV {p:D.Program} (hp:progB p = true) {i:D.Ins} (hi:i ∈ p.Code):insF p.W p.Code.length i:=by
 unfold progB at hp
 simp only [Zm4,ZmD] at hp
 exact ZiH (hp.2 i hi)
noncomputable def qad (p:D.Program) (x:D.Term):D.Term × Bool × Bool:=
 if (mkT 15 1 0 [x,kT p.W p.Mem]).2 = true then ((mkT 1 1 0 [(mkT 15 1 0 [x,kT p.W p.Mem]).1]).1,true,(mkT 1 1 0 [(mkT 15 1 0 [x,kT p.W p.Mem]).1]).2) else (t0,true,false)
noncomputable def qze (p:D.Program) (x:D.Term):D.Term × Bool × Bool:=((mkT 14 1 0 [kT p.W 0,x]).1,true,(mkT 14 1 0 [kT p.W 0,x]).2)
noncomputable def qst (p:D.Program) (rs:List D.Term) (i:D.Ins):D.Term × Bool × Bool:=
 if i.Op = 10 ∨ i.Op = 13 then qze p (rg rs i.A)
 else if i.Op = 3 then (if i.C = 6 ∨ i.C = 7 then qze p (rg rs i.B) else (t0,false,true))
 else if i.Op = 7 then qad p (rg rs i.B)
 else if i.Op = 8 then qad p (rg rs i.A)
 else (t0,false,true)
theorem ZdU {p:D.Program} (hp:progB p = true):wordB p.W 0 = true:=Zcs hp (by omega) (by have:=Y2 hp; omega)
theorem Zha {p:D.Program} (hp:progB p = true) {x:D.Term} (hx:fine x):ZK fuel 14 1 0 [⟨0,p.W,0,⟨[]⟩,[]⟩,x] = some ((qze p x).1,(qze p x).2.2):=ZbE (sml2f (ZbX (ZdU hp)) hx)
theorem ZfM {p:D.Program} {s:D.Path} {i:D.Ins} (hp:progB p = true) (hs:okP p s) (hi:insF p.W p.Code.length i):Za6 fuel p s i = some (qst p s.Regs i):=by
 have hz:=ZdU hp
 have hm:=(Y2 hp).1
 have hr:∀ k:Int,0 ≤ k ∧ k < 4 → get? s.Regs k = some (rg s.Regs k) ∧ fine (rg s.Regs k):=fun k hk=>⟨Zch hk.1 (by have:=hs.rl; omega),(Zcr hs.rf hk.1 (by have:=hs.rl; omega)).1⟩
 have had:∀ x:D.Term,fine x → ((ZK fuel 15 1 0 [x,⟨0,p.W,p.Mem,⟨[]⟩,[]⟩]).bind fun x8=>if (!x8.2) then some ((D.Term.mk 0 0 0 ⟨[]⟩ ([]:List D.Term)),true,false) else (ZK fuel 1 1 0 ([x8.1]:List D.Term)).bind fun x9=>some (x9.1,true,x9.2)) = some (qad p x):=by
  intro x hx
  have:=ZbE (op:=15) (w:=1) (m:=0) (sml2f hx (ZbX hm))
  unfold kT at this
  rw [this]
  simp only [Zm1]
  unfold qad kT
  by_cases c:(mkT 15 1 0 [x,⟨0,p.W,p.Mem,⟨[]⟩,[]⟩]).2 = true
  ·rw [Zm6 c,Zm5 (by rw [c]; simp),ZbE (sml1f (YZ c).1)]; rfl
  ·rw [Zm5 c,Zm6 (by simpa using c)]; rfl
 unfold Za6 qst
 rw [ZT hz]
 simp only [Zm1]
 by_cases c1:i.Op = 10 ∨ i.Op = 13
 ·obtain ⟨g, f⟩ := hr i.A (hi.a (by omega) (by omega) (by omega) (by omega))
  rw [Zm6 (by simpa using c1),Zm6 c1,g]
  simp only [Zm1]
  rw [Zha hp f]; rfl
 ·rw [Zm5 (by simpa using c1), Zm5 c1]
  by_cases c2:i.Op = 3
  ·rw [Zm6 (by simpa using c2), Zm6 c2]
   by_cases c3:i.C = 6 ∨ i.C = 7
   ·obtain ⟨g, f⟩ := hr i.B (hi.b (by omega))
    rw [Zm5 (by simp; omega),Zm6 c3,g]
    simp only [Zm1]
    rw [Zha hp f]; rfl
   ·rw [Zm6 (by simp; omega),Zm5 c3]; rfl
  ·rw [Zm5 (by simpa using c2), Zm5 c2]
   by_cases c4:i.Op = 7
   ·obtain ⟨g, f⟩ := hr i.B (hi.b (by omega))
    rw [Zm6 (by simpa using c4),Zm6 c4]
    simp only [Zm1]
    rw [g,ZT hm]
    simp only [Zm1]
    exact had _ f
   ·rw [Zm5 (by simpa using c4), Zm5 c4]
    by_cases c5:i.Op = 8
    ·obtain ⟨g, f⟩ := hr i.A (hi.a (by omega) (by omega) (by omega) (by omega))
     rw [Zm6 (by simpa using c5),Zm6 c5]
     simp only [Zm1]
     rw [g,ZT hm]
     simp only [Zm1]
     exact had _ f
    ·rw [Zm5 (by simpa using c5),Zm5 c5]; rfl
theorem ZfE {p:D.Program} {s:D.Path} {i:D.Ins} (hp:progB p = true) (hs:okP p s) (hi:insF p.W p.Code.length i) :
  ∃ t',Y0 fuel ⟨false⟩ p s i = some (t',(qst p s.Regs i).2.1,⟨!(qst p s.Regs i).2.2⟩) ∧ ((qst p s.Regs i).2.2 = true → t' = (qst p s.Regs i).1):=by
 have hz:=ZdU hp
 have hm:=(Y2 hp).1
 have hr:∀ k:Int,0 ≤ k ∧ k < 4 → get? s.Regs k = some (rg s.Regs k) ∧ fine (rg s.Regs k):=fun k hk=>⟨Zch hk.1 (by have:=hs.rl; omega),(Zcr hs.rf hk.1 (by have:=hs.rl; omega)).1⟩
 have hqz:∀ x:D.Term,fine x → Zg fuel ⟨false⟩ 14 1 [⟨0,p.W,0,⟨[]⟩,[]⟩,x] = some ((qze p x).1,⟨!(qze p x).2.2⟩):=fun x hx=>by
  rw [X5 (b:=false) (sml2f (a:=⟨0,p.W,0,⟨[]⟩,[]⟩) (ZbX hz) hx)]; rfl
 have had:∀ x:D.Term,fine x → ∃ t',((Zg fuel ⟨false⟩ 15 1 [x,⟨0,p.W,p.Mem,⟨[]⟩,[]⟩]).bind fun x9=>if x9.2.bad then some (x9.1,true,x9.2) else (Zg fuel x9.2 1 1 ([x9.1]:List D.Term)).bind fun x10=>some (x10.1,true,x10.2)) = some (t',true,⟨!(qad p x).2.2⟩) ∧ (qad p x).2.1 = true ∧ ((qad p x).2.2 = true → t' = (qad p x).1):=by
  intro x hx
  rw [X5 (b:=false) (sml2f (b:=⟨0,p.W,p.Mem,⟨[]⟩,[]⟩) hx (ZbX hm))]
  simp only [Zm1]
  unfold qad kT
  by_cases c:(mkT 15 1 0 [x,⟨0,p.W,p.Mem,⟨[]⟩,[]⟩]).2 = true
  ·refine ⟨(mkT 1 1 0 [(mkT 15 1 0 [x, ⟨0, p.W, p.Mem, ⟨[]⟩, []⟩]).1]).1, ?_, by rw [Zm6 c], fun _ => by rw [Zm6 c]⟩
   rw [Zm5 (by rw [c]; simp),c,Zm6 rfl]
   rw [show (false || !true) = false from rfl,X5 (b:=false) (sml1f (YZ c).1)]; rfl
  ·refine ⟨(mkT 15 1 0 [x, ⟨0, p.W, p.Mem, ⟨[]⟩, []⟩]).1, ?_, by rw [Zm5 c], fun h => by rw [Zm5 c] at h; cases h⟩
   have c':(mkT 15 1 0 [x,⟨0,p.W,p.Mem,⟨[]⟩,[]⟩]).2 = false:=by simpa using c
   rw [c',Zm6 (by simp),Zm5 (by simp)]; rfl
 unfold Y0 qst
 rw [Zi]
 simp only [Zm1]
 by_cases c1:i.Op = 10 ∨ i.Op = 13
 ·obtain ⟨g, f⟩ := hr i.A (hi.a (by omega) (by omega) (by omega) (by omega))
  rw [Zm6 (by simpa using c1),Zm6 c1,g]
  simp only [Zm1]
  rw [hqz _ f]
  exact ⟨_,rfl,fun _=>rfl⟩
 ·rw [Zm5 (by simpa using c1), Zm5 c1]
  by_cases c2:i.Op = 3
  ·rw [Zm6 c2]
   by_cases c3:i.C = 6 ∨ i.C = 7
   ·obtain ⟨g, f⟩ := hr i.B (hi.b (by omega))
    rw [Zm6 (by simp; omega),Zm6 c3,g]
    simp only [Zm1]
    rw [hqz _ f]
    exact ⟨_,rfl,fun _=>rfl⟩
   ·rw [Zm5 (by simp; omega), Zm5 (by simp; omega), Zm5 c3]
    exact ⟨_,rfl,fun _=>rfl⟩
  ·rw [Zm5 (by simp; omega), Zm5 c2]
   by_cases c4:i.Op = 7
   ·obtain ⟨g, f⟩ := hr i.B (hi.b (by omega))
    rw [Zm6 (by simp; omega),Zm6 c4,g,Zi]
    simp only [Zm1]
    rw [Zm5 (by simp; omega)]
    obtain ⟨t',h1,h2,h3⟩:=had _ f
    rw [h1,h2]
    exact ⟨t',rfl,h3⟩
   ·rw [Zm5 c4]
    by_cases c5:i.Op = 8
    ·obtain ⟨g, f⟩ := hr i.A (hi.a (by omega) (by omega) (by omega) (by omega))
     obtain ⟨g2,f2⟩:=hr i.B (hi.b (by omega))
     rw [Zm6 (by simp; omega),Zm6 c5,g,g2,Zi]
     simp only [Zm1]
     rw [Zm6 (by simp; omega)]
     obtain ⟨t',h1,h2,h3⟩:=had _ f
     rw [h1,h2]
     exact ⟨t',rfl,h3⟩
    ·rw [Zm5 (by simp; omega), Zm5 c5]
     exact ⟨_,rfl,fun _=>rfl⟩
theorem Zhc {op w m:Int} {ks:List D.Term} (h:(mkT op w m ks).2 = true) (hne:ks ≠ []) (hl:ks.length ≤ 3) (hc:(ks.all fun x=>x.Op == 0) = true):∃ v,ZV ⟨op,w,m,⟨[]⟩,ks⟩ (ks.map (·.N)) = some v ∧ mkT op w m ks = (kT w v,true):=by
 unfold mkT at h ⊢
 split at h
 ·rename_i c
  rw [Zm6 c]
  obtain ⟨a,b⟩:=Zb0 c
  obtain ⟨v,hv,h1,h2⟩:=known a hne hc
  refine ⟨v,h1,?_⟩
  have e:ZA fuel ⟨op,w,m,⟨[]⟩,ks⟩ = some (kT w v):=by
   obtain ⟨k,hk,hk2⟩ : ∃ k,fuel = k + 1 ∧ 1000 ≤ k:=⟨fuel - 1,by unfold fuel; omega,by unfold fuel; omega⟩
   rw [hk,ZA,Zm5 (by rw [Ze]; simpa using hne),Zdp (ks:=ks) (n:=k) (by omega) (by omega),hc]
   simp only [Zm1,ZmO,h2 k (by omega),ZT hv]; rfl
  unfold simp1
  rw [e]; rfl
 ·cases h
theorem Zgi {p:D.Program} {x:D.Term} (hp:progB p = true) (hx:fine x) (hw:x.W = p.W) (h0:x.Op = 0) (hok:(qad p x).2.2 = true) (hn:¬((qad p x).1.Op = 0 ∧ (qad p x).1.N = 1)):0 ≤ x.N ∧ x.N < p.Mem:=by
 obtain ⟨ex,vx⟩:=Xa hx.1 (by simp [h0])
 have hm:=Y2 hp
 have hx0:0 ≤ x.N:=by
  rw [hw,ZR (by omega) (by omega)] at vx
  omega
 refine ⟨hx0,?_⟩
 unfold qad at hok hn
 split at hok
 ·rename_i c
  rw [Zm6 c] at hn
  obtain ⟨v,a1,a2⟩:=Zhc c (by simp) (by simp) (by simp [h0,kT])
  rw [a2] at hok hn
  obtain ⟨u,b1,b2⟩:=Zhc hok (by simp) (by simp) (by simp [kT])
  rw [b2] at hn
  refine Decidable.byContradiction fun hlt=>hn ⟨rfl,?_⟩
  have ev:v = 0:=by
   have:ZV ⟨15,1,0,⟨[]⟩,[x,kT p.W p.Mem]⟩ ([x,kT p.W p.Mem].map (·.N)) = some 0:=by
    have e1:ZE x.W x.N = some true:=by rw [YT,vx]
    have e2:ZE x.W p.Mem = some true:=by rw [YT,hw,hm.1]
    simp [ZV,Zk,kT,get?,Yp,e1,e2,Xy,hlt]
   rw [this] at a1
   exact (Option.some.inj a1).symm
  subst ev
  have:ZV ⟨1,1,0,⟨[]⟩,[kT 1 0]⟩ ([kT 1 0].map (·.N)) = some 1:=by decide +kernel
  rw [this] at b1
  exact (Option.some.inj b1).symm
 ·cases hok
theorem Zc4 {p:D.Program} {s:D.Path} {i:D.Ins} (hp:progB p = true) (hs:okP p s) (hi:insF p.W p.Code.length i) (hok:(qst p s.Regs i).2.2 = true) (hn:¬((qst p s.Regs i).1.Op = 0 ∧ (qst p s.Regs i).1.N = 1)) :
  (i.Op = 7 → (rg s.Regs i.B).Op = 0 → 0 ≤ (rg s.Regs i.B).N ∧ (rg s.Regs i.B).N < p.Mem) ∧ (i.Op = 8 → (rg s.Regs i.A).Op = 0 → 0 ≤ (rg s.Regs i.A).N ∧ (rg s.Regs i.A).N < p.Mem):=by
 constructor
 ·intro c h0
  unfold qst at hok hn
  rw [Zm5 (by omega),Zm5 (by omega),Zm6 c] at hok hn
  obtain ⟨b0,b1⟩:=hi.b (by omega)
  have:=Zcr hs.rf b0 (by have:=hs.rl; omega)
  exact Zgi hp this.1 this.2 h0 hok hn
 ·intro c h0
  unfold qst at hok hn
  rw [Zm5 (by omega),Zm5 (by omega),Zm5 (by omega),Zm6 c] at hok hn
  obtain ⟨b0,b1⟩:=hi.a (by omega) (by omega) (by omega) (by omega)
  have:=Zcr hs.rf b0 (by have:=hs.rl; omega)
  exact Zgi hp this.1 this.2 h0 hok hn
def rwd (c w:Int):Int:=if 14 ≤ c then 1 else w
theorem Zfg {c w:Int} (hw:1 ≤ w ∧ w ≤ 16) (hc:1 ≤ c ∧ c ≤ 16):Xi c w = some (rwd c w):=by
 unfold Xi Zk rwd
 have h1:=hw.1; have h2:=hw.2; have h3:=hc.1; have h4:=hc.2
 by_cases h:14 ≤ c <;> simp [h1,h2,h3,h4,h]
theorem Zk9 {c w:Int} (hw:1 ≤ w ∧ w ≤ 16) (hc:1 ≤ c ∧ c ≤ 16):X7 c w = some (rwd c w):=by
 unfold X7 ZF rwd
 have h1:=hw.1; have h2:=hw.2
 have h3:¬ c < 1:=by omega
 have h4:¬ 16 < c:=by omega
 by_cases h:14 ≤ c <;> simp [h1,h2,h3,h4,h]
noncomputable def opd (p:D.Program) (c:Int) (a b:D.Term):D.Term × Bool:=
 if (mkT c (rwd c p.W) 0 [a,b]).2 = true ∧ 14 ≤ c then mkT 20 p.W 0 [(mkT c (rwd c p.W) 0 [a,b]).1] else mkT c (rwd c p.W) 0 [a,b]
theorem Zk7 {p:D.Program} {c:Int} {a b:D.Term} (h:(opd p c a b).2 = true):fine (opd p c a b).1 ∧ (opd p c a b).1.W = p.W:=by
 unfold opd at h ⊢
 split at h
 ·rename_i e; rw [Zm6 e]; exact YZ h
 ·rename_i e
  rw [Zm5 e]
  have:=YZ h
  refine ⟨this.1,this.2.trans ?_⟩
  unfold rwd
  rw [Zm5 (fun h14=>e ⟨h,h14⟩)]
theorem ZkK {p:D.Program} {c:Int} {a b:D.Term} (hp:progB p = true) (hc:3 ≤ c ∧ c ≤ 16) (ha:fine a) (hb:fine b):Za5 fuel p c a b = some (opd p c a b):=by
 have hm:=Y2 hp
 unfold Za5 opd
 rw [Zk9 (by omega) (by omega)]
 simp only [Zm1]
 rw [ZbE (sml2f ha hb)]
 simp only [Zm1]
 by_cases h:(mkT c (rwd c p.W) 0 [a,b]).2 = true
 ·by_cases h14 : 14 ≤ c
  ·rw [Zm5 (by rw [h]; simp; omega),Zm6 ⟨h,h14⟩,ZbE (sml1f (YZ h).1)]; rfl
  ·rw [Zm6 (by rw [h]; simp; omega),Zm5 (fun e=>h14 e.2)]
 ·rw [Zm6 (by simp; left; simpa using h),Zm5 (fun e=>h e.1)]
theorem ZkT {p:D.Program} {c:Int} {a b:D.Term} (hp:progB p = true) (hc:3 ≤ c ∧ c ≤ 16) (ha:fine a) (hb:fine b) {β:Type} (f:D.Term → D.l06Maker → Option β) :
  ((Xi c p.W).bind fun x8=>(Zg fuel ⟨false⟩ c x8 [a,b]).bind fun x11=>if ((decide (c ≥ 14)) && (!x11.2.bad)) then (Zg fuel x11.2 20 p.W ([x11.1]:List D.Term)).bind fun x12=>f x12.1 x12.2 else f x11.1 x11.2) = f (opd p c a b).1 ⟨!(opd p c a b).2⟩:=by
 have hm:=Y2 hp
 rw [Zfg (by omega) (by omega)]
 simp only [Zm1]
 rw [X5 (sml2f ha hb)]
 simp only [Zm1]
 unfold opd
 by_cases h:(mkT c (rwd c p.W) 0 [a,b]).2 = true
 ·by_cases h14 : 14 ≤ c
  ·rw [Zm6 (by rw [h]; simp; omega),Zm6 ⟨h,h14⟩,h,show (false || !true) = false from rfl,X5 (sml1f (YZ h).1)]; rfl
  ·rw [Zm5 (by rw [h]; simp; omega),Zm5 (fun e=>h14 e.2)]; rfl
 ·have h' : (mkT c (rwd c p.W) 0 [a, b]).2 = false := by simpa using h
  rw [Zm5 (by rw [h']; simp),Zm5 (fun e=>h e.1)]; rfl
theorem Zj3 {k:Int} (h0:0 ≤ k) (h9:k ≤ 9):Xl fuel k = cat? (strOf [Byt.mk (IntKind.u8.wrap (w64 (48 + k)))]) ⟨[]⟩:=by
 obtain ⟨n,hn⟩ : ∃ n,fuel = n + 2:=⟨fuel - 2,by unfold fuel; omega⟩
 rw [hn,Xl,Zm5 (by simp; omega),XH (r:=(k,⟨[]⟩)) (by simp; omega) (by omega)]
 simp only [Zm1]
 exact Zd _
def inT (w k:Int):D.Term:=⟨22,w,0,if k = 0 then ⟨[105,48]⟩ else if k = 1 then ⟨[105,49]⟩ else ⟨[105,50]⟩,[]⟩
theorem ZlJ {p:D.Program} {k:Int} (h0:0 ≤ k) (h2:k ≤ 2):Zay fuel p k = some (inT p.W k):=by
 unfold Zay inT
 rw [Zj3 h0 (by omega)]
 have:k = 0 ∨ k = 1 ∨ k = 2:=by omega
 rcases this with rfl | rfl | rfl
 ·rw [show cat? (strOf [Byt.mk (IntKind.u8.wrap (w64 (48 + 0)))]) ⟨[]⟩ = some ⟨[48]⟩ from by decide +kernel]
  simp only [Zm1]
  rw [show cat? ⟨[105]⟩ ⟨[48]⟩ = some ⟨[105,48]⟩ from by decide +kernel]; rfl
 ·rw [show cat? (strOf [Byt.mk (IntKind.u8.wrap (w64 (48 + 1)))]) ⟨[]⟩ = some ⟨[49]⟩ from by decide +kernel]
  simp only [Zm1]
  rw [show cat? ⟨[105]⟩ ⟨[49]⟩ = some ⟨[105,49]⟩ from by decide +kernel]; rfl
 ·rw [show cat? (strOf [Byt.mk (IntKind.u8.wrap (w64 (48 + 2)))]) ⟨[]⟩ = some ⟨[50]⟩ from by decide +kernel]
  simp only [Zm1]
  rw [show cat? ⟨[105]⟩ ⟨[50]⟩ = some ⟨[105,50]⟩ from by decide +kernel]; rfl
theorem ZlD {p:D.Program} (hp:progB p = true) {k:Int} (h0:0 ≤ k) (h2:k ≤ 2):((YP k).bind fun x12=>(cat? ⟨[105]⟩ x12).bind fun x13=>XE fuel p.W x13) = some (inT p.W k):=by
 have hm:=Y2 hp
 have hw:ZF p.W = some true:=by
  unfold ZF
  have h1:1 ≤ p.W:=by omega
  have h2:p.W ≤ 16:=by omega
  simp [h1,h2]
 unfold inT
 have:k = 0 ∨ k = 1 ∨ k = 2:=by omega
 have hv:∀ s:Str,s.bytes.length ≤ 100 → nameB s = true → XE fuel p.W s = some ⟨22,p.W,0,s,[]⟩:=fun s hl hn=>by
  unfold XE
  rw [hw]
  simp only [Zm1,ZmF,Zm2,ZmA]
  rw [ZfP (by omega) (by unfold fuel; omega),hn]; rfl
 rcases this with rfl | rfl | rfl
 ·rw [show YP 0 = some ⟨[48]⟩ from by decide +kernel]
  simp only [Zm1]
  rw [show cat? ⟨[105]⟩ ⟨[48]⟩ = some ⟨[105,48]⟩ from by decide +kernel]
  simp only [Zm1]
  rw [hv _ (by decide) (by decide +kernel)]; rfl
 ·rw [show YP 1 = some ⟨[49]⟩ from by decide +kernel]
  simp only [Zm1]
  rw [show cat? ⟨[105]⟩ ⟨[49]⟩ = some ⟨[105,49]⟩ from by decide +kernel]
  simp only [Zm1]
  rw [hv _ (by decide) (by decide +kernel)]; rfl
 ·rw [show YP 2 = some ⟨[50]⟩ from by decide +kernel]
  simp only [Zm1]
  rw [show cat? ⟨[105]⟩ ⟨[50]⟩ = some ⟨[105,50]⟩ from by decide +kernel]
  simp only [Zm1]
  rw [hv _ (by decide) (by decide +kernel)]; rfl
theorem ZkE {p:D.Program} (hp:progB p = true) {k:Int}:fine (inT p.W k) ∧ (inT p.W k).W = p.W:=by
 have hm:=Y2 hp
 refine ⟨⟨?_,by unfold inT; rw [Zai]; simp only [Zan]; omega⟩,rfl⟩
 have w1:1 ≤ p.W:=by omega
 have w2:p.W ≤ 16:=by omega
 have hn:nameB (inT p.W k).Name = true:=by
  unfold inT
  by_cases c:k = 0
  ·simp only [c,ZmO]; decide +kernel
  ·by_cases d : k = 1
   ·simp only [d,ZmO]; decide +kernel
   ·simp only [c,d,ZmA]; decide +kernel
 rw [X6,ZX]
 simp only [locB,shB,hn]
 simp [inT,w1,w2]
def stk (p:D.Program) (s:D.Path) (i:D.Ins):Int:=
 if i.Op = 5 ∧ s.In = p.In then 3 else if i.Op = 6 ∧ s.Out.length = 6 then 4 else if i.Op = 11 ∧ s.Stack.length = 3 then 7 else if i.Op = 12 ∧ s.Stack.length = 0 then 7 else 0
noncomputable def flw (p:D.Program) (s:D.Path) (i:D.Ins):D.Path × Bool:=
 if i.Op = 1 then ({ s with Pc:=s.Pc + 1,Regs:=s.Regs.set i.A.toNat (kT p.W i.B) },true)
 else if i.Op = 2 then ({ s with Pc:=s.Pc + 1,Regs:=s.Regs.set i.A.toNat (rg s.Regs i.B) },true)
 else if i.Op = 3 then ({ s with Pc:=s.Pc + 1,Regs:=s.Regs.set i.A.toNat (opd p i.C (rg s.Regs i.A) (rg s.Regs i.B)).1 },(opd p i.C (rg s.Regs i.A) (rg s.Regs i.B)).2)
 else if i.Op = 4 then ({ s with Pc:=s.Pc + 1,Regs:=s.Regs.set i.A.toNat (mkT 1 p.W 0 [rg s.Regs i.A]).1 },(mkT 1 p.W 0 [rg s.Regs i.A]).2)
 else if i.Op = 5 then ({ s with Pc:=s.Pc + 1,Regs:=s.Regs.set i.A.toNat (inT p.W s.In),In:=s.In + 1 },true)
 else if i.Op = 6 then ({ s with Pc:=s.Pc + 1,Out:=s.Out ++ [rg s.Regs i.A] },true)
 else if i.Op = 7 then ({ s with Pc:=s.Pc + 1,Regs:=s.Regs.set i.A.toNat (load p.W s.Mem (rg s.Regs i.B)).1 },(load p.W s.Mem (rg s.Regs i.B)).2)
 else if i.Op = 8 then ({ s with Pc:=s.Pc + 1,Mem:=(store p.W s.Mem (rg s.Regs i.A) (rg s.Regs i.B)).1 },(store p.W s.Mem (rg s.Regs i.A) (rg s.Regs i.B)).2)
 else if i.Op = 9 then ({ s with Pc:=i.B },true)
 else if i.Op = 11 then ({ s with Pc:=i.B,Stack:=s.Stack ++ [s.Pc + 1] },true)
 else if i.Op = 12 then ({ s with Pc:=(s.Stack[s.Stack.length - 1]?).getD 0,Stack:=s.Stack.take (s.Stack.length - 1) },true)
 else if i.Op = 14 then ({ s with Code:=1 },true)
 else ({ s with Pc:=s.Pc + 1 },true)
theorem Ziu {l:List Int} (h:0 < l.length) (h9:l.length ≤ 9):get? l (w64 (len l - 1)) = some ((l[l.length - 1]?).getD 0) ∧ cut? l 0 (w64 (len l - 1)) = some (l.take (l.length - 1)):=by
 have e:w64 (len l - 1) = ((l.length - 1:Nat):Int):=by rw [Ze,Zm (by omega) (by omega)]; omega
 rw [e]
 constructor
 ·rw [get?_nat,Zm7 (by omega)]; rfl
 ·unfold cut?
  rw [Zm6 (by omega)]; simp
theorem Zla {l:List Int} (h:l.length ≤ 100):Z7 l = some l:=by
 unfold Z7
 rw [Zgm h]; rfl
theorem Zhb {p:D.Program} {s:D.Path} {i:D.Ins} (hp:progB p = true) (hs:okP p s) (hi:insF p.W p.Code.length i) (hpc:s.Pc < p.Code.length) (hk:stk p s i = 0)
  (h7:i.Op = 7 → (rg s.Regs i.B).Op = 0 → 0 ≤ (rg s.Regs i.B).N ∧ (rg s.Regs i.B).N < p.Mem) (h8:i.Op = 8 → (rg s.Regs i.A).Op = 0 → 0 ≤ (rg s.Regs i.A).N ∧ (rg s.Regs i.A).N < p.Mem):ZaJ fuel p s i = some (flw p s i):=by
 have hm:=Y2 hp
 have hl:=hs.rl
 have hcl:(p.Code.length:Int) ≤ 40:=by
  unfold progB at hp
  simp only [Zm4,ZmG] at hp
  omega
 have hin:=Zeh hp
 have e1:w64 (s.Pc + 1) = s.Pc + 1:=Zm (by have:=hs.pc.1; omega) (by omega)
 have e2:w64 (s.In + 1) = s.In + 1:=Zm (by have:=hs.inn; omega) (by have:=hs.inn; omega)
 have hr:∀ k:Int,0 ≤ k ∧ k < 4 → get? s.Regs k = some (rg s.Regs k) ∧ fine (rg s.Regs k):=fun k hk=>⟨Zch hk.1 (by omega),(Zcr hs.rf hk.1 (by omega)).1⟩
 have hput:∀ t:D.Term,0 ≤ i.A ∧ i.A < 4 → XQ s.Regs i.A t = some (s.Regs.set i.A.toNat t):=fun t ha=>put_eq (by omega) ha.1 (by omega)
 have hop:=hi.op
 have hc:i.Op = 1 ∨ i.Op = 2 ∨ i.Op = 3 ∨ i.Op = 4 ∨ i.Op = 5 ∨ i.Op = 6 ∨ i.Op = 7 ∨ i.Op = 8 ∨ i.Op = 9 ∨ i.Op = 10 ∨ i.Op = 11 ∨ i.Op = 12 ∨ i.Op = 13 ∨ i.Op = 14:=by omega
 have hA:=hi.a
 have hB:=hi.b
 unfold ZaJ flw
 rcases hc with c | c | c | c | c | c | c | c | c | c | c | c | c | c <;> simp only [c,Int.reduceBEq,Int.reduceEq,reduceIte,Zm2,e1,e2]
 ·rw [ZT (hi.v c)]
  simp only [Zm1]
  rw [hput _ (hA (by omega) (by omega) (by omega) (by omega))]; rfl
 ·rw [(hr _ (hB (by omega))).1]
  simp only [Zm1]
  rw [hput _ (hA (by omega) (by omega) (by omega) (by omega))]; rfl
 ·obtain ⟨a1, a2⟩ := hr _ (hA (by omega) (by omega) (by omega) (by omega))
  obtain ⟨b1,b2⟩:=hr _ (hB (by omega))
  rw [a1,b1]
  simp only [Zm1]
  rw [ZkK hp (hi.c c) a2 b2]
  simp only [Zm1]
  rw [hput _ (hA (by omega) (by omega) (by omega) (by omega))]; rfl
 ·obtain ⟨a1, a2⟩ := hr _ (hA (by omega) (by omega) (by omega) (by omega))
  rw [a1]
  simp only [Zm1]
  rw [ZbE (sml1f a2)]
  simp only [Zm1]
  rw [hput _ (hA (by omega) (by omega) (by omega) (by omega))]; rfl
 ·have hk3 : s.In ≠ p.In := fun e => by unfold stk at hk; rw [Zm6 ⟨c, e⟩] at hk; cases hk
  have:=ZlD hp (k:=s.In) hs.inn.1 (by have:=hs.inn.2; omega)
  have hf:∀ {β:Type} (f:D.Term → Option β),((YP s.In).bind fun x12=>(cat? ⟨[105]⟩ x12).bind fun x13=>(XE fuel p.W x13).bind f) = f (inT p.W s.In):=fun f=>by
   rw [← Zm1 (inT p.W s.In) f,← this]
   simp only [Option.bind_assoc]
  rw [hf,hput _ (hA (by omega) (by omega) (by omega) (by omega))]; rfl
 ·rw [(hr _ (hA (by omega) (by omega) (by omega) (by omega))).1]
  simp only [Zm1]
  rw [Zgw (by have:=hs.ol; omega)]; rfl
 ·obtain ⟨b1, b2⟩ := hr _ (hB (by omega))
  rw [b1]
  simp only [Zm1]
  rw [ZiL hp hs.ml hs.mf b2 (h7 c)]
  simp only [Zm1]
  rw [hput _ (hA (by omega) (by omega) (by omega) (by omega))]; rfl
 ·obtain ⟨a1, a2⟩ := hr _ (hA (by omega) (by omega) (by omega) (by omega))
  obtain ⟨b1,b2⟩:=hr _ (hB (by omega))
  rw [a1,b1]
  simp only [Zm1]
  rw [ZhW hp hs.ml hs.mf a2 b2 (h8 c)]; rfl
 ·rw [Zg2 (by have:=hs.sl; omega)]; rfl
 ·have hk0 : s.Stack.length ≠ 0 := fun e => by unfold stk at hk; rw [Zm5 (by omega), Zm5 (by omega), Zm5 (by omega), Zm6 ⟨c, e⟩] at hk; cases hk
  obtain ⟨g1,g2⟩:=Ziu (l:=s.Stack) (by omega) (by have:=hs.sl; omega)
  rw [g1,g2]
  simp only [Zm1]
  rw [Zla (by simp; have:=hs.sl; omega)]; rfl
theorem Zii {p:D.Program} {s:D.Path} {i:D.Ins} (hp:progB p = true) (hs:okP p s) (h0:s.Code = 0) (hi:insF p.W p.Code.length i) (hpc:s.Pc < p.Code.length) (hk:stk p s i = 0)
  (h7:i.Op = 7 → (rg s.Regs i.B).Op = 0 → 0 ≤ (rg s.Regs i.B).N ∧ (rg s.Regs i.B).N < p.Mem) (h8:i.Op = 8 → (rg s.Regs i.A).Op = 0 → 0 ≤ (rg s.Regs i.A).N ∧ (rg s.Regs i.A).N < p.Mem) :
  ∃ s',ZL fuel ⟨false⟩ p s i = some (s',⟨!(flw p s i).2⟩) ∧ ((flw p s i).2 = true → s' = (flw p s i).1):=by
 have hm:=Y2 hp
 have hl:=hs.rl
 have hcl:(p.Code.length:Int) ≤ 40:=by
  unfold progB at hp
  simp only [Zm4,ZmG] at hp
  omega
 have hin:=Zeh hp
 have e1:w64 (s.Pc + 1) = s.Pc + 1:=Zm (by have:=hs.pc.1; omega) (by omega)
 have e2:w64 (s.In + 1) = s.In + 1:=Zm (by have:=hs.inn; omega) (by have:=hs.inn; omega)
 have hr:∀ k:Int,0 ≤ k ∧ k < 4 → get? s.Regs k = some (rg s.Regs k) ∧ fine (rg s.Regs k):=fun k hk=>⟨Zch hk.1 (by omega),(Zcr hs.rf hk.1 (by omega)).1⟩
 have hput:∀ t:D.Term,0 ≤ i.A ∧ i.A < 4 → set? s.Regs i.A t = some (s.Regs.set i.A.toNat t):=fun t ha=>ZhK ha.1 (by omega) t
 have hop:=hi.op
 have hc:i.Op = 1 ∨ i.Op = 2 ∨ i.Op = 3 ∨ i.Op = 4 ∨ i.Op = 5 ∨ i.Op = 6 ∨ i.Op = 7 ∨ i.Op = 8 ∨ i.Op = 9 ∨ i.Op = 10 ∨ i.Op = 11 ∨ i.Op = 12 ∨ i.Op = 13 ∨ i.Op = 14:=by omega
 have hA:=hi.a
 have hB:=hi.b
 have k5:i.Op = 5 → (s.In == p.In) = false:=fun c=>by
  have:s.In ≠ p.In:=fun e=>by unfold stk at hk; rw [Zm6 ⟨c,e⟩] at hk; cases hk
  simpa using this
 have k6:i.Op = 6 → (len s.Out == 6) = false:=fun c=>by
  have:s.Out.length ≠ 6:=fun e=>by unfold stk at hk; rw [Zm5 (by omega),Zm6 ⟨c,e⟩] at hk; cases hk
  rw [Ze]; simp; omega
 have k11:i.Op = 11 → (len s.Stack == 3) = false:=fun c=>by
  have:s.Stack.length ≠ 3:=fun e=>by unfold stk at hk; rw [Zm5 (by omega),Zm5 (by omega),Zm6 ⟨c,e⟩] at hk; cases hk
  rw [Ze]; simp; omega
 have k12:i.Op = 12 → (len s.Stack == 0) = false ∧ 0 < s.Stack.length:=fun c=>by
  have:s.Stack.length ≠ 0:=fun e=>by unfold stk at hk; rw [Zm5 (by omega),Zm5 (by omega),Zm5 (by omega),Zm6 ⟨c,e⟩] at hk; cases hk
  exact ⟨by rw [Ze]; simp; intro e; exact this (by rw [e]; rfl),by omega⟩
 unfold ZL
 rw [Zbl (hs.fine hp)]
 simp only [Zm1]
 unfold flw
 rcases hc with c | c | c | c | c | c | c | c | c | c | c | c | c | c
 all_goals simp only [c,Int.reduceBEq,Int.reduceEq,Int.reduceBNe,reduceIte,Zm2,Znp,ZmY,cond_true,cond_false,k5,k6,k11,k12,Zm1,bne_self_eq_false,e1,e2]
 ·rw [Zi]
  simp only [Zm1]
  rw [hput _ (hA (by omega) (by omega) (by omega) (by omega))]
  exact ⟨_,rfl,fun _=>by rw [h0]; rfl⟩
 ·rw [(hr _ (hB (by omega))).1]
  simp only [Zm1]
  rw [hput _ (hA (by omega) (by omega) (by omega) (by omega))]
  exact ⟨_,rfl,fun _=>by rw [h0]⟩
 ·obtain ⟨a1, a2⟩ := hr _ (hA (by omega) (by omega) (by omega) (by omega))
  obtain ⟨b1,b2⟩:=hr _ (hB (by omega))
  rw [a1,b1]
  simp only [Zm1]
  have q:=ZkT (p:=p) hp (hi.c c) a2 b2 (fun t m=>(set? s.Regs i.A t).bind fun x13=>(some (.inl (m.bad,s.Pc + 1,s.Mem,s.In,x13,s.Stack,s.Out)):Option ((Bool × Int × List D.Term × Int × List D.Term × List Int × List D.Term) ⊕ (D.Path × D.l06Maker))))
  have hcc:=hi.c c
  rw [Zfg (by omega) (by omega)] at q
  rw [Zfg (by omega) (by omega)]
  simp only [Zm1] at q ⊢
  rw [q,hput _ (hA (by omega) (by omega) (by omega) (by omega))]
  exact ⟨_,rfl,fun _=>by rw [h0]⟩
 ·obtain ⟨a1, a2⟩ := hr _ (hA (by omega) (by omega) (by omega) (by omega))
  rw [a1]
  simp only [Zm1]
  rw [X5 (sml1f a2)]
  simp only [Zm1]
  rw [hput _ (hA (by omega) (by omega) (by omega) (by omega))]
  exact ⟨_,rfl,fun _=>by rw [h0]⟩
 ·have hk3 : s.In ≠ p.In := fun e => by have := k5 c; rw [e] at this; simp at this
  rw [ZlJ (p:=p) hs.inn.1 (by have:=hs.inn.2; omega)]
  simp only [Zm1]
  rw [hput _ (hA (by omega) (by omega) (by omega) (by omega))]
  exact ⟨_,rfl,fun _=>by rw [h0]; rfl⟩
 ·rw [(hr _ (hA (by omega) (by omega) (by omega) (by omega))).1]
  simp only [Zm1]
  rw [ZaR (by simp; have:=hs.ol; omega)]
  exact ⟨_,rfl,fun _=>by rw [h0]⟩
 ·obtain ⟨a1, a2⟩ := hr _ (hA (by omega) (by omega) (by omega) (by omega))
  obtain ⟨b1,b2⟩:=hr _ (hB (by omega))
  rw [a1,b1]
  simp only [Zm1]
  obtain ⟨t',q1,q2⟩:=Zj2 (s:=D.Path.mk (s.Pc + 1) s.Regs s.Mem s.Stack s.In s.Out 0 s.Steps s.Cond s.Turns) (x:=rg s.Regs i.B) hp hs.ml hs.mf b2 (h7 c)
  rw [q1]
  simp only [Zm1]
  rw [hput _ (hA (by omega) (by omega) (by omega) (by omega))]
  exact ⟨_,rfl,fun h=>by rw [h0,q2 h]⟩
 ·obtain ⟨a1, a2⟩ := hr _ (hA (by omega) (by omega) (by omega) (by omega))
  obtain ⟨b1,b2⟩:=hr _ (hB (by omega))
  rw [a1,b1]
  simp only [Zm1]
  obtain ⟨t',q1,-,q2⟩:=ZhU (s:=D.Path.mk (s.Pc + 1) s.Regs s.Mem s.Stack s.In s.Out 0 s.Steps s.Cond s.Turns) (x:=rg s.Regs i.A) (v:=rg s.Regs i.B) hp hs.ml hs.mf a2 b2 (h8 c)
  rw [q1]
  simp only [Zm1]
  exact ⟨_,rfl,fun h=>by rw [h0,q2 h]⟩
 ·exact ⟨_,rfl,fun _=>by rw [h0]⟩
 ·exact ⟨_,rfl,fun _=>by rw [h0]⟩
 ·rw [ZaR (by simp; have := hs.sl; omega)]
  exact ⟨_,rfl,fun _=>by rw [h0]⟩
 ·obtain ⟨g1, g2⟩ := Ziu (l := s.Stack) (k12 c).2 (by have := hs.sl; omega)
  rw [g1,g2]
  exact ⟨_,rfl,fun _=>by rw [h0]⟩
 ·exact ⟨_,rfl,fun _=>by rw [h0]⟩
 ·exact ⟨_,rfl,fun _=>rfl⟩
theorem Zkm {p:D.Program} {s:D.Path} {i:D.Ins} (hp:progB p = true) (hs:okP p s) (hk:stk p s i ≠ 0):ZL fuel ⟨false⟩ p s i = some ({ s with Code:=stk p s i },⟨false⟩):=by
 unfold ZL
 rw [Zbl (hs.fine hp)]
 simp only [Zm1]
 unfold stk at hk ⊢
 by_cases c5:i.Op = 5 ∧ s.In = p.In
 ·simp only [c5,and_self,ZmO,Int.reduceBEq,ZnD,BEq.rfl,Zm1,Int.reduceBNe]
 ·rw [Zm5 c5] at hk ⊢
  have d5:((i.Op == 5) && (s.In == p.In)) = false:=by simpa using c5
  by_cases c6:i.Op = 6 ∧ s.Out.length = 6
  ·have : len s.Out = 6 := by rw [Ze]; omega
   simp only [d5,c6,this,and_self,ZmO,Int.reduceBEq,ZnD,Zm2,ZmA,Znp,Zm1,Int.reduceBNe]
  ·rw [Zm5 c6] at hk ⊢
   have d6:((i.Op == 6) && (len s.Out == 6)) = false:=by
    rw [Ze]; simp; intro e h; exact c6 ⟨e,by omega⟩
   by_cases c11:i.Op = 11 ∧ s.Stack.length = 3
   ·have : len s.Stack = 3 := by rw [Ze]; omega
    simp only [d5,d6,c11,this,and_self,ZmO,Int.reduceBEq,ZnD,Zm2,ZmA,Znp,Zm1,Int.reduceBNe]
   ·rw [Zm5 c11] at hk ⊢
    have d11:((i.Op == 11) && (len s.Stack == 3)) = false:=by
     rw [Ze]; simp; intro e h; exact c11 ⟨e,by omega⟩
    by_cases c12:i.Op = 12 ∧ s.Stack.length = 0
    ·have : len s.Stack = 0 := by rw [Ze]; omega
     simp only [d5,d6,d11,c12,this,and_self,ZmO,Int.reduceBEq,ZnD,Zm2,ZmA,Znp,Zm1,Int.reduceBNe]
    ·rw [Zm5 c12] at hk; exact absurd rfl hk
theorem ZhV {p:D.Program} {s:D.Path} {i:D.Ins} (hs:okP p s):ZbO p s i = some (stk p s i):=by
 have h1:=hs.inn.2
 have h2:=hs.ol
 have h3:=hs.sl
 unfold ZbO stk
 by_cases c5:i.Op = 5 ∧ s.In = p.In
 ·rw [Zm6 c5,Zm6 (by simp; omega)]
 ·rw [Zm5 c5, Zm5 (by simp; omega)]
  by_cases c6:i.Op = 6 ∧ s.Out.length = 6
  ·rw [Zm6 c6,Zm6 (by rw [Ze]; simp; omega)]
  ·rw [Zm5 c6, Zm5 (by rw [Ze]; simp; omega)]
   by_cases c11:i.Op = 11 ∧ s.Stack.length = 3
   ·rw [Zm6 c11,Zm6 (by rw [Ze]; simp; omega)]
   ·rw [Zm5 c11, Zm5 (by rw [Ze]; simp; omega)]
    by_cases c12:i.Op = 12 ∧ s.Stack.length = 0
    ·rw [Zm6 c12,Zm6 (by rw [Ze,c12.2]; simp [c12.1])]
    ·rw [Zm5 c12,Zm5 (by rw [Ze]; simp only [Zm4,Znb]; omega)]
theorem Zmq {w v:Int} (h:wordB w v = true):fine (kT w v) ∧ (kT w v).W = w:=⟨ZbX h,rfl⟩
theorem Zdj {p:D.Program} {s:D.Path} (hs:okP p s) (hpc:s.Pc < p.Code.length) {k:Nat} {t:D.Term} (ht:fine t ∧ t.W = p.W):okP p { s with Pc:=s.Pc + 1,Regs:=s.Regs.set k t }:=
 ⟨⟨by have:=hs.pc.1; show 0 ≤ s.Pc + 1; omega,by show s.Pc + 1 ≤ _; rw [Ze]; omega⟩,by show (s.Regs.set k t).length = 4; rw [Zo7,hs.rl],Zkg hs.rf ht,hs.ml,hs.mf,hs.sl,hs.sp,hs.inn,hs.ol,hs.of,hs.cd,hs.st,hs.cl,hs.cf,hs.tl⟩
theorem Zg8 {p:D.Program} {s:D.Path} {i:D.Ins} (hp:progB p = true) (hs:okP p s) (hi:insF p.W p.Code.length i) (hpc:s.Pc < p.Code.length) (hk:stk p s i = 0)
  (h7:i.Op = 7 → (rg s.Regs i.B).Op = 0 → 0 ≤ (rg s.Regs i.B).N ∧ (rg s.Regs i.B).N < p.Mem) (hok:(flw p s i).2 = true):okP p (flw p s i).1:=by
 have hop:=hi.op
 have hl:=hs.rl
 have hr:∀ k:Int,0 ≤ k ∧ k < 4 → fine (rg s.Regs k) ∧ (rg s.Regs k).W = p.W:=fun k hk=>Zcr hs.rf hk.1 (by omega)
 have hc:i.Op = 1 ∨ i.Op = 2 ∨ i.Op = 3 ∨ i.Op = 4 ∨ i.Op = 5 ∨ i.Op = 6 ∨ i.Op = 7 ∨ i.Op = 8 ∨ i.Op = 9 ∨ i.Op = 10 ∨ i.Op = 11 ∨ i.Op = 12 ∨ i.Op = 13 ∨ i.Op = 14:=by omega
 have hA:=hi.a
 have hB:=hi.b
 have hT:=hi.t
 have hn:0 ≤ s.Pc + 1 ∧ s.Pc + 1 ≤ len p.Code:=⟨by have:=hs.pc.1; omega,by rw [Ze]; omega⟩
 unfold flw at hok ⊢
 rcases hc with c | c | c | c | c | c | c | c | c | c | c | c | c | c <;> simp only [c,Int.reduceEq,reduceIte] at hok ⊢
 ·exact Zdj hs hpc (Zmq (hi.v c))
 ·exact Zdj hs hpc (hr _ (hB (by omega)))
 ·exact Zdj hs hpc (Zk7 hok)
 ·exact Zdj hs hpc (YZ hok)
 ·have h5 : s.In ≠ p.In := fun e => by unfold stk at hk; rw [Zm6 ⟨c, e⟩] at hk; cases hk
  have:=Zdj hs hpc (k:=i.A.toNat) (ZkE hp (k:=s.In))
  exact ⟨this.pc,this.rl,this.rf,this.ml,this.mf,this.sl,this.sp,⟨by have:=hs.inn.1; show 0 ≤ s.In + 1; omega,by have:=hs.inn.2; show s.In + 1 ≤ p.In; omega⟩,this.ol,this.of,this.cd,this.st,this.cl,this.cf,this.tl⟩
 ·have h6 : s.Out.length ≠ 6 := fun e => by unfold stk at hk; rw [Zm5 (by omega), Zm6 ⟨c, e⟩] at hk; cases hk
  exact ⟨hn,hs.rl,hs.rf,hs.ml,hs.mf,hs.sl,hs.sp,hs.inn,by have:=hs.ol; show (s.Out ++ _).length ≤ 6; rw [ZmM]; simp; omega,ZjN hs.of (hr _ (hA (by omega) (by omega) (by omega) (by omega))),hs.cd,hs.st,hs.cl,hs.cf,hs.tl⟩
 ·exact Zdj hs hpc (ZiZ hp hs.ml hs.mf (h7 c) hok)
 ·obtain ⟨q1, q2⟩ := Zh9 (p := p) (s := s) hs.mf (hr _ (hB (by omega))) hok
  exact ⟨hn,hs.rl,hs.rf,by show ((store _ _ _ _).1.length:Int) = _; rw [q2]; exact hs.ml,q1,hs.sl,hs.sp,hs.inn,hs.ol,hs.of,hs.cd,hs.st,hs.cl,hs.cf,hs.tl⟩
 ·exact ⟨by rw [Ze]; exact hT (by omega),hs.rl,hs.rf,hs.ml,hs.mf,hs.sl,hs.sp,hs.inn,hs.ol,hs.of,hs.cd,hs.st,hs.cl,hs.cf,hs.tl⟩
 ·exact ⟨hn,hs.rl,hs.rf,hs.ml,hs.mf,hs.sl,hs.sp,hs.inn,hs.ol,hs.of,hs.cd,hs.st,hs.cl,hs.cf,hs.tl⟩
 ·have h11 : s.Stack.length ≠ 3 := fun e => by unfold stk at hk; rw [Zm5 (by omega), Zm5 (by omega), Zm6 ⟨c, e⟩] at hk; cases hk
  refine ⟨by rw [Ze]; exact hT (by omega),hs.rl,hs.rf,hs.ml,hs.mf,by have:=hs.sl; show (s.Stack ++ _).length ≤ 3; rw [ZmM]; simp; omega,fun x hx=>?_,hs.inn,hs.ol,hs.of,hs.cd,hs.st,hs.cl,hs.cf,hs.tl⟩
  rcases Znh.1 hx with hx | hx
  ·exact hs.sp x hx
  ·rw [ZmX] at hx; subst hx; exact hn
 ·have h12 : s.Stack.length ≠ 0 := fun e => by unfold stk at hk; rw [Zm5 (by omega), Zm5 (by omega), Zm5 (by omega), Zm6 ⟨c, e⟩] at hk; cases hk
  refine ⟨?_,hs.rl,hs.rf,hs.ml,hs.mf,by have:=hs.sl; show (s.Stack.take _).length ≤ 3; rw [Znd]; omega,fun x hx=>hs.sp x (List.mem_of_mem_take hx),hs.inn,hs.ol,hs.of,hs.cd,hs.st,hs.cl,hs.cf,hs.tl⟩
  rw [Zm7 (by omega)]
  exact hs.sp _ (ZnQ _)
 ·exact ⟨hn,hs.rl,hs.rf,hs.ml,hs.mf,hs.sl,hs.sp,hs.inn,hs.ol,hs.of,hs.cd,hs.st,hs.cl,hs.cf,hs.tl⟩
 ·exact ⟨hs.pc,hs.rl,hs.rf,hs.ml,hs.mf,hs.sl,hs.sp,hs.inn,hs.ol,hs.of,by show (0:Int) ≤ 1 ∧ (1:Int) ≤ 9; omega,hs.st,hs.cl,hs.cf,hs.tl⟩
theorem Zfz {p:D.Program} {s:D.Path} {i:D.Ins} {c:List D.Term} {t:List Int}:flw p { s with Cond:=c,Turns:=t } i = ({ (flw p s i).1 with Cond:=c,Turns:=t },(flw p s i).2):=by
 unfold flw
 by_cases c1:i.Op = 1
 ·simp only [c1,reduceIte]
 by_cases c2:i.Op = 2
 ·simp only [c2,Int.reduceEq,reduceIte]
 by_cases c3:i.Op = 3
 ·simp only [c3,Int.reduceEq,reduceIte]
 by_cases c4:i.Op = 4
 ·simp only [c4,Int.reduceEq,reduceIte]
 by_cases c5:i.Op = 5
 ·simp only [c5,Int.reduceEq,reduceIte]
 by_cases c6:i.Op = 6
 ·simp only [c6,Int.reduceEq,reduceIte]
 by_cases c7:i.Op = 7
 ·simp only [c7,Int.reduceEq,reduceIte]
 by_cases c8:i.Op = 8
 ·simp only [c8,Int.reduceEq,reduceIte]
 by_cases c9:i.Op = 9
 ·simp only [c9,Int.reduceEq,reduceIte]
 by_cases c11:i.Op = 11
 ·simp only [c11,Int.reduceEq,reduceIte]
 by_cases c12:i.Op = 12
 ·simp only [c12,Int.reduceEq,reduceIte]
 by_cases c14:i.Op = 14
 ·simp only [c14,Int.reduceEq,reduceIte]
 simp only [c1,c2,c3,c4,c5,c6,c7,c8,c9,c11,c12,c14,reduceIte]
def nmd (s:D.Path) (i:D.Ins):D.Path:=
 if i.Op = 10 then { s with Pc:=i.B } else if i.Op = 13 then { s with Code:=8 } else if i.Op = 3 then { s with Code:=6 } else { s with Code:=5 }
theorem Zfm (s:D.Path) (i:D.Ins):Zbh s i = some (nmd s i):=by
 unfold Zbh nmd
 by_cases c1:i.Op = 10
 ·simp [c1]
 by_cases c2:i.Op = 13
 ·simp [c2]
 by_cases c3:i.Op = 3
 ·simp [c3]
 simp [c1,c2,c3]
theorem Zhd (s:D.Path) (i:D.Ins):XB s i = some (nmd s i):=by
 unfold XB nmd
 by_cases c1:i.Op = 10
 ·simp [c1]
 by_cases c2:i.Op = 13
 ·simp [c2]
 by_cases c3:i.Op = 3
 ·simp [c3]
 simp [c1,c2,c3]
theorem ZbF {p:D.Program} {s:D.Path} (hs:okP p s) {k:Int} (hk:0 ≤ k ∧ k ≤ 9):okP p { s with Code:=k }:=⟨hs.pc,hs.rl,hs.rf,hs.ml,hs.mf,hs.sl,hs.sp,hs.inn,hs.ol,hs.of,hk,hs.st,hs.cl,hs.cf,hs.tl⟩
theorem ZkX {p:D.Program} {s:D.Path} {i:D.Ins} (hs:okP p s) (hi:insF p.W p.Code.length i):okP p (nmd s i):=by
 unfold nmd
 split
 ·rename_i c
  exact ⟨by rw [Ze]; exact hi.t (by omega),hs.rl,hs.rf,hs.ml,hs.mf,hs.sl,hs.sp,hs.inn,hs.ol,hs.of,hs.cd,hs.st,hs.cl,hs.cf,hs.tl⟩
 ·split
  ·exact ZbF hs (by omega)
  ·split
   ·exact ZbF hs (by omega)
   ·exact ZbF hs (by omega)
theorem Zgx {p:D.Program} {s:D.Path} (hs:okP p s) {t:D.Term} {k:Int} (ht:fine t ∧ t.W = 1) {c:List D.Term} {l:List Int} (hc:fw 1 c) (hcl:c.length < 60) (hl:l.length < 60):okP p { s with Cond:=c ++ [t],Turns:=l ++ [k] }:=
 ⟨hs.pc,hs.rl,hs.rf,hs.ml,hs.mf,hs.sl,hs.sp,hs.inn,hs.ol,hs.of,hs.cd,hs.st,by show (c ++ [t]).length ≤ 60; rw [ZmM]; simp; omega,ZjN hc ht,by show (l ++ [k]).length ≤ 60; rw [ZmM]; simp; omega⟩
theorem ZhB {p:D.Program} {rs:List D.Term} {i:D.Ins} (h:(qst p rs i).2.1 = false):(qst p rs i).1 = t0:=by
 unfold qst at h ⊢
 by_cases c1:i.Op = 10 ∨ i.Op = 13
 ·rw [Zm6 c1] at h; cases h
 rw [Zm5 c1] at h ⊢
 by_cases c2:i.Op = 3
 ·rw [Zm6 c2] at h ⊢
  by_cases c3:i.C = 6 ∨ i.C = 7
  ·rw [Zm6 c3] at h; cases h
  ·rw [Zm5 c3]
 rw [Zm5 c2] at h ⊢
 have hq:∀ x:D.Term,(qad p x).2.1 = true:=fun x=>by unfold qad; split <;> rfl
 by_cases c4:i.Op = 7
 ·rw [Zm6 c4,hq] at h; cases h
 rw [Zm5 c4] at h ⊢
 by_cases c5:i.Op = 8
 ·rw [Zm6 c5,hq] at h; cases h
 rw [Zm5 c5]
theorem Zfe {p:D.Program} {rs:List D.Term} {i:D.Ins} (h:(qst p rs i).2.1 = true) (hok:(qst p rs i).2.2 = true):fine (qst p rs i).1 ∧ (qst p rs i).1.W = 1:=by
 have hz:∀ x:D.Term,(qze p x).2.2 = true → fine (qze p x).1 ∧ (qze p x).1.W = 1:=fun x h=>YZ h
 have hq:∀ x:D.Term,(qad p x).2.2 = true → fine (qad p x).1 ∧ (qad p x).1.W = 1:=fun x h=>by
  unfold qad at h ⊢
  split at h
  ·rename_i c; rw [Zm6 c]; exact YZ h
  ·cases h
 unfold qst at h hok ⊢
 by_cases c1:i.Op = 10 ∨ i.Op = 13
 ·rw [Zm6 c1] at h hok ⊢; exact hz _ hok
 rw [Zm5 c1] at h hok ⊢
 by_cases c2:i.Op = 3
 ·rw [Zm6 c2] at h hok ⊢
  by_cases c3:i.C = 6 ∨ i.C = 7
  ·rw [Zm6 c3] at h hok ⊢; exact hz _ hok
  ·rw [Zm5 c3] at h; cases h
 rw [Zm5 c2] at h hok ⊢
 by_cases c4:i.Op = 7
 ·rw [Zm6 c4] at h hok ⊢; exact hq _ hok
 rw [Zm5 c4] at h hok ⊢
 by_cases c5:i.Op = 8
 ·rw [Zm6 c5] at h hok ⊢; exact hq _ hok
 rw [Zm5 c5] at h; cases h
noncomputable def dvd (p:D.Program) (s:D.Path) (i:D.Ins):List D.Path:=
 if (qst p s.Regs i).2.2 = false then [{ s with Code:=9 }]
 else if (qst p s.Regs i).2.1 = true ∧ (qst p s.Regs i).1.Op = 0 ∧ (qst p s.Regs i).1.N = 1 then [nmd s i]
 else if (flw p s i).2 = false then [{ s with Code:=9 }]
 else if (qst p s.Regs i).2.1 = false ∨ (qst p s.Regs i).1.Op = 0 then [(flw p s i).1]
 else if (mkT 1 1 0 [(qst p s.Regs i).1]).2 = false ∨ s.Cond.length = 60 ∨ s.Turns.length = 60 then [{ s with Code:=9 }]
 else [{ nmd s i with Cond:=s.Cond ++ [(qst p s.Regs i).1],Turns:=s.Turns ++ [1] },{ (flw p s i).1 with Cond:=s.Cond ++ [(mkT 1 1 0 [(qst p s.Regs i).1]).1],Turns:=s.Turns ++ [0] }]
theorem Zho {p:D.Program} {s:D.Path} {i:D.Ins} (hp:progB p = true) (hs:okP p s) (hi:insF p.W p.Code.length i) (hpc:s.Pc < p.Code.length) (hk:stk p s i = 0):Zb3 fuel p s i = some (dvd p s i):=by
 unfold Zb3 dvd
 rw [ZfM hp hs hi]
 simp only [Zm1]
 by_cases q1:(qst p s.Regs i).2.2 = true
 ·have hfl:¬((qst p s.Regs i).2.1 = true ∧ (qst p s.Regs i).1.Op = 0 ∧ (qst p s.Regs i).1.N = 1) → ZaJ fuel p s i = some (flw p s i):=fun hn=>by
   have:=Zc4 hp hs hi q1 (fun e=>by
    cases ha:(qst p s.Regs i).2.1
    ·rw [ZhB ha] at e; exact absurd e.2 (by decide)
    ·exact hn ⟨ha,e⟩)
   exact Zhb hp hs hi hpc hk this.1 this.2
  rw [Zm5 (show ¬(!(qst p s.Regs i).2.2) = true by rw [q1]; simp),Zm5 (show ¬(qst p s.Regs i).2.2 = false by rw [q1]; simp)]
  by_cases q2:(qst p s.Regs i).2.1 = true ∧ (qst p s.Regs i).1.Op = 0 ∧ (qst p s.Regs i).1.N = 1
  ·rw [Zm6 q2, Zm6 q2.1]
   unfold Zp
   simp only [Zm1]
   rw [Zm6 (by simp [q2]),Zfm]; rfl
  ·rw [Zm5 q2]
   have e:∀ {β:Type} (x y:Option β),((if (qst p s.Regs i).2.1 = true then Zp (qst p s.Regs i).1 1 else some default).bind fun x2=>if ((qst p s.Regs i).2.1 && x2) = true then x else y) = y:=fun x y=>by
    cases ha:(qst p s.Regs i).2.1
    ·rfl
    ·unfold Zp
     simp only [ZmO,Zm1]
     rw [Zm5 (by simp; intro h1 h2; exact q2 ⟨ha,h1,h2⟩)]
   rw [e,hfl q2]
   simp only [Zm1]
   by_cases q3:(flw p s i).2 = true
   ·rw [Zm5 (show ¬(!(flw p s i).2) = true by rw [q3]; simp), Zm5 (show ¬(flw p s i).2 = false by rw [q3]; simp)]
    cases ha:(qst p s.Regs i).2.1
    ·simp
    ·obtain ⟨f1, f2⟩ := Zfe ha q1
     unfold Zb
     simp only [ZmF,Zm2,ZmA,Zm1,ZmZ,false_or]
     by_cases q4:(qst p s.Regs i).1.Op = 0
     ·simp [q4]
     ·rw [Zm5 (by simpa using q4), Zm5 (by simp; exact q4), ZbE (sml1f f1)]
      simp only [Zm1]
      have hcl:=hs.cl
      have htl:=hs.tl
      by_cases q5:(mkT 1 1 0 [(qst p s.Regs i).1]).2 = false ∨ s.Cond.length = 60 ∨ s.Turns.length = 60
      ·rw [Zm6 q5,Zm6 (by rw [Ze,Ze]; simp; rcases q5 with h | h | h <;> simp [h])]
      ·rw [Zm5 q5,Zm5 (by rw [Ze,Ze]; simp at q5 ⊢; exact ⟨⟨q5.1,by omega⟩,by omega⟩),Zfm,Zgw (by omega),Zgw (by omega),Zg2 (by omega),Zg2 (by omega)]; rfl
   ·rw [Zm6 (by simpa using q3),Zm6 (by simpa using q3)]
 ·rw [Zm6 (by simpa using q1),Zm6 (by simpa using q1)]
def insAt (p:D.Program) (k:Int):D.Ins:=(p.Code[k.toNat]?).getD ⟨0,0,0,0⟩
theorem Zek {p:D.Program} {k:Int} (h0:0 ≤ k) (h1:k < p.Code.length):get? p.Code k = some (insAt p k) ∧ insAt p k ∈ p.Code:=by
 obtain ⟨j,rfl⟩ : ∃ j:Nat,k = (j:Int):=⟨k.toNat,by omega⟩
 unfold insAt
 rw [get?_nat,Zo0,Zm7 (by omega)]
 exact ⟨rfl,ZnQ _⟩
theorem Zfy {p:D.Program} {s:D.Path} (hs:okP p s) (h:s.Steps < 400):okP p { s with Steps:=s.Steps + 1 }:=⟨hs.pc,hs.rl,hs.rf,hs.ml,hs.mf,hs.sl,hs.sp,hs.inn,hs.ol,hs.of,hs.cd,by have:=hs.st; show 0 ≤ s.Steps + 1 ∧ s.Steps + 1 ≤ 400; omega,hs.cl,hs.cf,hs.tl⟩
noncomputable def stp1 (p:D.Program) (s:D.Path):List D.Path:=
 if s.Code ≠ 0 ∨ s.Steps = 400 then []
 else if s.Pc = len p.Code then [{ s with Code:=2 }]
 else if stk p { s with Steps:=s.Steps + 1 } (insAt p s.Pc) ≠ 0 then [{ s with Steps:=s.Steps + 1,Code:=stk p { s with Steps:=s.Steps + 1 } (insAt p s.Pc) }]
 else dvd p { s with Steps:=s.Steps + 1 } (insAt p s.Pc)
theorem Zju {p:D.Program} {s:D.Path} (hp:progB p = true) (hs:okP p s):Zb1 fuel p s = some (stp1 p s):=by
 have hst:=hs.st
 have hpc:=hs.pc
 rw [Ze] at hpc
 unfold Zb1 stp1
 by_cases c1:s.Code ≠ 0 ∨ s.Steps = 400
 ·rw [Zm6 c1,Zm6 (by simp; rcases c1 with h | h; exact .inl h; right; omega)]
 ·have d1 : s.Code = 0 ∧ s.Steps < 400 := by omega
  rw [Zm5 c1,Zm5 (by simp; omega)]
  by_cases c2:s.Pc = len p.Code
  ·rw [Zm6 c2,Zm6 (by simpa using c2)]
  ·rw [Zm5 c2, Zm5 (by simpa using c2)]
   rw [Ze] at c2
   obtain ⟨g1,g2⟩:=Zek (p:=p) (k:=s.Pc) hpc.1 (by omega)
   have hs1:=Zfy hs d1.2
   rw [g1]
   simp only [Zm1]
   rw [Zm (by omega) (by omega),ZhV hs1]
   simp only [Zm1]
   by_cases c3:stk p { s with Steps:=s.Steps + 1 } (insAt p s.Pc) = 0
   ·rw [Zm5 (by rw [c3]; simp),Zm5 (by rw [c3]; simp),Zho hp hs1 (ZeV hp g2) (by show s.Pc < _; omega) c3]; rfl
   ·rw [Zm6 (by simpa using c3),Zm6 c3]
theorem ZjE {s:D.Path} {i:D.Ins} {c:List D.Term} {t:List Int}:nmd { s with Cond:=c,Turns:=t } i = { nmd s i with Cond:=c,Turns:=t }:=by
 unfold nmd
 by_cases c1:i.Op = 10
 ·simp only [c1,reduceIte]
 by_cases c2:i.Op = 13
 ·simp only [c2,Int.reduceEq,reduceIte]
 by_cases c3:i.Op = 3
 ·simp only [c3,Int.reduceEq,reduceIte]
 simp only [c1,c2,c3,reduceIte]
theorem Zk6 {p:D.Program} {s:D.Path} {i:D.Ins} (h:stk p s i ≠ 0):qst p s.Regs i = (t0,false,true):=by
 have:i.Op = 5 ∨ i.Op = 6 ∨ i.Op = 11 ∨ i.Op = 12:=by
  unfold stk at h
  by_cases a:i.Op = 5 ∧ s.In = p.In
  ·exact .inl a.1
  rw [Zm5 a] at h
  by_cases b:i.Op = 6 ∧ s.Out.length = 6
  ·exact .inr (.inl b.1)
  rw [Zm5 b] at h
  by_cases c:i.Op = 11 ∧ s.Stack.length = 3
  ·exact .inr (.inr (.inl c.1))
  rw [Zm5 c] at h
  by_cases d:i.Op = 12 ∧ s.Stack.length = 0
  ·exact .inr (.inr (.inr d.1))
  rw [Zm5 d] at h
  exact absurd rfl h
 unfold qst
 rw [Zm5 (by omega),Zm5 (by omega),Zm5 (by omega),Zm5 (by omega)]
theorem Zgd {p:D.Program} {s:D.Path} {t:D.Term} {k:Int} (hp:progB p = true) (hs:okP p s):Xu fuel s t k = some { s with Cond:=s.Cond ++ [t],Turns:=s.Turns ++ [k] }:=by
 unfold Xu
 rw [Zbl (hs.fine hp)]
 simp only [Zm1]
 rw [ZaR (by simp; have:=hs.cl; omega)]
 simp only [Zm1]
 rw [ZaR (by simp; have:=hs.tl; omega)]; rfl
theorem Zjl {q:D.Term} (hf:fine q ∧ q.W = 1) (h0:q.Op = 0):q.N = 0 ∨ q.N = 1:=by
 obtain ⟨e,hv⟩:=Xa hf.1.1 (by simp [h0])
 rw [hf.2,ZR (by omega) (by omega)] at hv
 have:q.N < 2:=by simpa using hv.2
 omega
theorem Zkc {p:D.Program} {u:D.Path} {i:D.Ins} (hp:progB p = true) (hs:okP p u) (h0:u.Code = 0) (hi:insF p.W p.Code.length i) (hpc:u.Pc < p.Code.length) :
    ((Yh fuel u).bind fun x2=>
   (Y0 fuel (D.l06Maker.mk false) p u i).bind fun x4=>
   if x4.2.2.bad then
    some ([(D.Path.mk x2.Pc x2.Regs x2.Mem x2.Stack x2.In x2.Out 9 x2.Steps x2.Cond x2.Turns)]:List D.Path)
   else
    (if (!x4.2.1) then some default else (Zq x4.1 0)).bind fun x5=>
    if ((!x4.2.1) || x5) then
     (ZL fuel x4.2.2 p u i).bind fun x6=>
     if x6.2.bad then
      some ([(D.Path.mk x2.Pc x2.Regs x2.Mem x2.Stack x2.In x2.Out 9 x2.Steps x2.Cond x2.Turns)]:List D.Path)
     else
      (Yh fuel x6.1).bind fun x7=>
      some ([x7]:List D.Path)
    else
     (Zq x4.1 1).bind fun x8=>
     if x8 then
      (XB u i).bind fun x9=>
      some ([x9]:List D.Path)
     else
      (Zg fuel x4.2.2 1 1 ([x4.1]:List D.Term)).bind fun x10=>
      if ((x10.2.bad || ((len u.Cond) == 60)) || ((len u.Turns) == 60)) then
       some ([(D.Path.mk x2.Pc x2.Regs x2.Mem x2.Stack x2.In x2.Out 9 x2.Steps x2.Cond x2.Turns)]:List D.Path)
      else
       (Xu fuel u x10.1 0).bind fun x11=>
       (ZL fuel x10.2 p x11 i).bind fun x12=>
       if x12.2.bad then
        some ([(D.Path.mk x2.Pc x2.Regs x2.Mem x2.Stack x2.In x2.Out 9 x2.Steps x2.Cond x2.Turns)]:List D.Path)
       else
        (Xu fuel u x4.1 1).bind fun x13=>
        (XB x13 i).bind fun x14=>
        (Yh fuel x12.1).bind fun x15=>
        some ([x14,x15]:List D.Path)) = some (if stk p u i ≠ 0 then [{ u with Code:=stk p u i }] else dvd p u i):=by
  rw [Zbl (hs.fine hp)]
  obtain ⟨t',h1,h2⟩:=ZfE hp hs hi
  rw [h1]
  simp only [Zm1]
  by_cases hk:stk p u i = 0
  · rw [Zm5 (show ¬(stk p u i ≠ 0) from fun h => h hk)]
    unfold dvd
    by_cases q1:(qst p u.Regs i).2.2 = true
    · have ht := h2 q1
      subst ht
      rw [Zm5 (show ¬(!(qst p u.Regs i).2.2) = true by rw [q1]; simp),Zm5 (show ¬(qst p u.Regs i).2.2 = false by rw [q1]; simp),q1]
      have hfc:¬((qst p u.Regs i).2.1 = true ∧ (qst p u.Regs i).1.Op = 0 ∧ (qst p u.Regs i).1.N = 1) → _:=fun hn=>Zc4 hp hs hi q1 (fun e=>by
        cases ha:(qst p u.Regs i).2.1
        · rw [ZhB ha] at e; exact absurd e.2 (by decide)
        · exact hn ⟨ha,e⟩)
      have hno:¬((qst p u.Regs i).2.1 = true ∧ (qst p u.Regs i).1.Op = 0 ∧ (qst p u.Regs i).1.N = 1) → ((ZL fuel ⟨!true⟩ p u i).bind fun x6=>
          if x6.2.bad then some ([(D.Path.mk u.Pc u.Regs u.Mem u.Stack u.In u.Out 9 u.Steps u.Cond u.Turns)]:List D.Path) else (Yh fuel x6.1).bind fun x7=>some ([x7]:List D.Path)) = some (if (flw p u i).2 = false then [{ u with Code:=9 }] else [(flw p u i).1]):=fun hn=>by
        obtain ⟨f7,f8⟩:=hfc hn
        obtain ⟨s',e1,e2⟩:=Zii hp hs h0 hi hpc hk f7 f8
        rw [show (!true) = false from rfl,e1]
        simp only [Zm1]
        cases hb:(flw p u i).2
        · simp
        · have := e2 hb
          subst this
          simp only [ZmF,Zm2,ZmA]
          rw [Zbl ((Zg8 hp hs hi hpc hk f7 hb).fine hp)]; simp
      cases ha:(qst p u.Regs i).2.1
      · rw [ha] at hno
        simp only [Znv,ZmO,Zm1,ZoB]
        rw [hno (by simp)]
        cases (flw p u i).2 <;> simp
      · have hf := Zfe ha q1
        rw [ha] at hno hfc
        simp only [ZmF,Zm2,ZmA,ZmZ,Zq,Zm1]
        by_cases z:(qst p u.Regs i).1.Op = 0
        · rcases Zjl hf z with n0 | n1
          · have r1 : ¬(true = true ∧ (qst p u.Regs i).1.Op = 0 ∧ (qst p u.Regs i).1.N = 1) := by rw [n0]; simp
            rw [Zm6 (show ((qst p u.Regs i).1.Op == 0 && (qst p u.Regs i).1.N == 0) = true by simp [z,n0]),Zm5 (fun h=>r1 ⟨rfl,h.2⟩ : ¬(True ∧ (qst p u.Regs i).1.Op = 0 ∧ (qst p u.Regs i).1.N = 1))]
            have:=hno r1
            simp only [ZmF] at this
            rw [this]
            cases (flw p u i).2 <;> simp [z]
          · rw [Zm5 (show ¬((qst p u.Regs i).1.Op == 0 && (qst p u.Regs i).1.N == 0) = true by simp [z,n1]),Zm6 (show ((qst p u.Regs i).1.Op == 0 && (qst p u.Regs i).1.N == 1) = true by simp [z,n1]),Zm6 (⟨trivial,z,n1⟩ : True ∧ (qst p u.Regs i).1.Op = 0 ∧ (qst p u.Regs i).1.N = 1),Zhd]; rfl
        · have r1 : ¬(true = true ∧ (qst p u.Regs i).1.Op = 0 ∧ (qst p u.Regs i).1.N = 1) := fun h => z h.2.1
          rw [Zm5 (show ¬((qst p u.Regs i).1.Op == 0 && (qst p u.Regs i).1.N == 0) = true by simp [z]),Zm5 (show ¬((qst p u.Regs i).1.Op == 0 && (qst p u.Regs i).1.N == 1) = true by simp [z]),Zm5 (fun h=>r1 ⟨rfl,h.2⟩ : ¬(True ∧ (qst p u.Regs i).1.Op = 0 ∧ (qst p u.Regs i).1.N = 1)),X5 (sml1f hf.1)]
          simp only [Zm1,ZmZ]
          have hcl:=hs.cl
          have htl:=hs.tl
          by_cases q5:(mkT 1 1 0 [(qst p u.Regs i).1]).2 = false ∨ u.Cond.length = 60 ∨ u.Turns.length = 60
          · rw [Zm6 (show (!(mkT 1 1 0 [(qst p u.Regs i).1]).2 || len u.Cond == 60 || len u.Turns == 60) = true by rw [Ze, Ze]; simp; rcases q5 with h | h | h <;> simp [h])]
            cases (flw p u i).2
            · simp
            · simp [z,q5]
          · have q6 : (mkT 1 1 0 [(qst p u.Regs i).1]).2 = true ∧ u.Cond.length ≠ 60 ∧ u.Turns.length ≠ 60 := by simpa using q5
            rw [Zm5 (show ¬(!(mkT 1 1 0 [(qst p u.Regs i).1]).2 || len u.Cond == 60 || len u.Turns == 60) = true by rw [Ze,Ze,q6.1]; simp; omega),Zgd hp hs]
            simp only [Zm1]
            obtain ⟨f7,f8⟩:=hfc r1
            have hs':okP p { u with Cond:=u.Cond ++ [(mkT 1 1 0 [(qst p u.Regs i).1]).1],Turns:=u.Turns ++ [0] }:=Zgx hs (YZ q6.1) hs.cf (by omega) (by omega)
            obtain ⟨s',e1,e2⟩:=Zii (s:={ u with Cond:=u.Cond ++ [(mkT 1 1 0 [(qst p u.Regs i).1]).1],Turns:=u.Turns ++ [0] }) hp hs' h0 hi hpc hk f7 f8
            rw [q6.1,show (!true) = false from rfl,e1]
            simp only [Zm1]
            rw [Zfz] at e2 ⊢
            cases hb:(flw p u i).2
            · simp
            · have hfo := Zg8 (s := { u with Cond := u.Cond ++ [(mkT 1 1 0 [(qst p u.Regs i).1]).1], Turns := u.Turns ++ [0] }) hp hs' hi hpc hk f7 (by rw [Zfz]; exact hb)
              rw [Zfz] at hfo
              have:=e2 hb
              subst this
              simp only [ZmF,Zm2,ZmA]
              rw [Zgd hp hs]
              simp only [Zm1]
              rw [Zhd,ZjE]
              simp only [Zm1]
              rw [Zbl (hfo.fine hp)]
              simp [z,q6]
    · rw [Zm6 (show (!(qst p u.Regs i).2.2) = true by simpa using q1),Zm6 (show (qst p u.Regs i).2.2 = false by simpa using q1)]
  · have hq := Zk6 hk
    have h9:0 ≤ stk p u i ∧ stk p u i ≤ 9:=by
      unfold stk
      repeat' split
      all_goals omega
    rw [hq,Zm6 hk]
    simp only [ZmF,Zm2,ZmA,Znv,ZmO,Zm1,ZoB]
    rw [Zkm hp hs hk]
    simp only [Zm1,Zm2,ZmA]
    rw [Zbl ((ZbF hs h9).fine hp)]; rfl
theorem Zj7 {p:D.Program} {s:D.Path} (hp:progB p = true) (hs:okP p s):ZaZ fuel p s = some (stp1 p s):=by
 have hst:=hs.st
 have hpc:=hs.pc
 rw [Ze] at hpc
 unfold ZaZ stp1
 by_cases c1:s.Code ≠ 0 ∨ s.Steps = 400
 ·rw [Zm6 c1,Zm6 (by simpa using c1)]
 have d1:s.Code = 0 ∧ s.Steps < 400:=by omega
 rw [Zm5 c1,Zm5 (by simp; omega),Zbl (hs.fine hp)]
 simp only [Zm1]
 by_cases c2:s.Pc = len p.Code
 ·rw [Zm6 c2,Zm6 (by simpa using c2)]
 rw [Zm5 c2,Zm5 (by simpa using c2)]
 rw [Ze] at c2
 obtain ⟨g1,g2⟩:=Zek (p:=p) (k:=s.Pc) hpc.1 (by omega)
 have hi:=ZeV hp g2
 have hs1:=Zfy hs d1.2
 rw [g1,Zm (by omega) (by omega)]
 have hz:({ s with Steps:=s.Steps + 1 }:D.Path).Code = 0:=d1.1
 have:=Zkc (u:={ s with Steps:=s.Steps + 1 }) hp hs1 hz hi (by show s.Pc < _; omega)
 simp only [Zm1]
 refine Eq.trans ?_ (this.trans ?_)
 ·rfl
 ·split <;> rfl
theorem Zmd {p:D.Program} {s:D.Path} {i:D.Ins} (hp:progB p = true) (hs:okP p s) (hi:insF p.W p.Code.length i) (hpc:s.Pc < p.Code.length) (hk:stk p s i = 0):∀ x ∈ dvd p s i,okP p x:=by
 intro x hx
 unfold dvd at hx
 by_cases q1:(qst p s.Regs i).2.2 = false
 ·rw [Zm6 q1, ZmX] at hx
  subst hx; exact ZbF hs (by omega)
 rw [Zm5 q1] at hx
 have q1':(qst p s.Regs i).2.2 = true:=by simpa using q1
 by_cases q2:(qst p s.Regs i).2.1 = true ∧ (qst p s.Regs i).1.Op = 0 ∧ (qst p s.Regs i).1.N = 1
 ·rw [Zm6 q2, ZmX] at hx
  subst hx; exact ZkX hs hi
 rw [Zm5 q2] at hx
 have hfc:=Zc4 hp hs hi q1' (fun e=>by
  cases ha:(qst p s.Regs i).2.1
  ·rw [ZhB ha] at e; exact absurd e.2 (by decide)
  ·exact q2 ⟨ha,e⟩)
 by_cases q3:(flw p s i).2 = false
 ·rw [Zm6 q3, ZmX] at hx
  subst hx; exact ZbF hs (by omega)
 rw [Zm5 q3] at hx
 have q3':(flw p s i).2 = true:=by simpa using q3
 by_cases q4:(qst p s.Regs i).2.1 = false ∨ (qst p s.Regs i).1.Op = 0
 ·rw [Zm6 q4, ZmX] at hx
  subst hx; exact Zg8 hp hs hi hpc hk hfc.1 q3'
 rw [Zm5 q4] at hx
 by_cases q5:(mkT 1 1 0 [(qst p s.Regs i).1]).2 = false ∨ s.Cond.length = 60 ∨ s.Turns.length = 60
 ·rw [Zm6 q5, ZmX] at hx
  subst hx; exact ZbF hs (by omega)
 rw [Zm5 q5] at hx
 have q6:(mkT 1 1 0 [(qst p s.Regs i).1]).2 = true ∧ s.Cond.length ≠ 60 ∧ s.Turns.length ≠ 60:=by simpa using q5
 have hcl:=hs.cl
 have htl:=hs.tl
 have ha:(qst p s.Regs i).2.1 = true:=by
  cases h:(qst p s.Regs i).2.1
  ·exact absurd (.inl h) q4
  ·rfl
 rcases Zn0.1 hx with rfl | hx
 ·exact Zgx (ZkX hs hi) (Zfe ha q1') hs.cf (by omega) (by omega)
 ·rw [ZmX] at hx
  subst hx
  exact Zgx (Zg8 hp hs hi hpc hk hfc.1 q3') (YZ q6.1) hs.cf (by omega) (by omega)
theorem Zlw (p:D.Program) (s:D.Path) (i:D.Ins):(dvd p s i).length = 1 ∨ (dvd p s i).length = 2:=by
 unfold dvd
 repeat' split
 all_goals first | exact .inl rfl | exact .inr rfl
theorem Zle (p:D.Program) (s:D.Path):(stp1 p s).length ≤ 2:=by
 unfold stp1
 split
 ·simp
 ·split
  ·simp
  ·split
   ·simp
   ·rcases Zlw p { s with Steps:=s.Steps + 1 } (insAt p s.Pc) with h | h <;> omega
theorem ZlS {p:D.Program} {s:D.Path} (hp:progB p = true) (hs:okP p s):∀ x ∈ stp1 p s,okP p x:=by
 have hst:=hs.st
 have hpc:=hs.pc
 rw [Ze] at hpc
 intro x hx
 unfold stp1 at hx
 by_cases c1:s.Code ≠ 0 ∨ s.Steps = 400
 ·rw [Zm6 c1] at hx; cases hx
 rw [Zm5 c1] at hx
 by_cases c2:s.Pc = len p.Code
 ·rw [Zm6 c2, ZmX] at hx
  subst hx; exact ZbF hs (by omega)
 rw [Zm5 c2] at hx
 rw [Ze] at c2
 have hs1:=Zfy hs (by omega)
 obtain ⟨g1,g2⟩:=Zek (p:=p) (k:=s.Pc) hpc.1 (by omega)
 by_cases c3:stk p { s with Steps:=s.Steps + 1 } (insAt p s.Pc) = 0
 ·rw [Zm5 (fun h => h c3)] at hx
  exact Zmd hp hs1 (ZeV hp g2) (by show s.Pc < _; omega) c3 x hx
 ·rw [Zm6 c3, ZmX] at hx
  subst hx
  refine ZbF hs1 ?_
  unfold stk
  repeat' split
  all_goals omega
theorem ZdA {l:List D.Term} {k:Int} (h:sml l) (h0:0 ≤ k) (h1:k ≤ 10000000000000000):∃ k' r,Z4 fuel l k = some (k',r) ∧ k ≤ k' ∧ k' ≤ k + 4194304 ∧ Zy fuel r k = some k':=by
 unfold sml at h
 obtain ⟨⟨k',r⟩,e,a,b,c⟩:=ZiX fuel l k h (by unfold fuel; omega) h0 (by omega)
 exact ⟨k',r,e,a,by simp only at b; omega,c fuel (by unfold fuel; omega)⟩
def smallPS (l:List D.Path):Prop:=l.length ≤ 1048576 ∧ ∀ x ∈ l,smallP x
theorem Zgr {l:List D.Path} (h:smallPS l):XL fuel l l = some true:=by
 obtain ⟨hl,hk⟩:=h
 unfold XL
 rw [Zm5 (by simp)]
 obtain ⟨r,g1,g2⟩:=ZZ (l:=l) (n:=fuel) (σ:=Unit) (ρ:=Unit ⊕ Bool) (B:=fun (s1:Int)=>
   if (decide (s1 < (len l))) then
    (get? l s1).bind fun x1=>
    (get? l s1).bind fun x2=>
    (Zak fuel x1 x2).bind fun x3=>
    if (!x3) then
     some (.inr (.inr false))
    else
     some (.inl ((w64 (s1 + 1))))
   else
    some (.inr (.inl ()))) (fun k _=>(k:Int)) (fun _ _=>True) (fun r=>r = .inl ())
  (fun k x xs a hk' hx hlen _ => by
   have hd:decide ((k:Int) < len l) = true:=by rw [Ze]; simp; omega
   simp only [hd,ZmO,get?_nat,hx,Zm1,Zet (hk x (Zns hx)),ZmF,Zm2,ZmA]
   exact .inl ⟨(),by rw [Zm (by omega) (by omega)]; rfl,trivial⟩)
  (fun a _ => by
   have hd:decide ((l.length:Int) < len l) = false:=by rw [Ze]; simp
   simp only [hd,Zm2,ZmA]
   exact ⟨_,rfl,rfl⟩) (a:=()) trivial (Xc hl)
 rw [show ((0:Nat):Int) = 0 from rfl] at g1
 rw [g1,g2]; rfl
set_option maxHeartbeats 2000000
def ElP (q:Int) (x:D.Path) (q':Int):Prop:=0 ≤ q ∧ q ≤ 10000000000000000 ∧ x.Pc = q ∧ ∃ k1 k2 k4 k5,Zy fuel x.Regs (q + 1) = some k1 ∧ 0 ≤ k1 ∧ Zy fuel x.Mem k1 = some k2 ∧ 0 ≤ k2 ∧ Yn fuel x.Stack k2 = some x.In ∧ 0 ≤ x.In ∧ x.In ≤ 10000000000000000 ∧
 Zy fuel x.Out (x.In + 1) = some k4 ∧ 0 ≤ k4 ∧ k4 ≤ 10000000000000000 ∧ x.Code = k4 ∧ x.Steps = k4 + 1 ∧ Zy fuel x.Cond (k4 + 1 + 1) = some k5 ∧ 0 ≤ k5 ∧ Yn fuel x.Turns k5 = some q' ∧ 0 ≤ q'
theorem Zmj {q k1 k2 k3 k4 k5 q':Int} {r1 r2 r4 r5:List D.Term} {st tn:List Int} (h0:0 ≤ q) (h1:q ≤ 10000000000000000) (e1:Zy fuel r1 (q + 1) = some k1) (c1:0 ≤ k1) (e2:Zy fuel r2 k1 = some k2) (c2:0 ≤ k2) (e3:Yn fuel st k2 = some k3) (c3:0 ≤ k3 ∧ k3 ≤ 10000000000000000)
  (e4:Zy fuel r4 (k3 + 1) = some k4) (c4:0 ≤ k4 ∧ k4 ≤ 10000000000000000) (e5:Zy fuel r5 (k4 + 1 + 1) = some k5) (c5:0 ≤ k5) (e6:Yn fuel tn k5 = some q') (c6:0 ≤ q'):ElP q (D.Path.mk q r1 r2 st k3 r4 k4 (k4 + 1) r5 tn) q':=
 ⟨h0,h1,rfl,k1,k2,k4,k5,e1,c1,e2,c2,e3,c3.1,c3.2,e4,c4.1,c4.2,rfl,rfl,e5,c5,e6,c6⟩
def ChP:Int → List D.Path → Int → Prop
 | q,[],e=>q = e
 | q,x :: l,e=>∃ q',ElP q x q' ∧ ChP q' l e
theorem ChP.snoc {x:D.Path} {e e':Int} (h':ElP e x e'):∀ {l:List D.Path} {q:Int},ChP q l e → ChP q (l ++ [x]) e'
 | [],q,h=>by cases h; exact ⟨e',h',rfl⟩
 | y :: l,q,⟨q',h1,h2⟩=>⟨q',h1,h2.snoc h'⟩
theorem ZkA {l:List D.Path} {k e:Int} (h:ChP k l e) (hl:l.length ≤ 1048576):Xp fuel l k = some e:=by
  unfold Xp
  obtain ⟨r,g1,g2⟩:=ZZ (l:=l) (n:=fuel) (σ:=Int) (ρ:=Int ⊕ Int) (B:=fun (s1:Int × Int)=>
  if (decide (s1.2 < (len l))) then
   (get? l s1.2).bind fun x1=>
   if (x1.Pc != s1.1) then
    some (.inr (.inr (-1)))
   else
    (get? l s1.2).bind fun x2=>
    (Zy fuel x2.Regs (w64 (s1.1 + 1))).bind fun x3=>
    if (decide (x3 < 0)) then
     some (.inr (.inr (-1)))
    else
     (get? l s1.2).bind fun x4=>
     (Zy fuel x4.Mem x3).bind fun x5=>
     if (decide (x5 < 0)) then
      some (.inr (.inr (-1)))
     else
      (get? l s1.2).bind fun x6=>
      (Yn fuel x6.Stack x5).bind fun x7=>
      if (decide (x7 < 0)) then
       some (.inr (.inr (-1)))
      else
       (get? l s1.2).bind fun x8=>
       if (x8.In != x7) then
        some (.inr (.inr (-1)))
       else
        (get? l s1.2).bind fun x9=>
        (Zy fuel x9.Out (w64 (x7 + 1))).bind fun x10=>
        if (decide (x10 < 0)) then
         some (.inr (.inr (-1)))
        else
         (get? l s1.2).bind fun x11=>
         if (x11.Code != x10) then
          some (.inr (.inr (-1)))
         else
          (get? l s1.2).bind fun x12=>
          if (x12.Steps != (w64 (x10 + 1))) then
           some (.inr (.inr (-1)))
          else
           (get? l s1.2).bind fun x13=>
           (Zy fuel x13.Cond (w64 ((w64 (x10 + 1)) + 1))).bind fun x14=>
           if (decide (x14 < 0)) then
            some (.inr (.inr (-1)))
           else
            (get? l s1.2).bind fun x15=>
            (Yn fuel x15.Turns x14).bind fun x16=>
            if (decide (x16 < 0)) then
             some (.inr (.inr (-1)))
            else
             some (.inl (x16,(w64 (s1.2 + 1))))
  else
   some (.inr (.inl (s1.1)))) (fun j a=>(a,(j:Int))) (fun ys a=>ChP a ys e) (fun r=>r = .inl e)
    (fun j x xs a hj hx hlen hch=>by
      obtain ⟨q',⟨q0,q1,h1,k1,k2,k4,k5,e1,c1,e2,c2,e3,c3,c3',e4,c4,c4',h5,h6,e5,c5,e6,c6⟩,hc⟩:=hch
      have hd:decide ((j:Int) < len l) = true:=by rw [Ze]; simp; omega
      have n1:¬ k1 < 0:=by omega
      have n2:¬ k2 < 0:=by omega
      have n3:¬ x.In < 0:=by omega
      have n4:¬ k4 < 0:=by omega
      have n5:¬ k5 < 0:=by omega
      have n6:¬ q' < 0:=by omega
      simp only [hd,ZmO,get?_nat,hx,Zm1]
      rw [Zm (x:=a + 1) (by omega) (by omega)]
      simp only [h1,e1,e2,e3,Zm1,bne_self_eq_false,Zm2,ZmA,n1,n2,n3,decide_false]
      rw [Zm (x:=x.In + 1) (by omega) (by omega)]
      simp only [e4,Zm1]
      rw [Zm (x:=k4 + 1) (by omega) (by omega),Zm (x:=k4 + 1 + 1) (by omega) (by omega)]
      simp only [h5,h6,e5,e6,Zm1,bne_self_eq_false,Zm2,ZmA,n4,n5,n6,decide_false]
      exact .inl ⟨q',by rw [Zm (by omega) (by omega)]; rfl,hc⟩)
    (fun a hch=>by
      have hd:decide ((l.length:Int) < len l) = false:=by rw [Ze]; simp
      simp only [hd,Zm2,ZmA]
      exact ⟨_,rfl,by rw [show a = e from hch]⟩) (a:=k) h (Xc hl)
  rw [show ((0:Nat):Int) = 0 from rfl] at g1
  rw [g1,g2]
  rfl
theorem ZgV {l:List D.Path} {k:Int} (hl:l.length ≤ 1000000) (hk:∀ x ∈ l,smallP x) (h0:0 ≤ k) (h1:k ≤ 10000000000):∃ k' r,Zae fuel l k = some (k',r) ∧ 0 ≤ k' ∧ Xp fuel r k = some k':=by
 unfold Zae
 obtain ⟨r,g1,g2,g3,g4⟩:=ZZ (l:=l) (n:=fuel) (σ:=Int × List D.Path) (ρ:=Int × List D.Path) (B:=fun (s1:Int × Int × (List D.Path))=>
  if (decide (s1.2.1 < (len l))) then
   (get? s1.2.2 s1.2.1).bind fun x1=>
   (Z4 fuel x1.Regs (w64 (s1.1 + 1))).bind fun x2=>
   (Z4 fuel x1.Mem x2.1).bind fun x3=>
   (Y7 fuel x1.Stack x3.1).bind fun x4=>
   (Z4 fuel x1.Out (w64 (x4.1 + 1))).bind fun x5=>
   (Z4 fuel x1.Cond (w64 ((w64 (x5.1 + 1)) + 1))).bind fun x6=>
   (Y7 fuel x1.Turns x6.1).bind fun x7=>
   (set? s1.2.2 s1.2.1 (D.Path.mk s1.1 x2.2 x3.2 x4.2 x4.1 x5.2 x5.1 (w64 (x5.1 + 1)) x6.2 x7.2)).bind fun x8=>
   some (.inl (x7.1,(w64 (s1.2.1 + 1)),x8))
  else
   some (.inr (s1.1,s1.2.2))) (fun j a=>(a.1,(j:Int),a.2)) (fun ys a=>(∃ pre,a.2 = pre ++ ys ∧ pre.length + ys.length = l.length ∧ ChP k pre a.1) ∧ (∀ x ∈ ys,smallP x) ∧ k ≤ a.1 ∧ a.1 + 40000000 * (ys.length:Int) ≤ k + 40000000 * (l.length:Int))
   (fun r=>0 ≤ r.1 ∧ ChP k r.2 r.1 ∧ r.2.length = l.length)
   (fun j x xs a hj hx hlen ⟨⟨pre, i1, i2, i6⟩, i3, i4, i5⟩ => by
    obtain ⟨q,z⟩:=a
    simp only at i1 i4 i5 i6 ⊢
    simp only [ZmS] at i2 i5 hlen
    have hp:pre.length = j:=by omega
    have hd:decide ((j:Int) < len l) = true:=by rw [Ze]; simp; omega
    have hg:z[j]? = some x:=by rw [i1,ZmB (by omega),hp,Zn7]; rfl
    obtain ⟨s1,s2,s3,s4,s5,s6⟩:=i3 x (by simp)
    have hb:q ≤ 50000000000000:=by omega
    obtain ⟨k1,r1,e1,a1,b1,d1⟩:=ZdA (k:=q + 1) s1 (by omega) (by omega)
    obtain ⟨k2,r2,e2,a2,b2,d2⟩:=ZdA (k:=k1) s2 (by omega) (by omega)
    have e3:=Zce (p:=x.Stack) (k:=k2) (by omega) (by omega) s3
    have d3:=Zew (L:=x.Stack.length) (k:=k2) (by omega) (by omega) s3
    obtain ⟨k4,r4,e4,a4,b4,d4⟩:=ZdA (k:=k2 + x.Stack.length + 1) s4 (by omega) (by omega)
    obtain ⟨k5,r5,e5,a5,b5,d5⟩:=ZdA (k:=k4 + 1 + 1) s5 (by omega) (by omega)
    have e6:=Zce (p:=x.Turns) (k:=k5) (by omega) (by omega) s6
    have d6:=Zew (L:=x.Turns.length) (k:=k5) (by omega) (by omega) s6
    simp only [hd,ZmO,get?_nat,hg,Zm1]
    rw [Zm (x:=q + 1) (by omega) (by omega),e1]
    simp only [Zm1,e2,e3]
    rw [Zm (x:=k2 + (x.Stack.length:Int) + 1) (by omega) (by omega),e4]
    simp only [Zm1]
    rw [Zm (x:=k4 + 1) (by omega) (by omega),Zm (x:=k4 + 1 + 1) (by omega) (by omega),e5]
    simp only [Zm1,e6]
    rw [set?_nat (by rw [i1]; simp; omega)]
    refine .inl ⟨(k5 + x.Turns.length,z.set j _),by simp only [Zm1]; rw [Zm (by omega) (by omega)]; rfl,⟨pre ++ [D.Path.mk q r1 r2 (upI k2 x.Stack.length) (k2 + x.Stack.length) r4 k4 (k4 + 1) r5 (upI k5 x.Turns.length)],?_,by simp; omega,?_⟩,fun y hy=>i3 y (by simp [hy]),by show k ≤ k5 + _; omega,by show k5 + _ + _ ≤ _; omega⟩
    ·show z.set j _ = _
     rw [i1,ZnE _ _ (by omega),hp,Zn7]; simp
    ·exact ChP.snoc (Zmj (by omega) (by omega) d1 (by omega) d2 (by omega) d3 (by omega) d4 (by omega) d5 (by omega) d6 (by omega)) i6)
   (fun a ⟨⟨pre, j1, j2, j3⟩, _, i4, i5⟩ => by
    have hd:decide ((l.length:Int) < len l) = false:=by rw [Ze]; simp
    simp only [hd,Zm2,ZmA]
    rw [ZnW] at j1
    exact ⟨_,rfl,by show 0 ≤ a.1; omega,by show ChP k a.2 a.1; rw [j1]; exact j3,by show a.2.length = _; rw [j1]; simpa using j2⟩) (a:=(k,l)) ⟨⟨[],rfl,by simp,rfl⟩,hk,by show k ≤ k; omega,by show k + _ ≤ _; omega⟩ (Xc (by omega))
 rw [show ((0:Nat):Int) = 0 from rfl] at g1
 rw [g1]
 exact ⟨_,_,rfl,g2,ZkA g3 (by omega)⟩
theorem Zjk {l:List D.Path} (hl:l.length ≤ 1048576) (hk:∀ x ∈ l,fineP x):Zap fuel l = some l:=by
 unfold Zap
 rw [Ze,show (l.length:Int) = len l from (Ze l).symm,mk?_len (by unfold room; omega)]
 simp only [Zm1]
 obtain ⟨r,g1,g2⟩:=ZZ (l:=l) (n:=fuel) (σ:=List D.Path) (ρ:=List D.Path) (B:=fun (s1:Int × (List D.Path))=>
  if (decide (s1.1 < (len l))) then
   (get? l s1.1).bind fun x2=>
   (XU fuel x2).bind fun x3=>
   (set? s1.2 s1.1 x3).bind fun x4=>
   some (.inl ((w64 (s1.1 + 1)),x4))
  else
   some (.inr (s1.2))) (fun k (a:List D.Path)=>((k:Int),a)) (fun ys a=>∃ pre zs,pre ++ ys = l ∧ a = pre ++ zs ∧ zs.length = ys.length) (fun r=>r = l)
  (fun k x xs a hk' hx hlen ⟨pre, zs, i1, i2, i3⟩ => by
   have hd:decide ((k:Int) < len l) = true:=by rw [Ze]; simp; omega
   have hp:pre.length = k:=by
    have:=congrArg List.length i1
    simp at this hlen; omega
   simp only [hd,ZmO,get?_nat,hx,Zm1,Zka (hk x (Zns hx))]
   obtain ⟨z,zs,rfl⟩ : ∃ z zs',zs = z :: zs':=by cases zs with | nil=>simp at i3 | cons z zs=>exact ⟨_,_,rfl⟩
   rw [set?_nat (by rw [i2]; simp; omega)]
   refine .inl ⟨a.set k x,by simp only [Zm1]; rw [Zm (by omega) (by omega)]; rfl,pre ++ [x],zs,by rw [Zn3]; exact i1,?_,by simpa using i3⟩
   rw [i2,ZnE _ _ (by omega),hp,Zn7]; simp)
  (fun a ⟨pre, zs, i1, i2, i3⟩ => by
   have hd:decide ((l.length:Int) < len l) = false:=by rw [Ze]; simp
   simp only [hd,Zm2,ZmA]
   simp at i3
   subst i3
   rw [ZnW] at i1 i2
   exact ⟨_,rfl,by rw [i2,i1]⟩) (a:=List.replicate l.length _) ⟨[],_,rfl,by simp; rfl,by simp⟩ (Xc hl)
 rw [show ((0:Nat):Int) = 0 from rfl] at g1
 rw [g1,g2]; rfl
end Go.Proofs.YtginipeibmnikaaGreatDoor
end
