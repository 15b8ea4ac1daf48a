/- Texts of this claim put into one: library or plain laws, without the program under test. -/
import Derived.Test.YthilnjkcemdfeaaGreatPLib1
import Derived.Test.YthilnjkcemdfeaaGreatLib4
section
namespace Go.Proofs.YthilnjkcemdfeaaGreat
open Go.GL
set_option linter.unusedSimpArgs false
set_option maxRecDepth 100000
theorem Y8 {op w m:Int} {nm:Str} {ks:List D.Term} (h:nodeB ⟨op,w,m,nm,ks⟩ = true):(1 ≤ w ∧ w ≤ 16) ∧ (
  (op = 0 ∧ ks = [] ∧ nm = ⟨[]⟩ ∧ wordB w m = true) ∨
  (op = 22 ∧ ks = [] ∧ m = 0) ∨
  ((op = 1 ∨ op = 2) ∧ m = 0 ∧ nm = ⟨[]⟩ ∧ ∃ a,ks = [a] ∧ nodeB a = true ∧ a.W = w) ∨
  (3 ≤ op ∧ op ≤ 16 ∧ m = 0 ∧ nm = ⟨[]⟩ ∧ ∃ a b,ks = [a,b] ∧ nodeB a = true ∧ nodeB b = true ∧ a.W = b.W ∧ (op ≤ 13 → a.W = w) ∧ (14 ≤ op → w = 1)) ∨
  (op = 17 ∧ m = 0 ∧ nm = ⟨[]⟩ ∧ ∃ a b c,ks = [a,b,c] ∧ nodeB a = true ∧ nodeB b = true ∧ nodeB c = true ∧ a.W = 1 ∧ b.W = w ∧ c.W = w) ∨
  (op = 18 ∧ m = 0 ∧ nm = ⟨[]⟩ ∧ ∃ a b,ks = [a,b] ∧ nodeB a = true ∧ nodeB b = true ∧ a.W + b.W = w) ∨
  (op = 19 ∧ nm = ⟨[]⟩ ∧ 0 ≤ m ∧ m ≤ 16 ∧ ∃ a,ks = [a] ∧ nodeB a = true ∧ m + w ≤ a.W) ∨
  ((op = 20 ∨ op = 21) ∧ m = 0 ∧ nm = ⟨[]⟩ ∧ ∃ a,ks = [a] ∧ nodeB a = true ∧ a.W ≤ w)):=by
 rw [XV,Zj0] at h
 obtain ⟨h,hk⟩:=h
 unfold locB at h
 simp only [Zj0,Zj5,Zkb,Zkr,ZbG] at h
 obtain ⟨⟨⟨hw,hn⟩,hm⟩,h⟩:=h
 refine ⟨hw,?_⟩
 simp only at hk
 unfold shB at h
 by_cases o0:op = 0
 ·rw [Zj2 o0] at h
  simp only [Zj0,List.isEmpty_iff,List.map_eq_nil_iff] at h
  exact .inl ⟨o0,h.1,by rcases hn with hn | hn; exact hn; omega,h.2⟩
 rw [Zjz o0] at h
 by_cases o1:op = 22
 ·rw [Zj2 o1] at h
  simp only [Zj0,List.isEmpty_iff,List.map_eq_nil_iff] at h
  exact .inr (.inl ⟨o1,h.1,by omega⟩)
 rw [Zjz o1] at h
 have hn:nm = ⟨[]⟩:=by rcases hn with hn | hn; exact hn; exact absurd hn o1
 have hm:op ≠ 19 → m = 0:=fun o=>by omega
 clear o0 o1
 have k1:∀ f:Int → Bool,(match ks.map (·.W) with | [a]=>f a | _=>false) = true → ∃ a,ks = [a] ∧ nodeB a = true ∧ f a.W = true:=fun f h=>by
  rcases ks with _ | ⟨a,_ | ⟨b,l⟩⟩ <;> simp at h
  rw [Yh] at hk; simp at hk
  exact ⟨a,rfl,hk,h⟩
 have k2:∀ f:Int → Int → Bool,(match ks.map (·.W) with | [a,b]=>f a b | _=>false) = true → ∃ a b,ks = [a,b] ∧ nodeB a = true ∧ nodeB b = true ∧ f a.W b.W = true:=fun f h=>by
  rcases ks with _ | ⟨a,_ | ⟨b,_ | ⟨c,l⟩⟩⟩ <;> simp at h
  rw [Yh] at hk; simp at hk
  exact ⟨a,b,rfl,hk.1,hk.2,h⟩
 have k3:∀ f:Int → Int → Int → Bool,(match ks.map (·.W) with | [a,b,c]=>f a b c | _=>false) = true → ∃ a b c,ks = [a,b,c] ∧ nodeB a = true ∧ nodeB b = true ∧ nodeB c = true ∧ f a.W b.W c.W = true:=fun f h=>by
  rcases ks with _ | ⟨a,_ | ⟨b,_ | ⟨c,_ | ⟨d,l⟩⟩⟩⟩ <;> simp at h
  rw [Yh] at hk; simp at hk
  exact ⟨a,b,c,rfl,hk.1,hk.2.1,hk.2.2,h⟩
 by_cases o2:1 ≤ op ∧ op ≤ 2
 ·rw [Zj2 o2] at h
  obtain ⟨a,ha,hb,hf⟩:=k1 (fun a=>a == w) h
  exact .inr (.inr (.inl ⟨by omega,hm (by omega),hn,a,ha,hb,by simpa using hf⟩))
 rw [Zjz o2] at h
 by_cases o3:3 ≤ op ∧ op ≤ 13
 ·rw [Zj2 o3] at h
  obtain ⟨a,b,ha,hb,hc,hf⟩:=k2 (fun a b=>a == w && b == w) h
  simp only [Zj0,Zkr] at hf
  exact .inr (.inr (.inr (.inl ⟨by omega,by omega,hm (by omega),hn,a,b,ha,hb,hc,by omega,by omega,by omega⟩)))
 rw [Zjz o3] at h
 by_cases o4:14 ≤ op ∧ op ≤ 16
 ·rw [Zj2 o4] at h
  obtain ⟨a,b,ha,hb,hc,hf⟩:=k2 (fun a b=>a == b && w == 1) h
  simp only [Zj0,Zkr] at hf
  exact .inr (.inr (.inr (.inl ⟨by omega,by omega,hm (by omega),hn,a,b,ha,hb,hc,hf.1,by omega,by omega⟩)))
 rw [Zjz o4] at h
 by_cases o5:op = 17
 ·rw [Zj2 o5] at h
  obtain ⟨a,b,c,ha,hb,hc,hd,hf⟩:=k3 (fun a b c=>a == 1 && b == w && c == w) h
  simp only [Zj0,Zkr] at hf
  exact .inr (.inr (.inr (.inr (.inl ⟨o5,hm (by omega),hn,a,b,c,ha,hb,hc,hd,hf.1.1,hf.1.2,hf.2⟩))))
 rw [Zjz o5] at h
 by_cases o6:op = 18
 ·rw [Zj2 o6] at h
  obtain ⟨a,b,ha,hb,hc,hf⟩:=k2 (fun a b=>a + b == w) h
  exact .inr (.inr (.inr (.inr (.inr (.inl ⟨o6,hm (by omega),hn,a,b,ha,hb,hc,by simpa using hf⟩)))))
 rw [Zjz o6] at h
 by_cases o7:op = 19
 ·rw [Zj2 o7] at h
  obtain ⟨a,ha,hb,hf⟩:=k1 (fun a=>decide (0 ≤ m ∧ m ≤ 16) && decide (m + w ≤ a)) h
  simp only [Zj0,Zj5] at hf
  exact .inr (.inr (.inr (.inr (.inr (.inr (.inl ⟨o7,hn,hf.1.1,hf.1.2,a,ha,hb,hf.2⟩))))))
 rw [Zjz o7] at h
 by_cases o8:20 ≤ op ∧ op ≤ 21
 ·rw [Zj2 o8] at h
  obtain ⟨a,ha,hb,hf⟩:=k1 (fun a=>decide (a ≤ w)) h
  exact .inr (.inr (.inr (.inr (.inr (.inr (.inr ⟨by omega,hm (by omega),hn,a,ha,hb,by simpa using hf⟩))))))
 rw [Zjz o8] at h; cases h
open Cc (BS LS CircP Grow GoodL Good litN lines negs seqP ifP opP net RelB FOk)
def bitI (v:Int) (k:Nat):Bool:=match shr? v (k:Int) with | some x=>band x 1 == 1 | none=>false
def wordL (w:Nat) (v:Int):List Int:=(List.range w).map fun k=>if bitI v k then 1 else -1
theorem X5 (w:Nat) (v:Int):(wordL w v).length = w:=by simp [wordL]
def atV:List D.Value → Int → Str → Int
 | [],a,_=>a
 | v :: l,a,s=>if Str.eqb v.Name s then a + v.W else atV l (a + v.W) s
def varL (vs:List D.Value) (s:Str) (w:Nat):List Int:=(List.range w).map fun k:Nat=>atV vs 1 s - (k:Int)
theorem ZeI (vs:List D.Value) (s:Str) (w:Nat):(varL vs s w).length = w:=by simp [varL]
def fin (op:Int) (w m:Nat) (ks:List (List Int)) (s:BS):LS:=
 if op = 1 then (negs (ks.getD 0 []),s)
 else if op = 2 then if w = 16 then (List.replicate w (-1),(s.1,true)) else opP s 4 (List.replicate w (-1)) (ks.getD 0 [])
 else if op = 17 then seqP (fun s p=>ifP s ((ks.getD 0 []).getD 0 0) p.1 p.2) s ((ks.getD 1 []).zip (ks.getD 2 []))
 else if op = 18 then (ks.getD 1 [] ++ ks.getD 0 [],s)
 else if op = 19 then (((ks.getD 0 []).drop m).take w,s)
 else if op = 20 then (ks.getD 0 [] ++ List.replicate (w - (ks.getD 0 []).length) (-1),s)
 else if op = 21 then (ks.getD 0 [] ++ List.replicate (w - (ks.getD 0 []).length) ((ks.getD 0 []).getD ((ks.getD 0 []).length - 1) 0),s)
 else if (ks.getD 0 []).length = 16 then (List.replicate w (-1),(s.1,true)) else opP s op (ks.getD 0 []) (ks.getD 1 [])
mutual
def nP (vs:List D.Value):D.Term → BS → LS
 | ⟨op,w,m,nm,ks⟩,s=>if op = 0 then (wordL w.toNat m,s) else if op = 22 then (varL vs nm w.toNat,s) else let r:=nPs vs ks s; fin op w.toNat m.toNat r.1 r.2
def nPs (vs:List D.Value):List D.Term → BS → List (List Int) × BS
 | [],s=>([],s)
 | t :: l,s=>let r:=nP vs t s; let q:=nPs vs l r.2; (r.1 :: q.1,q.2)
end
theorem ZfI (vs:List D.Value) (t:D.Term) (s:BS):nP vs t s = if t.Op = 0 then (wordL t.W.toNat t.N,s) else if t.Op = 22 then (varL vs t.Name t.W.toNat,s) else fin t.Op t.W.toNat t.N.toNat (nPs vs t.Kids s).1 (nPs vs t.Kids s).2:=by cases t; rw [nP]
theorem ZdM (vs:List D.Value) (s:BS):nPs vs [] s = ([],s):=by rw [nPs]
theorem ZbD (vs:List D.Value) (t:D.Term) (l:List D.Term) (s:BS):nPs vs (t :: l) s = ((nP vs t s).1 :: (nPs vs l (nP vs t s).2).1,(nPs vs l (nP vs t s).2).2):=by rw [nPs]
structure VF (vs:List D.Value) (c:D.Circuit):Prop where
 w1:∀ v ∈ vs,1 ≤ v.W
 sum:(vs.map (·.W)).foldl (· + ·) 0 = c.Inputs
def TV (vs:List D.Value) (t:D.Term):Prop:=∀ p ∈ vrs t,∃ v ∈ vs,v.Name = p.1 ∧ v.W = p.2
open Cc (BS LS CircP Grow GoodL Good litN lines negs seqP ifP opP net RelB FOk XO Yw Y1 litN_mono ZG)
theorem Zh8 {vs:List D.Value} {s:Str} (h1:∀ v ∈ vs,1 ≤ v.W):∀ {a:Int},a ≤ atV vs a s ∧ atV vs a s ≤ (vs.map (·.W)).foldl (· + ·) a:=by
 induction vs with
 | nil=>intro a; simp [atV]
 | cons v l ih=>
  intro a
  have hv:=h1 v (by simp)
  have hf:∀ (l:List D.Value) (a:Int),(∀ v ∈ l,1 ≤ v.W) → a ≤ (l.map (·.W)).foldl (· + ·) a:=fun l=>by
   induction l with
   | nil=>intro a _; simp
   | cons x l ih=>intro a hx; have:=ih (a + x.W) (fun v hv=>hx v (by simp [hv])); have:=hx x (by simp); simp only [ZjJ,ZkU]; omega
  unfold atV
  simp only [ZjJ,ZkU]
  split
  ·have:=hf l (a + v.W) (fun v hv=>h1 v (by simp [hv])); omega
  ·have:=ih (fun v hv=>h1 v (by simp [hv])) (a:=a + v.W); omega
theorem Zhp {s:Str} {w:Int}:∀ {vs:List D.Value} {a:Int},(∀ v ∈ vs,1 ≤ v.W) → vs.Pairwise (fun x y=>x.Name ≠ y.Name) → (∃ v ∈ vs,v.Name = s ∧ v.W = w) → a + w ≤ atV vs a s
 | [],a,_,_,⟨v,hv,_⟩=>by cases hv
 | v :: l,a,h1,hp,⟨x,hx,hn,hw⟩=>by
  unfold atV
  rw [Zlb] at hp
  by_cases c:v.Name = s
  ·have e : Str.eqb v.Name s = true := by rw [c]; exact ZcI s
   rw [Zj2 e]
   rcases ZjW.1 hx with rfl | hx
   ·omega
   ·exact absurd (c.trans hn.symm) (hp.1 x hx)
  ·have e : Str.eqb v.Name s = false := by rw [ZbG]; simpa using c
   rw [e]
   simp only [Zj1,ZjP]
   rcases ZjW.1 hx with rfl | hx
   ·exact absurd hn c
   ·have := Zhp (a := a + v.W) (fun v hv => h1 v (by simp [hv])) hp.2 ⟨x, hx, hn, hw⟩
    have:=h1 v (by simp)
    omega
theorem Zbb:∀ (l:List Int) (a b:Int),l.foldl (· + ·) (a + b) = a + l.foldl (· + ·) b
 | [],a,b=>rfl
 | x :: l,a,b=>by simp only [ZkU]; rw [Int.add_assoc]; exact Zbb l a (b + x)
theorem ZhZ {vs:List D.Value} {s:BS} {nm:Str} {w:Int} (hs:CircP s.1) (hv:VF vs s.1) (hp:vs.Pairwise fun x y=>x.Name ≠ y.Name) (h:∃ v ∈ vs,v.Name = nm ∧ v.W = w) (hw:1 ≤ w):GoodL s w.toNat (varL vs nm w.toNat,s):=by
 refine ⟨hs,Grow.refl _,ZeI _ _ _,fun x hx=>?_⟩
 unfold varL at hx
 obtain ⟨k,hk,rfl⟩:=Zko.1 hx
 have hk:=ZjI.1 hk
 have h1:=Zhp (a:=1) hv.w1 hp h
 have h2:=(Zh8 (s:=nm) hv.w1 (a:=1)).2
 have h3:=Zbb (vs.map (·.W)) 1 0
 rw [show (1:Int) + 0 = 1 from rfl,hv.sum] at h3
 rw [h3] at h2
 rw [Y1]
 show 1 ≤ Cc.iab (atV vs 1 nm - (k:Int)) ∧ Cc.iab (atV vs 1 nm - (k:Int)) ≤ s.1.Inputs + 1 + (s.1.Gates.length:Int)
 unfold Cc.iab
 have:=hs.i0
 constructor <;> split <;> omega
theorem ZgE {s:BS} {w:Nat} {v:Int} (hs:CircP s.1):GoodL s w (wordL w v,s):=by
 refine ⟨hs,Grow.refl _,X5 _ _,fun x hx=>?_⟩
 unfold wordL at hx
 obtain ⟨k,hk,rfl⟩:=Zko.1 hx
 split
 ·exact XO hs
 ·exact Yw hs
def K2 (s:BS) (t:D.Term) (l:List Int):Prop:=l.length = t.W.toNat ∧ ∀ x ∈ l,litN (lines s.1) x = true
def KK (s:BS):List D.Term → List (List Int) → Prop
 | [],[]=>True
 | t :: ts,l :: ls=>K2 s t l ∧ KK s ts ls
 | _,_=>False
theorem KK1 {s:BS} {t:D.Term} {ts:List D.Term} {ls:List (List Int)} (h:KK s (t :: ts) ls):∃ l l',K2 s t l ∧ KK s ts l' ∧ ls = l :: l':=by
 cases ls with
 | nil=>exact h.elim
 | cons l l'=>exact ⟨l,l',h.1,h.2,rfl⟩
theorem KK0 {s:BS} {ls:List (List Int)} (h:KK s [] ls):ls = []:=by
 cases ls with
 | nil=>rfl
 | cons l l'=>exact h.elim
theorem K2.mono {s s':BS} {t:D.Term} {l:List Int} (h:K2 s t l) (g:Grow s.1 s'.1):K2 s' t l:=⟨h.1,fun x hx=>litN_mono (h.2 x hx) g.lines⟩
theorem ZeJ {s:BS} {w:Nat} (hs:CircP s.1) (f:Bool):GoodL s w (List.replicate w (-1),(s.1,f)):=⟨hs,Grow.refl _,by simp,fun x hx=>by rw [(Zlp.1 hx).2]; exact Yw hs⟩
theorem Zb5 {s:BS} {w:Nat} (hs:CircP s.1):∀ x ∈ List.replicate w (-1:Int),litN (lines s.1) x = true:=fun x hx=>by rw [(Zlp.1 hx).2]; exact Yw hs
theorem Zho {s:BS} {c:Int} {a b:List Int} (hs:CircP s.1) (hc:litN (lines s.1) c = true) (ha:∀ x ∈ a,litN (lines s.1) x = true) (hb:∀ x ∈ b,litN (lines s.1) x = true):FOk (fun s p=>ifP s c p.1 p.2) s (a.zip b):=fun s' p hc' hg hp=>by
 have h1:=ZlR hp
 exact Cc.if_good hc' (litN_mono hc hg.lines) (litN_mono (ha _ h1.1) hg.lines) (litN_mono (hb _ h1.2) hg.lines)
theorem fin_good {s:BS} {t:D.Term} {ls:List (List Int)} (hb:nodeB t = true) (hs:CircP s.1) (h0:t.Op ≠ 0) (h22:t.Op ≠ 22) (hk:KK s t.Kids ls):GoodL s t.W.toNat (fin t.Op t.W.toNat t.N.toNat ls s):=by
 obtain ⟨op,w,m,nm,ks⟩:=t
 obtain ⟨hw,hsh⟩:=Y8 hb
 simp only at h0 h22 hk ⊢
 rcases hsh with ⟨rfl,-⟩ | ⟨rfl,-⟩ | ⟨ho,-,-,a,rfl,ha,haw⟩ | ⟨h3,h16,-,-,a,b,rfl,ha,hb',hab,h13,h14⟩ | ⟨rfl,-,-,a,b,c,rfl,ha,hb',hc,ha1,hbw,hcw⟩ | ⟨rfl,-,-,a,b,rfl,ha,hb',habw⟩ | ⟨rfl,-,hm0,hm1,a,rfl,ha,haw⟩ | ⟨ho,-,-,a,rfl,ha,haw⟩
 ·exact absurd rfl h0
 ·exact absurd rfl h22
 ·obtain ⟨la, r1, k1, hn1, rfl⟩ := KK1 hk
  obtain rfl:=KK0 hn1
  have hl:la.length = w.toNat:=by rw [k1.1,haw]
  unfold fin
  simp only [ZjQ]
  rcases ho with rfl | rfl
  ·simp only [Zkd]
   exact ⟨hs,Grow.refl _,by rw [Cc.negs_len,hl],Cc.negs_lits k1.2⟩
  ·simp only [show ¬ ((2 : Int) = 1) by decide, ZjP, Zkd]
   split
   ·exact ZeJ hs true
   ·rename_i h16
    have:=Cc.op_good hs (op:=4) (a:=List.replicate w.toNat (-1)) (b:=la) (by omega) (by simp [hl]) (by simp; omega) (by simp; omega) (Zb5 hs) k1.2
    simpa [Cc.opW] using this
 ·obtain ⟨la, r1, k1, hn1, rfl⟩ := KK1 hk
  obtain ⟨lb,r2,k2,hn2,rfl⟩:=KK1 hn1
  obtain rfl:=KK0 hn2
  have hA:=ZR ha
  unfold fin
  simp only [ZjQ,Zkz]
  rw [Zjz (by omega),Zjz (by omega),Zjz (by omega),Zjz (by omega),Zjz (by omega),Zjz (by omega),Zjz (by omega)]
  split
  ·exact ZeJ hs true
  ·rename_i h16'
   have:=Cc.op_good hs (op:=op) (a:=la) (b:=lb) ⟨h3,h16⟩ (by rw [k1.1,k2.1,hab]) (by have:=k1.1; omega) (by have:=k1.1; omega) k1.2 k2.2
   have e:Cc.opW op la.length = w.toNat:=by
    unfold Cc.opW; split
    ·rw [h14 (by omega)]; rfl
    ·rw [k1.1,h13 (by omega)]
   rw [e] at this; exact this
 ·obtain ⟨la, r1, k1, hn1, rfl⟩ := KK1 hk
  obtain ⟨lb,r2,k2,hn2,rfl⟩:=KK1 hn1
  obtain ⟨lc,r3,k3,hn3,rfl⟩:=KK1 hn2
  obtain rfl:=KK0 hn3
  unfold fin
  simp only [ZjQ,Zkz]
  rw [Zjz (by omega),Zjz (by omega),Zj2 (by trivial)]
  have hc0:litN (lines s.1) (la.getD 0 0) = true:=k1.2 _ (Cc.getD_mem (by have:=k1.1; rw [ha1] at this; simp at this; omega))
  have g:=Cc.seq_good hs (Zho hs hc0 k2.2 k3.2)
  rw [Zkx,k2.1,k3.1,hbw,hcw,Zlz] at g
  exact g
 ·obtain ⟨la, r1, k1, hn1, rfl⟩ := KK1 hk
  obtain ⟨lb,r2,k2,hn2,rfl⟩:=KK1 hn1
  obtain rfl:=KK0 hn2
  have hA:=ZR ha
  have hB:=ZR hb'
  unfold fin
  simp only [ZjQ,Zkz]
  rw [Zjz (by omega),Zjz (by omega),Zjz (by omega),Zj2 (by trivial)]
  exact ⟨hs,Grow.refl _,by rw [ZjC,k1.1,k2.1]; omega,fun x hx=>(ZjN.1 hx).elim (k2.2 x) (k1.2 x)⟩
 ·obtain ⟨la, r1, k1, hn1, rfl⟩ := KK1 hk
  obtain rfl:=KK0 hn1
  unfold fin
  simp only [ZjQ]
  rw [Zjz (by omega),Zjz (by omega),Zjz (by omega),Zjz (by omega),Zj2 (by trivial)]
  exact ⟨hs,Grow.refl _,by rw [Zj3,ZjK,k1.1]; omega,fun x hx=>k1.2 x (ZkC (ZkS hx))⟩
 ·obtain ⟨la, r1, k1, hn1, rfl⟩ := KK1 hk
  obtain rfl:=KK0 hn1
  have hA:=ZR ha
  unfold fin
  simp only [ZjQ]
  rcases ho with rfl | rfl
  ·rw [Zjz (by omega), Zjz (by omega), Zjz (by omega), Zjz (by omega), Zjz (by omega), Zj2 (by trivial)]
   exact ⟨hs,Grow.refl _,by rw [ZjC,Zkq,k1.1]; omega,fun x hx=>(ZjN.1 hx).elim (k1.2 x) (Zb5 hs x)⟩
  ·rw [Zjz (by omega), Zjz (by omega), Zjz (by omega), Zjz (by omega), Zjz (by omega), Zjz (by omega), Zj2 (by trivial)]
   refine ⟨hs,Grow.refl _,by rw [ZjC,Zkq,k1.1]; omega,fun x hx=>(ZjN.1 hx).elim (k1.2 x) fun h=>?_⟩
   rw [(Zlp.1 h).2]
   exact k1.2 _ (Cc.getD_mem (by have:=k1.1; omega))
theorem KK.mono {s s':BS} (g:Grow s.1 s'.1):∀ {ts:List D.Term} {ls:List (List Int)},KK s ts ls → KK s' ts ls
 | [],[],_=>trivial
 | [],_ :: _,h=>h.elim
 | _ :: _,[],h=>h.elim
 | _ :: _,_ :: _,h=>⟨h.1.mono g,KK.mono g h.2⟩
theorem VF.mono {vs:List D.Value} {c c':D.Circuit} (h:VF vs c) (g:Grow c c'):VF vs c':=⟨h.w1,h.sum.trans g.inputs.symm⟩
theorem Zbr {vs:List D.Value} {t x:D.Term} (h:TV vs t) (ho:t.Op ≠ 22) (hx:x ∈ t.Kids):TV vs x:=fun p hp=>by
 refine h p ?_
 rw [XU,Zjz ho]
 have:∀ {l:List D.Term},x ∈ l → p ∈ vrss l:=fun {l}=>by
  induction l with
  | nil=>intro h; cases h
  | cons y l ih=>
   intro hy
   rw [Xh,ZjN]
   rcases ZjW.1 hy with rfl | hy
   ·exact .inl hp
   ·exact .inr (ih hy)
 exact this hx
theorem ZaJ {vs:List D.Value}:∀ (l:List D.Term) (s:BS),(∀ t ∈ l,∀ s:BS,CircP s.1 → VF vs s.1 → GoodL s t.W.toNat (nP vs t s)) → CircP s.1 → VF vs s.1 → CircP (nPs vs l s).2.1 ∧ Grow s.1 (nPs vs l s).2.1 ∧ KK (nPs vs l s).2 l (nPs vs l s).1
 | [],s,_,hs,_=>by rw [ZdM]; exact ⟨hs,Grow.refl _,trivial⟩
 | t :: l,s,h,hs,hv=>by
  rw [ZbD]
  have g:=h t (by simp) s hs hv
  obtain ⟨q1,q2,q3⟩:=ZaJ l (nP vs t s).2 (fun x hx=>h x (by simp [hx])) g.circ (hv.mono g.grow)
  exact ⟨q1,g.grow.trans q2,⟨g.len,fun x hx=>litN_mono (g.lits x hx) q2.lines⟩,q3⟩
theorem nodeK {t:D.Term} (hb:nodeB t = true):∀ x ∈ t.Kids,nodeB x = true:=fun x hx=>by
 rw [XV,Zj0,Yh,ZjB] at hb
 exact hb.2 x hx
theorem Zbi {vs:List D.Value} (hp:vs.Pairwise fun x y=>x.Name ≠ y.Name):∀ (n:Nat) (t:D.Term) (s:BS),cnt t ≤ n → nodeB t = true → TV vs t → CircP s.1 → VF vs s.1 → GoodL s t.W.toNat (nP vs t s):=by
 intro n
 induction n with
 | zero=>intro t s h; have:=Xq t; omega
 | succ n ih=>
  intro t s hc hb ht hs hv
  have hw:=ZR hb
  rw [ZfI]
  by_cases h0:t.Op = 0
  ·rw [Zj2 h0]; exact ZgE hs
  rw [Zjz h0]
  by_cases h22:t.Op = 22
  ·rw [Zj2 h22]
   refine ZhZ hs hv hp (ht (t.Name,t.W) ?_) hw.1
   rw [XU,Zj2 h22]; simp
  rw [Zjz h22]
  have hcn:=Xq t
  obtain ⟨q1,q2,q3⟩:=ZaJ t.Kids s (fun x hx s' hs' hv'=>ih x s' (by have:=Xd hx; omega) (nodeK hb x hx) (Zbr ht h22 hx) hs' hv') hs hv
  have g:=fin_good hb q1 h0 h22 q3
  exact ⟨g.circ,q2.trans g.grow,g.len,g.lits⟩
open Cc (BS LS CircP Grow GoodL Good litN lines negs seqP ifP opP net RelB FOk FU)
theorem ZeQ (v:Int) (k:Nat):∃ x,shr? v (k:Int) = some x ∧ bitI v k = (band x 1 == 1):=by
 have:∃ x,shr? v (k:Int) = some x:=by unfold shr?; rw [Zjz (by omega)]; exact ⟨_,rfl⟩
 obtain ⟨x,hx⟩:=this
 exact ⟨x,hx,by unfold bitI; rw [hx]⟩
theorem Zde (k:Nat) (v:Int):wordL (k + 1) v = wordL k v ++ [if bitI v k then 1 else -1]:=by unfold wordL; rw [Zlg,Zkw]; rfl
theorem Zdd (w:Nat):wordL w 0 = List.replicate w (-1):=by
 have:∀ k,bitI 0 k = false:=fun k=>by
  have h:shr? 0 (k:Int) = some 0:=by unfold shr?; rw [Zjz (by omega)]; simp
  unfold bitI; rw [h]; exact Cc.band01
 unfold wordL
 simp only [this,Zj1,ZjP]
 rw [List.map_const']; simp
section
variable {fu:Nat} [FU fu]
theorem ZcV {w:Nat} (hw:w ≤ 1000) (v:Int):YI fu (w:Int) v = some (wordL w v):=by
 unfold YI
 rw [ZL (I:=fun k t=>t = ((k:Int),wordL k v)) (m:=w) (r:=wordL w v) (fun k t hk ht=>?_) (fun t ht=>?_) w 0 _ (by omega) (by simp [wordL]) fu (Cc.lt_fuel (by omega))]
 ·rfl
 all_goals subst ht
 ·refine ⟨_, ?_, rfl⟩
  obtain ⟨x,hx,hb⟩:=ZeQ v k
  have ha:∀ y:Int,app? (wordL k v) [y] = some (wordL k v ++ [y]):=fun y=>by
   unfold app?
   rw [Zj2 (by rw [X5]; simp; unfold room; omega)]
  simp only
  rw [Zj2 (by simp; omega),hx]
  simp only [Zjv]
  rw [Zde,hb]
  by_cases c:(band x 1 == 1) = true
  ·rw [Zj2 c,Zj2 c,ha,Zd (by omega) (by omega)]; rfl
  ·rw [Zjz c,Zjz c,ha,Zd (by omega) (by omega)]; rfl
 ·simp only
  rw [Zjz (by simp)]
theorem Zc3 {w:Nat} (hw:w ≤ 900) (v:Int):ZM fu (w:Int) v = some (wordL w v):=by
 unfold ZM
 have hmk:mk? (w:Int) (0:Int) = some (List.replicate w 0):=by
  unfold mk?; rw [Zj2 ⟨by omega,by unfold room; omega⟩]; rfl
 rw [hmk]
 simp only [Zjv]
 rw [ZL (I:=fun k t=>t = ((k:Int),wordL k v ++ List.replicate (w - k) 0)) (m:=w) (r:=wordL w v) (fun k t hk ht=>?_) (fun t ht=>?_) w 0 _ (by omega) (by simp [wordL]) fu (Cc.lt_fuel (by omega))]
 ·rfl
 all_goals subst ht
 ·refine ⟨_, ?_, rfl⟩
  obtain ⟨x,hx,hb⟩:=ZeQ v k
  have e:∀ y:Int,(wordL k v ++ List.replicate (w - k) 0).set k y = (wordL k v ++ [y]) ++ List.replicate (w - (k + 1)) 0:=fun y=>by
   have:=Cc.set_fill (l:=wordL k v) (n:=w - (k + 1)) (x:=y)
   rw [X5,show w - (k + 1) + 1 = w - k by omega] at this
   exact this
  have e2:∀ y z:Int,((wordL k v ++ [y]) ++ List.replicate (w - (k + 1)) 0).set k z = (wordL k v ++ [z]) ++ List.replicate (w - (k + 1)) 0:=fun y z=>by
   rw [ZjZ,Zky _ _ (by rw [X5]; omega),X5,ZkG,ZjY,ZkO,ZjZ,ZjY]
  simp only
  rw [Zj2 (by rw [Za]; simp; omega),set?_nat (by simp [X5]; omega)]
  simp only [Zjv]
  rw [Cc.u64k (by omega),hx]
  simp only [Zjv]
  rw [e,Zde,hb]
  by_cases c:(band x 1 == 1) = true
  ·rw [Zj2 c, Zj2 c, set?_nat (by simp [X5] <;> omega), e2]
   simp only [Zjv]
   rw [Zd (by omega) (by omega)]; rfl
  ·rw [Zjz c,Zjz c,Zd (by omega) (by omega)]; rfl
 ·simp only
  rw [Zjz (by rw [Za]; simp)]
  simp
theorem at_loop {vs:List D.Value} {s:Str} (hl:vs.length ≤ 1000) (hw:∀ v ∈ vs,1 ≤ v.W ∧ v.W ≤ 16):iterN (fun (s1:Int × Int)=>
    if (decide (s1.2 < (len vs))) then
     (get? vs s1.2).bind fun x2=>
     if (Str.eqb x2.Name s) then
      some (.inr ((w64 (s1.1 + x2.W))))
     else
      some (.inl ((w64 (s1.1 + x2.W)),(w64 (s1.2 + 1))))
    else
     some (.inr (s1.1))
   ) fu (1,0) = some (atV vs 1 s):=by
  obtain ⟨r,g1,g2⟩:=Ye (l:=vs) (n:=fu) (σ:=Int) (ρ:=Int) (B:=fun (s1:Int × Int)=>
    if (decide (s1.2 < (len vs))) then
     (get? vs s1.2).bind fun x2=>
     if (Str.eqb x2.Name s) then
      some (.inr ((w64 (s1.1 + x2.W))))
     else
      some (.inl ((w64 (s1.1 + x2.W)),(w64 (s1.2 + 1))))
    else
     some (.inr (s1.1))) (fun k a=>(a,(k:Int))) (fun ys a=>atV ys a s = atV vs 1 s ∧ 1 ≤ a ∧ a ≤ 1 + 16 * (vs.length - ys.length:Int) ∧ ∀ y ∈ ys,y ∈ vs) (fun r=>r = atV vs 1 s)
    (fun k x xs a hk hx hlen ⟨h1,h2,h3,h4⟩=>by
      have hd:decide ((k:Int) < len vs) = true:=by rw [Za]; simp; omega
      have hxw:=hw x (h4 x (by simp))
      simp only [ZjT] at hlen h3
      simp only [hd,Zkd,get?_nat,hx,Zjv]
      have e1:w64 (a + x.W) = a + x.W:=Zd (by omega) (by omega)
      rw [e1]
      have h1:(if Str.eqb x.Name s = true then a + x.W else atV xs (a + x.W) s) = atV vs 1 s:=h1
      cases c:Str.eqb x.Name s
      · rw [c] at h1
        simp only [Zj1,ZjP] at h1 ⊢
        exact .inl ⟨a + x.W,by rw [Zd (by omega) (by omega)]; rfl,h1,by omega,by omega,fun y hy=>h4 y (by simp [hy])⟩
      · rw [c] at h1
        simp only [Zkd] at h1 ⊢
        exact .inr ⟨_,rfl,h1⟩)
    (fun a ⟨h1,_⟩=>by
      have hd:decide ((vs.length:Int) < len vs) = false:=by rw [Za]; simp
      simp only [hd,Zj1,ZjP]
      exact ⟨_,rfl,h1⟩) (a:=1) ⟨rfl,by omega,by omega,fun y h=>h⟩ (Cc.lt_fuel (by omega))
  rw [show ((0:Nat):Int) = 0 from rfl] at g1
  rw [g1,g2]
theorem ZgZ {a:Int} {w:Nat} (hw:w ≤ 16) (h1:1 ≤ a) (h2:a ≤ 100000):iterN (fun (s2:Int × (List Int))=>
    if (decide (s2.1 < (w:Int))) then
     (app? s2.2 ([(w64 (a - s2.1))]:List Int)).bind fun x3=>
     some (.inl ((w64 (s2.1 + 1)),x3))
    else
     some (.inr (s2.2))
   ) fu (0,([]:List Int)) = some ((List.range w).map fun k:Nat=>a - (k:Int)):=by
  rw [ZL (I:=fun k t=>t = ((k:Int),(List.range k).map fun k:Nat=>a - (k:Int))) (m:=w) (r:=(List.range w).map fun k:Nat=>a - (k:Int)) (fun k t hk ht=>?_) (fun t ht=>?_) w 0 _ (by omega) (by simp) fu (Cc.lt_fuel (by omega))]
  all_goals subst ht
  · refine ⟨_, ?_, rfl⟩
    simp only
    have ha:∀ y:Int,app? ((List.range k).map fun k:Nat=>a - (k:Int)) [y] = some (((List.range k).map fun k:Nat=>a - (k:Int)) ++ [y]):=fun y=>by
      unfold app?
      rw [Zj2 (by simp; unfold room; omega)]
    rw [Zj2 (by simp; omega),Zd (x:=a - (k:Int)) (by omega) (by omega),ha]
    simp only [Zjv]
    rw [Zd (by omega) (by omega),Zlg,Zkw]; rfl
  · simp only
    rw [Zjz (by simp)]
end
theorem ZdV:∀ {l:List D.Value} {a:Int},(∀ v ∈ l,1 ≤ v.W) → a + l.length ≤ (l.map (·.W)).foldl (· + ·) a
 | [],a,_=>by simp
 | v :: l,a,h=>by
  have:=ZdV (l:=l) (a:=a + v.W) fun x hx=>h x (by simp [hx])
  have:=h v (by simp)
  simp only [ZjJ,ZkU,ZjT]; omega
theorem X3 {c c':D.Circuit} {x:Int} (h:litN (lines c) x = true) (g:Grow c c'):litN (lines c') x = true:=Cc.litN_mono h g.lines
section
variable {n:Nat} [FU n] {s:BS}
def sfin (n:Nat) (p1:D.Term) (ls:List (List Int)) (s:BS):Option ((List Int) × D.l04Net):=
   (get? ls 0).bind fun x7=>
   if (p1.Op == 1) then
    (Y0 n x7).bind fun x8=>
    some (x8,(D.l04Net.mk (D.Circuit.mk s.1.Inputs s.1.Gates) s.2))
   else
    if (p1.Op == 2) then
     (YI n p1.W 0).bind fun x9=>
     (get? ([x9,x7]:List (List Int)) 0).bind fun x10=>
     if ((len x10) == 16) then
      (ZE n p1.W (-1)).bind fun x11=>
      some (x11,(D.l04Net.mk (D.Circuit.mk s.1.Inputs s.1.Gates) true))
     else
      (get? ([x9,x7]:List (List Int)) 0).bind fun x12=>
      (get? ([x9,x7]:List (List Int)) 1).bind fun x13=>
      (ZB n (D.l04Net.mk (D.Circuit.mk s.1.Inputs s.1.Gates) s.2) (cond (p1.Op == 2) 4 p1.Op) x12 x13).bind fun x14=>
      some (x14.1,x14.2)
    else
     if (p1.Op == 17) then
      (iterN (fun (s4 : Int × (List Int) × Int × Bool × (List D.Gate)) =>
       if (decide (s4.1 < p1.W)) then
        (get? x7 0).bind fun x15=>
        (get? ls 1).bind fun x16=>
        (get? x16 s4.1).bind fun x17=>
        (get? ls 2).bind fun x18=>
        (get? x18 s4.1).bind fun x19=>
        (Zh n (D.l04Net.mk (D.Circuit.mk s4.2.2.1 s4.2.2.2.2) s4.2.2.2.1) x15 x17 x19).bind fun x20=>
        (app? s4.2.1 ([x20.1]:List Int)).bind fun x21=>
        some (.inl ((w64 (s4.1 + 1)),x21,x20.2.c.Inputs,x20.2.full,x20.2.c.Gates))
       else
        some (.inr (s4.2.1,s4.2.2.1,s4.2.2.2.1,s4.2.2.2.2))
      ) n (0,([]:List Int),s.1.Inputs,s.2,s.1.Gates)).bind fun (rl4:(List Int) × Int × Bool × (List D.Gate))=>
      some (rl4.1,(D.l04Net.mk (D.Circuit.mk rl4.2.1 rl4.2.2.2) rl4.2.2.1))
     else
      if (p1.Op == 18) then
       (get? ls 1).bind fun x22=>
       (app? ([]:List Int) x22).bind fun x23=>
       (app? x23 x7).bind fun x24=>
       some (x24,(D.l04Net.mk (D.Circuit.mk s.1.Inputs s.1.Gates) s.2))
      else
       if (p1.Op == 19) then
        (cut? x7 p1.N (w64 (p1.N + p1.W))).bind fun x25=>
        some (x25,(D.l04Net.mk (D.Circuit.mk s.1.Inputs s.1.Gates) s.2))
       else
        if (p1.Op == 20) then
         (app? ([]:List Int) x7).bind fun x26=>
         (ZE n (w64 (p1.W - (len x7))) (-1)).bind fun x27=>
         (app? x26 x27).bind fun x28=>
         some (x28,(D.l04Net.mk (D.Circuit.mk s.1.Inputs s.1.Gates) s.2))
        else
         if (p1.Op == 21) then
          (app? ([]:List Int) x7).bind fun x29=>
          (get? x7 (w64 ((len x7) - 1))).bind fun x30=>
          (ZE n (w64 (p1.W - (len x7))) x30).bind fun x31=>
          (app? x29 x31).bind fun x32=>
          some (x32,(D.l04Net.mk (D.Circuit.mk s.1.Inputs s.1.Gates) s.2))
         else
          (get? ls 0).bind fun x33=>
          if ((len x33) == 16) then
           (ZE n p1.W (-1)).bind fun x34=>
           some (x34,(D.l04Net.mk (D.Circuit.mk s.1.Inputs s.1.Gates) true))
          else
           (get? ls 0).bind fun x35=>
           (get? ls 1).bind fun x36=>
           (ZB n (D.l04Net.mk (D.Circuit.mk s.1.Inputs s.1.Gates) s.2) (cond (p1.Op == 2) 4 p1.Op) x35 x36).bind fun x37=>
           some (x37.1,x37.2)
theorem Zga {l:List Int} {m w:Nat} (h:m + w ≤ l.length) (hl:l.length ≤ 1000):cut? l (m:Int) (w64 ((m:Int) + (w:Int))) = some ((l.drop m).take w):=by
 rw [Zd (by omega) (by omega)]
 unfold cut?
 rw [Zj2 ⟨by omega,by omega,by omega⟩]
 have e1:((m:Int) + (w:Int)).toNat = m + w:=by omega
 rw [e1,ZkE,ZlE,Nat.add_sub_cancel_left]
theorem Za6 {l m:List Int} (h:l.length + m.length ≤ 1000):app? l m = some (l ++ m):=by unfold app?; rw [Zj2 (by unfold room; omega)]
theorem g0 {α:Type} {a:α} {l:List α}:get? (a :: l) 0 = some a:=rfl
theorem g1 {α:Type} {a b:α} {l:List α}:get? (a :: b :: l) 1 = some b:=rfl
theorem g2 {α:Type} {a b c:α} {l:List α}:get? (a :: b :: c :: l) 2 = some c:=rfl
theorem ZhB {l:List Int} (h:1 ≤ l.length) (h2:l.length ≤ 1000):get? l (w64 (len l - 1)) = some (l.getD (l.length - 1) 0):=by
 rw [Za,Zd (by omega) (by omega),show (l.length:Int) - 1 = ((l.length - 1:Nat):Int) by omega,get?_nat,Cc.getD_get (by omega)]
theorem ZhO {t:D.Term} {ls:List (List Int)} (hb:nodeB t = true) (hs:CircP s.1) (h0:t.Op ≠ 0) (h22:t.Op ≠ 22) (hk:KK s t.Kids ls):sfin n t ls s = some ((fin t.Op t.W.toNat t.N.toNat ls s).1,net (fin t.Op t.W.toNat t.N.toNat ls s).2):=by
 obtain ⟨op,w,m,nm,ks⟩:=t
 obtain ⟨hw,hsh⟩:=Y8 hb
 simp only at h0 h22 hk ⊢
 have eW:((w.toNat:Nat):Int) = w:=by omega
 unfold sfin
 simp only
 rcases hsh with ⟨rfl,-⟩ | ⟨rfl,-⟩ | ⟨ho,-,-,a,rfl,ha,haw⟩ | ⟨h3,h16,-,-,a,b,rfl,ha,hb',hab,h13,h14⟩ | ⟨rfl,-,-,a,b,c,rfl,ha,hb',hc,ha1,hbw,hcw⟩ | ⟨rfl,-,-,a,b,rfl,ha,hb',habw⟩ | ⟨rfl,-,hm0,hm1,a,rfl,ha,haw⟩ | ⟨ho,-,-,a,rfl,ha,haw⟩
 ·exact absurd rfl h0
 ·exact absurd rfl h22
 ·obtain ⟨la, r1, k1, hn1, rfl⟩ := KK1 hk
  obtain rfl:=KK0 hn1
  have hl:la.length = w.toNat:=by rw [k1.1,haw]
  rw [g0]
  simp only [Zjv]
  unfold fin
  simp only [ZjQ]
  rcases ho with rfl | rfl
  ·rw [Zj2 (by rfl), Zj2 (by trivial), Cc.spec_not hs.lines1 (by omega) k1.2]
   rfl
  ·rw [Zjz (by decide), Zj2 (by rfl), Zjz (by decide), Zj2 (by trivial), ← eW, ZcV (by omega), Zdd]
   simp only [Zjv,g0,g1,ZkE,Za,Zkq]
   by_cases c:w.toNat = 16
   ·rw [Zj2 (by simp; omega), Zj2 c, Cc.spec_fill (by omega)]
    rfl
   ·rw [Zjz (by simp; omega), Zjz c]
    have:=Cc.spec_op (fuel:=n) hs (op:=4) (a:=List.replicate w.toNat (-1)) (b:=la) (by omega) (by simp [hl]) (by simp; omega) (by simp; omega) (Zb5 hs) k1.2
    have this':ZB n (D.l04Net.mk (D.Circuit.mk s.1.Inputs s.1.Gates) s.2) (cond ((2:Int) == 2) 4 2) (List.replicate w.toNat (-1)) la = _:=this
    rw [this']
    rfl
 ·obtain ⟨la, r1, k1, hn1, rfl⟩ := KK1 hk
  obtain ⟨lb,r2,k2,hn2,rfl⟩:=KK1 hn1
  obtain rfl:=KK0 hn2
  have hA:=ZR ha
  unfold fin
  simp only [ZjQ,Zkz,g0,g1,Zjv]
  have bb:∀ k:Int,k ≤ 2 ∨ 17 ≤ k → (op == k) = false:=fun k hk=>by simp; omega
  have cc:∀ k:Int,k ≤ 2 ∨ 17 ≤ k → ¬ op = k:=fun k hk=>by omega
  simp only [bb 1 (by omega),bb 2 (by omega),bb 17 (by omega),bb 18 (by omega),bb 19 (by omega),bb 20 (by omega),bb 21 (by omega),cc 1 (by omega),cc 2 (by omega),cc 17 (by omega),cc 18 (by omega),cc 19 (by omega),cc 20 (by omega),cc 21 (by omega),Zj1,ZjP,cond_false]
  have hla:=k1.1
  by_cases c:la.length = 16
  ·rw [Zj2 (by rw [Za]; simp; omega), Zj2 c, ← eW, Cc.spec_fill (by omega)]
   simp only [ZkE]
   rfl
  ·rw [Zjz (by rw [Za]; simp; omega), Zjz c]
   have:=Cc.spec_op (fuel:=n) hs (op:=op) (a:=la) (b:=lb) ⟨h3,h16⟩ (by rw [k1.1,k2.1,hab]) (by omega) (by omega) k1.2 k2.2
   have this':ZB n (D.l04Net.mk (D.Circuit.mk s.1.Inputs s.1.Gates) s.2) op la lb = _:=this
   rw [this']
   rfl
 ·obtain ⟨la, r1, k1, hn1, rfl⟩ := KK1 hk
  obtain ⟨lb,r2,k2,hn2,rfl⟩:=KK1 hn1
  obtain ⟨lc,r3,k3,hn3,rfl⟩:=KK1 hn2
  obtain rfl:=KK0 hn3
  unfold fin
  simp only [ZjQ,Zkz,g0,g1,g2,Zjv]
  rw [Zjz (by decide),Zjz (by decide),Zj2 (by rfl)]
  rw [Zjz (by omega),Zjz (by omega),Zj2 (by trivial)]
  have hla:=k1.1
  have hlb:=k2.1
  have hlc:=k3.1
  rw [ha1] at hla
  rw [hbw] at hlb
  rw [hcw] at hlc
  have hl1:la.length = 1:=by simpa using hla
  have hg0:get? la 0 = some (la.getD 0 0):=by
   obtain ⟨z,hz⟩:=Zlt.1 hl1
   rw [hz]; rfl
  have hc0:litN (lines s.1) (la.getD 0 0) = true:=k1.2 _ (Cc.getD_mem (by omega))
  have hz:(lb.zip lc).length = w.toNat:=by rw [Zkx,hlb,hlc,Zlz]
  rw [Cc.spec_seq (fuel:=n) hs (by omega) (Zho hs hc0 k2.2 k3.2) (fun j out s' x hx hc' hg hout=>?_) (fun out s'=>?_)]
  ·rfl
  ·have hj : j < w.toNat := by have := (Zjy.1 hx).1; omega
   have hz2:=Cc.zip_mem hx
   have e:=Cc.spec_if (fuel:=n) hc' (X3 hc0 hg) (X3 (k2.2 _ (Zj9 hz2.1)) hg) (X3 (k3.2 _ (Zj9 hz2.2)) hg)
   have e':Zh n (D.l04Net.mk (D.Circuit.mk s'.1.Inputs s'.1.Gates) s'.2) (la.getD 0 0) x.1 x.2 = _:=e
   simp only
   rw [Zj2 (by simp; omega),hg0]
   simp only [Zjv]
   rw [get?_nat,get?_nat,hz2.1,hz2.2]
   simp only [Zjv,e']
   rw [Za6 (by simp; omega)]
   simp only [Zjv]
   rw [Zd (by omega) (by omega)]
   rfl
  ·simp only
   rw [Zjz (by simp; omega)]
 ·obtain ⟨la, r1, k1, hn1, rfl⟩ := KK1 hk
  obtain ⟨lb,r2,k2,hn2,rfl⟩:=KK1 hn1
  obtain rfl:=KK0 hn2
  have hA:=ZR ha
  have hB:=ZR hb'
  have hla:=k1.1
  have hlb:=k2.1
  unfold fin
  simp only [ZjQ,Zkz,g0,g1,Zjv]
  rw [Zjz (by decide),Zjz (by decide),Zjz (by decide),Zj2 (by rfl)]
  rw [Zjz (by omega),Zjz (by omega),Zjz (by omega),Zj2 (by trivial)]
  rw [Za6 (by simp; omega)]
  simp only [Zjv,Zld]
  rw [Za6 (by omega)]
  rfl
 ·obtain ⟨la, r1, k1, hn1, rfl⟩ := KK1 hk
  obtain rfl:=KK0 hn1
  have hA:=ZR ha
  have hla:=k1.1
  unfold fin
  simp only [ZjQ,g0,Zjv]
  rw [Zjz (by decide),Zjz (by decide),Zjz (by decide),Zjz (by decide),Zj2 (by rfl)]
  rw [Zjz (by omega),Zjz (by omega),Zjz (by omega),Zjz (by omega),Zj2 (by trivial)]
  have:=Zga (l:=la) (m:=m.toNat) (w:=w.toNat) (by omega) (by omega)
  rw [show ((m.toNat:Nat):Int) = m by omega,eW] at this
  rw [this]
  rfl
 ·obtain ⟨la, r1, k1, hn1, rfl⟩ := KK1 hk
  obtain rfl:=KK0 hn1
  have hA:=ZR ha
  have hla:=k1.1
  have e:w64 (w - len la) = ((w.toNat - la.length:Nat):Int):=by rw [Za,Zd (by omega) (by omega)]; omega
  unfold fin
  simp only [ZjQ,g0,Zjv]
  rcases ho with rfl | rfl
  ·rw [Zjz (by decide), Zjz (by decide), Zjz (by decide), Zjz (by decide), Zjz (by decide), Zj2 (by rfl)]
   rw [Zjz (by omega),Zjz (by omega),Zjz (by omega),Zjz (by omega),Zjz (by omega),Zj2 (by trivial)]
   rw [Za6 (by simp; omega),e,Cc.spec_fill (by omega)]
   simp only [Zjv,Zld]
   rw [Za6 (by simp; omega)]
   rfl
  ·rw [Zjz (by decide), Zjz (by decide), Zjz (by decide), Zjz (by decide), Zjz (by decide), Zjz (by decide), Zj2 (by rfl)]
   rw [Zjz (by omega),Zjz (by omega),Zjz (by omega),Zjz (by omega),Zjz (by omega),Zjz (by omega),Zj2 (by trivial)]
   rw [Za6 (by simp; omega),ZhB (by omega) (by omega)]
   simp only [Zjv,Zld]
   rw [e,Cc.spec_fill (by omega)]
   simp only [Zjv]
   rw [Za6 (by simp; omega)]
   rfl
end
section
variable {vs:List D.Value} (hp:vs.Pairwise fun x y=>x.Name ≠ y.Name) (hw16:∀ v ∈ vs,v.W ≤ 16)
include hp hw16
theorem Zh3:∀ (n:Nat) (t:D.Term) (s:BS),1048600 + cnt t ≤ n → nodeB t = true → TV vs t → CircP s.1 → VF vs s.1 → Z8 n (net s) t vs = some ((nP vs t s).1,net (nP vs t s).2):=by
  intro n
  induction n with
  | zero=>intro t s h; omega
  | succ n ih =>
    intro t s hn hb ht hs hv
    haveI:FU n:=⟨by omega⟩
    have hw:=ZR hb
    have hcn:=Xq t
    have hlen:vs.length ≤ 30:=by have:=ZdV (l:=vs) (a:=0) hv.w1; have:=hv.sum; have:=hs.i1; omega
    have eW:((t.W.toNat:Nat):Int) = t.W:=by omega
    rw [Z8,ZfI]
    by_cases h0:t.Op = 0
    · rw [Zj2 (by simpa using h0), Zj2 h0, ← eW, ZcV (by omega)]
      simp only [Zjv,ZkE]
    rw [Zjz (by simpa using h0),Zjz h0]
    by_cases h22:t.Op = 22
    · rw [Zj2 (by simpa using h22), Zj2 h22, at_loop (by omega) (fun v hv' => ⟨hv.w1 v hv', hw16 v hv'⟩)]
      simp only [Zjv]
      have h1:=(Zh8 (s:=t.Name) hv.w1 (a:=1))
      have h2:=Zbb (vs.map (·.W)) 1 0
      rw [show (1:Int) + 0 = 1 from rfl,hv.sum] at h2
      rw [h2] at h1
      have:=hs.i1
      rw [← eW,ZgZ (by omega) h1.1 (by omega)]
      simp only [Zjv,ZkE]
      rfl
    rw [Zjz (by simpa using h22),Zjz h22]
    have hkg:∀ x ∈ t.Kids,∀ s:BS,CircP s.1 → VF vs s.1 → GoodL s x.W.toNat (nP vs x s):=fun x hx s' hs' hv'=>Zbi hp _ x s' (ZjF _) (nodeK hb x hx) (Zbr ht h22 hx) hs' hv'
    obtain ⟨q1,q2,q3⟩:=ZaJ t.Kids s hkg hs hv
    have hkl:t.Kids.length ≤ 3:=by
      obtain ⟨op,w,m,nm,ks⟩:=t
      obtain ⟨-,hsh⟩:=Y8 hb
      rcases hsh with ⟨-,rfl,-⟩ | ⟨-,rfl,-⟩ | ⟨-,-,-,a,rfl,-⟩ | ⟨-,-,-,-,a,b,rfl,-⟩ | ⟨-,-,-,a,b,c,rfl,-⟩ | ⟨-,-,-,a,b,rfl,-⟩ | ⟨-,-,-,-,a,rfl,-⟩ | ⟨-,-,-,a,rfl,-⟩ <;> simp
    obtain ⟨r,g1,g2⟩:=Ye (l:=t.Kids) (n:=n) (σ:=List (List Int) × BS) (ρ:=(List (List Int)) × Int × Bool × (List D.Gate)) (B:=fun (s3:Int × (List (List Int)) × Int × Bool × (List D.Gate))=>
      if (decide (s3.1 < (len t.Kids))) then
       (get? t.Kids s3.1).bind fun x4=>
       (Z8 n (D.l04Net.mk (D.Circuit.mk s3.2.2.1 s3.2.2.2.2) s3.2.2.2.1) x4 vs).bind fun x5=>
       (app? s3.2.1 ([x5.1]:List (List Int))).bind fun x6=>
       some (.inl ((w64 (s3.1 + 1)),x6,x5.2.c.Inputs,x5.2.full,x5.2.c.Gates))
      else
       some (.inr (s3.2.1,s3.2.2.1,s3.2.2.2.1,s3.2.2.2.2))) (fun k a=>((k:Int),a.1,a.2.1.Inputs,a.2.2,a.2.1.Gates))
      (fun ys a=>a.1 ++ (nPs vs ys a.2).1 = (nPs vs t.Kids s).1 ∧ (nPs vs ys a.2).2 = (nPs vs t.Kids s).2 ∧ CircP a.2.1 ∧ VF vs a.2.1 ∧ a.1.length + ys.length = t.Kids.length ∧ ∀ y ∈ ys,y ∈ t.Kids)
      (fun r=>r = ((nPs vs t.Kids s).1,(nPs vs t.Kids s).2.1.Inputs,(nPs vs t.Kids s).2.2,(nPs vs t.Kids s).2.1.Gates))
      (fun k x xs a hk hx hlen' ⟨h1,h2,h3,h4,h5,h6⟩=>by
        have hd:decide ((k:Int) < len t.Kids) = true:=by rw [Za]; simp; omega
        have hxk:=h6 x (by simp)
        have hc:=Xd hxk
        have e:=ih x a.2 (by omega) (nodeK hb x hxk) (Zbr ht h22 hxk) h3 h4
        have e':Z8 n (D.l04Net.mk (D.Circuit.mk a.2.1.Inputs a.2.1.Gates) a.2.2) x vs = _:=e
        have g:=hkg x hxk a.2 h3 h4
        simp only [ZjT] at h5
        simp only [hd,Zkd,get?_nat,hx,Zjv,e']
        rw [show app? a.1 [(nP vs x a.2).1] = some (a.1 ++ [(nP vs x a.2).1]) from by unfold app?; rw [Zj2 (by simp; unfold room; omega)]]
        simp only [Zjv]
        rw [Zd (by omega) (by omega)]
        rw [ZbD] at h1 h2
        exact .inl ⟨(a.1 ++ [(nP vs x a.2).1],(nP vs x a.2).2),rfl,by rw [← h1]; simp,h2,g.circ,h4.mono g.grow,by simp; omega,fun y hy=>h6 y (by simp [hy])⟩)
      (fun a ⟨h1,h2,h3,h4,h5,h6⟩=>by
        have hd:decide ((t.Kids.length:Int) < len t.Kids) = false:=by rw [Za]; simp
        simp only [hd,Zj1,ZjP]
        rw [ZdM] at h1 h2
        simp only [Zk3] at h1
        exact ⟨_,rfl,by rw [← h1,← h2]⟩) (a:=([],s)) ⟨by simp,rfl,hs,hv,by simp,fun _ h=>h⟩ (by omega)
    rw [show ((0:Nat):Int) = 0 from rfl] at g1
    have g1':=g1
    rw [show ((([]:List (List Int)),s).1) = [] from rfl] at g1'
    rw [show (net s).c.Inputs = s.1.Inputs from rfl,show (net s).full = s.2 from rfl,show (net s).c.Gates = s.1.Gates from rfl,g1',g2]
    simp only [Zjv]
    exact ZhO hb q1 h0 h22 q3
end
def wide1 (t:D.Term):Bool:=(t.Op == 2 || decide (3 ≤ t.Op ∧ t.Op ≤ 16)) && (match t.Kids with | a :: _=>a.W == 16 | []=>false)
mutual
def wideB:D.Term → Bool
 | ⟨op,w,m,nm,ks⟩=>wide1 ⟨op,w,m,nm,ks⟩ || wideBs ks
def wideBs:List D.Term → Bool
 | []=>false
 | t :: l=>wideB t || wideBs l
end
theorem ZaH (t:D.Term):wideB t = (wide1 t || wideBs t.Kids):=by cases t; rw [wideB]
theorem ZaI (t:D.Term) (l:List D.Term):wideBs (t :: l) = (wideB t || wideBs l):=by rw [wideBs]
theorem Zay:wideBs [] = false:=by rw [wideBs]
theorem Zc7 {x:D.Term}:∀ {l:List D.Term},wideBs l = false → x ∈ l → wideB x = false
 | y :: l,h,hx=>by
  rw [ZaI,Zlk] at h
  rcases ZjW.1 hx with rfl | hx
  ·exact h.1
  ·exact Zc7 h.2 hx
theorem ZgY:∀ (n:Nat) (t:D.Term),1048600 + cnt t ≤ n → nodeB t = true → Y5 n t = some (wideB t):=by
  intro n
  induction n with
  | zero=>intro t h; omega
  | succ n ih =>
    intro t hn hb
    have hcn:=Xq t
    have hkl:t.Kids.length ≤ 3:=by
      obtain ⟨op,w,m,nm,ks⟩:=t
      obtain ⟨-,hsh⟩:=Y8 hb
      rcases hsh with ⟨-,rfl,-⟩ | ⟨-,rfl,-⟩ | ⟨-,-,-,a,rfl,-⟩ | ⟨-,-,-,-,a,b,rfl,-⟩ | ⟨-,-,-,a,b,c,rfl,-⟩ | ⟨-,-,-,a,b,rfl,-⟩ | ⟨-,-,-,-,a,rfl,-⟩ | ⟨-,-,-,a,rfl,-⟩ <;> simp
    have hone:((if (t.Op == 2) then some default else (YL t.Op)).bind fun x1=>(if ((t.Op == 2) || x1) then (get? t.Kids 0) else some default).bind fun x2=>some (((t.Op == 2) || x1) && (x2.W == 16))) = some (wide1 t):=by
      have hk:(t.Op = 2 ∨ 3 ≤ t.Op ∧ t.Op ≤ 16) → ∃ a l,t.Kids = a :: l:=fun ho=>by
        obtain ⟨op,w,m,nm,ks⟩:=t
        obtain ⟨-,hsh⟩:=Y8 hb
        simp only at ho
        rcases hsh with ⟨rfl,-⟩ | ⟨rfl,-⟩ | ⟨-,-,-,a,rfl,-⟩ | ⟨-,-,-,-,a,b,rfl,-⟩ | ⟨rfl,-⟩ | ⟨rfl,-⟩ | ⟨rfl,-⟩ | ⟨h1,-⟩
        · omega
        · omega
        · exact ⟨_,_,rfl⟩
        · exact ⟨_,_,rfl⟩
        · omega
        · omega
        · omega
        · omega
      unfold wide1 YL
      by_cases h2:t.Op = 2
      · obtain ⟨a, l, hl⟩ := hk (.inl h2)
        simp [h2,hl,g0]
      · have b2 : (t.Op == 2) = false := by simpa using h2
        by_cases h3:3 ≤ t.Op ∧ t.Op ≤ 16
        · obtain ⟨a, l, hl⟩ := hk (.inr h3)
          simp [b2,hl,g0,h3]
        · have : ¬ (t.Op ≥ 3 ∧ t.Op ≤ 16) := h3
          have e:(decide (t.Op ≥ 3) && decide (t.Op ≤ 16)) = false:=by simp; omega
          simp [b2,e,h3]
    rw [Y5,ZaH]
    obtain ⟨y1,hy1,hone⟩:=Zks.1 hone
    obtain ⟨y2,hy2,hone⟩:=Zks.1 hone
    rw [hy1]
    simp only [Zjv]
    rw [hy2]
    simp only [Zjv]
    rw [Option.some.inj hone]
    cases hw1:wide1 t
    · simp only [Zj1, ZjP, ZkJ]
      obtain ⟨r,g1,g2⟩:=Ye (l:=t.Kids) (n:=n) (σ:=Unit) (ρ:=Unit ⊕ Bool) (B:=fun (s1:Int)=>
        if (decide (s1 < (len t.Kids))) then
         (get? t.Kids s1).bind fun x3=>
         (Y5 n x3).bind fun x4=>
         if x4 then
          some (.inr (.inr true))
         else
          some (.inl ((w64 (s1 + 1))))
        else
         some (.inr (.inl ()))) (fun k _=>(k:Int)) (fun ys _=>wideBs ys = wideBs t.Kids ∧ ∀ y ∈ ys,y ∈ t.Kids) (fun r=>r = if wideBs t.Kids = true then (.inr true:Unit ⊕ Bool) else .inl ())
        (fun k x xs a hk hx hlen ⟨h1,h2⟩=>by
          have hd:decide ((k:Int) < len t.Kids) = true:=by rw [Za]; simp; omega
          have hxk:=h2 x (by simp)
          have hc:=Xd hxk
          simp only [hd,Zkd,get?_nat,hx,Zjv,ih x (by omega) (nodeK hb x hxk)]
          rw [ZaI] at h1
          cases hx':wideB x
          · rw [hx'] at h1
            simp only [ZkJ] at h1
            simp only [Zj1,ZjP]
            exact .inl ⟨(),by rw [Zd (by omega) (by omega)]; rfl,h1,fun y hy=>h2 y (by simp [hy])⟩
          · rw [hx'] at h1
            simp only [Zl0] at h1
            exact .inr ⟨_,rfl,by rw [← h1]; rfl⟩)
        (fun a ⟨h1,_⟩=>by
          have hd:decide ((t.Kids.length:Int) < len t.Kids) = false:=by rw [Za]; simp
          simp only [hd,Zj1,ZjP]
          rw [Zay] at h1
          exact ⟨_,rfl,by rw [← h1]; rfl⟩) (a:=()) ⟨rfl,fun _ h=>h⟩ (by omega)
      rw [show ((0:Nat):Int) = 0 from rfl] at g1
      rw [g1,g2]
      cases wideBs t.Kids <;> rfl
    · rfl
theorem Zes {n:Nat} {x:Int} {w:Nat} (hw:w ≤ 16):∀ (d:Nat) (l:List Int),l.length + d = w → d < n → iterN (fun (s3:(List Int))=>
           if (decide ((len s3) < (w:Int))) then
            (app? s3 ([x]:List Int)).bind fun x24=>
            some (.inl (x24))
           else
            some (.inr (s3))
          ) n l = some (l ++ List.replicate d x)
  | 0, l, h, hn => by
    obtain ⟨n,rfl⟩ : ∃ j,n = j + 1:=⟨n - 1,by omega⟩
    rw [iterN]
    rw [Zjz (by rw [Za]; simp; omega)]
    simp
  | d + 1, l, h, hn => by
    obtain ⟨n,rfl⟩ : ∃ j,n = j + 1:=⟨n - 1,by omega⟩
    rw [iterN]
    rw [Zj2 (by rw [Za]; simp; omega),Za6 (by simp; omega)]
    simp only [Zjv]
    rw [Zes hw d (l ++ [x]) (by simp; omega) (by omega)]
    rw [ZjZ,ZjY,← Zl8]
section
variable {n:Nat} [FU n] {s:BS}
def ifin (n:Nat) (p1:D.Term) (ls:List (List Int)) (m:D.builder):Option ((List Int) × D.builder):=
   (get? ls 0).bind fun x8=>
   if (p1.Op == 1) then
    (ZT n x8).bind fun x9=>
    some (x9,(D.builder.mk (D.Circuit.mk m.c.Inputs m.c.Gates) m.line m.full))
   else
    if (p1.Op == 2) then
     (ZM n p1.W 0).bind fun x10=>
     (Zw n (D.builder.mk (D.Circuit.mk m.c.Inputs m.c.Gates) m.line m.full) 4 x10 x8).bind fun x11=>
     some (x11.1,x11.2)
    else
     if (p1.Op == 17) then
      (mk? p1.W (0:Int)).bind fun x12 =>
      (iterN (fun (s2 : Int × (List Int) × Int × Bool × (List D.Gate) × (List (D.Gate × Int))) =>
       if (decide (s2.1 < (len x12))) then
        (get? x8 0).bind fun x13=>
        (get? ls 1).bind fun x14=>
        (get? x14 s2.1).bind fun x15=>
        (get? ls 2).bind fun x16=>
        (get? x16 s2.1).bind fun x17=>
        (Zb (D.builder.mk (D.Circuit.mk s2.2.2.1 s2.2.2.2.2.1) s2.2.2.2.2.2 s2.2.2.2.1) x13 x15 x17).bind fun x18=>
        (set? s2.2.1 s2.1 x18.1).bind fun x19=>
        some (.inl ((w64 (s2.1 + 1)),x19,x18.2.c.Inputs,x18.2.full,x18.2.c.Gates,x18.2.line))
       else
        some (.inr (s2.2.1,s2.2.2.1,s2.2.2.2.1,s2.2.2.2.2.1,s2.2.2.2.2.2))
      ) n (0,x12,m.c.Inputs,m.full,m.c.Gates,m.line)).bind fun (rl2:(List Int) × Int × Bool × (List D.Gate) × (List (D.Gate × Int)))=>
      some (rl2.1,(D.builder.mk (D.Circuit.mk rl2.2.1 rl2.2.2.2.1) rl2.2.2.2.2 rl2.2.2.1))
     else
      if (p1.Op == 18) then
       (get? ls 1).bind fun x20=>
       (app? x20 x8).bind fun x21=>
       some (x21,(D.builder.mk (D.Circuit.mk m.c.Inputs m.c.Gates) m.line m.full))
      else
       if (p1.Op == 19) then
        (cut? x8 p1.N (w64 (p1.N + p1.W))).bind fun x22=>
        some (x22,(D.builder.mk (D.Circuit.mk m.c.Inputs m.c.Gates) m.line m.full))
       else
        if ((p1.Op == 20) || (p1.Op == 21)) then
         if (p1.Op == 21) then
          (get? x8 (w64 ((len x8) - 1))).bind fun x23 =>
          (iterN (fun (s3 : (List Int)) =>
           if (decide ((len s3) < p1.W)) then
            (app? s3 ([x23]:List Int)).bind fun x24=>
            some (.inl (x24))
           else
            some (.inr (s3))
          ) n (x8)).bind fun (rl3:(List Int))=>
          some (rl3,(D.builder.mk (D.Circuit.mk m.c.Inputs m.c.Gates) m.line m.full))
         else
          (iterN (fun (s4 : (List Int)) =>
           if (decide ((len s4) < p1.W)) then
            (app? s4 ([(-1)]:List Int)).bind fun x25=>
            some (.inl (x25))
           else
            some (.inr (s4))
          ) n (x8)).bind fun (rl4:(List Int))=>
          some (rl4,(D.builder.mk (D.Circuit.mk m.c.Inputs m.c.Gates) m.line m.full))
        else
         (get? ls 1).bind fun x26=>
         (Zw n (D.builder.mk (D.Circuit.mk m.c.Inputs m.c.Gates) m.line m.full) p1.Op x8 x26).bind fun x27=>
         some (x27.1,x27.2)
theorem ZhW {t:D.Term} {ls:List (List Int)} {m:D.builder} (hb:nodeB t = true) (hwd:wide1 t = false) (hs:CircP s.1) (hm:RelB m s) (h0:t.Op ≠ 0) (h22:t.Op ≠ 22) (hk:KK s t.Kids ls):∃ m',ifin n t ls m = some ((fin t.Op t.W.toNat t.N.toNat ls s).1,m') ∧ RelB m' (fin t.Op t.W.toNat t.N.toNat ls s).2:=by
  obtain ⟨op,w,mm,nm,ks⟩:=t
  obtain ⟨hw,hsh⟩:=Y8 hb
  simp only at h0 h22 hk ⊢
  have eW:((w.toNat:Nat):Int) = w:=by omega
  unfold ifin
  simp only
  rcases hsh with ⟨rfl,-⟩ | ⟨rfl,-⟩ | ⟨ho,-,-,a,rfl,ha,haw⟩ | ⟨h3,h16,-,-,a,b,rfl,ha,hb',hab,h13,h14⟩ | ⟨rfl,-,-,a,b,c,rfl,ha,hb',hc,ha1,hbw,hcw⟩ | ⟨rfl,-,-,a,b,rfl,ha,hb',habw⟩ | ⟨rfl,-,hm0,hm1,a,rfl,ha,haw⟩ | ⟨ho,-,-,a,rfl,ha,haw⟩
  · exact absurd rfl h0
  · exact absurd rfl h22
  · obtain ⟨la, r1, k1, hn1, rfl⟩ := KK1 hk
    obtain rfl:=KK0 hn1
    have hl:la.length = w.toNat:=by rw [k1.1,haw]
    rw [g0]
    simp only [Zjv]
    unfold fin
    simp only [ZjQ]
    rcases ho with rfl | rfl
    · rw [Zj2 (by rfl), Zj2 (by trivial), Cc.impl_opp hs.lines1 (by omega) k1.2]
      exact ⟨m,rfl,hm⟩
    · have hne:¬ w.toNat = 16:=fun e=>by
        have:a.W = 16:=by omega
        simp [wide1,this] at hwd
      rw [Zjz (by decide),Zj2 (by rfl),Zjz (by decide),Zj2 (by trivial),← eW,Zc3 (by omega),Zdd]
      simp only [Zjv,ZkE]
      rw [Zjz hne]
      obtain ⟨m',e,r⟩:=Cc.impl_op (fuel:=n) hs (op:=4) (a:=List.replicate w.toNat (-1)) (b:=la) (by omega) (by simp [hl]) (by simp; omega) (by simp; omega) (Zb5 hs) k1.2 hm
      have e':Zw n (D.builder.mk (D.Circuit.mk m.c.Inputs m.c.Gates) m.line m.full) 4 (List.replicate w.toNat (-1)) la = _:=e
      rw [e']
      exact ⟨m',rfl,r⟩
  · obtain ⟨la, r1, k1, hn1, rfl⟩ := KK1 hk
    obtain ⟨lb,r2,k2,hn2,rfl⟩:=KK1 hn1
    obtain rfl:=KK0 hn2
    have hA:=ZR ha
    have hla:=k1.1
    have hne:¬ la.length = 16:=fun e=>by
      have:a.W = 16:=by omega
      simp [wide1,this] at hwd
      omega
    unfold fin
    simp only [ZjQ,Zkz,g0,g1,Zjv]
    have bb:∀ k:Int,k ≤ 2 ∨ 17 ≤ k → (op == k) = false:=fun k hk=>by simp; omega
    have cc:∀ k:Int,k ≤ 2 ∨ 17 ≤ k → ¬ op = k:=fun k hk=>by omega
    simp only [bb 1 (by omega),bb 2 (by omega),bb 17 (by omega),bb 18 (by omega),bb 19 (by omega),bb 20 (by omega),bb 21 (by omega),cc 1 (by omega),cc 2 (by omega),cc 17 (by omega),cc 18 (by omega),cc 19 (by omega),cc 20 (by omega),cc 21 (by omega),Zj1,ZjP,Bool.or_self]
    rw [Zjz hne]
    obtain ⟨m',e,r⟩:=Cc.impl_op (fuel:=n) hs (op:=op) (a:=la) (b:=lb) ⟨h3,h16⟩ (by rw [k1.1,k2.1,hab]) (by omega) (by omega) k1.2 k2.2 hm
    have e':Zw n (D.builder.mk (D.Circuit.mk m.c.Inputs m.c.Gates) m.line m.full) op la lb = _:=e
    rw [e']
    exact ⟨m',rfl,r⟩
  · obtain ⟨la, r1, k1, hn1, rfl⟩ := KK1 hk
    obtain ⟨lb,r2,k2,hn2,rfl⟩:=KK1 hn1
    obtain ⟨lc,r3,k3,hn3,rfl⟩:=KK1 hn2
    obtain rfl:=KK0 hn3
    unfold fin
    simp only [ZjQ,Zkz,g0,g1,g2,Zjv]
    rw [Zjz (by decide),Zjz (by decide),Zj2 (by rfl)]
    rw [Zjz (by omega),Zjz (by omega),Zj2 (by trivial)]
    have hla:=k1.1
    have hlb:=k2.1
    have hlc:=k3.1
    rw [ha1] at hla
    rw [hbw] at hlb
    rw [hcw] at hlc
    have hl1:la.length = 1:=by simpa using hla
    have hg0:get? la 0 = some (la.getD 0 0):=by
      obtain ⟨z,hz⟩:=Zlt.1 hl1
      rw [hz]; rfl
    have hc0:litN (lines s.1) (la.getD 0 0) = true:=k1.2 _ (Cc.getD_mem (by omega))
    have hz:(lb.zip lc).length = w.toNat:=by rw [Zkx,hlb,hlc,Zlz]
    rw [show mk? w (0:Int) = some (List.replicate w.toNat 0) from by unfold mk?; rw [Zj2 ⟨by omega,by unfold room; omega⟩]]
    simp only [Zjv]
    obtain ⟨m',e,r⟩:=Cc.impl_seq (fuel:=n) (B:=(fun (s2:Int × (List Int) × Int × Bool × (List D.Gate) × (List (D.Gate × Int)))=>
       if (decide (s2.1 < (len (List.replicate w.toNat (0:Int))))) then
        (get? la 0).bind fun x13=>
        (get? lb s2.1).bind fun x15=>
        (get? lc s2.1).bind fun x17=>
        (Zb (D.builder.mk (D.Circuit.mk s2.2.2.1 s2.2.2.2.2.1) s2.2.2.2.2.2 s2.2.2.2.1) x13 x15 x17).bind fun x18=>
        (set? s2.2.1 s2.1 x18.1).bind fun x19=>
        some (.inl ((w64 (s2.1 + 1)),x19,x18.2.c.Inputs,x18.2.full,x18.2.c.Gates,x18.2.line))
       else
        some (.inr (s2.2.1,s2.2.2.1,s2.2.2.2.1,s2.2.2.2.2.1,s2.2.2.2.2.2)))) hs (by omega) (Zho hs hc0 k2.2 k3.2) (L0:=List.replicate w.toNat 0) (by rw [hz,Zkq]) (fun j L m1 s' x hx hc' hg hr hL _=>by
          have hj:j < w.toNat:=by have:=(Zjy.1 hx).1; omega
          have hz2:=Cc.zip_mem hx
          obtain ⟨m4,e4,r4⟩:=Cc.impl_if hc' (X3 hc0 hg) (X3 (k2.2 _ (Zj9 hz2.1)) hg) (X3 (k3.2 _ (Zj9 hz2.2)) hg) m1 hr
          have e4':Zb (D.builder.mk (D.Circuit.mk m1.c.Inputs m1.c.Gates) m1.line m1.full) (la.getD 0 0) x.1 x.2 = _:=e4
          refine ⟨m4,?_,r4⟩
          simp only
          rw [Zj2 (by rw [Za]; simp; omega),hg0]
          simp only [Zjv]
          rw [get?_nat,get?_nat,hz2.1,hz2.2]
          simp only [Zjv,e4']
          rw [set?_nat (by omega)]
          simp only [Zjv]
          rw [Zd (by omega) (by omega)]
          rfl) (fun L m1=>by
          simp only
          rw [Zjz (by rw [Za]; simp; omega)]) hm
    rw [e]
    exact ⟨m',rfl,r⟩
  · obtain ⟨la, r1, k1, hn1, rfl⟩ := KK1 hk
    obtain ⟨lb,r2,k2,hn2,rfl⟩:=KK1 hn1
    obtain rfl:=KK0 hn2
    have hA:=ZR ha
    have hB:=ZR hb'
    have hla:=k1.1
    have hlb:=k2.1
    unfold fin
    simp only [ZjQ,Zkz,g0,g1,Zjv]
    rw [Zjz (by decide),Zjz (by decide),Zjz (by decide),Zj2 (by rfl)]
    rw [Zjz (by omega),Zjz (by omega),Zjz (by omega),Zj2 (by trivial)]
    rw [Za6 (by omega)]
    exact ⟨m,rfl,hm⟩
  · obtain ⟨la, r1, k1, hn1, rfl⟩ := KK1 hk
    obtain rfl:=KK0 hn1
    have hA:=ZR ha
    have hla:=k1.1
    unfold fin
    simp only [ZjQ,g0,Zjv]
    rw [Zjz (by decide),Zjz (by decide),Zjz (by decide),Zjz (by decide),Zj2 (by rfl)]
    rw [Zjz (by omega),Zjz (by omega),Zjz (by omega),Zjz (by omega),Zj2 (by trivial)]
    have:=Zga (l:=la) (m:=mm.toNat) (w:=w.toNat) (by omega) (by omega)
    rw [show ((mm.toNat:Nat):Int) = mm by omega,eW] at this
    rw [this]
    exact ⟨m,rfl,hm⟩
  · obtain ⟨la, r1, k1, hn1, rfl⟩ := KK1 hk
    obtain rfl:=KK0 hn1
    have hA:=ZR ha
    have hla:=k1.1
    have hpad:∀ x:Int,_:=fun x=>Zes (n:=n) (x:=x) (w:=w.toNat) (by omega) (w.toNat - la.length) la (by omega) (by have:=FU.le (n:=n); omega)
    rw [eW] at hpad
    unfold fin
    simp only [ZjQ,g0,Zjv]
    rcases ho with rfl | rfl
    · rw [Zjz (by decide), Zjz (by decide), Zjz (by decide), Zjz (by decide), Zjz (by decide), Zj2 (by rfl), Zjz (by decide)]
      rw [Zjz (by omega),Zjz (by omega),Zjz (by omega),Zjz (by omega),Zjz (by omega),Zj2 (by trivial)]
      rw [hpad]
      exact ⟨m,rfl,hm⟩
    · rw [Zjz (by decide), Zjz (by decide), Zjz (by decide), Zjz (by decide), Zjz (by decide), Zj2 (by rfl), Zj2 (by rfl)]
      rw [Zjz (by omega),Zjz (by omega),Zjz (by omega),Zjz (by omega),Zjz (by omega),Zjz (by omega),Zj2 (by trivial)]
      rw [ZhB (by omega) (by omega)]
      simp only [Zjv]
      rw [hpad]
      exact ⟨m,rfl,hm⟩
end
def MapOk (vs:List D.Value) (mp:List (Str × List Int)):Prop:=∀ v ∈ vs,v.Name.bytes.length ≤ 1000 ∧ (mp.lookup v.Name).getD [] = varL vs v.Name v.W.toNat
section
variable {vs:List D.Value} (hp:vs.Pairwise fun x y=>x.Name ≠ y.Name) {mp:List (Str × List Int)} (hmp:MapOk vs mp)
include hp hmp
theorem Zhz:∀ (n:Nat) (t:D.Term) (s:BS) (m:D.builder),1048600 + cnt t ≤ n → nodeB t = true → wideB t = false → TV vs t → CircP s.1 → VF vs s.1 → RelB m s → ∃ m',Z7 n m t (some mp) = some ((nP vs t s).1,m') ∧ RelB m' (nP vs t s).2:=by
  intro n
  induction n with
  | zero=>intro t s m h; omega
  | succ n ih =>
    intro t s m hn hb hwd ht hs hv hm
    haveI:FU n:=⟨by omega⟩
    have hw:=ZR hb
    have hcn:=Xq t
    have eW:((t.W.toNat:Nat):Int) = t.W:=by omega
    rw [ZaH,Zlk] at hwd
    rw [Z7,ZfI]
    by_cases h0:t.Op = 0
    · rw [Zj2 (by simpa using h0), Zj2 h0, ← eW, Zc3 (by omega)]
      simp only [Zjv,ZkE]
      exact ⟨m,rfl,hm⟩
    rw [Zjz (by simpa using h0),Zjz h0]
    by_cases h22:t.Op = 22
    · rw [Zj2 (by simpa using h22), Zj2 h22]
      obtain ⟨v,hv1,hv2,hv3⟩:=ht (t.Name,t.W) (by rw [XU,Zj2 h22]; simp)
      simp only at hv2 hv3
      obtain ⟨q1,q2⟩:=hmp v hv1
      rw [hv2] at q1 q2
      rw [hv3] at q2
      have e:mgeto? fitS ([]:List Int) (some mp) t.Name = some (varL vs t.Name t.W.toNat):=by
        unfold mgeto? mget?
        rw [Zj2 (by unfold fitS; simp; omega)]
        exact congrArg some q2
      rw [e]
      simp only [Zjv]
      rw [show Ze (varL vs t.Name t.W.toNat) = some (varL vs t.Name t.W.toNat) from by unfold Ze; rw [Za6 (by rw [ZeI]; simp; omega)]; rfl]
      exact ⟨m,rfl,hm⟩
    rw [Zjz (by simpa using h22),Zjz h22]
    have hkg:∀ x ∈ t.Kids,∀ s:BS,CircP s.1 → VF vs s.1 → GoodL s x.W.toNat (nP vs x s):=fun x hx s' hs' hv'=>Zbi hp _ x s' (ZjF _) (nodeK hb x hx) (Zbr ht h22 hx) hs' hv'
    obtain ⟨q1,q2,q3⟩:=ZaJ t.Kids s hkg hs hv
    have hkl:t.Kids.length ≤ 3:=by
      obtain ⟨op,w,m,nm,ks⟩:=t
      obtain ⟨-,hsh⟩:=Y8 hb
      rcases hsh with ⟨-,rfl,-⟩ | ⟨-,rfl,-⟩ | ⟨-,-,-,a,rfl,-⟩ | ⟨-,-,-,-,a,b,rfl,-⟩ | ⟨-,-,-,a,b,c,rfl,-⟩ | ⟨-,-,-,a,b,rfl,-⟩ | ⟨-,-,-,-,a,rfl,-⟩ | ⟨-,-,-,a,rfl,-⟩ <;> simp
    rw [show mk? (len t.Kids) (([]:List Int):List Int) = some (List.replicate t.Kids.length []) from by rw [Za]; unfold mk?; rw [Zj2 ⟨by omega,by unfold room; omega⟩]; simp]
    simp only [Zjv]
    obtain ⟨r,g1,m',rfl,g2⟩:=Ye (l:=t.Kids) (n:=n) (σ:=List (List Int) × D.builder) (ρ:=Int × Bool × (List D.Gate) × (List (D.Gate × Int)) × (List (List Int))) (B:=fun (s1:Int × Int × Bool × (List D.Gate) × (List (D.Gate × Int)) × (List (List Int)))=>
      if (decide (s1.1 < (len t.Kids))) then
       (get? t.Kids s1.1).bind fun x5=>
       (Z7 n (D.builder.mk (D.Circuit.mk s1.2.1 s1.2.2.2.1) s1.2.2.2.2.1 s1.2.2.1) x5 (some mp)).bind fun x6=>
       (set? s1.2.2.2.2.2 s1.1 x6.1).bind fun x7=>
       some (.inl ((w64 (s1.1 + 1)),x6.2.c.Inputs,x6.2.full,x6.2.c.Gates,x6.2.line,x7))
      else
       some (.inr (s1.2.1,s1.2.2.1,s1.2.2.2.1,s1.2.2.2.2.1,s1.2.2.2.2.2))) (fun k a=>((k:Int),a.2.c.Inputs,a.2.full,a.2.c.Gates,a.2.line,a.1))
      (fun ys a=>∃ (pre:List (List Int)) (s':BS),a.1 = pre ++ List.replicate ys.length [] ∧ pre ++ (nPs vs ys s').1 = (nPs vs t.Kids s).1 ∧ (nPs vs ys s').2 = (nPs vs t.Kids s).2 ∧ RelB a.2 s' ∧ CircP s'.1 ∧ VF vs s'.1 ∧ pre.length + ys.length = t.Kids.length ∧ ∀ y ∈ ys,y ∈ t.Kids)
      (fun r=>∃ m':D.builder,r = (m'.c.Inputs,m'.full,m'.c.Gates,m'.line,(nPs vs t.Kids s).1) ∧ RelB m' (nPs vs t.Kids s).2)
      (fun k x xs a hk hx hlen' ⟨pre,s',h0,h1,h2,hr,h3,h4,h5,h6⟩=>by
        have hd:decide ((k:Int) < len t.Kids) = true:=by rw [Za]; simp; omega
        have hxk:=h6 x (by simp)
        have hc:=Xd hxk
        obtain ⟨m1,e,r1⟩:=ih x s' a.2 (by omega) (nodeK hb x hxk) (Zc7 hwd.2 hxk) (Zbr ht h22 hxk) h3 h4 hr
        have e':Z7 n (D.builder.mk (D.Circuit.mk a.2.c.Inputs a.2.c.Gates) a.2.line a.2.full) x (some mp) = _:=e
        have g:=hkg x hxk s' h3 h4
        simp only [ZjT] at h5 hlen'
        have hpk:pre.length = k:=by omega
        have hset:set? a.1 (k:Int) (nP vs x s').1 = some ((pre ++ [(nP vs x s').1]) ++ List.replicate xs.length []):=by
          rw [h0,set?_nat (by simp; omega),Zky _ _ (by omega),hpk,ZkG,ZjT,Zl8,ZkO,ZjZ,ZjY]
        simp only [hd,Zkd,get?_nat,hx,Zjv,e',hset]
        rw [Zd (by omega) (by omega)]
        rw [ZbD] at h1 h2
        exact .inl ⟨((pre ++ [(nP vs x s').1]) ++ List.replicate xs.length [],m1),rfl,pre ++ [(nP vs x s').1],(nP vs x s').2,rfl,by rw [← h1]; simp,h2,r1,g.circ,h4.mono g.grow,by simp; omega,fun y hy=>h6 y (by simp [hy])⟩)
      (fun a ⟨pre,s',h0,h1,h2,hr,h3,h4,h5,h6⟩=>by
        have hd:decide ((t.Kids.length:Int) < len t.Kids) = false:=by rw [Za]; simp
        simp only [hd,Zj1,ZjP]
        rw [ZdM] at h1 h2
        simp only [Zk3,ZkM,List.replicate_zero] at h1 h0
        exact ⟨_,rfl,a.2,by rw [h0,h1],by rw [← h2]; exact hr⟩) (a:=(List.replicate t.Kids.length [],m)) ⟨[],s,by simp,by simp,rfl,hm,hs,hv,by simp,fun _ h=>h⟩ (by omega)
    rw [show ((0:Nat):Int) = 0 from rfl] at g1
    rw [show ((List.replicate t.Kids.length ([]:List Int),m).2) = m from rfl,show ((List.replicate t.Kids.length ([]:List Int),m).1) = List.replicate t.Kids.length [] from rfl] at g1
    rw [g1]
    simp only [Zjv]
    exact ZhW hb hwd.1 q1 g2 h0 h22 q3
end
open Cc (BS LS CircP Grow GoodL Good litN lines negs seqP ifP opP net RelB FOk FU andP orP xorP addP accP mulK divK shP shK)
theorem Zal {s:BS} {a b:Int} (h:s.2 = true):(andP s a b).2.2 = true:=by
 unfold andP
 split
 ·exact h
 split
 ·exact h
 split
 ·exact h
 split
 ·exact h
 split
 ·rfl
 ·exact h
theorem ZeS {s:BS} {a b:Int} (h:s.2 = true):(orP s a b).2.2 = true:=Zal h
theorem ZdL {s:BS} {a b:Int} (h:s.2 = true):(xorP s a b).2.2 = true:=ZeS (Zal (Zal h))
theorem ZfO {s:BS} {c a b:Int} (h:s.2 = true):(ifP s c a b).2.2 = true:=ZeS (Zal (Zal h))
theorem Zhy {α:Type} {f:BS → α → Int × BS} (hf:∀ s x,s.2 = true → (f s x).2.2 = true):∀ {l:List α} {t:LS},t.2.2 = true → (l.foldl (fun t x=>(t.1 ++ [(f t.2 x).1],(f t.2 x).2)) t).2.2 = true
 | [],t,h=>h
 | x :: l,t,h=>Zhy hf (l:=l) (t:=(t.1 ++ [(f t.2 x).1],(f t.2 x).2)) (hf _ _ h)
theorem Zae {α:Type} {f:BS → α → Int × BS} (hf:∀ s x,s.2 = true → (f s x).2.2 = true) {l:List α} {s:BS} (h:s.2 = true):(seqP f s l).2.2 = true:=Zhy hf (t:=([],s)) h
theorem ZfM {α:Type} {f:BS → Int → α → Int × BS} (hf:∀ s c x,s.2 = true → (f s c x).2.2 = true):∀ {l:List α} {s:BS} {c:Int},s.2 = true → (accP f s c l).2.2 = true:=by
 have:∀ {l:List α} {t:Int × BS},t.2.2 = true → (l.foldl (fun t x=>f t.2 t.1 x) t).2.2 = true:=fun {l}=>by
  induction l with
  | nil=>intro t h; exact h
  | cons x l ih=>intro t h; exact ih (hf _ _ _ h)
 exact fun {l s c} h=>this (t:=(c,s)) h
theorem Zcb {s:BS} {a b:List Int} {c:Int} (h:s.2 = true):(addP s a b c).2.2.2 = true:=by
 have:∀ {l:List (Int × Int)} {t:Cc.AS},t.2.2.2 = true → (l.foldl Cc.addStep t).2.2.2 = true:=fun {l}=>by
  induction l with
  | nil=>intro t h; exact h
  | cons x l ih=>intro t h; exact ih (ZeS (Zal (Zal (ZdL (ZdL h)))))
 exact this (t:=([],c,s)) h
theorem ZhN {s:BS} {a b:List Int} (h:s.2 = true):∀ k,(mulK s a b k).2.2 = true
 | 0=>h
 | k + 1=>by rw [Cc.mulK_succ]; exact Zcb (Zae (fun s x h=>Zal h) (ZhN h k))
theorem Zf6 {s:BS} {a b:List Int} (h:s.2 = true):∀ k,(divK s a b k).2.2.2 = true
 | 0=>h
 | k + 1=>by rw [Cc.divK_succ]; exact Zae (fun s x h=>ZfO h) (Zcb (Zf6 h k))
theorem ZhK {s:BS} {a b:List Int} {L:Bool} {fill:Int} (h:s.2 = true):∀ k,(shK s a b L fill k).2.2 = true
 | 0=>h
 | k + 1=>by rw [Cc.shK_succ]; exact Zae (fun s x h=>ZfO h) (ZhK h k)
theorem Zh0 {s:BS} {a b:List Int} {L:Bool} {fill:Int} (h:s.2 = true):(shP s a b L fill).2.2 = true:=Zae (fun s x h=>ZfO h) (ZfM (fun s c x h=>ZeS h) (ZhK h _))
theorem YC {c:Prop} [Decidable c] {x y:LS} (h1:x.2.2 = true) (h2:y.2.2 = true):(if c then x else y).2.2 = true:=by split <;> assumption
theorem Zjm {s:BS} {op:Int} {a b:List Int} (h:s.2 = true):(opP s op a b).2.2 = true:=by
 unfold opP
 exact YC (Zcb h) (YC (Zcb h) (YC (ZhN h _) (YC (Zf6 h _) (YC (Zf6 h _) (YC (Zae (fun s x h=>Zal h) h) (YC (Zae (fun s x h=>ZeS h) h) (YC (Zae (fun s x h=>ZdL h) h) (YC (Zh0 h) (YC (Zh0 h) (YC (Zh0 h) (YC (ZfM (fun s c x h=>Zal (ZdL h)) h) (YC (Zcb h) (Zcb h)))))))))))))
theorem ZhY {op:Int} {w m:Nat} {ls:List (List Int)} {s:BS} (h:s.2 = true):(fin op w m ls s).2.2 = true:=by
 unfold fin
 repeat' split
 all_goals first | exact h | rfl | exact Zjm h | exact Zae (fun s x h=>ZfO h) h
mutual
theorem Zjj (vs:List D.Value):∀ (t:D.Term) (s:BS),s.2 = true → (nP vs t s).2.2 = true
 | ⟨op,w,m,nm,ks⟩,s,h=>by
  rw [nP]
  split
  ·exact h
  split
  ·exact h
  ·exact ZhY (Zff vs ks s h)
theorem Zff (vs:List D.Value):∀ (l:List D.Term) (s:BS),s.2 = true → (nPs vs l s).2.2 = true
 | [],s,h=>by rw [nPs]; exact h
 | t :: l,s,h=>by rw [nPs]; exact Zff vs l _ (Zjj vs t s h)
end
theorem ZgB {vs:List D.Value} (hp:vs.Pairwise fun x y=>x.Name ≠ y.Name):∀ (n:Nat) (t:D.Term) (s:BS),cnt t ≤ n → nodeB t = true → wideB t = true → TV vs t → CircP s.1 → VF vs s.1 → (nP vs t s).2.2 = true:=by
 intro n
 induction n with
 | zero=>intro t s h; have:=Xq t; omega
 | succ n ih=>
  intro t s hc hb hwd ht hs hv
  have hcn:=Xq t
  rw [ZfI]
  by_cases h0:t.Op = 0
  ·exfalso
   obtain ⟨op,w,m,nm,ks⟩:=t
   obtain ⟨-,hsh⟩:=Y8 hb
   simp only at h0
   subst h0
   rcases hsh with ⟨-,rfl,-⟩ | ⟨h,-⟩ | ⟨h,-⟩ | ⟨h,-⟩ | ⟨h,-⟩ | ⟨h,-⟩ | ⟨h,-⟩ | ⟨h,-⟩
   ·rw [ZaH] at hwd; simp [wide1,Zay] at hwd
   all_goals omega
  rw [Zjz h0]
  by_cases h22:t.Op = 22
  ·exfalso
   obtain ⟨op,w,m,nm,ks⟩:=t
   obtain ⟨-,hsh⟩:=Y8 hb
   simp only at h22
   subst h22
   rcases hsh with ⟨h,-⟩ | ⟨-,rfl,-⟩ | ⟨h,-⟩ | ⟨-,h,-⟩ | ⟨h,-⟩ | ⟨h,-⟩ | ⟨h,-⟩ | ⟨h,-⟩
   ·omega
   ·rw [ZaH] at hwd; simp [wide1,Zay] at hwd
   all_goals omega
  rw [Zjz h22]
  have hkg:∀ x ∈ t.Kids,∀ s:BS,CircP s.1 → VF vs s.1 → GoodL s x.W.toNat (nP vs x s):=fun x hx s' hs' hv'=>Zbi hp _ x s' (ZjF _) (nodeK hb x hx) (Zbr ht h22 hx) hs' hv'
  obtain ⟨q1,q2,q3⟩:=ZaJ t.Kids s hkg hs hv
  rw [ZaH,Zkb] at hwd
  rcases hwd with hwd | hwd
  ·
   obtain ⟨op,w,m,nm,ks⟩:=t
   obtain ⟨hw,hsh⟩:=Y8 hb
   unfold wide1 at hwd
   simp only [Zj0,Zkb,Zkr,Zj5] at hwd
   obtain ⟨ho,hk⟩:=hwd
   simp only at h0 h22 q1 q2 q3 ⊢
   rcases hsh with ⟨rfl,-⟩ | ⟨rfl,-⟩ | ⟨ho',-,-,a,rfl,ha,haw⟩ | ⟨h3,h16,-,-,a,b,rfl,ha,hb',hab,h13,h14⟩ | ⟨rfl,-⟩ | ⟨rfl,-⟩ | ⟨rfl,-⟩ | ⟨ho',-⟩
   ·omega
   ·omega
   ·have h2 : op = 2 := by omega
    subst h2
    simp only [Zkr] at hk
    unfold fin
    rw [Zjz (by omega),Zj2 rfl,Zj2 (by omega)]
   ·simp only [Zkr] at hk
    obtain ⟨la,r1,k1,hn1,e⟩:=KK1 q3
    have hl:((nPs vs [a,b] s).1.getD 0 []).length = 16:=by rw [e,ZjQ,k1.1,hk]; rfl
    unfold fin
    rw [Zjz (by omega),Zjz (by omega),Zjz (by omega),Zjz (by omega),Zjz (by omega),Zjz (by omega),Zjz (by omega),Zj2 hl]
   all_goals omega
  ·refine ZhY ?_
   have:∀ (l:List D.Term) (s:BS),(∀ x ∈ l,x ∈ t.Kids) → wideBs l = true → CircP s.1 → VF vs s.1 → (nPs vs l s).2.2 = true:=fun l=>by
    induction l with
    | nil=>intro s _ h; rw [Zay] at h; cases h
    | cons x l ihl=>
     intro s hm h hs' hv'
     rw [ZaI,Zkb] at h
     rw [ZbD]
     have hx:=hm x (by simp)
     have g:=hkg x hx s hs' hv'
     rcases h with h | h
     ·exact Zff vs l _ (ih x s (by have:=Xd hx; omega) (nodeK hb x hx) h (Zbr ht h22 hx) hs' hv')
     ·exact ihl _ (fun y hy=>hm y (by simp [hy])) h g.circ (hv'.mono g.grow)
   exact this t.Kids s (fun _ h=>h) hwd hs hv
theorem ZeG {t:D.Term} (h:nodeB t = true) (ho:t.Op = 22):t.Name.bytes.length ≤ 8 ∧ t.Kids = []:=by
 rw [XV,Zj0] at h
 have h:=h.1
 unfold locB shB at h
 simp only [ho,Zj0] at h
 have h:=h.2
 simp [nameB] at h
 exact ⟨by omega,by simpa using h.1⟩
theorem collect:∀ (n:Nat) (t:D.Term) (g:List (Str × Int)),nodeB t = true → msz t ≤ 1048576 → g.length + (vrs t).length ≤ 1000 → 1048580 + cnt t ≤ n → ZJ n t (some g) = some (some ((vrs t).reverse ++ g)):=by
 intro n
 induction n with
 | zero=>intro t g _ _ _ _; omega
 | succ n ih=>
  intro t g hb hs hg hn
  have hz:=XW t
  have hcn:=Xq t
  rw [ZJ]
  by_cases o1:t.Op = 22
  ·obtain ⟨h1, h2⟩ := ZeG hb o1
   have hv:vrs t = [(t.Name,t.W)]:=by rw [XU,Zj2 o1]
   have c1:(t.Op == 22) = true:=by simpa using o1
   have hw:=ZR hb
   rw [hv] at hg
   simp only [c1,Zkd,Zjv,put1 (g:=g) (s:=t.Name) (by omega) hw (by simp at hg; omega)]
   obtain ⟨m,rfl⟩ : ∃ m,n = m + 1:=⟨n - 1,by omega⟩
   rw [h2,hv]
   rfl
  ·have c1 : (t.Op == 22) = false := by simpa using o1
   have hv:vrs t = vrss t.Kids:=by rw [XU,Zjz o1]
   simp only [c1,Zj1,ZjP]
   rw [XV,Zj0,Yh,ZjB] at hb
   rw [hv] at hg ⊢
   obtain ⟨r,g1,g2⟩:=Ye (l:=t.Kids) (n:=n) (σ:=Option (List (Str × Int))) (ρ:=Option (List (Str × Int))) (B:=fun (s2:Int × (Option (List (Str × Int))))=>
     if (decide (s2.1 < (len t.Kids))) then
      (get? t.Kids s2.1).bind fun x5=>
      (ZJ n x5 s2.2).bind fun x6=>
      some (.inl ((w64 (s2.1 + 1)),x6))
     else
      some (.inr (s2.2))) (fun k a=>((k:Int),a)) (fun ys a=>∃ ga,a = some ga ∧ (vrss ys).reverse ++ ga = (vrss t.Kids).reverse ++ g ∧ ga.length + (vrss ys).length ≤ 1000 ∧ ∀ x ∈ ys,x ∈ t.Kids)
     (fun r=>r = some ((vrss t.Kids).reverse ++ g))
     (fun k x xs a hk' hx hlen ⟨ga, i0, i1, i2, i3⟩ => by
      have hxk:=i3 x (by simp)
      have:=XC hxk
      have:=Xd hxk
      have hd:decide ((k:Int) < len t.Kids) = true:=by rw [Za]; simp; omega
      rw [Xh,ZjC] at i2
      rw [Xh,List.reverse_append] at i1
      subst i0
      simp only [hd,Zkd,get?_nat,hx,Zjv]
      rw [ih x ga (hb.2 x hxk) (by omega) (by omega) (by omega)]
      refine .inl ⟨some ((vrs x).reverse ++ ga),by simp only [Zjv]; rw [Zd (by omega) (by omega)]; rfl,_,rfl,by rw [← i1,ZjZ],by simp; omega,fun y hy=>i3 y (by simp [hy])⟩)
     (fun a ⟨ga, i0, i1, i2, i3⟩ => by
      have hd:decide ((t.Kids.length:Int) < len t.Kids) = false:=by rw [Za]; simp
      simp only [hd,Zj1,ZjP]
      rw [Zar] at i1
      exact ⟨_,rfl,by rw [i0,← i1]; rfl⟩) (a:=some g) ⟨g,rfl,rfl,hg,fun x hx=>hx⟩ (by omega)
   rw [show ((0:Nat):Int) = 0 from rfl] at g1
   rw [g1,g2]; rfl
theorem Zdr:∀ {l g g':List (Str × Int)},runV g l = some g' → (∀ p:Str × Int,g.lookup p.1 = some p.2 → g'.lookup p.1 = some p.2) ∧ ∀ p ∈ l,g'.lookup p.1 = some p.2
 | [],g,g',h=>by simp only [runV,Option.some.injEq] at h; subst h; exact ⟨fun p hp=>hp,fun p hp=>by cases hp⟩
 | v :: l,g,g',h=>by
  simp only [runV,Zks] at h
  obtain ⟨g1,h1,h2⟩:=h
  obtain ⟨i1,i2⟩:=Zdr h2
  have hv:g1.lookup v.1 = some v.2:=by
   unfold stp at h1
   split at h1
   ·rename_i w hw
    split at h1
    ·rename_i e; cases h1; rw [hw,e]
    ·cases h1
   ·cases h1; rw [ZjO]; simp
  have hk:∀ p:Str × Int,g.lookup p.1 = some p.2 → g1.lookup p.1 = some p.2:=fun p hp=>by
   unfold stp at h1
   split at h1
   ·split at h1
    ·cases h1; exact hp
    ·cases h1
   ·rename_i hn
    cases h1
    have:p.1 ≠ v.1:=fun e=>by rw [e,hn] at hp; cases hp
    rw [ZjO]
    have:(p.1 == v.1) = false:=by simpa using this
    rw [this]; exact hp
  refine ⟨fun p hp=>i1 p (hk p hp),fun p hp=>?_⟩
  rcases ZjW.1 hp with rfl | hp
  ·exact i1 p hv
  ·exact i2 p hp
theorem ZcO {κ β:Type} [BEq κ] [LawfulBEq κ] {x:κ} {y:β}:∀ {m:List (κ × β)},m.lookup x = some y → (x,y) ∈ m
 | [],h=>by cases h
 | (u,z) :: m,h=>by
  rw [ZjO] at h
  by_cases e:x == u
  ·rw [e] at h
   simp only [Option.some.injEq] at h
   rw [eq_of_beq e,h]; exact Zj6
  ·simp only [e] at h
   exact ZjA _ (ZcO h)
theorem Zdz {κ β:Type} [BEq κ] [LawfulBEq κ] {x:κ} {y:β}:∀ {m:List (κ × β)},(x,y) ∈ m → ∃ z,m.lookup x = some z
 | (u,z) :: m,h=>by
  rw [ZjO]
  by_cases e:x == u
  ·rw [e]; exact ⟨z,rfl⟩
  ·simp only [e]
   rcases ZjW.1 h with h | h
   ·simp only [Prod.mk.injEq] at h
    rw [h.1] at e; simp at e
   ·exact Zdz h
theorem ZgT {t:D.Term} (h:termB t = true) (hs:msz t ≤ 1048576):XG fuel t = some (vtab (vrs t).reverse):=by
 unfold XG
 rw [Zdw hs,h]
 unfold termB at h
 simp only [Zj0,Zj5] at h
 have hv:=Zc1 t
 simp only [Zjv,Zkk,Zj1,ZjP]
 rw [collect fuel t [] h.1.2 hs (by simp; omega) (by unfold fuel; omega)]
 simp only [Zjv,Zk3]
 rw [Zj2 (by simp; omega)]
instance:FU fuel:=⟨by unfold fuel; omega⟩
theorem Ze9:∀ {l g g':List (Str × Int)},runV g l = some g' → ∀ p:Str × Int,g'.lookup p.1 = some p.2 → g.lookup p.1 = some p.2 ∨ p ∈ l
 | [],g,g',h,p,hp=>by simp only [runV,Option.some.injEq] at h; subst h; exact .inl hp
 | v :: l,g,g',h,p,hp=>by
  simp only [runV,Zks] at h
  obtain ⟨g1,h1,h2⟩:=h
  rcases Ze9 h2 p hp with h3 | h3
  ·unfold stp at h1
   split at h1
   ·split at h1
    ·cases h1; exact .inl h3
    ·cases h1
   ·cases h1
    obtain ⟨s,w⟩:=p
    obtain ⟨s',w'⟩:=v
    simp only [List.lookup] at h3
    split at h3
    ·rename_i e
     have e:s = s':=by simpa using e
     cases h3
     exact .inr (by rw [e]; simp)
    ·exact .inl h3
  ·exact .inr (ZjA _ h3)
def zv (v:D.Value):D.Value:=⟨v.Name,v.W,0⟩
structure VL (t:D.Term) (L:List D.Value):Prop where
 eq:L.map zv = vtab (vrs t).reverse
 nm:L.Pairwise fun x y=>x.Name ≠ y.Name
 mem:∀ v ∈ L,(v.Name,v.W) ∈ vrs t
 all:TV L t
theorem ZiP {a b:Str} (h:Str.ltb a b = true):a ≠ b:=fun e=>by
 subst e
 have:=Za4 a
 rw [this] at h; cases h
theorem Zfl {t:D.Term} (h:termB t = true) (hs:msz t ≤ 1048576):∃ L,Y2 fuel t = some L ∧ VL t L:=by
 have hb:=h
 unfold termB at hb
 simp only [Zj0,Zj5] at hb
 obtain ⟨⟨hc,hn⟩,hr⟩:=hb
 have hv:=Zc1 t
 obtain ⟨l',b,e,hT,hF⟩:=ZdD fuel t [] [] hs ⟨List.Pairwise.nil,rfl,fun v hv=>(by cases hv),fun s w h=>(by simp at h)⟩ (by simp; omega) (by unfold fuel; omega)
 cases b with
 | false=>rw [hF rfl] at hr; cases hr
 | true=>
  obtain ⟨g',hg,hR⟩:=hT rfl
  obtain ⟨r1,r2,r3,r4⟩:=hR
  have hlk:=(Zdr hg).2
  have hmem:∀ s w,g'.lookup s = some w → (s,w) ∈ vrs t:=fun s w h=>by
   rcases Ze9 hg (s,w) h with h | h
   ·simp at h
   ·exact h
  have hrev:∀ s w,(vrs t).reverse.lookup s = some w ↔ g'.lookup s = some w:=fun s w=>by
   constructor
   ·intro h
    exact hlk (s,w) (ZlJ.1 (ZcO h))
   ·intro h
    obtain ⟨z,hz⟩:=Zdz (ZlJ.2 (hmem s w h))
    have:=hlk (s,z) (ZlJ.1 (ZcO hz))
    rw [h] at this
    rw [hz,Option.some.inj this]
  refine ⟨l',?_,?_,?_,?_,?_⟩
  ·unfold Y2
   rw [Zbg hs,h]
   simp only [Zjv,Zkk,Zj1,ZjP]
   rw [e]; rfl
  ·refine Zh7 (List.pairwise_map.2 r1) (ZaG _) fun v => ?_
   rw [ZaB,Zko]
   constructor
   ·rintro ⟨x, hx, rfl⟩
    exact ⟨(hrev _ _).2 (r3 x hx),rfl⟩
   ·rintro ⟨h1, h2⟩
    have h1':=(hrev _ _).1 h1
    obtain ⟨x,hx,hxn⟩:=r4 _ _ h1'
    have:=r3 x hx
    rw [hxn,h1'] at this
    refine ⟨x,hx,?_⟩
    cases v
    simp only [zv] at *
    rw [hxn,← Option.some.inj this,h2]
  ·exact r1.imp fun h=>ZiP h
  ·exact fun v hv=>hmem _ _ (r3 v hv)
  ·intro p hp
   have:=hlk p hp
   obtain ⟨x,hx,hxn⟩:=r4 _ _ this
   have h2:=r3 x hx
   rw [hxn,this] at h2
   exact ⟨x,hx,hxn,(Option.some.inj h2).symm⟩
def bitsV (l:List D.Value) (a:Int):Int:=(l.map (·.W)).foldl (· + ·) a
theorem ZgO {L:List D.Value} (hl:L.length ≤ 1000) (hw:∀ v ∈ L,1 ≤ v.W ∧ v.W ≤ 16):Xa fuel L = some (bitsV L 0):=by
  unfold Xa
  obtain ⟨r,g1,g2⟩:=Ye (l:=L) (n:=fuel) (σ:=Int) (ρ:=Int) (B:=fun (s1:Int × Int)=>
    if (decide (s1.2 < (len L))) then
     (get? L s1.2).bind fun x1=>
     some (.inl ((w64 (s1.1 + x1.W)),(w64 (s1.2 + 1))))
    else
     some (.inr (s1.1))) (fun k a=>(a,(k:Int))) (fun ys a=>bitsV ys a = bitsV L 0 ∧ 0 ≤ a ∧ a ≤ 16 * (L.length - ys.length:Int) ∧ ∀ y ∈ ys,y ∈ L) (fun r=>r = bitsV L 0)
    (fun k x xs a hk hx hlen ⟨h1,h2,h3,h4⟩=>by
      have hd:decide ((k:Int) < len L) = true:=by rw [Za]; simp; omega
      have hxw:=hw x (h4 x (by simp))
      simp only [ZjT] at hlen h3
      simp only [hd,Zkd,get?_nat,hx,Zjv]
      exact .inl ⟨a + x.W,by rw [Zd (by omega) (by omega),Zd (by omega) (by omega)]; rfl,h1,by omega,by omega,fun y hy=>h4 y (by simp [hy])⟩)
    (fun a ⟨h1,_⟩=>by
      have hd:decide ((L.length:Int) < len L) = false:=by rw [Za]; simp
      simp only [hd,Zj1,ZjP]
      exact ⟨_,rfl,h1⟩) (a:=0) ⟨rfl,by omega,by omega,fun y h=>h⟩ (lt_fuel (by omega))
  rw [show ((0:Nat):Int) = 0 from rfl] at g1
  rw [g1,g2]; rfl
theorem ZgS {a:Int} {w:Nat} (hw:w ≤ 16) (h0:0 ≤ a) (h1:a ≤ 100000):iterN (fun (s2:Int × Int × (List Int))=>
     if (decide (s2.2.1 ≥ 0)) then
      (set? s2.2.2 s2.2.1 (w64 (2 + s2.1))).bind fun x6=>
      some (.inl ((w64 (s2.1 + 1)),(w64 (s2.2.1 - 1)),x6))
     else
      some (.inr (s2.1,s2.2.2))
    ) fuel (a,(w:Int) - 1,List.replicate w 0) = some (a + w,(List.range w).map fun k:Nat=>1 + a + (w:Int) - (k:Int)):=by
  rw [ZL (I:=fun k t=>t = (a + (k:Int),(w:Int) - 1 - (k:Int),List.replicate (w - k) 0 ++ (List.range k).map fun i:Nat=>1 + a + (k:Int) - (i:Int))) (m:=w) (r:=(a + (w:Int),(List.range w).map fun k:Nat=>1 + a + (w:Int) - (k:Int))) (fun k t hk ht=>?_) (fun t ht=>?_) w 0 _ (by omega) (by simp) fuel (lt_fuel (by omega))]
  all_goals subst ht
  · refine ⟨_, ?_, rfl⟩
    simp only
    rw [Zj2 (by simp; omega),show (w:Int) - 1 - (k:Int) = ((w - 1 - k:Nat):Int) by omega,set?_nat (by simp; omega),Zd (x:=2 + (a + (k:Int))) (by omega) (by omega)]
    simp only [Zjv]
    rw [Zd (by omega) (by omega),Zd (by omega) (by omega)]
    have e:(List.replicate (w - k) (0:Int) ++ (List.range k).map fun i:Nat=>1 + a + (k:Int) - (i:Int)).set (w - 1 - k) (2 + (a + (k:Int))) = List.replicate (w - (k + 1)) 0 ++ (List.range (k + 1)).map fun i:Nat=>1 + a + ((k + 1:Nat):Int) - (i:Int):=by
      rw [List.set_append_left _ _ (by simp; omega),show w - k = (w - (k + 1)) + 1 by omega,Zl4,Zky _ _ (by simp; omega),Zkq,show w - 1 - k - (w - (k + 1)) = 0 by omega,ZkO,ZjZ,ZjY,List.range_succ_eq_map,ZjJ,List.map_map]
      congr 2
      · omega
      · apply List.map_congr_left
        intro i _
        simp only [Function.comp]
        omega
    rw [e]
    simp only [Option.some.injEq,Sum.inl.injEq,Prod.mk.injEq]
    exact ⟨by omega,by omega,trivial⟩
  · simp only
    rw [Zjz (by simp; omega),ZkG]
    rfl
theorem Zgd {x:D.Value} {ys:List D.Value}:∀ {pre:List D.Value} {a:Int},(∀ v ∈ pre,v.Name ≠ x.Name) → atV (pre ++ x :: ys) a x.Name = bitsV pre a + x.W
 | [],a,_=>by
  show (if Str.eqb x.Name x.Name = true then a + x.W else _) = _
  rw [Zj2 (ZcI _)]; rfl
 | v :: pre,a,h=>by
  show (if Str.eqb v.Name x.Name = true then a + v.W else atV (pre ++ x :: ys) (a + v.W) x.Name) = _
  rw [Zjz (by rw [ZbG]; simpa using h v (by simp))]
  exact Zgd fun u hu=>h u (by simp [hu])
theorem ZhS {L:List D.Value} (hl:L.length ≤ 1000) (hw:∀ v ∈ L,1 ≤ v.W ∧ v.W ≤ 16) (hn:∀ v ∈ L,v.Name.bytes.length ≤ 1000) (hp:L.Pairwise fun x y=>x.Name ≠ y.Name):∃ mp,iterN (fun (s1:Int × Int × (List (Str × List Int)))=>
   if (decide (s1.2.1 < (len (L.map zv)))) then
    (get? (L.map zv) s1.2.1).bind fun x4=>
    (mk? x4.W (0:Int)).bind fun x5 =>
    (iterN (fun (s2 : Int × Int × (List Int)) =>
     if (decide (s2.2.1 ≥ 0)) then
      (set? s2.2.2 s2.2.1 (w64 (2 + s2.1))).bind fun x6=>
      some (.inl ((w64 (s2.1 + 1)),(w64 (s2.2.1 - 1)),x6))
     else
      some (.inr (s2.1,s2.2.2))
    ) fuel (s1.1,(w64 (x4.W - 1)),x5)).bind fun (rl2:Int × (List Int))=>
    (mput? fitS s1.2.2 x4.Name rl2.2).bind fun x7=>
    some (.inl (rl2.1,(w64 (s1.2.1 + 1)),x7))
   else
    some (.inr (s1.1,s1.2.2))
  ) fuel (0,0,([]:List (Str × List Int))) = some (bitsV L 0,mp) ∧ MapOk L mp:=by
  obtain ⟨r,g1,mp,rfl,g2⟩:=Ye (l:=L) (n:=fuel) (σ:=Int × List (Str × List Int)) (ρ:=Int × List (Str × List Int)) (B:=fun (s1:Int × Int × (List (Str × List Int)))=>
   if (decide (s1.2.1 < (len (L.map zv)))) then
    (get? (L.map zv) s1.2.1).bind fun x4=>
    (mk? x4.W (0:Int)).bind fun x5 =>
    (iterN (fun (s2 : Int × Int × (List Int)) =>
     if (decide (s2.2.1 ≥ 0)) then
      (set? s2.2.2 s2.2.1 (w64 (2 + s2.1))).bind fun x6=>
      some (.inl ((w64 (s2.1 + 1)),(w64 (s2.2.1 - 1)),x6))
     else
      some (.inr (s2.1,s2.2.2))
    ) fuel (s1.1,(w64 (x4.W - 1)),x5)).bind fun (rl2:Int × (List Int))=>
    (mput? fitS s1.2.2 x4.Name rl2.2).bind fun x7=>
    some (.inl (rl2.1,(w64 (s1.2.1 + 1)),x7))
   else
    some (.inr (s1.1,s1.2.2))) (fun k a=>(a.1,(k:Int),a.2))
    (fun ys a=>∃ pre,pre ++ ys = L ∧ a.1 = bitsV pre 0 ∧ 0 ≤ a.1 ∧ a.1 ≤ 16 * pre.length ∧ a.2.length = pre.length ∧ ∀ v ∈ pre,a.2.lookup v.Name = some (varL L v.Name v.W.toNat))
    (fun r=>∃ mp,r = (bitsV L 0,mp) ∧ MapOk L mp)
    (fun k x xs a hk hx hlen ⟨pre,h1,h2,h3,h4,h5,h6⟩=>by
      have hxL:x ∈ L:=by rw [← h1]; simp
      have hxw:=hw x hxL
      have hpl:pre.length ≤ L.length:=by rw [← h1]; simp
      have hd:decide ((k:Int) < len (L.map zv)) = true:=by rw [Za]; simp; omega
      have eW:((x.W.toNat:Nat):Int) = x.W:=by omega
      have hz:(L.map zv)[k]? = some (zv x):=by rw [ZjM,hx]; rfl
      have hne:∀ v ∈ pre,v.Name ≠ x.Name:=fun v hv=>by
        rw [← h1] at hp
        exact (ZkT.1 hp).2.2 v hv x (by simp)
      have hat:atV L 1 x.Name = 1 + a.1 + x.W:=by
        rw [← h1,Zgd hne,h2]
        have:=Zbb (pre.map (·.W)) 1 0
        unfold bitsV
        rw [show (1:Int) + 0 = 1 from rfl] at this
        rw [this]
      simp only [hd,Zkd,get?_nat,hz,Zjv]
      rw [show (zv x).W = x.W from rfl,show (zv x).Name = x.Name from rfl,show mk? x.W (0:Int) = some (List.replicate x.W.toNat 0) from by unfold mk?; rw [Zj2 ⟨by omega,by unfold room; omega⟩]]
      simp only [Zjv]
      rw [Zd (x:=x.W - 1) (by omega) (by omega)]
      have:=ZgS (a:=a.1) (w:=x.W.toNat) (by omega) h3 (by omega)
      rw [eW] at this
      rw [this]
      simp only [Zjv]
      rw [show mput? fitS a.2 x.Name ((List.range x.W.toNat).map fun k:Nat=>1 + a.1 + x.W - (k:Int)) = some ((x.Name,varL L x.Name x.W.toNat) :: a.2) from by
        unfold mput?
        rw [Zj2 ⟨by have:=hn x hxL; unfold fitS; simp; omega,by unfold room; omega⟩]
        unfold varL; rw [hat]]
      simp only [Zjv]
      rw [Zd (by omega) (by omega)]
      refine .inl ⟨(a.1 + x.W,(x.Name,varL L x.Name x.W.toNat) :: a.2),rfl,pre ++ [x],by rw [ZjZ]; exact h1,?_,by show 0 ≤ a.1 + x.W; omega,by simp; omega,by simp [h5],fun v hv=>?_⟩
      · show a.1 + x.W = bitsV (pre ++ [x]) 0
        unfold bitsV
        rw [Zkw,Zk9,h2]; rfl
      · rcases ZjN.1 hv with hv | hv
        · have hn := hne v hv
          rw [ZjO,show (v.Name == x.Name) = false by simpa using hn]
          exact h6 v hv
        · rw [Zkl] at hv
          subst hv
          rw [ZjO]; simp)
    (fun a ⟨pre,h1,h2,h3,h4,h5,h6⟩=>by
      have hd:decide ((L.length:Int) < len (L.map zv)) = false:=by rw [Za]; simp
      simp only [hd,Zj1,ZjP]
      rw [Zk3] at h1
      subst h1
      exact ⟨_,rfl,a.2,by rw [h2],fun v hv=>⟨hn v hv,by rw [h6 v hv]; rfl⟩⟩) (a:=(0,[])) ⟨[],rfl,rfl,by omega,by simp,rfl,fun v hv=>by cases hv⟩ (lt_fuel (by omega))
  rw [show ((0:Nat):Int) = 0 from rfl] at g1
  exact ⟨mp,g1,g2⟩
def upI (k:Int) (L:Nat):List Int:=(List.range L).map fun (j:Nat)=>k + (j:Int)
theorem ZbP (k:Int) (L:Nat):(upI k L).length = L:=by simp [upI]
theorem ZdT {k:Int} {L i:Nat} (h:i < L):(upI k L)[i]? = some (k + (i:Int)):=by simp [upI,h]
theorem markIntS_eq {p:List Int} {k:Int} (hk:0 ≤ k) (hb:k ≤ 100000000000000000) (hp:p.length ≤ 1048576):Y9 fuel p k = some (k + p.length,upI k p.length):=by
 unfold Y9
 rw [ZL (I:=fun i s=>s = (k + (i:Int),(i:Int),pre (fun (j:Nat)=>k + (j:Int)) p i)) (m:=p.length) (r:=(k + (p.length:Int),upI k p.length)) (fun i s hi hs=>?_) (fun s hs=>?_) p.length 0 _ (by omega) (by simp [Zdc]) fuel (lt_fuel hp)]
 ·rfl
 ·subst hs
  refine ⟨_,?_,rfl⟩
  simp only
  rw [Zj2 (by rw [Za]; simp; omega),set?_nat (by rw [ZdX (by omega)]; exact hi),Zeb hi]
  simp only [Zjv]
  rw [Zd (by omega) (by omega),Zd (by omega) (by omega)]
  simp only [Option.some.injEq,Sum.inl.injEq,Prod.mk.injEq,ZlS]
  omega
 ·subst hs
  simp only
  rw [Zjz (by rw [Za]; simp),Zej]
  rfl
theorem heldIntS_eq {L:Nat} {k:Int} (hk:0 ≤ k) (hb:k ≤ 100000000000000000) (hp:L ≤ 1048576):Yr fuel (upI k L) k = some (k + L):=by
 unfold Yr
 rw [ZL (I:=fun i s=>s = (k + (i:Int),(i:Int))) (m:=L) (r:=.inl (k + (L:Int))) (fun i s hi hs=>?_) (fun s hs=>?_) L 0 _ (by omega) (by simp) fuel (lt_fuel hp)]
 ·rfl
 ·subst hs
  refine ⟨_,?_,rfl⟩
  simp only
  rw [Zj2 (by rw [Za,ZbP]; simp; omega),get?_nat,ZdT hi]
  simp only [Zjv]
  rw [Zjz (by simp),Zd (by omega) (by omega),Zd (by omega) (by omega)]
  simp only [Option.some.injEq,Sum.inl.injEq,Prod.mk.injEq]
  omega
 ·subst hs
  simp only
  rw [Zjz (by rw [Za,ZbP]; simp)]
theorem Zd4:∀ (d:Nat) (j:Int) (s:Str) (n:Nat),0 ≤ j → j ≤ 200000000000000000 → j < 10 ^ d → s.bytes.length + d ≤ 1000 → d < n → ∃ o:Str,iterN (fun (s1:Int × Str)=>
   if (decide (s1.1 > 0)) then
    (rem? s1.1 10).bind fun x1=>
    (cat? (strOf ([(Byt.mk (IntKind.u8.wrap (w64 (48 + x1))))]:List Byt)) s1.2).bind fun x2=>
    (quo? s1.1 10).bind fun x3=>
    some (.inl (x3,x2))
   else
    some (.inr (s1.2))) n (j,s) = some o ∧ o.bytes.length ≤ 1000
 | d,j,s,0,_,_,_,_,h=>by omega
 | 0,j,s,n + 1,h0,_,h1,h2,_=>by
  have:j = 0:=by simp at h1; omega
  subst this
  exact ⟨s,by unfold iterN; rfl,by omega⟩
 | d + 1,j,s,n + 1,h0,hb,h1,h2,h3=>by
  by_cases c:0 < j
  ·have c1 : decide (j > 0) = true := decide_eq_true c
   have c2:rem? j 10 = some (j.tmod 10):=by unfold rem?; rw [Zjz (by omega)]
   have hj:j / 10 < 10 ^ d:=by
    rw [Int.pow_succ] at h1; omega
   have c3:quo? j 10 = some (j / 10):=by
    unfold quo?
    rw [Zjz (by omega),Int.tdiv_eq_ediv_of_nonneg h0,Zd (by omega) (by omega)]
   have c4:cat? (strOf ([(Byt.mk (IntKind.u8.wrap (w64 (48 + j.tmod 10))))]:List Byt)) s = some ⟨(strOf ([(Byt.mk (IntKind.u8.wrap (w64 (48 + j.tmod 10))))]:List Byt)).bytes ++ s.bytes⟩:=by
    unfold cat?
    rw [Zj2 (by simp [strOf]; omega)]
   obtain ⟨o,g1,g2⟩:=Zd4 d (j / 10) ⟨(strOf ([(Byt.mk (IntKind.u8.wrap (w64 (48 + j.tmod 10))))]:List Byt)).bytes ++ s.bytes⟩ n (by omega) (by omega) hj (by simp [strOf]; omega) (by omega)
   refine ⟨o,?_,g2⟩
   unfold iterN
   simp only [c1,Zkd,c2,Zjv,c4,c3]
   exact g1
  ·have : decide (j > 0) = false := decide_eq_false c
   exact ⟨s,by unfold iterN; simp only [this,Zj1,ZjP],by omega⟩
theorem ZgV {k:Int} {n:Nat} (h0:0 ≤ k) (h1:k ≤ 200000000000000000) (hn:20 ≤ n):∃ s,YN n k = some s:=by
 unfold YN
 by_cases c:k ≤ 0
 ·rw [Zj2 (by simpa using c)]; exact ⟨_,rfl⟩
 rw [Zjz (by simpa using c)]
 obtain ⟨o,e1,e2⟩:=Zd4 18 k ⟨[]⟩ n h0 h1 (by omega) (by simp) (by omega)
 rw [e1]
 simp only [Zjv]
 unfold cat?
 rw [Zj2 (by simp; omega)]
 exact ⟨_,rfl⟩
theorem Zfj:∀ (n:Nat) (l:List D.Term) (k:Int),l.length + mszs l ≤ 1048576 → 1048580 + (l.length + mszs l) ≤ n → 0 ≤ k → k + 4 * ((l.length:Int) + mszs l) ≤ 100000000000000000 → ∃ r,ZV n l k = some r ∧ k ≤ r.1 ∧ r.1 ≤ k + 4 * ((l.length:Int) + mszs l):=by
 intro n
 induction n with
 | zero=>intro l k _ h; omega
 | succ n ih=>
  intro l k hs hn h0 hb
  rw [ZV]
  obtain ⟨r,g1,g2⟩:=Ye (l:=l) (n:=n) (σ:=Int × List D.Term) (ρ:=Int × List D.Term) (B:=fun (s1:Int × Int × (List D.Term))=>
  if (decide (s1.2.1 < (len l))) then
   (get? s1.2.2 s1.2.1).bind fun x1=>
   (YN n (w64 ((w64 ((w64 (s1.1 + 1)) + 1)) + 1))).bind fun x2=>
   (ZV n x1.Kids (w64 ((w64 ((w64 ((w64 (s1.1 + 1)) + 1)) + 1)) + 1))).bind fun x3=>
   (set? s1.2.2 s1.2.1 (D.Term.mk s1.1 (w64 (s1.1 + 1)) (w64 ((w64 (s1.1 + 1)) + 1)) x2 x3.2)).bind fun x4=>
   some (.inl (x3.1,(w64 (s1.2.1 + 1)),x4))
  else
   some (.inr (s1.1,s1.2.2))) (fun j a=>(a.1,(j:Int),a.2))
   (fun ys a=>(∃ pre,a.2 = pre ++ ys ∧ pre.length + ys.length = l.length) ∧ ys.length + mszs ys ≤ l.length + mszs l ∧ k ≤ a.1 ∧ a.1 + 4 * ((ys.length:Int) + mszs ys) ≤ k + 4 * ((l.length:Int) + mszs l))
   (fun r=>k ≤ r.1 ∧ r.1 ≤ k + 4 * ((l.length:Int) + mszs l))
   (fun j x xs a hj hx hlen ⟨⟨pre, i1, i2⟩, i3, i4, i5⟩ => by
    obtain ⟨q,z⟩:=a
    simp only at i1 i4 i5 ⊢
    have hz:=XW x
    rw [ZaX] at i3 i5
    simp only [ZjT] at i2 i3 i5 hlen
    have hp:pre.length = j:=by omega
    have hd:decide ((j:Int) < len l) = true:=by rw [Za]; simp; omega
    have hg:z[j]? = some x:=by rw [i1,Zj4 (by omega),hp,ZkG]; rfl
    simp only [hd,Zkd,get?_nat,hg,Zjv]
    rw [Zd (x:=q + 1) (by omega) (by omega),Zd (x:=q + 1 + 1) (by omega) (by omega),Zd (x:=q + 1 + 1 + 1) (by omega) (by omega),Zd (x:=q + 1 + 1 + 1 + 1) (by omega) (by omega)]
    obtain ⟨tx,ht⟩:=ZgV (k:=q + 1 + 1 + 1) (n:=n) (by omega) (by omega) (by omega)
    obtain ⟨⟨k3,r3⟩,m1,m2,m3⟩:=ih x.Kids (q + 1 + 1 + 1 + 1) (by omega) (by omega) (by omega) (by omega)
    simp only at m2 m3
    rw [ht]
    simp only [Zjv]
    rw [m1]
    simp only [Zjv]
    rw [set?_nat (by rw [i1]; simp; omega)]
    refine .inl ⟨(k3,z.set j (D.Term.mk q (q + 1) (q + 1 + 1) tx r3)),by simp only [Zjv]; rw [Zd (by omega) (by omega)]; rfl,⟨pre ++ [D.Term.mk q (q + 1) (q + 1 + 1) tx r3],?_,by simp; omega⟩,by omega,by show k ≤ k3; omega,by show k3 + _ ≤ _; omega⟩
    show z.set j _ = _
    rw [i1,Zky _ _ (by omega),hp,ZkG]; simp)
   (fun a ⟨_, _, i4, i5⟩ => by
    have hd:decide ((l.length:Int) < len l) = false:=by rw [Za]; simp
    simp only [hd,Zj1,ZjP]
    rw [Zer] at i5
    simp only [ZkM] at i5
    exact ⟨_,rfl,i4,by omega⟩) (a:=(k,l)) ⟨⟨[],rfl,by simp⟩,by omega,by show k ≤ k; omega,by show k + _ ≤ _; omega⟩ (by omega)
  rw [show ((0:Nat):Int) = 0 from rfl] at g1
  rw [g1]
  exact ⟨_,rfl,g2⟩
theorem Zi9 {l:List D.Term} {k:Int} (h:sml l) (h0:0 ≤ k) (h1:k ≤ 90000000000000000):∃ k' r,ZV fuel l k = some (k',r) ∧ k ≤ k' ∧ k' ≤ k + 4194304:=by
 unfold sml at h
 obtain ⟨⟨k',r⟩,e,a,b⟩:=Zfj fuel l k h (by unfold fuel; omega) h0 (by omega)
 exact ⟨k',r,e,a,by simp only at b; omega⟩
end Go.Proofs.YthilnjkcemdfeaaGreat
end
