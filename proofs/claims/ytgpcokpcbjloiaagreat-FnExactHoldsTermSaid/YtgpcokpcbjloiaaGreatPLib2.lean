/- Texts of this claim put into one: library or plain laws, without the program under test. -/
import Derived.Test.YtgpcokpcbjloiaaGreatPLib1
import Derived.Test.YtgpcokpcbjloiaaGreatLib4
section
namespace Go.Proofs.YtgpcokpcbjloiaaGreat
open Go.GL
set_option linter.unusedSimpArgs false
set_option maxRecDepth 100000
theorem YW {op w m:Int} {nm:Str} {ks:List D.Term} (h:nodeB ⟨op,w,m,nm,ks⟩ = true):(1 ≤ w ∧ w ≤ 16) ∧ (
  (op = 0 ∧ ks = [] ∧ nm = ⟨[]⟩ ∧ wordB w m = true) ∨
  (op = 22 ∧ ks = [] ∧ m = 0) ∨
  ((op = 1 ∨ op = 2) ∧ m = 0 ∧ nm = ⟨[]⟩ ∧ ∃ a,ks = [a] ∧ nodeB a = true ∧ a.W = w) ∨
  (3 ≤ op ∧ op ≤ 16 ∧ m = 0 ∧ nm = ⟨[]⟩ ∧ ∃ a b,ks = [a,b] ∧ nodeB a = true ∧ nodeB b = true ∧ a.W = b.W ∧ (op ≤ 13 → a.W = w) ∧ (14 ≤ op → w = 1)) ∨
  (op = 17 ∧ m = 0 ∧ nm = ⟨[]⟩ ∧ ∃ a b c,ks = [a,b,c] ∧ nodeB a = true ∧ nodeB b = true ∧ nodeB c = true ∧ a.W = 1 ∧ b.W = w ∧ c.W = w) ∨
  (op = 18 ∧ m = 0 ∧ nm = ⟨[]⟩ ∧ ∃ a b,ks = [a,b] ∧ nodeB a = true ∧ nodeB b = true ∧ a.W + b.W = w) ∨
  (op = 19 ∧ nm = ⟨[]⟩ ∧ 0 ≤ m ∧ m ≤ 16 ∧ ∃ a,ks = [a] ∧ nodeB a = true ∧ m + w ≤ a.W) ∨
  ((op = 20 ∨ op = 21) ∧ m = 0 ∧ nm = ⟨[]⟩ ∧ ∃ a,ks = [a] ∧ nodeB a = true ∧ a.W ≤ w)):=by
 rw [Zbp,ZmK] at h
 obtain ⟨h,hk⟩:=h
 unfold locB at h
 simp only [ZmK,ZmN,Zn2,ZnK,Zdd] at h
 obtain ⟨⟨⟨hw,hn⟩,hm⟩,h⟩:=h
 refine ⟨hw,?_⟩
 simp only at hk
 unfold shB at h
 by_cases o0:op = 0
 ·rw [ZmJ o0] at h
  simp only [ZmK,List.isEmpty_iff,List.map_eq_nil_iff] at h
  exact .inl ⟨o0,h.1,by rcases hn with hn | hn; exact hn; omega,h.2⟩
 rw [ZmI o0] at h
 by_cases o1:op = 22
 ·rw [ZmJ o1] at h
  simp only [ZmK,List.isEmpty_iff,List.map_eq_nil_iff] at h
  exact .inr (.inl ⟨o1,h.1,by omega⟩)
 rw [ZmI o1] at h
 have hn:nm = ⟨[]⟩:=by rcases hn with hn | hn; exact hn; exact absurd hn o1
 have hm:op ≠ 19 → m = 0:=fun o=>by omega
 clear o0 o1
 have k1:∀ f:Int → Bool,(match ks.map (·.W) with | [a]=>f a | _=>false) = true → ∃ a,ks = [a] ∧ nodeB a = true ∧ f a.W = true:=fun f h=>by
  rcases ks with _ | ⟨a,_ | ⟨b,l⟩⟩ <;> simp at h
  rw [Y9] at hk; simp at hk
  exact ⟨a,rfl,hk,h⟩
 have k2:∀ f:Int → Int → Bool,(match ks.map (·.W) with | [a,b]=>f a b | _=>false) = true → ∃ a b,ks = [a,b] ∧ nodeB a = true ∧ nodeB b = true ∧ f a.W b.W = true:=fun f h=>by
  rcases ks with _ | ⟨a,_ | ⟨b,_ | ⟨c,l⟩⟩⟩ <;> simp at h
  rw [Y9] at hk; simp at hk
  exact ⟨a,b,rfl,hk.1,hk.2,h⟩
 have k3:∀ f:Int → Int → Int → Bool,(match ks.map (·.W) with | [a,b,c]=>f a b c | _=>false) = true → ∃ a b c,ks = [a,b,c] ∧ nodeB a = true ∧ nodeB b = true ∧ nodeB c = true ∧ f a.W b.W c.W = true:=fun f h=>by
  rcases ks with _ | ⟨a,_ | ⟨b,_ | ⟨c,_ | ⟨d,l⟩⟩⟩⟩ <;> simp at h
  rw [Y9] at hk; simp at hk
  exact ⟨a,b,c,rfl,hk.1,hk.2.1,hk.2.2,h⟩
 by_cases o2:1 ≤ op ∧ op ≤ 2
 ·rw [ZmJ o2] at h
  obtain ⟨a,ha,hb,hf⟩:=k1 (fun a=>a == w) h
  exact .inr (.inr (.inl ⟨by omega,hm (by omega),hn,a,ha,hb,by simpa using hf⟩))
 rw [ZmI o2] at h
 by_cases o3:3 ≤ op ∧ op ≤ 13
 ·rw [ZmJ o3] at h
  obtain ⟨a,b,ha,hb,hc,hf⟩:=k2 (fun a b=>a == w && b == w) h
  simp only [ZmK,ZnK] at hf
  exact .inr (.inr (.inr (.inl ⟨by omega,by omega,hm (by omega),hn,a,b,ha,hb,hc,by omega,by omega,by omega⟩)))
 rw [ZmI o3] at h
 by_cases o4:14 ≤ op ∧ op ≤ 16
 ·rw [ZmJ o4] at h
  obtain ⟨a,b,ha,hb,hc,hf⟩:=k2 (fun a b=>a == b && w == 1) h
  simp only [ZmK,ZnK] at hf
  exact .inr (.inr (.inr (.inl ⟨by omega,by omega,hm (by omega),hn,a,b,ha,hb,hc,hf.1,by omega,by omega⟩)))
 rw [ZmI o4] at h
 by_cases o5:op = 17
 ·rw [ZmJ o5] at h
  obtain ⟨a,b,c,ha,hb,hc,hd,hf⟩:=k3 (fun a b c=>a == 1 && b == w && c == w) h
  simp only [ZmK,ZnK] at hf
  exact .inr (.inr (.inr (.inr (.inl ⟨o5,hm (by omega),hn,a,b,c,ha,hb,hc,hd,hf.1.1,hf.1.2,hf.2⟩))))
 rw [ZmI o5] at h
 by_cases o6:op = 18
 ·rw [ZmJ o6] at h
  obtain ⟨a,b,ha,hb,hc,hf⟩:=k2 (fun a b=>a + b == w) h
  exact .inr (.inr (.inr (.inr (.inr (.inl ⟨o6,hm (by omega),hn,a,b,ha,hb,hc,by simpa using hf⟩)))))
 rw [ZmI o6] at h
 by_cases o7:op = 19
 ·rw [ZmJ o7] at h
  obtain ⟨a,ha,hb,hf⟩:=k1 (fun a=>decide (0 ≤ m ∧ m ≤ 16) && decide (m + w ≤ a)) h
  simp only [ZmK,ZmN] at hf
  exact .inr (.inr (.inr (.inr (.inr (.inr (.inl ⟨o7,hn,hf.1.1,hf.1.2,a,ha,hb,hf.2⟩))))))
 rw [ZmI o7] at h
 by_cases o8:20 ≤ op ∧ op ≤ 21
 ·rw [ZmJ o8] at h
  obtain ⟨a,ha,hb,hf⟩:=k1 (fun a=>decide (a ≤ w)) h
  exact .inr (.inr (.inr (.inr (.inr (.inr (.inr ⟨by omega,hm (by omega),hn,a,ha,hb,by simpa using hf⟩))))))
 rw [ZmI o8] at h; cases h
open Cc (BS LS CircP Grow GoodL Good litN lines negs seqP ifP opP net RelB FOk)
def bitI (v:Int) (k:Nat):Bool:=match shr? v (k:Int) with | some x=>band x 1 == 1 | none=>false
def wordL (w:Nat) (v:Int):List Int:=(List.range w).map fun k=>if bitI v k then 1 else -1
theorem Za3 (w:Nat) (v:Int):(wordL w v).length = w:=by simp [wordL]
def atV:List D.Value → Int → Str → Int
 | [],a,_=>a
 | v :: l,a,s=>if Str.eqb v.Name s then a + v.W else atV l (a + v.W) s
def varL (vs:List D.Value) (s:Str) (w:Nat):List Int:=(List.range w).map fun k:Nat=>atV vs 1 s - (k:Int)
theorem Zht (vs:List D.Value) (s:Str) (w:Nat):(varL vs s w).length = w:=by simp [varL]
def fin (op:Int) (w m:Nat) (ks:List (List Int)) (s:BS):LS:=
 if op = 1 then (negs (ks.getD 0 []),s)
 else if op = 2 then if w = 16 then (List.replicate w (-1),(s.1,true)) else opP s 4 (List.replicate w (-1)) (ks.getD 0 [])
 else if op = 17 then seqP (fun s p=>ifP s ((ks.getD 0 []).getD 0 0) p.1 p.2) s ((ks.getD 1 []).zip (ks.getD 2 []))
 else if op = 18 then (ks.getD 1 [] ++ ks.getD 0 [],s)
 else if op = 19 then (((ks.getD 0 []).drop m).take w,s)
 else if op = 20 then (ks.getD 0 [] ++ List.replicate (w - (ks.getD 0 []).length) (-1),s)
 else if op = 21 then (ks.getD 0 [] ++ List.replicate (w - (ks.getD 0 []).length) ((ks.getD 0 []).getD ((ks.getD 0 []).length - 1) 0),s)
 else if (ks.getD 0 []).length = 16 then (List.replicate w (-1),(s.1,true)) else opP s op (ks.getD 0 []) (ks.getD 1 [])
mutual
def nP (vs:List D.Value):D.Term → BS → LS
 | ⟨op,w,m,nm,ks⟩,s=>if op = 0 then (wordL w.toNat m,s) else if op = 22 then (varL vs nm w.toNat,s) else let r:=nPs vs ks s; fin op w.toNat m.toNat r.1 r.2
def nPs (vs:List D.Value):List D.Term → BS → List (List Int) × BS
 | [],s=>([],s)
 | t :: l,s=>let r:=nP vs t s; let q:=nPs vs l r.2; (r.1 :: q.1,q.2)
end
theorem ZiE (vs:List D.Value) (t:D.Term) (s:BS):nP vs t s = if t.Op = 0 then (wordL t.W.toNat t.N,s) else if t.Op = 22 then (varL vs t.Name t.W.toNat,s) else fin t.Op t.W.toNat t.N.toNat (nPs vs t.Kids s).1 (nPs vs t.Kids s).2:=by cases t; rw [nP]
theorem Zgv (vs:List D.Value) (s:BS):nPs vs [] s = ([],s):=by rw [nPs]
theorem Zdm (vs:List D.Value) (t:D.Term) (l:List D.Term) (s:BS):nPs vs (t :: l) s = ((nP vs t s).1 :: (nPs vs l (nP vs t s).2).1,(nPs vs l (nP vs t s).2).2):=by rw [nPs]
structure VF (vs:List D.Value) (c:D.Circuit):Prop where
 w1:∀ v ∈ vs,1 ≤ v.W
 sum:(vs.map (·.W)).foldl (· + ·) 0 = c.Inputs
def TV (vs:List D.Value) (t:D.Term):Prop:=∀ p ∈ vrs t,∃ v ∈ vs,v.Name = p.1 ∧ v.W = p.2
open Cc (BS LS CircP Grow GoodL Good litN lines negs seqP ifP opP net RelB FOk ZaX YS litN_iff litN_mono ZQ)
theorem Zk5 {vs:List D.Value} {s:Str} (h1:∀ v ∈ vs,1 ≤ v.W):∀ {a:Int},a ≤ atV vs a s ∧ atV vs a s ≤ (vs.map (·.W)).foldl (· + ·) a:=by
 induction vs with
 | nil=>intro a; simp [atV]
 | cons v l ih=>
  intro a
  have hv:=h1 v (by simp)
  have hf:∀ (l:List D.Value) (a:Int),(∀ v ∈ l,1 ≤ v.W) → a ≤ (l.map (·.W)).foldl (· + ·) a:=fun l=>by
   induction l with
   | nil=>intro a _; simp
   | cons x l ih=>intro a hx; have:=ih (a + x.W) (fun v hv=>hx v (by simp [hv])); have:=hx x (by simp); simp only [ZmX,Zow]; omega
  unfold atV
  simp only [ZmX,Zow]
  split
  ·have:=hf l (a + v.W) (fun v hv=>h1 v (by simp [hv])); omega
  ·have:=ih (fun v hv=>h1 v (by simp [hv])) (a:=a + v.W); omega
theorem ZkD {s:Str} {w:Int}:∀ {vs:List D.Value} {a:Int},(∀ v ∈ vs,1 ≤ v.W) → vs.Pairwise (fun x y=>x.Name ≠ y.Name) → (∃ v ∈ vs,v.Name = s ∧ v.W = w) → a + w ≤ atV vs a s
 | [],a,_,_,⟨v,hv,_⟩=>by cases hv
 | v :: l,a,h1,hp,⟨x,hx,hn,hw⟩=>by
  unfold atV
  rw [Zop] at hp
  by_cases c:v.Name = s
  ·have e : Str.eqb v.Name s = true := by rw [c]; exact ZeX s
   rw [ZmJ e]
   rcases Zno.1 hx with rfl | hx
   ·omega
   ·exact absurd (c.trans hn.symm) (hp.1 x hx)
  ·have e : Str.eqb v.Name s = false := by rw [Zdd]; simpa using c
   rw [e]
   simp only [ZmF,ZmQ]
   rcases Zno.1 hx with rfl | hx
   ·exact absurd hn c
   ·have := ZkD (a := a + v.W) (fun v hv => h1 v (by simp [hv])) hp.2 ⟨x, hx, hn, hw⟩
    have:=h1 v (by simp)
    omega
theorem Zc7:∀ (l:List Int) (a b:Int),l.foldl (· + ·) (a + b) = a + l.foldl (· + ·) b
 | [],a,b=>rfl
 | x :: l,a,b=>by simp only [Zow]; rw [Int.add_assoc]; exact Zc7 l a (b + x)
theorem Zkg {vs:List D.Value} {s:BS} {nm:Str} {w:Int} (hs:CircP s.1) (hv:VF vs s.1) (hp:vs.Pairwise fun x y=>x.Name ≠ y.Name) (h:∃ v ∈ vs,v.Name = nm ∧ v.W = w) (hw:1 ≤ w):GoodL s w.toNat (varL vs nm w.toNat,s):=by
 refine ⟨hs,Grow.refl _,Zht _ _ _,fun x hx=>?_⟩
 unfold varL at hx
 obtain ⟨k,hk,rfl⟩:=ZnG.1 hx
 have hk:=Zng.1 hk
 have h1:=ZkD (a:=1) hv.w1 hp h
 have h2:=(Zk5 (s:=nm) hv.w1 (a:=1)).2
 have h3:=Zc7 (vs.map (·.W)) 1 0
 rw [show (1:Int) + 0 = 1 from rfl,hv.sum] at h3
 rw [h3] at h2
 rw [litN_iff]
 show 1 ≤ Cc.iab (atV vs 1 nm - (k:Int)) ∧ Cc.iab (atV vs 1 nm - (k:Int)) ≤ s.1.Inputs + 1 + (s.1.Gates.length:Int)
 unfold Cc.iab
 have:=hs.i0
 constructor <;> split <;> omega
theorem Zjx {s:BS} {w:Nat} {v:Int} (hs:CircP s.1):GoodL s w (wordL w v,s):=by
 refine ⟨hs,Grow.refl _,Za3 _ _,fun x hx=>?_⟩
 unfold wordL at hx
 obtain ⟨k,hk,rfl⟩:=ZnG.1 hx
 split
 ·exact ZaX hs
 ·exact YS hs
def K2 (s:BS) (t:D.Term) (l:List Int):Prop:=l.length = t.W.toNat ∧ ∀ x ∈ l,litN (lines s.1) x = true
def KK (s:BS):List D.Term → List (List Int) → Prop
 | [],[]=>True
 | t :: ts,l :: ls=>K2 s t l ∧ KK s ts ls
 | _,_=>False
theorem KK1 {s:BS} {t:D.Term} {ts:List D.Term} {ls:List (List Int)} (h:KK s (t :: ts) ls):∃ l l',K2 s t l ∧ KK s ts l' ∧ ls = l :: l':=by
 cases ls with
 | nil=>exact h.elim
 | cons l l'=>exact ⟨l,l',h.1,h.2,rfl⟩
theorem KK0 {s:BS} {ls:List (List Int)} (h:KK s [] ls):ls = []:=by
 cases ls with
 | nil=>rfl
 | cons l l'=>exact h.elim
theorem K2.mono {s s':BS} {t:D.Term} {l:List Int} (h:K2 s t l) (g:Grow s.1 s'.1):K2 s' t l:=⟨h.1,fun x hx=>litN_mono (h.2 x hx) g.lines⟩
theorem ZgG {s:BS} {w:Nat} (hs:CircP s.1) (f:Bool):GoodL s w (List.replicate w (-1),(s.1,f)):=⟨hs,Grow.refl _,by simp,fun x hx=>by rw [(ZoM.1 hx).2]; exact YS hs⟩
theorem Zdw {s:BS} {w:Nat} (hs:CircP s.1):∀ x ∈ List.replicate w (-1:Int),litN (lines s.1) x = true:=fun x hx=>by rw [(ZoM.1 hx).2]; exact YS hs
theorem Zk3 {s:BS} {c:Int} {a b:List Int} (hs:CircP s.1) (hc:litN (lines s.1) c = true) (ha:∀ x ∈ a,litN (lines s.1) x = true) (hb:∀ x ∈ b,litN (lines s.1) x = true):FOk (fun s p=>ifP s c p.1 p.2) s (a.zip b):=fun s' p hc' hg hp=>by
 have h1:=Zpz hp
 exact Cc.if_good hc' (litN_mono hc hg.lines) (litN_mono (ha _ h1.1) hg.lines) (litN_mono (hb _ h1.2) hg.lines)
theorem fin_good {s:BS} {t:D.Term} {ls:List (List Int)} (hb:nodeB t = true) (hs:CircP s.1) (h0:t.Op ≠ 0) (h22:t.Op ≠ 22) (hk:KK s t.Kids ls):GoodL s t.W.toNat (fin t.Op t.W.toNat t.N.toNat ls s):=by
 obtain ⟨op,w,m,nm,ks⟩:=t
 obtain ⟨hw,hsh⟩:=YW hb
 simp only at h0 h22 hk ⊢
 rcases hsh with ⟨rfl,-⟩ | ⟨rfl,-⟩ | ⟨ho,-,-,a,rfl,ha,haw⟩ | ⟨h3,h16,-,-,a,b,rfl,ha,hb',hab,h13,h14⟩ | ⟨rfl,-,-,a,b,c,rfl,ha,hb',hc,ha1,hbw,hcw⟩ | ⟨rfl,-,-,a,b,rfl,ha,hb',habw⟩ | ⟨rfl,-,hm0,hm1,a,rfl,ha,haw⟩ | ⟨ho,-,-,a,rfl,ha,haw⟩
 ·exact absurd rfl h0
 ·exact absurd rfl h22
 ·obtain ⟨la, r1, k1, hn1, rfl⟩ := KK1 hk
  obtain rfl:=KK0 hn1
  have hl:la.length = w.toNat:=by rw [k1.1,haw]
  unfold fin
  simp only [Znq]
  rcases ho with rfl | rfl
  ·simp only [Znl]
   exact ⟨hs,Grow.refl _,by rw [Cc.negs_len,hl],Cc.negs_lits k1.2⟩
  ·simp only [show ¬ ((2 : Int) = 1) by decide, ZmQ, Znl]
   split
   ·exact ZgG hs true
   ·rename_i h16
    have:=Cc.op_good hs (op:=4) (a:=List.replicate w.toNat (-1)) (b:=la) (by omega) (by simp [hl]) (by simp; omega) (by simp; omega) (Zdw hs) k1.2
    simpa [Cc.opW] using this
 ·obtain ⟨la, r1, k1, hn1, rfl⟩ := KK1 hk
  obtain ⟨lb,r2,k2,hn2,rfl⟩:=KK1 hn1
  obtain rfl:=KK0 hn2
  have hA:=Yx ha
  unfold fin
  simp only [Znq,ZnR]
  rw [ZmI (by omega),ZmI (by omega),ZmI (by omega),ZmI (by omega),ZmI (by omega),ZmI (by omega),ZmI (by omega)]
  split
  ·exact ZgG hs true
  ·rename_i h16'
   have:=Cc.op_good hs (op:=op) (a:=la) (b:=lb) ⟨h3,h16⟩ (by rw [k1.1,k2.1,hab]) (by have:=k1.1; omega) (by have:=k1.1; omega) k1.2 k2.2
   have e:Cc.opW op la.length = w.toNat:=by
    unfold Cc.opW; split
    ·rw [h14 (by omega)]; rfl
    ·rw [k1.1,h13 (by omega)]
   rw [e] at this; exact this
 ·obtain ⟨la, r1, k1, hn1, rfl⟩ := KK1 hk
  obtain ⟨lb,r2,k2,hn2,rfl⟩:=KK1 hn1
  obtain ⟨lc,r3,k3,hn3,rfl⟩:=KK1 hn2
  obtain rfl:=KK0 hn3
  unfold fin
  simp only [Znq,ZnR]
  rw [ZmI (by omega),ZmI (by omega),ZmJ (by trivial)]
  have hc0:litN (lines s.1) (la.getD 0 0) = true:=k1.2 _ (Cc.getD_mem (by have:=k1.1; rw [ha1] at this; simp at this; omega))
  have g:=Cc.seq_good hs (Zk3 hs hc0 k2.2 k3.2)
  rw [ZnQ,k2.1,k3.1,hbw,hcw,ZoY] at g
  exact g
 ·obtain ⟨la, r1, k1, hn1, rfl⟩ := KK1 hk
  obtain ⟨lb,r2,k2,hn2,rfl⟩:=KK1 hn1
  obtain rfl:=KK0 hn2
  have hA:=Yx ha
  have hB:=Yx hb'
  unfold fin
  simp only [Znq,ZnR]
  rw [ZmI (by omega),ZmI (by omega),ZmI (by omega),ZmJ (by trivial)]
  exact ⟨hs,Grow.refl _,by rw [ZmO,k1.1,k2.1]; omega,fun x hx=>(Znb.1 hx).elim (k2.2 x) (k1.2 x)⟩
 ·obtain ⟨la, r1, k1, hn1, rfl⟩ := KK1 hk
  obtain rfl:=KK0 hn1
  unfold fin
  simp only [Znq]
  rw [ZmI (by omega),ZmI (by omega),ZmI (by omega),ZmI (by omega),ZmJ (by trivial)]
  exact ⟨hs,Grow.refl _,by rw [ZmP,Znh,k1.1]; omega,fun x hx=>k1.2 x (Zoe (Zou hx))⟩
 ·obtain ⟨la, r1, k1, hn1, rfl⟩ := KK1 hk
  obtain rfl:=KK0 hn1
  have hA:=Yx ha
  unfold fin
  simp only [Znq]
  rcases ho with rfl | rfl
  ·rw [ZmI (by omega), ZmI (by omega), ZmI (by omega), ZmI (by omega), ZmI (by omega), ZmJ (by trivial)]
   exact ⟨hs,Grow.refl _,by rw [ZmO,Zn3,k1.1]; omega,fun x hx=>(Znb.1 hx).elim (k1.2 x) (Zdw hs x)⟩
  ·rw [ZmI (by omega), ZmI (by omega), ZmI (by omega), ZmI (by omega), ZmI (by omega), ZmI (by omega), ZmJ (by trivial)]
   refine ⟨hs,Grow.refl _,by rw [ZmO,Zn3,k1.1]; omega,fun x hx=>(Znb.1 hx).elim (k1.2 x) fun h=>?_⟩
   rw [(ZoM.1 h).2]
   exact k1.2 _ (Cc.getD_mem (by have:=k1.1; omega))
theorem KK.mono {s s':BS} (g:Grow s.1 s'.1):∀ {ts:List D.Term} {ls:List (List Int)},KK s ts ls → KK s' ts ls
 | [],[],_=>trivial
 | [],_ :: _,h=>h.elim
 | _ :: _,[],h=>h.elim
 | _ :: _,_ :: _,h=>⟨h.1.mono g,KK.mono g h.2⟩
theorem VF.mono {vs:List D.Value} {c c':D.Circuit} (h:VF vs c) (g:Grow c c'):VF vs c':=⟨h.w1,h.sum.trans g.inputs.symm⟩
theorem ZcE {vs:List D.Value} {t x:D.Term} (h:TV vs t) (ho:t.Op ≠ 22) (hx:x ∈ t.Kids):TV vs x:=fun p hp=>by
 refine h p ?_
 rw [Zbo,ZmI ho]
 have:∀ {l:List D.Term},x ∈ l → p ∈ vrss l:=fun {l}=>by
  induction l with
  | nil=>intro h; cases h
  | cons y l ih=>
   intro hy
   rw [Zaf,Znb]
   rcases Zno.1 hy with rfl | hy
   ·exact .inl hp
   ·exact .inr (ih hy)
 exact this hx
theorem Zct {vs:List D.Value}:∀ (l:List D.Term) (s:BS),(∀ t ∈ l,∀ s:BS,CircP s.1 → VF vs s.1 → GoodL s t.W.toNat (nP vs t s)) → CircP s.1 → VF vs s.1 → CircP (nPs vs l s).2.1 ∧ Grow s.1 (nPs vs l s).2.1 ∧ KK (nPs vs l s).2 l (nPs vs l s).1
 | [],s,_,hs,_=>by rw [Zgv]; exact ⟨hs,Grow.refl _,trivial⟩
 | t :: l,s,h,hs,hv=>by
  rw [Zdm]
  have g:=h t (by simp) s hs hv
  obtain ⟨q1,q2,q3⟩:=Zct l (nP vs t s).2 (fun x hx=>h x (by simp [hx])) g.circ (hv.mono g.grow)
  exact ⟨q1,g.grow.trans q2,⟨g.len,fun x hx=>litN_mono (g.lits x hx) q2.lines⟩,q3⟩
theorem nodeK {t:D.Term} (hb:nodeB t = true):∀ x ∈ t.Kids,nodeB x = true:=fun x hx=>by
 rw [Zbp,ZmK,Y9,ZmR] at hb
 exact hb.2 x hx
theorem Zc0 {vs:List D.Value} (hp:vs.Pairwise fun x y=>x.Name ≠ y.Name):∀ (n:Nat) (t:D.Term) (s:BS),cnt t ≤ n → nodeB t = true → TV vs t → CircP s.1 → VF vs s.1 → GoodL s t.W.toNat (nP vs t s):=by
 intro n
 induction n with
 | zero=>intro t s h; have:=XV t; omega
 | succ n ih=>
  intro t s hc hb ht hs hv
  have hw:=Yx hb
  rw [ZiE]
  by_cases h0:t.Op = 0
  ·rw [ZmJ h0]; exact Zjx hs
  rw [ZmI h0]
  by_cases h22:t.Op = 22
  ·rw [ZmJ h22]
   refine Zkg hs hv hp (ht (t.Name,t.W) ?_) hw.1
   rw [Zbo,ZmJ h22]; simp
  rw [ZmI h22]
  have hcn:=XV t
  obtain ⟨q1,q2,q3⟩:=Zct t.Kids s (fun x hx s' hs' hv'=>ih x s' (by have:=XW hx; omega) (nodeK hb x hx) (ZcE ht h22 hx) hs' hv') hs hv
  have g:=fin_good hb q1 h0 h22 q3
  exact ⟨g.circ,q2.trans g.grow,g.len,g.lits⟩
open Cc (BS LS CircP Grow GoodL Good litN lines negs seqP ifP opP net RelB FOk FU)
theorem Zg4 (v:Int) (k:Nat):∃ x,shr? v (k:Int) = some x ∧ bitI v k = (band x 1 == 1):=by
 have:∃ x,shr? v (k:Int) = some x:=by unfold shr?; rw [ZmI (by omega)]; exact ⟨_,rfl⟩
 obtain ⟨x,hx⟩:=this
 exact ⟨x,hx,by unfold bitI; rw [hx]⟩
theorem Zer (k:Nat) (v:Int):wordL (k + 1) v = wordL k v ++ [if bitI v k then 1 else -1]:=by unfold wordL; rw [Zo8,ZnN]; rfl
theorem ZeG (w:Nat):wordL w 0 = List.replicate w (-1):=by
 have:∀ k,bitI 0 k = false:=fun k=>by
  have h:shr? 0 (k:Int) = some 0:=by unfold shr?; rw [ZmI (by omega)]; simp
  unfold bitI; rw [h]; exact Cc.band01
 unfold wordL
 simp only [this,ZmF,ZmQ]
 rw [List.map_const']; simp
section
variable {fu:Nat} [FU fu]
theorem ZeH {w:Nat} (hw:w ≤ 1000) (v:Int):Xy fu (w:Int) v = some (wordL w v):=by
 unfold Xy
 rw [Ya (I:=fun k t=>t = ((k:Int),wordL k v)) (m:=w) (r:=wordL w v) (fun k t hk ht=>?_) (fun t ht=>?_) w 0 _ (by omega) (by simp [wordL]) fu (Cc.lt_fuel (by omega))]
 ·rfl
 all_goals subst ht
 ·refine ⟨_, ?_, rfl⟩
  obtain ⟨x,hx,hb⟩:=Zg4 v k
  have ha:∀ y:Int,app? (wordL k v) [y] = some (wordL k v ++ [y]):=fun y=>by
   unfold app?
   rw [ZmJ (by rw [Za3]; simp; unfold room; omega)]
  simp only
  rw [ZmJ (by simp; omega),hx]
  simp only [ZmD]
  rw [Zer,hb]
  by_cases c:(band x 1 == 1) = true
  ·rw [ZmJ c,ZmJ c,ha,Zb (by omega) (by omega)]; rfl
  ·rw [ZmI c,ZmI c,ha,Zb (by omega) (by omega)]; rfl
 ·simp only
  rw [ZmI (by simp)]
theorem Ze7 {w:Nat} (hw:w ≤ 900) (v:Int):Yl fu (w:Int) v = some (wordL w v):=by
 unfold Yl
 have hmk:mk? (w:Int) (0:Int) = some (List.replicate w 0):=by
  unfold mk?; rw [ZmJ ⟨by omega,by unfold room; omega⟩]; rfl
 rw [hmk]
 simp only [ZmD]
 rw [Ya (I:=fun k t=>t = ((k:Int),wordL k v ++ List.replicate (w - k) 0)) (m:=w) (r:=wordL w v) (fun k t hk ht=>?_) (fun t ht=>?_) w 0 _ (by omega) (by simp [wordL]) fu (Cc.lt_fuel (by omega))]
 ·rfl
 all_goals subst ht
 ·refine ⟨_, ?_, rfl⟩
  obtain ⟨x,hx,hb⟩:=Zg4 v k
  have e:∀ y:Int,(wordL k v ++ List.replicate (w - k) 0).set k y = (wordL k v ++ [y]) ++ List.replicate (w - (k + 1)) 0:=fun y=>by
   have:=Cc.set_fill (l:=wordL k v) (n:=w - (k + 1)) (x:=y)
   rw [Za3,show w - (k + 1) + 1 = w - k by omega] at this
   exact this
  have e2:∀ y z:Int,((wordL k v ++ [y]) ++ List.replicate (w - (k + 1)) 0).set k z = (wordL k v ++ [z]) ++ List.replicate (w - (k + 1)) 0:=fun y z=>by
   rw [Znf,ZnE _ _ (by rw [Za3]; omega),Za3,Zof,Zny,Zoi,Znf,Zny]
  simp only
  rw [ZmJ (by rw [Za]; simp; omega),set?_nat (by simp [Za3]; omega)]
  simp only [ZmD]
  rw [Cc.u64k (by omega),hx]
  simp only [ZmD]
  rw [e,Zer,hb]
  by_cases c:(band x 1 == 1) = true
  ·rw [ZmJ c, ZmJ c, set?_nat (by simp [Za3] <;> omega), e2]
   simp only [ZmD]
   rw [Zb (by omega) (by omega)]; rfl
  ·rw [ZmI c,ZmI c,Zb (by omega) (by omega)]; rfl
 ·simp only
  rw [ZmI (by rw [Za]; simp)]
  simp
theorem at_loop {vs:List D.Value} {s:Str} (hl:vs.length ≤ 1000) (hw:∀ v ∈ vs,1 ≤ v.W ∧ v.W ≤ 16):iterN (fun (s1:Int × Int)=>
    if (decide (s1.2 < (len vs))) then
     (get? vs s1.2).bind fun x2=>
     if (Str.eqb x2.Name s) then
      some (.inr ((w64 (s1.1 + x2.W))))
     else
      some (.inl ((w64 (s1.1 + x2.W)),(w64 (s1.2 + 1))))
    else
     some (.inr (s1.1))
   ) fu (1,0) = some (atV vs 1 s):=by
  obtain ⟨r,g1,g2⟩:=ZZ (l:=vs) (n:=fu) (σ:=Int) (ρ:=Int) (B:=fun (s1:Int × Int)=>
    if (decide (s1.2 < (len vs))) then
     (get? vs s1.2).bind fun x2=>
     if (Str.eqb x2.Name s) then
      some (.inr ((w64 (s1.1 + x2.W))))
     else
      some (.inl ((w64 (s1.1 + x2.W)),(w64 (s1.2 + 1))))
    else
     some (.inr (s1.1))) (fun k a=>(a,(k:Int))) (fun ys a=>atV ys a s = atV vs 1 s ∧ 1 ≤ a ∧ a ≤ 1 + 16 * (vs.length - ys.length:Int) ∧ ∀ y ∈ ys,y ∈ vs) (fun r=>r = atV vs 1 s)
    (fun k x xs a hk hx hlen ⟨h1,h2,h3,h4⟩=>by
      have hd:decide ((k:Int) < len vs) = true:=by rw [Za]; simp; omega
      have hxw:=hw x (h4 x (by simp))
      simp only [Znc] at hlen h3
      simp only [hd,Znl,get?_nat,hx,ZmD]
      have e1:w64 (a + x.W) = a + x.W:=Zb (by omega) (by omega)
      rw [e1]
      have h1:(if Str.eqb x.Name s = true then a + x.W else atV xs (a + x.W) s) = atV vs 1 s:=h1
      cases c:Str.eqb x.Name s
      · rw [c] at h1
        simp only [ZmF,ZmQ] at h1 ⊢
        exact .inl ⟨a + x.W,by rw [Zb (by omega) (by omega)]; rfl,h1,by omega,by omega,fun y hy=>h4 y (by simp [hy])⟩
      · rw [c] at h1
        simp only [Znl] at h1 ⊢
        exact .inr ⟨_,rfl,h1⟩)
    (fun a ⟨h1,_⟩=>by
      have hd:decide ((vs.length:Int) < len vs) = false:=by rw [Za]; simp
      simp only [hd,ZmF,ZmQ]
      exact ⟨_,rfl,h1⟩) (a:=1) ⟨rfl,by omega,by omega,fun y h=>h⟩ (Cc.lt_fuel (by omega))
  rw [show ((0:Nat):Int) = 0 from rfl] at g1
  rw [g1,g2]
theorem Zjz {a:Int} {w:Nat} (hw:w ≤ 16) (h1:1 ≤ a) (h2:a ≤ 100000):iterN (fun (s2:Int × (List Int))=>
    if (decide (s2.1 < (w:Int))) then
     (app? s2.2 ([(w64 (a - s2.1))]:List Int)).bind fun x3=>
     some (.inl ((w64 (s2.1 + 1)),x3))
    else
     some (.inr (s2.2))
   ) fu (0,([]:List Int)) = some ((List.range w).map fun k:Nat=>a - (k:Int)):=by
  rw [Ya (I:=fun k t=>t = ((k:Int),(List.range k).map fun k:Nat=>a - (k:Int))) (m:=w) (r:=(List.range w).map fun k:Nat=>a - (k:Int)) (fun k t hk ht=>?_) (fun t ht=>?_) w 0 _ (by omega) (by simp) fu (Cc.lt_fuel (by omega))]
  all_goals subst ht
  · refine ⟨_, ?_, rfl⟩
    simp only
    have ha:∀ y:Int,app? ((List.range k).map fun k:Nat=>a - (k:Int)) [y] = some (((List.range k).map fun k:Nat=>a - (k:Int)) ++ [y]):=fun y=>by
      unfold app?
      rw [ZmJ (by simp; unfold room; omega)]
    rw [ZmJ (by simp; omega),Zb (x:=a - (k:Int)) (by omega) (by omega),ha]
    simp only [ZmD]
    rw [Zb (by omega) (by omega),Zo8,ZnN]; rfl
  · simp only
    rw [ZmI (by simp)]
end
theorem Zgn:∀ {l:List D.Value} {a:Int},(∀ v ∈ l,1 ≤ v.W) → a + l.length ≤ (l.map (·.W)).foldl (· + ·) a
 | [],a,_=>by simp
 | v :: l,a,h=>by
  have:=Zgn (l:=l) (a:=a + v.W) fun x hx=>h x (by simp [hx])
  have:=h v (by simp)
  simp only [ZmX,Zow,Znc]; omega
theorem Za6 {c c':D.Circuit} {x:Int} (h:litN (lines c) x = true) (g:Grow c c'):litN (lines c') x = true:=Cc.litN_mono h g.lines
section
variable {n:Nat} [FU n] {s:BS}
def sfin (n:Nat) (p1:D.Term) (ls:List (List Int)) (s:BS):Option ((List Int) × D.l04Net):=
   (get? ls 0).bind fun x7=>
   if (p1.Op == 1) then
    (Xf n x7).bind fun x8=>
    some (x8,(D.l04Net.mk (D.Circuit.mk s.1.Inputs s.1.Gates) s.2))
   else
    if (p1.Op == 2) then
     (Xy n p1.W 0).bind fun x9=>
     (get? ([x9,x7]:List (List Int)) 0).bind fun x10=>
     if ((len x10) == 16) then
      (ZX n p1.W (-1)).bind fun x11=>
      some (x11,(D.l04Net.mk (D.Circuit.mk s.1.Inputs s.1.Gates) true))
     else
      (get? ([x9,x7]:List (List Int)) 0).bind fun x12=>
      (get? ([x9,x7]:List (List Int)) 1).bind fun x13=>
      (ZT n (D.l04Net.mk (D.Circuit.mk s.1.Inputs s.1.Gates) s.2) (cond (p1.Op == 2) 4 p1.Op) x12 x13).bind fun x14=>
      some (x14.1,x14.2)
    else
     if (p1.Op == 17) then
      (iterN (fun (s4 : Int × (List Int) × Int × Bool × (List D.Gate)) =>
       if (decide (s4.1 < p1.W)) then
        (get? x7 0).bind fun x15=>
        (get? ls 1).bind fun x16=>
        (get? x16 s4.1).bind fun x17=>
        (get? ls 2).bind fun x18=>
        (get? x18 s4.1).bind fun x19=>
        (Zl n (D.l04Net.mk (D.Circuit.mk s4.2.2.1 s4.2.2.2.2) s4.2.2.2.1) x15 x17 x19).bind fun x20=>
        (app? s4.2.1 ([x20.1]:List Int)).bind fun x21=>
        some (.inl ((w64 (s4.1 + 1)),x21,x20.2.c.Inputs,x20.2.full,x20.2.c.Gates))
       else
        some (.inr (s4.2.1,s4.2.2.1,s4.2.2.2.1,s4.2.2.2.2))
      ) n (0,([]:List Int),s.1.Inputs,s.2,s.1.Gates)).bind fun (rl4:(List Int) × Int × Bool × (List D.Gate))=>
      some (rl4.1,(D.l04Net.mk (D.Circuit.mk rl4.2.1 rl4.2.2.2) rl4.2.2.1))
     else
      if (p1.Op == 18) then
       (get? ls 1).bind fun x22=>
       (app? ([]:List Int) x22).bind fun x23=>
       (app? x23 x7).bind fun x24=>
       some (x24,(D.l04Net.mk (D.Circuit.mk s.1.Inputs s.1.Gates) s.2))
      else
       if (p1.Op == 19) then
        (cut? x7 p1.N (w64 (p1.N + p1.W))).bind fun x25=>
        some (x25,(D.l04Net.mk (D.Circuit.mk s.1.Inputs s.1.Gates) s.2))
       else
        if (p1.Op == 20) then
         (app? ([]:List Int) x7).bind fun x26=>
         (ZX n (w64 (p1.W - (len x7))) (-1)).bind fun x27=>
         (app? x26 x27).bind fun x28=>
         some (x28,(D.l04Net.mk (D.Circuit.mk s.1.Inputs s.1.Gates) s.2))
        else
         if (p1.Op == 21) then
          (app? ([]:List Int) x7).bind fun x29=>
          (get? x7 (w64 ((len x7) - 1))).bind fun x30=>
          (ZX n (w64 (p1.W - (len x7))) x30).bind fun x31=>
          (app? x29 x31).bind fun x32=>
          some (x32,(D.l04Net.mk (D.Circuit.mk s.1.Inputs s.1.Gates) s.2))
         else
          (get? ls 0).bind fun x33=>
          if ((len x33) == 16) then
           (ZX n p1.W (-1)).bind fun x34=>
           some (x34,(D.l04Net.mk (D.Circuit.mk s.1.Inputs s.1.Gates) true))
          else
           (get? ls 0).bind fun x35=>
           (get? ls 1).bind fun x36=>
           (ZT n (D.l04Net.mk (D.Circuit.mk s.1.Inputs s.1.Gates) s.2) (cond (p1.Op == 2) 4 p1.Op) x35 x36).bind fun x37=>
           some (x37.1,x37.2)
theorem ZiH {l:List Int} {m w:Nat} (h:m + w ≤ l.length) (hl:l.length ≤ 1000):cut? l (m:Int) (w64 ((m:Int) + (w:Int))) = some ((l.drop m).take w):=by
 rw [Zb (by omega) (by omega)]
 unfold cut?
 rw [ZmJ ⟨by omega,by omega,by omega⟩]
 have e1:((m:Int) + (w:Int)).toNat = m + w:=by omega
 rw [e1,Znz,Zpk,Nat.add_sub_cancel_left]
theorem ZbT {l m:List Int} (h:l.length + m.length ≤ 1000):app? l m = some (l ++ m):=by unfold app?; rw [ZmJ (by unfold room; omega)]
theorem g0 {α:Type} {a:α} {l:List α}:get? (a :: l) 0 = some a:=rfl
theorem g1 {α:Type} {a b:α} {l:List α}:get? (a :: b :: l) 1 = some b:=rfl
theorem g2 {α:Type} {a b c:α} {l:List α}:get? (a :: b :: c :: l) 2 = some c:=rfl
theorem Zlj {l:List Int} (h:1 ≤ l.length) (h2:l.length ≤ 1000):get? l (w64 (len l - 1)) = some (l.getD (l.length - 1) 0):=by
 rw [Za,Zb (by omega) (by omega),show (l.length:Int) - 1 = ((l.length - 1:Nat):Int) by omega,get?_nat,Cc.getD_get (by omega)]
theorem ZkU {t:D.Term} {ls:List (List Int)} (hb:nodeB t = true) (hs:CircP s.1) (h0:t.Op ≠ 0) (h22:t.Op ≠ 22) (hk:KK s t.Kids ls):sfin n t ls s = some ((fin t.Op t.W.toNat t.N.toNat ls s).1,net (fin t.Op t.W.toNat t.N.toNat ls s).2):=by
 obtain ⟨op,w,m,nm,ks⟩:=t
 obtain ⟨hw,hsh⟩:=YW hb
 simp only at h0 h22 hk ⊢
 have eW:((w.toNat:Nat):Int) = w:=by omega
 unfold sfin
 simp only
 rcases hsh with ⟨rfl,-⟩ | ⟨rfl,-⟩ | ⟨ho,-,-,a,rfl,ha,haw⟩ | ⟨h3,h16,-,-,a,b,rfl,ha,hb',hab,h13,h14⟩ | ⟨rfl,-,-,a,b,c,rfl,ha,hb',hc,ha1,hbw,hcw⟩ | ⟨rfl,-,-,a,b,rfl,ha,hb',habw⟩ | ⟨rfl,-,hm0,hm1,a,rfl,ha,haw⟩ | ⟨ho,-,-,a,rfl,ha,haw⟩
 ·exact absurd rfl h0
 ·exact absurd rfl h22
 ·obtain ⟨la, r1, k1, hn1, rfl⟩ := KK1 hk
  obtain rfl:=KK0 hn1
  have hl:la.length = w.toNat:=by rw [k1.1,haw]
  rw [g0]
  simp only [ZmD]
  unfold fin
  simp only [Znq]
  rcases ho with rfl | rfl
  ·rw [ZmJ (by rfl), ZmJ (by trivial), Cc.spec_not hs.lines1 (by omega) k1.2]
   rfl
  ·rw [ZmI (by decide), ZmJ (by rfl), ZmI (by decide), ZmJ (by trivial), ← eW, ZeH (by omega), ZeG]
   simp only [ZmD,g0,g1,Znz,Za,Zn3]
   by_cases c:w.toNat = 16
   ·rw [ZmJ (by simp; omega), ZmJ c, Cc.spec_fill (by omega)]
    rfl
   ·rw [ZmI (by simp; omega), ZmI c]
    have:=Cc.spec_op (fuel:=n) hs (op:=4) (a:=List.replicate w.toNat (-1)) (b:=la) (by omega) (by simp [hl]) (by simp; omega) (by simp; omega) (Zdw hs) k1.2
    have this':ZT n (D.l04Net.mk (D.Circuit.mk s.1.Inputs s.1.Gates) s.2) (cond ((2:Int) == 2) 4 2) (List.replicate w.toNat (-1)) la = _:=this
    rw [this']
    rfl
 ·obtain ⟨la, r1, k1, hn1, rfl⟩ := KK1 hk
  obtain ⟨lb,r2,k2,hn2,rfl⟩:=KK1 hn1
  obtain rfl:=KK0 hn2
  have hA:=Yx ha
  unfold fin
  simp only [Znq,ZnR,g0,g1,ZmD]
  have bb:∀ k:Int,k ≤ 2 ∨ 17 ≤ k → (op == k) = false:=fun k hk=>by simp; omega
  have cc:∀ k:Int,k ≤ 2 ∨ 17 ≤ k → ¬ op = k:=fun k hk=>by omega
  simp only [bb 1 (by omega),bb 2 (by omega),bb 17 (by omega),bb 18 (by omega),bb 19 (by omega),bb 20 (by omega),bb 21 (by omega),cc 1 (by omega),cc 2 (by omega),cc 17 (by omega),cc 18 (by omega),cc 19 (by omega),cc 20 (by omega),cc 21 (by omega),ZmF,ZmQ,cond_false]
  have hla:=k1.1
  by_cases c:la.length = 16
  ·rw [ZmJ (by rw [Za]; simp; omega), ZmJ c, ← eW, Cc.spec_fill (by omega)]
   simp only [Znz]
   rfl
  ·rw [ZmI (by rw [Za]; simp; omega), ZmI c]
   have:=Cc.spec_op (fuel:=n) hs (op:=op) (a:=la) (b:=lb) ⟨h3,h16⟩ (by rw [k1.1,k2.1,hab]) (by omega) (by omega) k1.2 k2.2
   have this':ZT n (D.l04Net.mk (D.Circuit.mk s.1.Inputs s.1.Gates) s.2) op la lb = _:=this
   rw [this']
   rfl
 ·obtain ⟨la, r1, k1, hn1, rfl⟩ := KK1 hk
  obtain ⟨lb,r2,k2,hn2,rfl⟩:=KK1 hn1
  obtain ⟨lc,r3,k3,hn3,rfl⟩:=KK1 hn2
  obtain rfl:=KK0 hn3
  unfold fin
  simp only [Znq,ZnR,g0,g1,g2,ZmD]
  rw [ZmI (by decide),ZmI (by decide),ZmJ (by rfl)]
  rw [ZmI (by omega),ZmI (by omega),ZmJ (by trivial)]
  have hla:=k1.1
  have hlb:=k2.1
  have hlc:=k3.1
  rw [ha1] at hla
  rw [hbw] at hlb
  rw [hcw] at hlc
  have hl1:la.length = 1:=by simpa using hla
  have hg0:get? la 0 = some (la.getD 0 0):=by
   obtain ⟨z,hz⟩:=ZoS.1 hl1
   rw [hz]; rfl
  have hc0:litN (lines s.1) (la.getD 0 0) = true:=k1.2 _ (Cc.getD_mem (by omega))
  have hz:(lb.zip lc).length = w.toNat:=by rw [ZnQ,hlb,hlc,ZoY]
  rw [Cc.spec_seq (fuel:=n) hs (by omega) (Zk3 hs hc0 k2.2 k3.2) (fun j out s' x hx hc' hg hout=>?_) (fun out s'=>?_)]
  ·rfl
  ·have hj : j < w.toNat := by have := (ZmG.1 hx).1; omega
   have hz2:=Cc.zip_mem hx
   have e:=Cc.spec_if (fuel:=n) hc' (Za6 hc0 hg) (Za6 (k2.2 _ (ZmM hz2.1)) hg) (Za6 (k3.2 _ (ZmM hz2.2)) hg)
   have e':Zl n (D.l04Net.mk (D.Circuit.mk s'.1.Inputs s'.1.Gates) s'.2) (la.getD 0 0) x.1 x.2 = _:=e
   simp only
   rw [ZmJ (by simp; omega),hg0]
   simp only [ZmD]
   rw [get?_nat,get?_nat,hz2.1,hz2.2]
   simp only [ZmD,e']
   rw [ZbT (by simp; omega)]
   simp only [ZmD]
   rw [Zb (by omega) (by omega)]
   rfl
  ·simp only
   rw [ZmI (by simp; omega)]
 ·obtain ⟨la, r1, k1, hn1, rfl⟩ := KK1 hk
  obtain ⟨lb,r2,k2,hn2,rfl⟩:=KK1 hn1
  obtain rfl:=KK0 hn2
  have hA:=Yx ha
  have hB:=Yx hb'
  have hla:=k1.1
  have hlb:=k2.1
  unfold fin
  simp only [Znq,ZnR,g0,g1,ZmD]
  rw [ZmI (by decide),ZmI (by decide),ZmI (by decide),ZmJ (by rfl)]
  rw [ZmI (by omega),ZmI (by omega),ZmI (by omega),ZmJ (by trivial)]
  rw [ZbT (by simp; omega)]
  simp only [ZmD,Zox]
  rw [ZbT (by omega)]
  rfl
 ·obtain ⟨la, r1, k1, hn1, rfl⟩ := KK1 hk
  obtain rfl:=KK0 hn1
  have hA:=Yx ha
  have hla:=k1.1
  unfold fin
  simp only [Znq,g0,ZmD]
  rw [ZmI (by decide),ZmI (by decide),ZmI (by decide),ZmI (by decide),ZmJ (by rfl)]
  rw [ZmI (by omega),ZmI (by omega),ZmI (by omega),ZmI (by omega),ZmJ (by trivial)]
  have:=ZiH (l:=la) (m:=m.toNat) (w:=w.toNat) (by omega) (by omega)
  rw [show ((m.toNat:Nat):Int) = m by omega,eW] at this
  rw [this]
  rfl
 ·obtain ⟨la, r1, k1, hn1, rfl⟩ := KK1 hk
  obtain rfl:=KK0 hn1
  have hA:=Yx ha
  have hla:=k1.1
  have e:w64 (w - len la) = ((w.toNat - la.length:Nat):Int):=by rw [Za,Zb (by omega) (by omega)]; omega
  unfold fin
  simp only [Znq,g0,ZmD]
  rcases ho with rfl | rfl
  ·rw [ZmI (by decide), ZmI (by decide), ZmI (by decide), ZmI (by decide), ZmI (by decide), ZmJ (by rfl)]
   rw [ZmI (by omega),ZmI (by omega),ZmI (by omega),ZmI (by omega),ZmI (by omega),ZmJ (by trivial)]
   rw [ZbT (by simp; omega),e,Cc.spec_fill (by omega)]
   simp only [ZmD,Zox]
   rw [ZbT (by simp; omega)]
   rfl
  ·rw [ZmI (by decide), ZmI (by decide), ZmI (by decide), ZmI (by decide), ZmI (by decide), ZmI (by decide), ZmJ (by rfl)]
   rw [ZmI (by omega),ZmI (by omega),ZmI (by omega),ZmI (by omega),ZmI (by omega),ZmI (by omega),ZmJ (by trivial)]
   rw [ZbT (by simp; omega),Zlj (by omega) (by omega)]
   simp only [ZmD,Zox]
   rw [e,Cc.spec_fill (by omega)]
   simp only [ZmD]
   rw [ZbT (by simp; omega)]
   rfl
end
section
variable {vs:List D.Value} (hp:vs.Pairwise fun x y=>x.Name ≠ y.Name) (hw16:∀ v ∈ vs,v.W ≤ 16)
include hp hw16
theorem Zks:∀ (n:Nat) (t:D.Term) (s:BS),1048600 + cnt t ≤ n → nodeB t = true → TV vs t → CircP s.1 → VF vs s.1 → ZO n (net s) t vs = some ((nP vs t s).1,net (nP vs t s).2):=by
  intro n
  induction n with
  | zero=>intro t s h; omega
  | succ n ih =>
    intro t s hn hb ht hs hv
    haveI:FU n:=⟨by omega⟩
    have hw:=Yx hb
    have hcn:=XV t
    have hlen:vs.length ≤ 30:=by have:=Zgn (l:=vs) (a:=0) hv.w1; have:=hv.sum; have:=hs.i1; omega
    have eW:((t.W.toNat:Nat):Int) = t.W:=by omega
    rw [ZO,ZiE]
    by_cases h0:t.Op = 0
    · rw [ZmJ (by simpa using h0), ZmJ h0, ← eW, ZeH (by omega)]
      simp only [ZmD,Znz]
    rw [ZmI (by simpa using h0),ZmI h0]
    by_cases h22:t.Op = 22
    · rw [ZmJ (by simpa using h22), ZmJ h22, at_loop (by omega) (fun v hv' => ⟨hv.w1 v hv', hw16 v hv'⟩)]
      simp only [ZmD]
      have h1:=(Zk5 (s:=t.Name) hv.w1 (a:=1))
      have h2:=Zc7 (vs.map (·.W)) 1 0
      rw [show (1:Int) + 0 = 1 from rfl,hv.sum] at h2
      rw [h2] at h1
      have:=hs.i1
      rw [← eW,Zjz (by omega) h1.1 (by omega)]
      simp only [ZmD,Znz]
      rfl
    rw [ZmI (by simpa using h22),ZmI h22]
    have hkg:∀ x ∈ t.Kids,∀ s:BS,CircP s.1 → VF vs s.1 → GoodL s x.W.toNat (nP vs x s):=fun x hx s' hs' hv'=>Zc0 hp _ x s' (ZmY _) (nodeK hb x hx) (ZcE ht h22 hx) hs' hv'
    obtain ⟨q1,q2,q3⟩:=Zct t.Kids s hkg hs hv
    have hkl:t.Kids.length ≤ 3:=by
      obtain ⟨op,w,m,nm,ks⟩:=t
      obtain ⟨-,hsh⟩:=YW hb
      rcases hsh with ⟨-,rfl,-⟩ | ⟨-,rfl,-⟩ | ⟨-,-,-,a,rfl,-⟩ | ⟨-,-,-,-,a,b,rfl,-⟩ | ⟨-,-,-,a,b,c,rfl,-⟩ | ⟨-,-,-,a,b,rfl,-⟩ | ⟨-,-,-,-,a,rfl,-⟩ | ⟨-,-,-,a,rfl,-⟩ <;> simp
    obtain ⟨r,g1,g2⟩:=ZZ (l:=t.Kids) (n:=n) (σ:=List (List Int) × BS) (ρ:=(List (List Int)) × Int × Bool × (List D.Gate)) (B:=fun (s3:Int × (List (List Int)) × Int × Bool × (List D.Gate))=>
      if (decide (s3.1 < (len t.Kids))) then
       (get? t.Kids s3.1).bind fun x4=>
       (ZO n (D.l04Net.mk (D.Circuit.mk s3.2.2.1 s3.2.2.2.2) s3.2.2.2.1) x4 vs).bind fun x5=>
       (app? s3.2.1 ([x5.1]:List (List Int))).bind fun x6=>
       some (.inl ((w64 (s3.1 + 1)),x6,x5.2.c.Inputs,x5.2.full,x5.2.c.Gates))
      else
       some (.inr (s3.2.1,s3.2.2.1,s3.2.2.2.1,s3.2.2.2.2))) (fun k a=>((k:Int),a.1,a.2.1.Inputs,a.2.2,a.2.1.Gates))
      (fun ys a=>a.1 ++ (nPs vs ys a.2).1 = (nPs vs t.Kids s).1 ∧ (nPs vs ys a.2).2 = (nPs vs t.Kids s).2 ∧ CircP a.2.1 ∧ VF vs a.2.1 ∧ a.1.length + ys.length = t.Kids.length ∧ ∀ y ∈ ys,y ∈ t.Kids)
      (fun r=>r = ((nPs vs t.Kids s).1,(nPs vs t.Kids s).2.1.Inputs,(nPs vs t.Kids s).2.2,(nPs vs t.Kids s).2.1.Gates))
      (fun k x xs a hk hx hlen' ⟨h1,h2,h3,h4,h5,h6⟩=>by
        have hd:decide ((k:Int) < len t.Kids) = true:=by rw [Za]; simp; omega
        have hxk:=h6 x (by simp)
        have hc:=XW hxk
        have e:=ih x a.2 (by omega) (nodeK hb x hxk) (ZcE ht h22 hxk) h3 h4
        have e':ZO n (D.l04Net.mk (D.Circuit.mk a.2.1.Inputs a.2.1.Gates) a.2.2) x vs = _:=e
        have g:=hkg x hxk a.2 h3 h4
        simp only [Znc] at h5
        simp only [hd,Znl,get?_nat,hx,ZmD,e']
        rw [show app? a.1 [(nP vs x a.2).1] = some (a.1 ++ [(nP vs x a.2).1]) from by unfold app?; rw [ZmJ (by simp; unfold room; omega)]]
        simp only [ZmD]
        rw [Zb (by omega) (by omega)]
        rw [Zdm] at h1 h2
        exact .inl ⟨(a.1 ++ [(nP vs x a.2).1],(nP vs x a.2).2),rfl,by rw [← h1]; simp,h2,g.circ,h4.mono g.grow,by simp; omega,fun y hy=>h6 y (by simp [hy])⟩)
      (fun a ⟨h1,h2,h3,h4,h5,h6⟩=>by
        have hd:decide ((t.Kids.length:Int) < len t.Kids) = false:=by rw [Za]; simp
        simp only [hd,ZmF,ZmQ]
        rw [Zgv] at h1 h2
        simp only [Znu] at h1
        exact ⟨_,rfl,by rw [← h1,← h2]⟩) (a:=([],s)) ⟨by simp,rfl,hs,hv,by simp,fun _ h=>h⟩ (by omega)
    rw [show ((0:Nat):Int) = 0 from rfl] at g1
    have g1':=g1
    rw [show ((([]:List (List Int)),s).1) = [] from rfl] at g1'
    rw [show (net s).c.Inputs = s.1.Inputs from rfl,show (net s).full = s.2 from rfl,show (net s).c.Gates = s.1.Gates from rfl,g1',g2]
    simp only [ZmD]
    exact ZkU hb q1 h0 h22 q3
end
def wide1 (t:D.Term):Bool:=(t.Op == 2 || decide (3 ≤ t.Op ∧ t.Op ≤ 16)) && (match t.Kids with | a :: _=>a.W == 16 | []=>false)
mutual
def wideB:D.Term → Bool
 | ⟨op,w,m,nm,ks⟩=>wide1 ⟨op,w,m,nm,ks⟩ || wideBs ks
def wideBs:List D.Term → Bool
 | []=>false
 | t :: l=>wideB t || wideBs l
end
theorem Zcz (t:D.Term):wideB t = (wide1 t || wideBs t.Kids):=by cases t; rw [wideB]
theorem Zcx (t:D.Term) (l:List D.Term):wideBs (t :: l) = (wideB t || wideBs l):=by rw [wideBs]
theorem ZbM:wideBs [] = false:=by rw [wideBs]
theorem ZeR {x:D.Term}:∀ {l:List D.Term},wideBs l = false → x ∈ l → wideB x = false
 | y :: l,h,hx=>by
  rw [Zcx,ZoC] at h
  rcases Zno.1 hx with rfl | hx
  ·exact h.1
  ·exact ZeR h.2 hx
theorem ZjR:∀ (n:Nat) (t:D.Term),1048600 + cnt t ≤ n → nodeB t = true → Xg n t = some (wideB t):=by
  intro n
  induction n with
  | zero=>intro t h; omega
  | succ n ih =>
    intro t hn hb
    have hcn:=XV t
    have hkl:t.Kids.length ≤ 3:=by
      obtain ⟨op,w,m,nm,ks⟩:=t
      obtain ⟨-,hsh⟩:=YW hb
      rcases hsh with ⟨-,rfl,-⟩ | ⟨-,rfl,-⟩ | ⟨-,-,-,a,rfl,-⟩ | ⟨-,-,-,-,a,b,rfl,-⟩ | ⟨-,-,-,a,b,c,rfl,-⟩ | ⟨-,-,-,a,b,rfl,-⟩ | ⟨-,-,-,-,a,rfl,-⟩ | ⟨-,-,-,a,rfl,-⟩ <;> simp
    have hone:((if (t.Op == 2) then some default else (X5 t.Op)).bind fun x1=>(if ((t.Op == 2) || x1) then (get? t.Kids 0) else some default).bind fun x2=>some (((t.Op == 2) || x1) && (x2.W == 16))) = some (wide1 t):=by
      have hk:(t.Op = 2 ∨ 3 ≤ t.Op ∧ t.Op ≤ 16) → ∃ a l,t.Kids = a :: l:=fun ho=>by
        obtain ⟨op,w,m,nm,ks⟩:=t
        obtain ⟨-,hsh⟩:=YW hb
        simp only at ho
        rcases hsh with ⟨rfl,-⟩ | ⟨rfl,-⟩ | ⟨-,-,-,a,rfl,-⟩ | ⟨-,-,-,-,a,b,rfl,-⟩ | ⟨rfl,-⟩ | ⟨rfl,-⟩ | ⟨rfl,-⟩ | ⟨h1,-⟩
        · omega
        · omega
        · exact ⟨_,_,rfl⟩
        · exact ⟨_,_,rfl⟩
        · omega
        · omega
        · omega
        · omega
      unfold wide1 X5
      by_cases h2:t.Op = 2
      · obtain ⟨a, l, hl⟩ := hk (.inl h2)
        simp [h2,hl,g0]
      · have b2 : (t.Op == 2) = false := by simpa using h2
        by_cases h3:3 ≤ t.Op ∧ t.Op ≤ 16
        · obtain ⟨a, l, hl⟩ := hk (.inr h3)
          simp [b2,hl,g0,h3]
        · have : ¬ (t.Op ≥ 3 ∧ t.Op ≤ 16) := h3
          have e:(decide (t.Op ≥ 3) && decide (t.Op ≤ 16)) = false:=by simp; omega
          simp [b2,e,h3]
    rw [Xg,Zcz]
    obtain ⟨y1,hy1,hone⟩:=ZnL.1 hone
    obtain ⟨y2,hy2,hone⟩:=ZnL.1 hone
    rw [hy1]
    simp only [ZmD]
    rw [hy2]
    simp only [ZmD]
    rw [Option.some.inj hone]
    cases hw1:wide1 t
    · simp only [ZmF, ZmQ, Znt]
      obtain ⟨r,g1,g2⟩:=ZZ (l:=t.Kids) (n:=n) (σ:=Unit) (ρ:=Unit ⊕ Bool) (B:=fun (s1:Int)=>
        if (decide (s1 < (len t.Kids))) then
         (get? t.Kids s1).bind fun x3=>
         (Xg n x3).bind fun x4=>
         if x4 then
          some (.inr (.inr true))
         else
          some (.inl ((w64 (s1 + 1))))
        else
         some (.inr (.inl ()))) (fun k _=>(k:Int)) (fun ys _=>wideBs ys = wideBs t.Kids ∧ ∀ y ∈ ys,y ∈ t.Kids) (fun r=>r = if wideBs t.Kids = true then (.inr true:Unit ⊕ Bool) else .inl ())
        (fun k x xs a hk hx hlen ⟨h1,h2⟩=>by
          have hd:decide ((k:Int) < len t.Kids) = true:=by rw [Za]; simp; omega
          have hxk:=h2 x (by simp)
          have hc:=XW hxk
          simp only [hd,Znl,get?_nat,hx,ZmD,ih x (by omega) (nodeK hb x hxk)]
          rw [Zcx] at h1
          cases hx':wideB x
          · rw [hx'] at h1
            simp only [Znt] at h1
            simp only [ZmF,ZmQ]
            exact .inl ⟨(),by rw [Zb (by omega) (by omega)]; rfl,h1,fun y hy=>h2 y (by simp [hy])⟩
          · rw [hx'] at h1
            simp only [Zoq] at h1
            exact .inr ⟨_,rfl,by rw [← h1]; rfl⟩)
        (fun a ⟨h1,_⟩=>by
          have hd:decide ((t.Kids.length:Int) < len t.Kids) = false:=by rw [Za]; simp
          simp only [hd,ZmF,ZmQ]
          rw [ZbM] at h1
          exact ⟨_,rfl,by rw [← h1]; rfl⟩) (a:=()) ⟨rfl,fun _ h=>h⟩ (by omega)
      rw [show ((0:Nat):Int) = 0 from rfl] at g1
      rw [g1,g2]
      cases wideBs t.Kids <;> rfl
    · rfl
theorem Zhd {n:Nat} {x:Int} {w:Nat} (hw:w ≤ 16):∀ (d:Nat) (l:List Int),l.length + d = w → d < n → iterN (fun (s3:(List Int))=>
           if (decide ((len s3) < (w:Int))) then
            (app? s3 ([x]:List Int)).bind fun x24=>
            some (.inl (x24))
           else
            some (.inr (s3))
          ) n l = some (l ++ List.replicate d x)
  | 0, l, h, hn => by
    obtain ⟨n,rfl⟩ : ∃ j,n = j + 1:=⟨n - 1,by omega⟩
    rw [iterN]
    rw [ZmI (by rw [Za]; simp; omega)]
    simp
  | d + 1, l, h, hn => by
    obtain ⟨n,rfl⟩ : ∃ j,n = j + 1:=⟨n - 1,by omega⟩
    rw [iterN]
    rw [ZmJ (by rw [Za]; simp; omega),ZbT (by simp; omega)]
    simp only [ZmD]
    rw [Zhd hw d (l ++ [x]) (by simp; omega) (by omega)]
    rw [Znf,Zny,← ZoH]
section
variable {n:Nat} [FU n] {s:BS}
def ifin (n:Nat) (p1:D.Term) (ls:List (List Int)) (m:D.builder):Option ((List Int) × D.builder):=
   (get? ls 0).bind fun x8=>
   if (p1.Op == 1) then
    (Yy n x8).bind fun x9=>
    some (x9,(D.builder.mk (D.Circuit.mk m.c.Inputs m.c.Gates) m.line m.full))
   else
    if (p1.Op == 2) then
     (Yl n p1.W 0).bind fun x10=>
     (ZF n (D.builder.mk (D.Circuit.mk m.c.Inputs m.c.Gates) m.line m.full) 4 x10 x8).bind fun x11=>
     some (x11.1,x11.2)
    else
     if (p1.Op == 17) then
      (mk? p1.W (0:Int)).bind fun x12 =>
      (iterN (fun (s2 : Int × (List Int) × Int × Bool × (List D.Gate) × (List (D.Gate × Int))) =>
       if (decide (s2.1 < (len x12))) then
        (get? x8 0).bind fun x13=>
        (get? ls 1).bind fun x14=>
        (get? x14 s2.1).bind fun x15=>
        (get? ls 2).bind fun x16=>
        (get? x16 s2.1).bind fun x17=>
        (Zc (D.builder.mk (D.Circuit.mk s2.2.2.1 s2.2.2.2.2.1) s2.2.2.2.2.2 s2.2.2.2.1) x13 x15 x17).bind fun x18=>
        (set? s2.2.1 s2.1 x18.1).bind fun x19=>
        some (.inl ((w64 (s2.1 + 1)),x19,x18.2.c.Inputs,x18.2.full,x18.2.c.Gates,x18.2.line))
       else
        some (.inr (s2.2.1,s2.2.2.1,s2.2.2.2.1,s2.2.2.2.2.1,s2.2.2.2.2.2))
      ) n (0,x12,m.c.Inputs,m.full,m.c.Gates,m.line)).bind fun (rl2:(List Int) × Int × Bool × (List D.Gate) × (List (D.Gate × Int)))=>
      some (rl2.1,(D.builder.mk (D.Circuit.mk rl2.2.1 rl2.2.2.2.1) rl2.2.2.2.2 rl2.2.2.1))
     else
      if (p1.Op == 18) then
       (get? ls 1).bind fun x20=>
       (app? x20 x8).bind fun x21=>
       some (x21,(D.builder.mk (D.Circuit.mk m.c.Inputs m.c.Gates) m.line m.full))
      else
       if (p1.Op == 19) then
        (cut? x8 p1.N (w64 (p1.N + p1.W))).bind fun x22=>
        some (x22,(D.builder.mk (D.Circuit.mk m.c.Inputs m.c.Gates) m.line m.full))
       else
        if ((p1.Op == 20) || (p1.Op == 21)) then
         if (p1.Op == 21) then
          (get? x8 (w64 ((len x8) - 1))).bind fun x23 =>
          (iterN (fun (s3 : (List Int)) =>
           if (decide ((len s3) < p1.W)) then
            (app? s3 ([x23]:List Int)).bind fun x24=>
            some (.inl (x24))
           else
            some (.inr (s3))
          ) n (x8)).bind fun (rl3:(List Int))=>
          some (rl3,(D.builder.mk (D.Circuit.mk m.c.Inputs m.c.Gates) m.line m.full))
         else
          (iterN (fun (s4 : (List Int)) =>
           if (decide ((len s4) < p1.W)) then
            (app? s4 ([(-1)]:List Int)).bind fun x25=>
            some (.inl (x25))
           else
            some (.inr (s4))
          ) n (x8)).bind fun (rl4:(List Int))=>
          some (rl4,(D.builder.mk (D.Circuit.mk m.c.Inputs m.c.Gates) m.line m.full))
        else
         (get? ls 1).bind fun x26=>
         (ZF n (D.builder.mk (D.Circuit.mk m.c.Inputs m.c.Gates) m.line m.full) p1.Op x8 x26).bind fun x27=>
         some (x27.1,x27.2)
theorem Zkw {t:D.Term} {ls:List (List Int)} {m:D.builder} (hb:nodeB t = true) (hwd:wide1 t = false) (hs:CircP s.1) (hm:RelB m s) (h0:t.Op ≠ 0) (h22:t.Op ≠ 22) (hk:KK s t.Kids ls):∃ m',ifin n t ls m = some ((fin t.Op t.W.toNat t.N.toNat ls s).1,m') ∧ RelB m' (fin t.Op t.W.toNat t.N.toNat ls s).2:=by
  obtain ⟨op,w,mm,nm,ks⟩:=t
  obtain ⟨hw,hsh⟩:=YW hb
  simp only at h0 h22 hk ⊢
  have eW:((w.toNat:Nat):Int) = w:=by omega
  unfold ifin
  simp only
  rcases hsh with ⟨rfl,-⟩ | ⟨rfl,-⟩ | ⟨ho,-,-,a,rfl,ha,haw⟩ | ⟨h3,h16,-,-,a,b,rfl,ha,hb',hab,h13,h14⟩ | ⟨rfl,-,-,a,b,c,rfl,ha,hb',hc,ha1,hbw,hcw⟩ | ⟨rfl,-,-,a,b,rfl,ha,hb',habw⟩ | ⟨rfl,-,hm0,hm1,a,rfl,ha,haw⟩ | ⟨ho,-,-,a,rfl,ha,haw⟩
  · exact absurd rfl h0
  · exact absurd rfl h22
  · obtain ⟨la, r1, k1, hn1, rfl⟩ := KK1 hk
    obtain rfl:=KK0 hn1
    have hl:la.length = w.toNat:=by rw [k1.1,haw]
    rw [g0]
    simp only [ZmD]
    unfold fin
    simp only [Znq]
    rcases ho with rfl | rfl
    · rw [ZmJ (by rfl), ZmJ (by trivial), Cc.impl_opp hs.lines1 (by omega) k1.2]
      exact ⟨m,rfl,hm⟩
    · have hne:¬ w.toNat = 16:=fun e=>by
        have:a.W = 16:=by omega
        simp [wide1,this] at hwd
      rw [ZmI (by decide),ZmJ (by rfl),ZmI (by decide),ZmJ (by trivial),← eW,Ze7 (by omega),ZeG]
      simp only [ZmD,Znz]
      rw [ZmI hne]
      obtain ⟨m',e,r⟩:=Cc.impl_op (fuel:=n) hs (op:=4) (a:=List.replicate w.toNat (-1)) (b:=la) (by omega) (by simp [hl]) (by simp; omega) (by simp; omega) (Zdw hs) k1.2 hm
      have e':ZF n (D.builder.mk (D.Circuit.mk m.c.Inputs m.c.Gates) m.line m.full) 4 (List.replicate w.toNat (-1)) la = _:=e
      rw [e']
      exact ⟨m',rfl,r⟩
  · obtain ⟨la, r1, k1, hn1, rfl⟩ := KK1 hk
    obtain ⟨lb,r2,k2,hn2,rfl⟩:=KK1 hn1
    obtain rfl:=KK0 hn2
    have hA:=Yx ha
    have hla:=k1.1
    have hne:¬ la.length = 16:=fun e=>by
      have:a.W = 16:=by omega
      simp [wide1,this] at hwd
      omega
    unfold fin
    simp only [Znq,ZnR,g0,g1,ZmD]
    have bb:∀ k:Int,k ≤ 2 ∨ 17 ≤ k → (op == k) = false:=fun k hk=>by simp; omega
    have cc:∀ k:Int,k ≤ 2 ∨ 17 ≤ k → ¬ op = k:=fun k hk=>by omega
    simp only [bb 1 (by omega),bb 2 (by omega),bb 17 (by omega),bb 18 (by omega),bb 19 (by omega),bb 20 (by omega),bb 21 (by omega),cc 1 (by omega),cc 2 (by omega),cc 17 (by omega),cc 18 (by omega),cc 19 (by omega),cc 20 (by omega),cc 21 (by omega),ZmF,ZmQ,Zol]
    rw [ZmI hne]
    obtain ⟨m',e,r⟩:=Cc.impl_op (fuel:=n) hs (op:=op) (a:=la) (b:=lb) ⟨h3,h16⟩ (by rw [k1.1,k2.1,hab]) (by omega) (by omega) k1.2 k2.2 hm
    have e':ZF n (D.builder.mk (D.Circuit.mk m.c.Inputs m.c.Gates) m.line m.full) op la lb = _:=e
    rw [e']
    exact ⟨m',rfl,r⟩
  · obtain ⟨la, r1, k1, hn1, rfl⟩ := KK1 hk
    obtain ⟨lb,r2,k2,hn2,rfl⟩:=KK1 hn1
    obtain ⟨lc,r3,k3,hn3,rfl⟩:=KK1 hn2
    obtain rfl:=KK0 hn3
    unfold fin
    simp only [Znq,ZnR,g0,g1,g2,ZmD]
    rw [ZmI (by decide),ZmI (by decide),ZmJ (by rfl)]
    rw [ZmI (by omega),ZmI (by omega),ZmJ (by trivial)]
    have hla:=k1.1
    have hlb:=k2.1
    have hlc:=k3.1
    rw [ha1] at hla
    rw [hbw] at hlb
    rw [hcw] at hlc
    have hl1:la.length = 1:=by simpa using hla
    have hg0:get? la 0 = some (la.getD 0 0):=by
      obtain ⟨z,hz⟩:=ZoS.1 hl1
      rw [hz]; rfl
    have hc0:litN (lines s.1) (la.getD 0 0) = true:=k1.2 _ (Cc.getD_mem (by omega))
    have hz:(lb.zip lc).length = w.toNat:=by rw [ZnQ,hlb,hlc,ZoY]
    rw [show mk? w (0:Int) = some (List.replicate w.toNat 0) from by unfold mk?; rw [ZmJ ⟨by omega,by unfold room; omega⟩]]
    simp only [ZmD]
    obtain ⟨m',e,r⟩:=Cc.impl_seq (fuel:=n) (B:=(fun (s2:Int × (List Int) × Int × Bool × (List D.Gate) × (List (D.Gate × Int)))=>
       if (decide (s2.1 < (len (List.replicate w.toNat (0:Int))))) then
        (get? la 0).bind fun x13=>
        (get? lb s2.1).bind fun x15=>
        (get? lc s2.1).bind fun x17=>
        (Zc (D.builder.mk (D.Circuit.mk s2.2.2.1 s2.2.2.2.2.1) s2.2.2.2.2.2 s2.2.2.2.1) x13 x15 x17).bind fun x18=>
        (set? s2.2.1 s2.1 x18.1).bind fun x19=>
        some (.inl ((w64 (s2.1 + 1)),x19,x18.2.c.Inputs,x18.2.full,x18.2.c.Gates,x18.2.line))
       else
        some (.inr (s2.2.1,s2.2.2.1,s2.2.2.2.1,s2.2.2.2.2.1,s2.2.2.2.2.2)))) hs (by omega) (Zk3 hs hc0 k2.2 k3.2) (L0:=List.replicate w.toNat 0) (by rw [hz,Zn3]) (fun j L m1 s' x hx hc' hg hr hL _=>by
          have hj:j < w.toNat:=by have:=(ZmG.1 hx).1; omega
          have hz2:=Cc.zip_mem hx
          obtain ⟨m4,e4,r4⟩:=Cc.impl_if hc' (Za6 hc0 hg) (Za6 (k2.2 _ (ZmM hz2.1)) hg) (Za6 (k3.2 _ (ZmM hz2.2)) hg) m1 hr
          have e4':Zc (D.builder.mk (D.Circuit.mk m1.c.Inputs m1.c.Gates) m1.line m1.full) (la.getD 0 0) x.1 x.2 = _:=e4
          refine ⟨m4,?_,r4⟩
          simp only
          rw [ZmJ (by rw [Za]; simp; omega),hg0]
          simp only [ZmD]
          rw [get?_nat,get?_nat,hz2.1,hz2.2]
          simp only [ZmD,e4']
          rw [set?_nat (by omega)]
          simp only [ZmD]
          rw [Zb (by omega) (by omega)]
          rfl) (fun L m1=>by
          simp only
          rw [ZmI (by rw [Za]; simp; omega)]) hm
    rw [e]
    exact ⟨m',rfl,r⟩
  · obtain ⟨la, r1, k1, hn1, rfl⟩ := KK1 hk
    obtain ⟨lb,r2,k2,hn2,rfl⟩:=KK1 hn1
    obtain rfl:=KK0 hn2
    have hA:=Yx ha
    have hB:=Yx hb'
    have hla:=k1.1
    have hlb:=k2.1
    unfold fin
    simp only [Znq,ZnR,g0,g1,ZmD]
    rw [ZmI (by decide),ZmI (by decide),ZmI (by decide),ZmJ (by rfl)]
    rw [ZmI (by omega),ZmI (by omega),ZmI (by omega),ZmJ (by trivial)]
    rw [ZbT (by omega)]
    exact ⟨m,rfl,hm⟩
  · obtain ⟨la, r1, k1, hn1, rfl⟩ := KK1 hk
    obtain rfl:=KK0 hn1
    have hA:=Yx ha
    have hla:=k1.1
    unfold fin
    simp only [Znq,g0,ZmD]
    rw [ZmI (by decide),ZmI (by decide),ZmI (by decide),ZmI (by decide),ZmJ (by rfl)]
    rw [ZmI (by omega),ZmI (by omega),ZmI (by omega),ZmI (by omega),ZmJ (by trivial)]
    have:=ZiH (l:=la) (m:=mm.toNat) (w:=w.toNat) (by omega) (by omega)
    rw [show ((mm.toNat:Nat):Int) = mm by omega,eW] at this
    rw [this]
    exact ⟨m,rfl,hm⟩
  · obtain ⟨la, r1, k1, hn1, rfl⟩ := KK1 hk
    obtain rfl:=KK0 hn1
    have hA:=Yx ha
    have hla:=k1.1
    have hpad:∀ x:Int,_:=fun x=>Zhd (n:=n) (x:=x) (w:=w.toNat) (by omega) (w.toNat - la.length) la (by omega) (by have:=FU.le (n:=n); omega)
    rw [eW] at hpad
    unfold fin
    simp only [Znq,g0,ZmD]
    rcases ho with rfl | rfl
    · rw [ZmI (by decide), ZmI (by decide), ZmI (by decide), ZmI (by decide), ZmI (by decide), ZmJ (by rfl), ZmI (by decide)]
      rw [ZmI (by omega),ZmI (by omega),ZmI (by omega),ZmI (by omega),ZmI (by omega),ZmJ (by trivial)]
      rw [hpad]
      exact ⟨m,rfl,hm⟩
    · rw [ZmI (by decide), ZmI (by decide), ZmI (by decide), ZmI (by decide), ZmI (by decide), ZmJ (by rfl), ZmJ (by rfl)]
      rw [ZmI (by omega),ZmI (by omega),ZmI (by omega),ZmI (by omega),ZmI (by omega),ZmI (by omega),ZmJ (by trivial)]
      rw [Zlj (by omega) (by omega)]
      simp only [ZmD]
      rw [hpad]
      exact ⟨m,rfl,hm⟩
end
def MapOk (vs:List D.Value) (mp:List (Str × List Int)):Prop:=∀ v ∈ vs,v.Name.bytes.length ≤ 1000 ∧ (mp.lookup v.Name).getD [] = varL vs v.Name v.W.toNat
section
variable {vs:List D.Value} (hp:vs.Pairwise fun x y=>x.Name ≠ y.Name) {mp:List (Str × List Int)} (hmp:MapOk vs mp)
include hp hmp
theorem Zlg:∀ (n:Nat) (t:D.Term) (s:BS) (m:D.builder),1048600 + cnt t ≤ n → nodeB t = true → wideB t = false → TV vs t → CircP s.1 → VF vs s.1 → RelB m s → ∃ m',ZN n m t (some mp) = some ((nP vs t s).1,m') ∧ RelB m' (nP vs t s).2:=by
  intro n
  induction n with
  | zero=>intro t s m h; omega
  | succ n ih =>
    intro t s m hn hb hwd ht hs hv hm
    haveI:FU n:=⟨by omega⟩
    have hw:=Yx hb
    have hcn:=XV t
    have eW:((t.W.toNat:Nat):Int) = t.W:=by omega
    rw [Zcz,ZoC] at hwd
    rw [ZN,ZiE]
    by_cases h0:t.Op = 0
    · rw [ZmJ (by simpa using h0), ZmJ h0, ← eW, Ze7 (by omega)]
      simp only [ZmD,Znz]
      exact ⟨m,rfl,hm⟩
    rw [ZmI (by simpa using h0),ZmI h0]
    by_cases h22:t.Op = 22
    · rw [ZmJ (by simpa using h22), ZmJ h22]
      obtain ⟨v,hv1,hv2,hv3⟩:=ht (t.Name,t.W) (by rw [Zbo,ZmJ h22]; simp)
      simp only at hv2 hv3
      obtain ⟨q1,q2⟩:=hmp v hv1
      rw [hv2] at q1 q2
      rw [hv3] at q2
      have e:mgeto? fitS ([]:List Int) (some mp) t.Name = some (varL vs t.Name t.W.toNat):=by
        unfold mgeto? mget?
        rw [ZmJ (by unfold fitS; simp; omega)]
        exact congrArg some q2
      rw [e]
      simp only [ZmD]
      rw [show Ze (varL vs t.Name t.W.toNat) = some (varL vs t.Name t.W.toNat) from by unfold Ze; rw [ZbT (by rw [Zht]; simp; omega)]; rfl]
      exact ⟨m,rfl,hm⟩
    rw [ZmI (by simpa using h22),ZmI h22]
    have hkg:∀ x ∈ t.Kids,∀ s:BS,CircP s.1 → VF vs s.1 → GoodL s x.W.toNat (nP vs x s):=fun x hx s' hs' hv'=>Zc0 hp _ x s' (ZmY _) (nodeK hb x hx) (ZcE ht h22 hx) hs' hv'
    obtain ⟨q1,q2,q3⟩:=Zct t.Kids s hkg hs hv
    have hkl:t.Kids.length ≤ 3:=by
      obtain ⟨op,w,m,nm,ks⟩:=t
      obtain ⟨-,hsh⟩:=YW hb
      rcases hsh with ⟨-,rfl,-⟩ | ⟨-,rfl,-⟩ | ⟨-,-,-,a,rfl,-⟩ | ⟨-,-,-,-,a,b,rfl,-⟩ | ⟨-,-,-,a,b,c,rfl,-⟩ | ⟨-,-,-,a,b,rfl,-⟩ | ⟨-,-,-,-,a,rfl,-⟩ | ⟨-,-,-,a,rfl,-⟩ <;> simp
    rw [show mk? (len t.Kids) (([]:List Int):List Int) = some (List.replicate t.Kids.length []) from by rw [Za]; unfold mk?; rw [ZmJ ⟨by omega,by unfold room; omega⟩]; simp]
    simp only [ZmD]
    obtain ⟨r,g1,m',rfl,g2⟩:=ZZ (l:=t.Kids) (n:=n) (σ:=List (List Int) × D.builder) (ρ:=Int × Bool × (List D.Gate) × (List (D.Gate × Int)) × (List (List Int))) (B:=fun (s1:Int × Int × Bool × (List D.Gate) × (List (D.Gate × Int)) × (List (List Int)))=>
      if (decide (s1.1 < (len t.Kids))) then
       (get? t.Kids s1.1).bind fun x5=>
       (ZN n (D.builder.mk (D.Circuit.mk s1.2.1 s1.2.2.2.1) s1.2.2.2.2.1 s1.2.2.1) x5 (some mp)).bind fun x6=>
       (set? s1.2.2.2.2.2 s1.1 x6.1).bind fun x7=>
       some (.inl ((w64 (s1.1 + 1)),x6.2.c.Inputs,x6.2.full,x6.2.c.Gates,x6.2.line,x7))
      else
       some (.inr (s1.2.1,s1.2.2.1,s1.2.2.2.1,s1.2.2.2.2.1,s1.2.2.2.2.2))) (fun k a=>((k:Int),a.2.c.Inputs,a.2.full,a.2.c.Gates,a.2.line,a.1))
      (fun ys a=>∃ (pre:List (List Int)) (s':BS),a.1 = pre ++ List.replicate ys.length [] ∧ pre ++ (nPs vs ys s').1 = (nPs vs t.Kids s).1 ∧ (nPs vs ys s').2 = (nPs vs t.Kids s).2 ∧ RelB a.2 s' ∧ CircP s'.1 ∧ VF vs s'.1 ∧ pre.length + ys.length = t.Kids.length ∧ ∀ y ∈ ys,y ∈ t.Kids)
      (fun r=>∃ m':D.builder,r = (m'.c.Inputs,m'.full,m'.c.Gates,m'.line,(nPs vs t.Kids s).1) ∧ RelB m' (nPs vs t.Kids s).2)
      (fun k x xs a hk hx hlen' ⟨pre,s',h0,h1,h2,hr,h3,h4,h5,h6⟩=>by
        have hd:decide ((k:Int) < len t.Kids) = true:=by rw [Za]; simp; omega
        have hxk:=h6 x (by simp)
        have hc:=XW hxk
        obtain ⟨m1,e,r1⟩:=ih x s' a.2 (by omega) (nodeK hb x hxk) (ZeR hwd.2 hxk) (ZcE ht h22 hxk) h3 h4 hr
        have e':ZN n (D.builder.mk (D.Circuit.mk a.2.c.Inputs a.2.c.Gates) a.2.line a.2.full) x (some mp) = _:=e
        have g:=hkg x hxk s' h3 h4
        simp only [Znc] at h5 hlen'
        have hpk:pre.length = k:=by omega
        have hset:set? a.1 (k:Int) (nP vs x s').1 = some ((pre ++ [(nP vs x s').1]) ++ List.replicate xs.length []):=by
          rw [h0,set?_nat (by simp; omega),ZnE _ _ (by omega),hpk,Zof,Znc,ZoH,Zoi,Znf,Zny]
        simp only [hd,Znl,get?_nat,hx,ZmD,e',hset]
        rw [Zb (by omega) (by omega)]
        rw [Zdm] at h1 h2
        exact .inl ⟨((pre ++ [(nP vs x s').1]) ++ List.replicate xs.length [],m1),rfl,pre ++ [(nP vs x s').1],(nP vs x s').2,rfl,by rw [← h1]; simp,h2,r1,g.circ,h4.mono g.grow,by simp; omega,fun y hy=>h6 y (by simp [hy])⟩)
      (fun a ⟨pre,s',h0,h1,h2,hr,h3,h4,h5,h6⟩=>by
        have hd:decide ((t.Kids.length:Int) < len t.Kids) = false:=by rw [Za]; simp
        simp only [hd,ZmF,ZmQ]
        rw [Zgv] at h1 h2
        simp only [Znu,ZnI,List.replicate_zero] at h1 h0
        exact ⟨_,rfl,a.2,by rw [h0,h1],by rw [← h2]; exact hr⟩) (a:=(List.replicate t.Kids.length [],m)) ⟨[],s,by simp,by simp,rfl,hm,hs,hv,by simp,fun _ h=>h⟩ (by omega)
    rw [show ((0:Nat):Int) = 0 from rfl] at g1
    rw [show ((List.replicate t.Kids.length ([]:List Int),m).2) = m from rfl,show ((List.replicate t.Kids.length ([]:List Int),m).1) = List.replicate t.Kids.length [] from rfl] at g1
    rw [g1]
    simp only [ZmD]
    exact Zkw hb hwd.1 q1 g2 h0 h22 q3
end
open Cc (BS LS CircP Grow GoodL Good litN lines negs seqP ifP opP net RelB FOk FU andP orP xorP addP accP mulK divK shP shK)
theorem Zb3 {s:BS} {a b:Int} (h:s.2 = true):(andP s a b).2.2 = true:=by
 unfold andP
 split
 ·exact h
 split
 ·exact h
 split
 ·exact h
 split
 ·exact h
 split
 ·rfl
 ·exact h
theorem Zhq {s:BS} {a b:Int} (h:s.2 = true):(orP s a b).2.2 = true:=Zb3 h
theorem Zge {s:BS} {a b:Int} (h:s.2 = true):(xorP s a b).2.2 = true:=Zhq (Zb3 (Zb3 h))
theorem Ziw {s:BS} {c a b:Int} (h:s.2 = true):(ifP s c a b).2.2 = true:=Zhq (Zb3 (Zb3 h))
theorem Zlk {α:Type} {f:BS → α → Int × BS} (hf:∀ s x,s.2 = true → (f s x).2.2 = true):∀ {l:List α} {t:LS},t.2.2 = true → (l.foldl (fun t x=>(t.1 ++ [(f t.2 x).1],(f t.2 x).2)) t).2.2 = true
 | [],t,h=>h
 | x :: l,t,h=>Zlk hf (l:=l) (t:=(t.1 ++ [(f t.2 x).1],(f t.2 x).2)) (hf _ _ h)
theorem Zbq {α:Type} {f:BS → α → Int × BS} (hf:∀ s x,s.2 = true → (f s x).2.2 = true) {l:List α} {s:BS} (h:s.2 = true):(seqP f s l).2.2 = true:=Zlk hf (t:=([],s)) h
theorem ZiR {α:Type} {f:BS → Int → α → Int × BS} (hf:∀ s c x,s.2 = true → (f s c x).2.2 = true):∀ {l:List α} {s:BS} {c:Int},s.2 = true → (accP f s c l).2.2 = true:=by
 have:∀ {l:List α} {t:Int × BS},t.2.2 = true → (l.foldl (fun t x=>f t.2 t.1 x) t).2.2 = true:=fun {l}=>by
  induction l with
  | nil=>intro t h; exact h
  | cons x l ih=>intro t h; exact ih (hf _ _ _ h)
 exact fun {l s c} h=>this (t:=(c,s)) h
theorem ZdC {s:BS} {a b:List Int} {c:Int} (h:s.2 = true):(addP s a b c).2.2.2 = true:=by
 have:∀ {l:List (Int × Int)} {t:Cc.AS},t.2.2.2 = true → (l.foldl Cc.addStep t).2.2.2 = true:=fun {l}=>by
  induction l with
  | nil=>intro t h; exact h
  | cons x l ih=>intro t h; exact ih (Zhq (Zb3 (Zb3 (Zge (Zge h)))))
 exact this (t:=([],c,s)) h
theorem ZkV {s:BS} {a b:List Int} (h:s.2 = true):∀ k,(mulK s a b k).2.2 = true
 | 0=>h
 | k + 1=>by rw [Cc.mulK_succ]; exact ZdC (Zbq (fun s x h=>Zb3 h) (ZkV h k))
theorem Zh0 {s:BS} {a b:List Int} (h:s.2 = true):∀ k,(divK s a b k).2.2.2 = true
 | 0=>h
 | k + 1=>by rw [Cc.divK_succ]; exact Zbq (fun s x h=>Ziw h) (ZdC (Zh0 h k))
theorem Zk8 {s:BS} {a b:List Int} {L:Bool} {fill:Int} (h:s.2 = true):∀ k,(shK s a b L fill k).2.2 = true
 | 0=>h
 | k + 1=>by rw [Cc.shK_succ]; exact Zbq (fun s x h=>Ziw h) (Zk8 h k)
theorem ZkP {s:BS} {a b:List Int} {L:Bool} {fill:Int} (h:s.2 = true):(shP s a b L fill).2.2 = true:=Zbq (fun s x h=>Ziw h) (ZiR (fun s c x h=>Zhq h) (Zk8 h _))
theorem Xq {c:Prop} [Decidable c] {x y:LS} (h1:x.2.2 = true) (h2:y.2.2 = true):(if c then x else y).2.2 = true:=by split <;> assumption
theorem Zmz {s:BS} {op:Int} {a b:List Int} (h:s.2 = true):(opP s op a b).2.2 = true:=by
 unfold opP
 exact Xq (ZdC h) (Xq (ZdC h) (Xq (ZkV h _) (Xq (Zh0 h _) (Xq (Zh0 h _) (Xq (Zbq (fun s x h=>Zb3 h) h) (Xq (Zbq (fun s x h=>Zhq h) h) (Xq (Zbq (fun s x h=>Zge h) h) (Xq (ZkP h) (Xq (ZkP h) (Xq (ZkP h) (Xq (ZiR (fun s c x h=>Zb3 (Zge h)) h) (Xq (ZdC h) (ZdC h)))))))))))))
theorem ZkM {op:Int} {w m:Nat} {ls:List (List Int)} {s:BS} (h:s.2 = true):(fin op w m ls s).2.2 = true:=by
 unfold fin
 repeat' split
 all_goals first | exact h | rfl | exact Zmz h | exact Zbq (fun s x h=>Ziw h) h
mutual
theorem Zm1 (vs:List D.Value):∀ (t:D.Term) (s:BS),s.2 = true → (nP vs t s).2.2 = true
 | ⟨op,w,m,nm,ks⟩,s,h=>by
  rw [nP]
  split
  ·exact h
  split
  ·exact h
  ·exact ZkM (ZhH vs ks s h)
theorem ZhH (vs:List D.Value):∀ (l:List D.Term) (s:BS),s.2 = true → (nPs vs l s).2.2 = true
 | [],s,h=>by rw [nPs]; exact h
 | t :: l,s,h=>by rw [nPs]; exact ZhH vs l _ (Zm1 vs t s h)
end
theorem ZiX {vs:List D.Value} (hp:vs.Pairwise fun x y=>x.Name ≠ y.Name):∀ (n:Nat) (t:D.Term) (s:BS),cnt t ≤ n → nodeB t = true → wideB t = true → TV vs t → CircP s.1 → VF vs s.1 → (nP vs t s).2.2 = true:=by
 intro n
 induction n with
 | zero=>intro t s h; have:=XV t; omega
 | succ n ih=>
  intro t s hc hb hwd ht hs hv
  have hcn:=XV t
  rw [ZiE]
  by_cases h0:t.Op = 0
  ·exfalso
   obtain ⟨op,w,m,nm,ks⟩:=t
   obtain ⟨-,hsh⟩:=YW hb
   simp only at h0
   subst h0
   rcases hsh with ⟨-,rfl,-⟩ | ⟨h,-⟩ | ⟨h,-⟩ | ⟨h,-⟩ | ⟨h,-⟩ | ⟨h,-⟩ | ⟨h,-⟩ | ⟨h,-⟩
   ·rw [Zcz] at hwd; simp [wide1,ZbM] at hwd
   all_goals omega
  rw [ZmI h0]
  by_cases h22:t.Op = 22
  ·exfalso
   obtain ⟨op,w,m,nm,ks⟩:=t
   obtain ⟨-,hsh⟩:=YW hb
   simp only at h22
   subst h22
   rcases hsh with ⟨h,-⟩ | ⟨-,rfl,-⟩ | ⟨h,-⟩ | ⟨-,h,-⟩ | ⟨h,-⟩ | ⟨h,-⟩ | ⟨h,-⟩ | ⟨h,-⟩
   ·omega
   ·rw [Zcz] at hwd; simp [wide1,ZbM] at hwd
   all_goals omega
  rw [ZmI h22]
  have hkg:∀ x ∈ t.Kids,∀ s:BS,CircP s.1 → VF vs s.1 → GoodL s x.W.toNat (nP vs x s):=fun x hx s' hs' hv'=>Zc0 hp _ x s' (ZmY _) (nodeK hb x hx) (ZcE ht h22 hx) hs' hv'
  obtain ⟨q1,q2,q3⟩:=Zct t.Kids s hkg hs hv
  rw [Zcz,Zn2] at hwd
  rcases hwd with hwd | hwd
  ·
   obtain ⟨op,w,m,nm,ks⟩:=t
   obtain ⟨hw,hsh⟩:=YW hb
   unfold wide1 at hwd
   simp only [ZmK,Zn2,ZnK,ZmN] at hwd
   obtain ⟨ho,hk⟩:=hwd
   simp only at h0 h22 q1 q2 q3 ⊢
   rcases hsh with ⟨rfl,-⟩ | ⟨rfl,-⟩ | ⟨ho',-,-,a,rfl,ha,haw⟩ | ⟨h3,h16,-,-,a,b,rfl,ha,hb',hab,h13,h14⟩ | ⟨rfl,-⟩ | ⟨rfl,-⟩ | ⟨rfl,-⟩ | ⟨ho',-⟩
   ·omega
   ·omega
   ·have h2 : op = 2 := by omega
    subst h2
    simp only [ZnK] at hk
    unfold fin
    rw [ZmI (by omega),ZmJ rfl,ZmJ (by omega)]
   ·simp only [ZnK] at hk
    obtain ⟨la,r1,k1,hn1,e⟩:=KK1 q3
    have hl:((nPs vs [a,b] s).1.getD 0 []).length = 16:=by rw [e,Znq,k1.1,hk]; rfl
    unfold fin
    rw [ZmI (by omega),ZmI (by omega),ZmI (by omega),ZmI (by omega),ZmI (by omega),ZmI (by omega),ZmI (by omega),ZmJ hl]
   all_goals omega
  ·refine ZkM ?_
   have:∀ (l:List D.Term) (s:BS),(∀ x ∈ l,x ∈ t.Kids) → wideBs l = true → CircP s.1 → VF vs s.1 → (nPs vs l s).2.2 = true:=fun l=>by
    induction l with
    | nil=>intro s _ h; rw [ZbM] at h; cases h
    | cons x l ihl=>
     intro s hm h hs' hv'
     rw [Zcx,Zn2] at h
     rw [Zdm]
     have hx:=hm x (by simp)
     have g:=hkg x hx s hs' hv'
     rcases h with h | h
     ·exact ZhH vs l _ (ih x s (by have:=XW hx; omega) (nodeK hb x hx) h (ZcE ht h22 hx) hs' hv')
     ·exact ihl _ (fun y hy=>hm y (by simp [hy])) h g.circ (hv'.mono g.grow)
   exact this t.Kids s (fun _ h=>h) hwd hs hv
theorem Zew {t:D.Term} (h:nodeB t = true) (ho:t.Op = 22):t.Name.bytes.length ≤ 8 ∧ t.Kids = []:=by
 rw [Zbp,ZmK] at h
 have h:=h.1
 unfold locB shB at h
 simp only [ho,ZmK] at h
 have h:=h.2
 simp [nameB] at h
 exact ⟨by omega,by simpa using h.1⟩
theorem collect:∀ (n:Nat) (t:D.Term) (g:List (Str × Int)),nodeB t = true → msz t ≤ 1048576 → g.length + (vrs t).length ≤ 1000 → 1048580 + cnt t ≤ n → Yh n t (some g) = some (some ((vrs t).reverse ++ g)):=by
 intro n
 induction n with
 | zero=>intro t g _ _ _ _; omega
 | succ n ih=>
  intro t g hb hs hg hn
  have hz:=Za5 t
  have hcn:=XV t
  rw [Yh]
  by_cases o1:t.Op = 22
  ·obtain ⟨h1, h2⟩ := Zew hb o1
   have hv:vrs t = [(t.Name,t.W)]:=by rw [Zbo,ZmJ o1]
   have c1:(t.Op == 22) = true:=by simpa using o1
   have hw:=Yx hb
   rw [hv] at hg
   simp only [c1,Znl,ZmD,put1 (g:=g) (s:=t.Name) (by omega) hw (by simp at hg; omega)]
   obtain ⟨m,rfl⟩ : ∃ m,n = m + 1:=⟨n - 1,by omega⟩
   rw [h2,hv]
   rfl
  ·have c1 : (t.Op == 22) = false := by simpa using o1
   have hv:vrs t = vrss t.Kids:=by rw [Zbo,ZmI o1]
   simp only [c1,ZmF,ZmQ]
   rw [Zbp,ZmK,Y9,ZmR] at hb
   rw [hv] at hg ⊢
   obtain ⟨r,g1,g2⟩:=ZZ (l:=t.Kids) (n:=n) (σ:=Option (List (Str × Int))) (ρ:=Option (List (Str × Int))) (B:=fun (s2:Int × (Option (List (Str × Int))))=>
     if (decide (s2.1 < (len t.Kids))) then
      (get? t.Kids s2.1).bind fun x5=>
      (Yh n x5 s2.2).bind fun x6=>
      some (.inl ((w64 (s2.1 + 1)),x6))
     else
      some (.inr (s2.2))) (fun k a=>((k:Int),a)) (fun ys a=>∃ ga,a = some ga ∧ (vrss ys).reverse ++ ga = (vrss t.Kids).reverse ++ g ∧ ga.length + (vrss ys).length ≤ 1000 ∧ ∀ x ∈ ys,x ∈ t.Kids)
     (fun r=>r = some ((vrss t.Kids).reverse ++ g))
     (fun k x xs a hk' hx hlen ⟨ga, i0, i1, i2, i3⟩ => by
      have hxk:=i3 x (by simp)
      have:=ZaK hxk
      have:=XW hxk
      have hd:decide ((k:Int) < len t.Kids) = true:=by rw [Za]; simp; omega
      rw [Zaf,ZmO] at i2
      rw [Zaf,List.reverse_append] at i1
      subst i0
      simp only [hd,Znl,get?_nat,hx,ZmD]
      rw [ih x ga (hb.2 x hxk) (by omega) (by omega) (by omega)]
      refine .inl ⟨some ((vrs x).reverse ++ ga),by simp only [ZmD]; rw [Zb (by omega) (by omega)]; rfl,_,rfl,by rw [← i1,Znf],by simp; omega,fun y hy=>i3 y (by simp [hy])⟩)
     (fun a ⟨ga, i0, i1, i2, i3⟩ => by
      have hd:decide ((t.Kids.length:Int) < len t.Kids) = false:=by rw [Za]; simp
      simp only [hd,ZmF,ZmQ]
      rw [Zb5] at i1
      exact ⟨_,rfl,by rw [i0,← i1]; rfl⟩) (a:=some g) ⟨g,rfl,rfl,hg,fun x hx=>hx⟩ (by omega)
   rw [show ((0:Nat):Int) = 0 from rfl] at g1
   rw [g1,g2]; rfl
theorem Zf6:∀ {l g g':List (Str × Int)},runV g l = some g' → (∀ p:Str × Int,g.lookup p.1 = some p.2 → g'.lookup p.1 = some p.2) ∧ ∀ p ∈ l,g'.lookup p.1 = some p.2
 | [],g,g',h=>by simp only [runV,Option.some.injEq] at h; subst h; exact ⟨fun p hp=>hp,fun p hp=>by cases hp⟩
 | v :: l,g,g',h=>by
  simp only [runV,ZnL] at h
  obtain ⟨g1,h1,h2⟩:=h
  obtain ⟨i1,i2⟩:=Zf6 h2
  have hv:g1.lookup v.1 = some v.2:=by
   unfold stp at h1
   split at h1
   ·rename_i w hw
    split at h1
    ·rename_i e; cases h1; rw [hw,e]
    ·cases h1
   ·cases h1; rw [Znk]; simp
  have hk:∀ p:Str × Int,g.lookup p.1 = some p.2 → g1.lookup p.1 = some p.2:=fun p hp=>by
   unfold stp at h1
   split at h1
   ·split at h1
    ·cases h1; exact hp
    ·cases h1
   ·rename_i hn
    cases h1
    have:p.1 ≠ v.1:=fun e=>by rw [e,hn] at hp; cases hp
    rw [Znk]
    have:(p.1 == v.1) = false:=by simpa using this
    rw [this]; exact hp
  refine ⟨fun p hp=>i1 p (hk p hp),fun p hp=>?_⟩
  rcases Zno.1 hp with rfl | hp
  ·exact i1 p hv
  ·exact i2 p hp
theorem ZeF {κ β:Type} [BEq κ] [LawfulBEq κ] {x:κ} {y:β}:∀ {m:List (κ × β)},m.lookup x = some y → (x,y) ∈ m
 | [],h=>by cases h
 | (u,z) :: m,h=>by
  rw [Znk] at h
  by_cases e:x == u
  ·rw [e] at h
   simp only [Option.some.injEq] at h
   rw [eq_of_beq e,h]; exact ZmV
  ·simp only [e] at h
   exact ZmZ _ (ZeF h)
theorem ZfC {κ β:Type} [BEq κ] [LawfulBEq κ] {x:κ} {y:β}:∀ {m:List (κ × β)},(x,y) ∈ m → ∃ z,m.lookup x = some z
 | (u,z) :: m,h=>by
  rw [Znk]
  by_cases e:x == u
  ·rw [e]; exact ⟨z,rfl⟩
  ·simp only [e]
   rcases Zno.1 h with h | h
   ·simp only [Prod.mk.injEq] at h
    rw [h.1] at e; simp at e
   ·exact ZfC h
theorem Zf7 {t:D.Term} (h:termB t = true) (hs:msz t ≤ 1048576):Xv fuel t = some (vtab (vrs t).reverse):=by
 unfold Xv
 rw [Zc1 hs,h]
 unfold termB at h
 simp only [ZmK,ZmN] at h
 have hv:=Zfa t
 simp only [ZmD,ZmT,ZmF,ZmQ]
 rw [collect fuel t [] h.1.2 hs (by simp; omega) (by unfold fuel; omega)]
 simp only [ZmD,Znu]
 rw [ZmJ (by simp; omega)]
instance:FU fuel:=⟨by unfold fuel; omega⟩
theorem ZgW:∀ {l g g':List (Str × Int)},runV g l = some g' → ∀ p:Str × Int,g'.lookup p.1 = some p.2 → g.lookup p.1 = some p.2 ∨ p ∈ l
 | [],g,g',h,p,hp=>by simp only [runV,Option.some.injEq] at h; subst h; exact .inl hp
 | v :: l,g,g',h,p,hp=>by
  simp only [runV,ZnL] at h
  obtain ⟨g1,h1,h2⟩:=h
  rcases ZgW h2 p hp with h3 | h3
  ·unfold stp at h1
   split at h1
   ·split at h1
    ·cases h1; exact .inl h3
    ·cases h1
   ·cases h1
    obtain ⟨s,w⟩:=p
    obtain ⟨s',w'⟩:=v
    simp only [List.lookup] at h3
    split at h3
    ·rename_i e
     have e:s = s':=by simpa using e
     cases h3
     exact .inr (by rw [e]; simp)
    ·exact .inl h3
  ·exact .inr (ZmZ _ h3)
def zv (v:D.Value):D.Value:=⟨v.Name,v.W,0⟩
structure VL (t:D.Term) (L:List D.Value):Prop where
 eq:L.map zv = vtab (vrs t).reverse
 nm:L.Pairwise fun x y=>x.Name ≠ y.Name
 mem:∀ v ∈ L,(v.Name,v.W) ∈ vrs t
 all:TV L t
theorem Zmj {a b:Str} (h:Str.ltb a b = true):a ≠ b:=fun e=>by
 subst e
 have:=ZbJ a
 rw [this] at h; cases h
theorem Zh2 {t:D.Term} (h:termB t = true) (hs:msz t ≤ 1048576):∃ L,Yq fuel t = some L ∧ VL t L:=by
 have hb:=h
 unfold termB at hb
 simp only [ZmK,ZmN] at hb
 obtain ⟨⟨hc,hn⟩,hr⟩:=hb
 have hv:=Zfa t
 obtain ⟨l',b,e,hT,hF⟩:=ZfF fuel t [] [] hs ⟨List.Pairwise.nil,rfl,fun v hv=>(by cases hv),fun s w h=>(by simp at h)⟩ (by simp; omega) (by unfold fuel; omega)
 cases b with
 | false=>rw [hF rfl] at hr; cases hr
 | true=>
  obtain ⟨g',hg,hR⟩:=hT rfl
  obtain ⟨r1,r2,r3,r4⟩:=hR
  have hlk:=(Zf6 hg).2
  have hmem:∀ s w,g'.lookup s = some w → (s,w) ∈ vrs t:=fun s w h=>by
   rcases ZgW hg (s,w) h with h | h
   ·simp at h
   ·exact h
  have hrev:∀ s w,(vrs t).reverse.lookup s = some w ↔ g'.lookup s = some w:=fun s w=>by
   constructor
   ·intro h
    exact hlk (s,w) (Zpq.1 (ZeF h))
   ·intro h
    obtain ⟨z,hz⟩:=ZfC (Zpq.2 (hmem s w h))
    have:=hlk (s,z) (Zpq.1 (ZeF hz))
    rw [h] at this
    rw [hz,Option.some.inj this]
  refine ⟨l',?_,?_,?_,?_,?_⟩
  ·unfold Yq
   rw [Za2 hs,h]
   simp only [ZmD,ZmT,ZmF,ZmQ]
   rw [e]; rfl
  ·refine Zkt (List.pairwise_map.2 r1) (ZbZ _) fun v => ?_
   rw [Zcj,ZnG]
   constructor
   ·rintro ⟨x, hx, rfl⟩
    exact ⟨(hrev _ _).2 (r3 x hx),rfl⟩
   ·rintro ⟨h1, h2⟩
    have h1':=(hrev _ _).1 h1
    obtain ⟨x,hx,hxn⟩:=r4 _ _ h1'
    have:=r3 x hx
    rw [hxn,h1'] at this
    refine ⟨x,hx,?_⟩
    cases v
    simp only [zv] at *
    rw [hxn,← Option.some.inj this,h2]
  ·exact r1.imp fun h=>Zmj h
  ·exact fun v hv=>hmem _ _ (r3 v hv)
  ·intro p hp
   have:=hlk p hp
   obtain ⟨x,hx,hxn⟩:=r4 _ _ this
   have h2:=r3 x hx
   rw [hxn,this] at h2
   exact ⟨x,hx,hxn,(Option.some.inj h2).symm⟩
def bitsV (l:List D.Value) (a:Int):Int:=(l.map (·.W)).foldl (· + ·) a
theorem ZhN (v:D.Value) (l:List D.Value) (a:Int):bitsV (v :: l) a = bitsV l (a + v.W):=rfl
theorem ZjI {L:List D.Value} (hl:L.length ≤ 1000) (hw:∀ v ∈ L,1 ≤ v.W ∧ v.W ≤ 16):XR fuel L = some (bitsV L 0):=by
  unfold XR
  obtain ⟨r,g1,g2⟩:=ZZ (l:=L) (n:=fuel) (σ:=Int) (ρ:=Int) (B:=fun (s1:Int × Int)=>
    if (decide (s1.2 < (len L))) then
     (get? L s1.2).bind fun x1=>
     some (.inl ((w64 (s1.1 + x1.W)),(w64 (s1.2 + 1))))
    else
     some (.inr (s1.1))) (fun k a=>(a,(k:Int))) (fun ys a=>bitsV ys a = bitsV L 0 ∧ 0 ≤ a ∧ a ≤ 16 * (L.length - ys.length:Int) ∧ ∀ y ∈ ys,y ∈ L) (fun r=>r = bitsV L 0)
    (fun k x xs a hk hx hlen ⟨h1,h2,h3,h4⟩=>by
      have hd:decide ((k:Int) < len L) = true:=by rw [Za]; simp; omega
      have hxw:=hw x (h4 x (by simp))
      simp only [Znc] at hlen h3
      simp only [hd,Znl,get?_nat,hx,ZmD]
      exact .inl ⟨a + x.W,by rw [Zb (by omega) (by omega),Zb (by omega) (by omega)]; rfl,h1,by omega,by omega,fun y hy=>h4 y (by simp [hy])⟩)
    (fun a ⟨h1,_⟩=>by
      have hd:decide ((L.length:Int) < len L) = false:=by rw [Za]; simp
      simp only [hd,ZmF,ZmQ]
      exact ⟨_,rfl,h1⟩) (a:=0) ⟨rfl,by omega,by omega,fun y h=>h⟩ (lt_fuel (by omega))
  rw [show ((0:Nat):Int) = 0 from rfl] at g1
  rw [g1,g2]; rfl
theorem ZjK {a:Int} {w:Nat} (hw:w ≤ 16) (h0:0 ≤ a) (h1:a ≤ 100000):iterN (fun (s2:Int × Int × (List Int))=>
     if (decide (s2.2.1 ≥ 0)) then
      (set? s2.2.2 s2.2.1 (w64 (2 + s2.1))).bind fun x6=>
      some (.inl ((w64 (s2.1 + 1)),(w64 (s2.2.1 - 1)),x6))
     else
      some (.inr (s2.1,s2.2.2))
    ) fuel (a,(w:Int) - 1,List.replicate w 0) = some (a + w,(List.range w).map fun k:Nat=>1 + a + (w:Int) - (k:Int)):=by
  rw [Ya (I:=fun k t=>t = (a + (k:Int),(w:Int) - 1 - (k:Int),List.replicate (w - k) 0 ++ (List.range k).map fun i:Nat=>1 + a + (k:Int) - (i:Int))) (m:=w) (r:=(a + (w:Int),(List.range w).map fun k:Nat=>1 + a + (w:Int) - (k:Int))) (fun k t hk ht=>?_) (fun t ht=>?_) w 0 _ (by omega) (by simp) fuel (lt_fuel (by omega))]
  all_goals subst ht
  · refine ⟨_, ?_, rfl⟩
    simp only
    rw [ZmJ (by simp; omega),show (w:Int) - 1 - (k:Int) = ((w - 1 - k:Nat):Int) by omega,set?_nat (by simp; omega),Zb (x:=2 + (a + (k:Int))) (by omega) (by omega)]
    simp only [ZmD]
    rw [Zb (by omega) (by omega),Zb (by omega) (by omega)]
    have e:(List.replicate (w - k) (0:Int) ++ (List.range k).map fun i:Nat=>1 + a + (k:Int) - (i:Int)).set (w - 1 - k) (2 + (a + (k:Int))) = List.replicate (w - (k + 1)) 0 ++ (List.range (k + 1)).map fun i:Nat=>1 + a + ((k + 1:Nat):Int) - (i:Int):=by
      rw [List.set_append_left _ _ (by simp; omega),show w - k = (w - (k + 1)) + 1 by omega,Zpb,ZnE _ _ (by simp; omega),Zn3,show w - 1 - k - (w - (k + 1)) = 0 by omega,Zoi,Znf,Zny,List.range_succ_eq_map,ZmX,List.map_map]
      congr 2
      · omega
      · apply List.map_congr_left
        intro i _
        simp only [Function.comp]
        omega
    rw [e]
    simp only [Option.some.injEq,Sum.inl.injEq,Prod.mk.injEq]
    exact ⟨by omega,by omega,trivial⟩
  · simp only
    rw [ZmI (by simp; omega),Zof]
    rfl
theorem Zi6 {x:D.Value} {ys:List D.Value}:∀ {pre:List D.Value} {a:Int},(∀ v ∈ pre,v.Name ≠ x.Name) → atV (pre ++ x :: ys) a x.Name = bitsV pre a + x.W
 | [],a,_=>by
  show (if Str.eqb x.Name x.Name = true then a + x.W else _) = _
  rw [ZmJ (ZeX _)]; rfl
 | v :: pre,a,h=>by
  show (if Str.eqb v.Name x.Name = true then a + v.W else atV (pre ++ x :: ys) (a + v.W) x.Name) = _
  rw [ZmI (by rw [Zdd]; simpa using h v (by simp))]
  exact Zi6 fun u hu=>h u (by simp [hu])
theorem Zln {L:List D.Value} (hl:L.length ≤ 1000) (hw:∀ v ∈ L,1 ≤ v.W ∧ v.W ≤ 16) (hn:∀ v ∈ L,v.Name.bytes.length ≤ 1000) (hp:L.Pairwise fun x y=>x.Name ≠ y.Name):∃ mp,iterN (fun (s1:Int × Int × (List (Str × List Int)))=>
   if (decide (s1.2.1 < (len (L.map zv)))) then
    (get? (L.map zv) s1.2.1).bind fun x4=>
    (mk? x4.W (0:Int)).bind fun x5 =>
    (iterN (fun (s2 : Int × Int × (List Int)) =>
     if (decide (s2.2.1 ≥ 0)) then
      (set? s2.2.2 s2.2.1 (w64 (2 + s2.1))).bind fun x6=>
      some (.inl ((w64 (s2.1 + 1)),(w64 (s2.2.1 - 1)),x6))
     else
      some (.inr (s2.1,s2.2.2))
    ) fuel (s1.1,(w64 (x4.W - 1)),x5)).bind fun (rl2:Int × (List Int))=>
    (mput? fitS s1.2.2 x4.Name rl2.2).bind fun x7=>
    some (.inl (rl2.1,(w64 (s1.2.1 + 1)),x7))
   else
    some (.inr (s1.1,s1.2.2))
  ) fuel (0,0,([]:List (Str × List Int))) = some (bitsV L 0,mp) ∧ MapOk L mp:=by
  obtain ⟨r,g1,mp,rfl,g2⟩:=ZZ (l:=L) (n:=fuel) (σ:=Int × List (Str × List Int)) (ρ:=Int × List (Str × List Int)) (B:=fun (s1:Int × Int × (List (Str × List Int)))=>
   if (decide (s1.2.1 < (len (L.map zv)))) then
    (get? (L.map zv) s1.2.1).bind fun x4=>
    (mk? x4.W (0:Int)).bind fun x5 =>
    (iterN (fun (s2 : Int × Int × (List Int)) =>
     if (decide (s2.2.1 ≥ 0)) then
      (set? s2.2.2 s2.2.1 (w64 (2 + s2.1))).bind fun x6=>
      some (.inl ((w64 (s2.1 + 1)),(w64 (s2.2.1 - 1)),x6))
     else
      some (.inr (s2.1,s2.2.2))
    ) fuel (s1.1,(w64 (x4.W - 1)),x5)).bind fun (rl2:Int × (List Int))=>
    (mput? fitS s1.2.2 x4.Name rl2.2).bind fun x7=>
    some (.inl (rl2.1,(w64 (s1.2.1 + 1)),x7))
   else
    some (.inr (s1.1,s1.2.2))) (fun k a=>(a.1,(k:Int),a.2))
    (fun ys a=>∃ pre,pre ++ ys = L ∧ a.1 = bitsV pre 0 ∧ 0 ≤ a.1 ∧ a.1 ≤ 16 * pre.length ∧ a.2.length = pre.length ∧ ∀ v ∈ pre,a.2.lookup v.Name = some (varL L v.Name v.W.toNat))
    (fun r=>∃ mp,r = (bitsV L 0,mp) ∧ MapOk L mp)
    (fun k x xs a hk hx hlen ⟨pre,h1,h2,h3,h4,h5,h6⟩=>by
      have hxL:x ∈ L:=by rw [← h1]; simp
      have hxw:=hw x hxL
      have hpl:pre.length ≤ L.length:=by rw [← h1]; simp
      have hd:decide ((k:Int) < len (L.map zv)) = true:=by rw [Za]; simp; omega
      have eW:((x.W.toNat:Nat):Int) = x.W:=by omega
      have hz:(L.map zv)[k]? = some (zv x):=by rw [Znn,hx]; rfl
      have hne:∀ v ∈ pre,v.Name ≠ x.Name:=fun v hv=>by
        rw [← h1] at hp
        exact (Zov.1 hp).2.2 v hv x (by simp)
      have hat:atV L 1 x.Name = 1 + a.1 + x.W:=by
        rw [← h1,Zi6 hne,h2]
        have:=Zc7 (pre.map (·.W)) 1 0
        unfold bitsV
        rw [show (1:Int) + 0 = 1 from rfl] at this
        rw [this]
      simp only [hd,Znl,get?_nat,hz,ZmD]
      rw [show (zv x).W = x.W from rfl,show (zv x).Name = x.Name from rfl,show mk? x.W (0:Int) = some (List.replicate x.W.toNat 0) from by unfold mk?; rw [ZmJ ⟨by omega,by unfold room; omega⟩]]
      simp only [ZmD]
      rw [Zb (x:=x.W - 1) (by omega) (by omega)]
      have:=ZjK (a:=a.1) (w:=x.W.toNat) (by omega) h3 (by omega)
      rw [eW] at this
      rw [this]
      simp only [ZmD]
      rw [show mput? fitS a.2 x.Name ((List.range x.W.toNat).map fun k:Nat=>1 + a.1 + x.W - (k:Int)) = some ((x.Name,varL L x.Name x.W.toNat) :: a.2) from by
        unfold mput?
        rw [ZmJ ⟨by have:=hn x hxL; unfold fitS; simp; omega,by unfold room; omega⟩]
        unfold varL; rw [hat]]
      simp only [ZmD]
      rw [Zb (by omega) (by omega)]
      refine .inl ⟨(a.1 + x.W,(x.Name,varL L x.Name x.W.toNat) :: a.2),rfl,pre ++ [x],by rw [Znf]; exact h1,?_,by show 0 ≤ a.1 + x.W; omega,by simp; omega,by simp [h5],fun v hv=>?_⟩
      · show a.1 + x.W = bitsV (pre ++ [x]) 0
        unfold bitsV
        rw [ZnN,ZnS,h2]; rfl
      · rcases Znb.1 hv with hv | hv
        · have hn := hne v hv
          rw [Znk,show (v.Name == x.Name) = false by simpa using hn]
          exact h6 v hv
        · rw [Znm] at hv
          subst hv
          rw [Znk]; simp)
    (fun a ⟨pre,h1,h2,h3,h4,h5,h6⟩=>by
      have hd:decide ((L.length:Int) < len (L.map zv)) = false:=by rw [Za]; simp
      simp only [hd,ZmF,ZmQ]
      rw [Znu] at h1
      subst h1
      exact ⟨_,rfl,a.2,by rw [h2],fun v hv=>⟨hn v hv,by rw [h6 v hv]; rfl⟩⟩) (a:=(0,[])) ⟨[],rfl,rfl,by omega,by simp,rfl,fun v hv=>by cases hv⟩ (lt_fuel (by omega))
  rw [show ((0:Nat):Int) = 0 from rfl] at g1
  exact ⟨mp,g1,g2⟩
theorem Zfl:∀ (d:Nat) (j:Int) (s:Str) (n:Nat),0 ≤ j → j ≤ 200000000000000000 → j < 10 ^ d → s.bytes.length + d ≤ 1000 → d < n → ∃ o:Str,iterN (fun (s1:Int × Str)=>
   if (decide (s1.1 > 0)) then
    (rem? s1.1 10).bind fun x1=>
    (cat? (strOf ([(Byt.mk (IntKind.u8.wrap (w64 (48 + x1))))]:List Byt)) s1.2).bind fun x2=>
    (quo? s1.1 10).bind fun x3=>
    some (.inl (x3,x2))
   else
    some (.inr (s1.2))) n (j,s) = some o ∧ o.bytes.length ≤ 1000
 | d,j,s,0,_,_,_,_,h=>by omega
 | 0,j,s,n + 1,h0,_,h1,h2,_=>by
  have:j = 0:=by simp at h1; omega
  subst this
  exact ⟨s,by unfold iterN; rfl,by omega⟩
 | d + 1,j,s,n + 1,h0,hb,h1,h2,h3=>by
  by_cases c:0 < j
  ·have c1 : decide (j > 0) = true := decide_eq_true c
   have c2:rem? j 10 = some (j.tmod 10):=by unfold rem?; rw [ZmI (by omega)]
   have hj:j / 10 < 10 ^ d:=by
    rw [Int.pow_succ] at h1; omega
   have c3:quo? j 10 = some (j / 10):=by
    unfold quo?
    rw [ZmI (by omega),Int.tdiv_eq_ediv_of_nonneg h0,Zb (by omega) (by omega)]
   have c4:cat? (strOf ([(Byt.mk (IntKind.u8.wrap (w64 (48 + j.tmod 10))))]:List Byt)) s = some ⟨(strOf ([(Byt.mk (IntKind.u8.wrap (w64 (48 + j.tmod 10))))]:List Byt)).bytes ++ s.bytes⟩:=by
    unfold cat?
    rw [ZmJ (by simp [strOf]; omega)]
   obtain ⟨o,g1,g2⟩:=Zfl d (j / 10) ⟨(strOf ([(Byt.mk (IntKind.u8.wrap (w64 (48 + j.tmod 10))))]:List Byt)).bytes ++ s.bytes⟩ n (by omega) (by omega) hj (by simp [strOf]; omega) (by omega)
   refine ⟨o,?_,g2⟩
   unfold iterN
   simp only [c1,Znl,c2,ZmD,c4,c3]
   exact g1
  ·have : decide (j > 0) = false := decide_eq_false c
   exact ⟨s,by unfold iterN; simp only [this,ZmF,ZmQ],by omega⟩
theorem ZfA {k:Int} {n:Nat} (h0:0 ≤ k) (h1:k ≤ 200000000000000000) (hn:20 ≤ n):∃ s,Yf n k = some s:=by
 unfold Yf
 by_cases c:k ≤ 0
 ·rw [ZmJ (by simpa using c)]; exact ⟨_,rfl⟩
 rw [ZmI (by simpa using c)]
 obtain ⟨o,e1,e2⟩:=Zfl 18 k ⟨[]⟩ n h0 h1 (by omega) (by simp) (by omega)
 rw [e1]
 simp only [ZmD]
 unfold cat?
 rw [ZmJ (by simp; omega)]
 exact ⟨_,rfl⟩
theorem Zid:∀ (n:Nat) (l:List D.Term) (k:Int),l.length + mszs l ≤ 1048576 → 1048580 + (l.length + mszs l) ≤ n → 0 ≤ k → k + 4 * ((l.length:Int) + mszs l) ≤ 100000000000000000 → ∃ r,Yz n l k = some r ∧ k ≤ r.1 ∧ r.1 ≤ k + 4 * ((l.length:Int) + mszs l):=by
 intro n
 induction n with
 | zero=>intro l k _ h; omega
 | succ n ih=>
  intro l k hs hn h0 hb
  rw [Yz]
  obtain ⟨r,g1,g2⟩:=ZZ (l:=l) (n:=n) (σ:=Int × List D.Term) (ρ:=Int × List D.Term) (B:=fun (s1:Int × Int × (List D.Term))=>
  if (decide (s1.2.1 < (len l))) then
   (get? s1.2.2 s1.2.1).bind fun x1=>
   (Yf n (w64 ((w64 ((w64 (s1.1 + 1)) + 1)) + 1))).bind fun x2=>
   (Yz n x1.Kids (w64 ((w64 ((w64 ((w64 (s1.1 + 1)) + 1)) + 1)) + 1))).bind fun x3=>
   (set? s1.2.2 s1.2.1 (D.Term.mk s1.1 (w64 (s1.1 + 1)) (w64 ((w64 (s1.1 + 1)) + 1)) x2 x3.2)).bind fun x4=>
   some (.inl (x3.1,(w64 (s1.2.1 + 1)),x4))
  else
   some (.inr (s1.1,s1.2.2))) (fun j a=>(a.1,(j:Int),a.2))
   (fun ys a=>(∃ pre,a.2 = pre ++ ys ∧ pre.length + ys.length = l.length) ∧ ys.length + mszs ys ≤ l.length + mszs l ∧ k ≤ a.1 ∧ a.1 + 4 * ((ys.length:Int) + mszs ys) ≤ k + 4 * ((l.length:Int) + mszs l))
   (fun r=>k ≤ r.1 ∧ r.1 ≤ k + 4 * ((l.length:Int) + mszs l))
   (fun j x xs a hj hx hlen ⟨⟨pre, i1, i2⟩, i3, i4, i5⟩ => by
    obtain ⟨q,z⟩:=a
    simp only at i1 i4 i5 ⊢
    have hz:=Za5 x
    rw [Zbg] at i3 i5
    simp only [Znc] at i2 i3 i5 hlen
    have hp:pre.length = j:=by omega
    have hd:decide ((j:Int) < len l) = true:=by rw [Za]; simp; omega
    have hg:z[j]? = some x:=by rw [i1,ZmS (by omega),hp,Zof]; rfl
    simp only [hd,Znl,get?_nat,hg,ZmD]
    rw [Zb (x:=q + 1) (by omega) (by omega),Zb (x:=q + 1 + 1) (by omega) (by omega),Zb (x:=q + 1 + 1 + 1) (by omega) (by omega),Zb (x:=q + 1 + 1 + 1 + 1) (by omega) (by omega)]
    obtain ⟨tx,ht⟩:=ZfA (k:=q + 1 + 1 + 1) (n:=n) (by omega) (by omega) (by omega)
    obtain ⟨⟨k3,r3⟩,m1,m2,m3⟩:=ih x.Kids (q + 1 + 1 + 1 + 1) (by omega) (by omega) (by omega) (by omega)
    simp only at m2 m3
    rw [ht]
    simp only [ZmD]
    rw [m1]
    simp only [ZmD]
    rw [set?_nat (by rw [i1]; simp; omega)]
    refine .inl ⟨(k3,z.set j (D.Term.mk q (q + 1) (q + 1 + 1) tx r3)),by simp only [ZmD]; rw [Zb (by omega) (by omega)]; rfl,⟨pre ++ [D.Term.mk q (q + 1) (q + 1 + 1) tx r3],?_,by simp; omega⟩,by omega,by show k ≤ k3; omega,by show k3 + _ ≤ _; omega⟩
    show z.set j _ = _
    rw [i1,ZnE _ _ (by omega),hp,Zof]; simp)
   (fun a ⟨_, _, i4, i5⟩ => by
    have hd:decide ((l.length:Int) < len l) = false:=by rw [Za]; simp
    simp only [hd,ZmF,ZmQ]
    rw [Zd5] at i5
    simp only [ZnI] at i5
    exact ⟨_,rfl,i4,by omega⟩) (a:=(k,l)) ⟨⟨[],rfl,by simp⟩,by omega,by show k ≤ k; omega,by show k + _ ≤ _; omega⟩ (by omega)
  rw [show ((0:Nat):Int) = 0 from rfl] at g1
  rw [g1]
  exact ⟨_,rfl,g2⟩
theorem Zlz {l:List D.Term} {k:Int} (h:sml l) (h0:0 ≤ k) (h1:k ≤ 90000000000000000):∃ k' r,Yz fuel l k = some (k',r) ∧ k ≤ k' ∧ k' ≤ k + 4194304:=by
 unfold sml at h
 obtain ⟨⟨k',r⟩,e,a,b⟩:=Zid fuel l k h (by unfold fuel; omega) h0 (by omega)
 exact ⟨k',r,e,a,by simp only at b; omega⟩
theorem ZmB:∀ n:Nat,(∀ t:D.Term,cnt t < n → nodeB t = true → ∀ p ∈ vrs t,1 ≤ p.2 ∧ p.2 ≤ 16 ∧ p.1.bytes.length ≤ 8):=by
 intro n
 induction n with
 | zero=>intro t h; omega
 | succ n ih=>
  intro t h hb p hp
  have hc:=XV t
  rw [Zbo] at hp
  by_cases h22:t.Op = 22
  ·rw [ZmJ h22, Znm] at hp
   subst hp
   have:=Yx hb
   exact ⟨this.1,this.2,(Zew hb h22).1⟩
  ·rw [ZmI h22] at hp
   have:∀ l:List D.Term,(∀ x ∈ l,x ∈ t.Kids) → p ∈ vrss l → ∃ x ∈ t.Kids,p ∈ vrs x:=fun l=>by
    induction l with
    | nil=>intro _ h; rw [Zb5] at h; cases h
    | cons y l ihl=>
     intro hm h
     rw [Zaf,Znb] at h
     rcases h with h | h
     ·exact ⟨y,hm y (by simp),h⟩
     ·exact ihl (fun z hz=>hm z (by simp [hz])) h
   obtain ⟨x,hx,hpx⟩:=this t.Kids (fun _ h=>h) hp
   exact ih x (by have:=XW hx; omega) (nodeK hb x hx) p hpx
def c0:D.Circuit:=⟨0,[]⟩
def circT (t:D.Term):D.Circuit × List Int × Bool:=
 if termB t = true then
  let L:=(Yq fuel t).getD []
  let r:=nP L t (⟨bitsV L 0,[]⟩,false)
  if bitsV L 0 > 30 ∨ r.2.2 = true then (c0,[],false) else (r.2.1,r.1,true)
 else (c0,[],false)
theorem Zdq {b:Int} (h0:0 ≤ b) (h1:b ≤ 30):CircP ⟨b,[]⟩:=⟨h0,h1,by simp,fun k g hg=>by simp at hg⟩
section
variable {t:D.Term} (h:termB t = true) (hs:msz t ≤ 1048576)
include h hs
theorem ZcT:∃ L,Yq fuel t = some L ∧ VL t L ∧ nodeB t = true ∧ cnt t ≤ 240 ∧ (∀ v ∈ L,1 ≤ v.W ∧ v.W ≤ 16) ∧ (∀ v ∈ L,v.Name.bytes.length ≤ 1000) ∧ L.length ≤ 1000 ∧ 0 ≤ bitsV L 0:=by
 obtain ⟨L,e,hL⟩:=Zh2 h hs
 have hb:=h
 unfold termB at hb
 simp only [ZmK,ZmN] at hb
 obtain ⟨⟨hc,hn⟩,-⟩:=hb
 have hw:∀ v ∈ L,1 ≤ v.W ∧ v.W ≤ 16 ∧ v.Name.bytes.length ≤ 8:=fun v hv=>ZmB _ t (Nat.lt_succ_self _) hn _ (hL.mem v hv)
 have hlen:L.length ≤ 1000:=by
  have h1:=congrArg List.length hL.eq
  rw [Zoy] at h1
  have h2:=Zdp (vrs t).reverse
  rw [List.length_reverse] at h2
  have:=Zfa t
  omega
 have hb0:=Zgn (l:=L) (a:=0) fun v hv=>(hw v hv).1
 exact ⟨L,e,hL,hn,hc,fun v hv=>⟨(hw v hv).1,(hw v hv).2.1⟩,fun v hv=>by have:=(hw v hv).2.2; omega,hlen,by unfold bitsV; omega⟩
end
theorem ZhY {t:D.Term} (hs:msz t ≤ 1048576):XD fuel t = some (circT t):=by
 unfold XD circT
 by_cases h:termB t = true
 ·obtain ⟨L, e, hL, hn, hc, hw, hnm, hlen, hb0⟩ := ZcT h hs
  rw [e,Za2 hs,h]
  simp only [ZmD,ZmT,ZmF,ZmQ,Znt,Znl,Znv]
  rw [ZjI hlen hw]
  simp only [ZmD]
  by_cases hb:bitsV L 0 > 30
  ·rw [ZmJ (by simpa using hb),ZmJ (.inl hb)]; rfl
  ·rw [ZmI (by simpa using hb)]
   have hC:=Zdq hb0 (by omega)
   rw [Cc.spec_new hC]
   simp only [ZmD]
   have hv:VF L (⟨bitsV L 0,[]⟩ : D.Circuit):=⟨fun v hv=>(hw v hv).1,rfl⟩
   rw [Zks hL.nm (fun v hv=>(hw v hv).2) fuel t (⟨bitsV L 0,[]⟩,false) (by unfold fuel; omega) hn hL.all hC hv]
   simp only [ZmD]
   have g:=Zc0 hL.nm _ t (⟨bitsV L 0,[]⟩,false) (ZmY _) hn hL.all hC hv
   generalize nP L t (⟨bitsV L 0,[]⟩,false) = r at g ⊢
   have hw16:=Yx hn
   have hl:=g.len
   cases hf:r.2.2
   ·rw [ZmI (by decide), ZmI (by rintro (h | h); exact hb h; cases h)]
    rw [ZbT (by simp; omega)]; rfl
   ·rw [ZmJ rfl,ZmJ (.inr rfl)]; rfl
 ·have h' : termB t = false := by simpa using h
  have e:Yq fuel t = some []:=by
   unfold Yq
   rw [Za2 hs,h']; rfl
  rw [e,Za2 hs,h',ZmI (by decide)]
  rfl
theorem Zii {t:D.Term} (hs:msz t ≤ 1048576):XM fuel t = some (circT t):=by
 unfold XM circT
 rw [Zc1 hs]
 simp only [ZmD]
 by_cases h:termB t = true
 ·obtain ⟨L, e, hL, hn, hc, hw, hnm, hlen, hb0⟩ := ZcT h hs
  rw [h]
  simp only [ZmT,ZmF,ZmQ,Znt,Znl]
  rw [ZjR fuel t (by unfold fuel; omega) hn]
  simp only [ZmD,e,Znv]
  have hv:VF L (⟨bitsV L 0,[]⟩ : D.Circuit):=⟨fun v hv=>(hw v hv).1,rfl⟩
  cases hwd:wideB t
  ·simp only [ZmF, ZmQ]
   rw [Zf7 h hs,← hL.eq]
   simp only [ZmD]
   obtain ⟨mp,hl1,hmp⟩:=Zln hlen hw hnm hL.nm
   rw [hl1]
   simp only [ZmD]
   by_cases hb:bitsV L 0 > 30
   ·rw [ZmJ (by simpa using hb),ZmJ (.inl hb)]; rfl
   ·rw [ZmI (by simpa using hb)]
    have hC:=Zdq hb0 (by omega)
    obtain ⟨m0,e0,r0⟩:=Cc.impl_new (fuel:=fuel) hC
    rw [e0]
    simp only [ZmD]
    obtain ⟨m1,e1,r1⟩:=Zlg hL.nm hmp fuel t (⟨bitsV L 0,[]⟩,false) m0 (by unfold fuel; omega) hn hwd hL.all hC hv r0
    rw [e1]
    simp only [ZmD]
    have g:=Zc0 hL.nm _ t (⟨bitsV L 0,[]⟩,false) (ZmY _) hn hL.all hC hv
    generalize nP L t (⟨bitsV L 0,[]⟩,false) = r at g r1 ⊢
    have hw16:=Yx hn
    have hl:=g.len
    rw [r1.full]
    cases hf:r.2.2
    ·rw [ZmI (by decide), ZmI (by rintro (h | h); exact hb h; cases h)]
     rw [show Ze r.1 = some r.1 from by unfold Ze; rw [ZbT (by simp; omega)]; rfl]
     simp only [ZmD]
     rw [r1.c]
    ·rw [ZmJ rfl,ZmJ (.inr rfl)]; rfl
  ·simp only [Znl]
   by_cases hb:bitsV L 0 > 30
   ·rw [ZmJ (.inl hb)]; rfl
   ·have hC := Zdq hb0 (by omega)
    rw [ZmJ (.inr (ZiX hL.nm _ t (⟨bitsV L 0,[]⟩,false) (ZmY _) hn hwd hL.all hC hv))]; rfl
 ·have h' : termB t = false := by simpa using h
  rw [h']
  simp only [ZnX,Znl,ZmD,Zoq,ZmF,ZmQ]
  rfl
theorem Zmt {t:D.Term} {k:Int} (h:sml t.Kids) (h0:0 ≤ k) (h1:k ≤ 10000000000000000):∃ k' t',Zab fuel t k = some (k',t') ∧ 0 ≤ k':=by
 obtain ⟨k',r,e,h2,-⟩:=Zlz h h0 (by omega)
 exact ⟨k',_,by unfold Zab; rw [e]; rfl,by omega⟩
end Go.Proofs.YtgpcokpcbjloiaaGreat
end
section
namespace Go.Proofs.YtgpcokpcbjloiaaGreat.Cc
open Go.GL
set_option linter.unusedSimpArgs false
variable {fuel:Nat} [FU fuel]
theorem j0:w64 0 = 0:=by decide
theorem j1:w64 1 = 1:=by decide
theorem j2:w64 2 = 2:=by decide
theorem j3:w64 3 = 3:=by decide
theorem cmpv {x y:Int} (hx:litN 391 x = true) (hy:litN 391 y = true) (h:iab x < iab y):Yv x y = some (-1):=by
 unfold Yv
 obtain ⟨fx,fx'⟩:=YM hx (Znw _)
 obtain ⟨fy,fy'⟩:=YM hy (Znw _)
 rw [Yk fx fx',Yk fy fy']
 simp [YR,Xn,h]
theorem cmpv' {x y:Int} (hx:litN 391 x = true) (hy:litN 391 y = true) (h:iab y < iab x):Yv x y = some 1:=by
 unfold Yv
 obtain ⟨fx,fx'⟩:=YM hx (Znw _)
 obtain ⟨fy,fy'⟩:=YM hy (Znw _)
 rw [Yk fx fx',Yk fy fy']
 have h2:¬ iab x < iab y:=by omega
 simp [YR,Xn,h,h2]
theorem insC2 (n:Nat) {x y:Int} (hx:litN 391 x = true) (hy:litN 391 y = true) (h:iab y < iab x):Zi (n + 6) [x,y] 0 2 = some [y,x]:=by
 unfold Zi
 have e1:=cmpv hy hx h
 simp [iterN,get?,set?,e1,j0,j1,j2]
theorem insC3 (n:Nat) {x y z:Int} (hx:litN 391 x = true) (hy:litN 391 y = true) (hz:litN 391 z = true) (h:iab y < iab z) (h2:iab z < iab x):Zi (n + 6) [x,y,z] 0 3 = some [y,z,x]:=by
 unfold Zi
 have e1:=cmpv hy hx (by omega)
 have e2:=cmpv hz hx h2
 have e3:=cmpv' hz hy h
 simp [iterN,get?,set?,e1,e2,e3,j0,j1,j2,j3]
theorem sortC2 (n:Nat) {x y:Int} (hx:litN 391 x = true) (hy:litN 391 y = true) (h:iab y < iab x):Zh (n + 6) [x,y] = some [y,x]:=by
 unfold Zh
 have hl:len [x,y] = 2:=rfl
 have hb:XZ (IntKind.u64.wrap 2) = some 2:=by decide
 rw [hl,hb]
 simp only [ZmD]
 unfold Zw
 simp [iterN,insC2 n hx hy h,j2]
theorem sortC3 (n:Nat) {x y z:Int} (hx:litN 391 x = true) (hy:litN 391 y = true) (hz:litN 391 z = true) (h:iab y < iab z) (h2:iab z < iab x):Zh (n + 6) [x,y,z] = some [y,z,x]:=by
 unfold Zh
 have hl:len [x,y,z] = 3:=rfl
 have hb:XZ (IntKind.u64.wrap 3) = some 2:=by decide
 rw [hl,hb]
 simp only [ZmD]
 unfold Zw
 simp [iterN,insC3 n hx hy hz h h2,j3]
theorem ZcK {x y:Int} (h:iab x < iab y):¬ x = y ∧ ¬ y = x ∧ ¬ y = -x ∧ ¬ x = -y:=by
 unfold iab at h
 split at h <;> split at h <;> omega
theorem compC2 (n:Nat) {x y:Int} (h:iab y < iab x):Z4 (n + 6) [y,x] = some [y,x]:=by
 unfold Z4
 have hl:len [y,x] = 2:=rfl
 have:=ZcK h
 rw [hl]
 simp [iterN,get?,this,j1,j2,j0]
theorem compC3 (n:Nat) {x y z:Int} (h:iab y < iab z) (h2:iab z < iab x):Z4 (n + 6) [y,z,x] = some [y,z,x]:=by
 unfold Z4
 have hl:len [y,z,x] = 3:=rfl
 have t1:=ZcK h
 have t2:=ZcK h2
 rw [hl]
 simp [iterN,get?,t1,t2,j1,j2,j0,j3]
theorem lit400 {x:Int} (h:litN 391 x = true):litN 400 x = true:=litN_mono h (by decide)
theorem clauseOk2 {x y:Int} (hx:litN 391 x = true) (hy:litN 391 y = true) (h:iab y < iab x):Yt fuel [y,x] 400 = some true:=by
 unfold Yt
 rw [ZbB (by decide) (by decide) (by simp)]
 obtain ⟨fx,fx'⟩:=YM hx (Znw _)
 obtain ⟨fy,fy'⟩:=YM hy (Znw _)
 have v1:=Yk fx fx'
 have v2:=Yk fy fy'
 have ha:[y,x].all (litN 400) = true:=by simp [lit400 hx,lit400 hy]
 have hl:len [y,x] = 2:=rfl
 obtain ⟨n,hf⟩ : ∃ n,fuel = n + 6:=⟨fuel - 6,by have:=FU.le (n:=fuel); omega⟩
 have hn:¬ iab x ≤ iab y:=by omega
 rw [ha,hl,hf]
 simp [iterN,get?,v1,v2,hn,j0,j1,j2]
theorem clauseOk3 {x y z:Int} (hx:litN 391 x = true) (hy:litN 391 y = true) (hz:litN 391 z = true) (h:iab y < iab z) (h2:iab z < iab x):Yt fuel [y,z,x] 400 = some true:=by
 unfold Yt
 rw [ZbB (by decide) (by decide) (by simp)]
 obtain ⟨fx,fx'⟩:=YM hx (Znw _)
 obtain ⟨fy,fy'⟩:=YM hy (Znw _)
 obtain ⟨fz,fz'⟩:=YM hz (Znw _)
 have v1:=Yk fx fx'
 have v2:=Yk fy fy'
 have v3:=Yk fz fz'
 have ha:[y,z,x].all (litN 400) = true:=by simp [lit400 hx,lit400 hy,lit400 hz]
 have hl:len [y,z,x] = 3:=rfl
 obtain ⟨n,hf⟩ : ∃ n,fuel = n + 6:=⟨fuel - 6,by have:=FU.le (n:=fuel); omega⟩
 have hn:¬ iab z ≤ iab y:=by omega
 have hn2:¬ iab x ≤ iab z:=by omega
 rw [ha,hl,hf]
 simp [iterN,get?,v1,v2,v3,hn,hn2,j0,j1,j2,j3]
theorem mkI2 (n:Nat) [FU (n + 6)] {x y:Int} (hx:litN 391 x = true) (hy:litN 391 y = true) (h:iab y < iab x):ZY (n + 6) [x,y] = some ([y,x],true):=by
 unfold ZY
 have ha:[x,y].all (litN 400) = true:=by simp [lit400 hx,lit400 hy]
 have hc:Ze [x,y] = some [x,y]:=rfl
 rw [ZbB (by decide) (by decide) (by simp),ha,hc]
 simp only [ZmD,ZmT,ZmF,ZmQ]
 have h1:Zh (n + 6) [x,y] = _:=sortC2 n hx hy h
 have h2:Z4 (n + 6) [y,x] = _:=compC2 n h
 rw [h1]
 simp only [ZmD]
 rw [h2]
 simp only [ZmD]
 rw [clauseOk2 (fuel:=n + 6) hx hy h]
 rfl
theorem mkI3 (n:Nat) [FU (n + 6)] {x y z:Int} (hx:litN 391 x = true) (hy:litN 391 y = true) (hz:litN 391 z = true) (h:iab y < iab z) (h2:iab z < iab x):ZY (n + 6) [x,y,z] = some ([y,z,x],true):=by
 unfold ZY
 have ha:[x,y,z].all (litN 400) = true:=by simp [lit400 hx,lit400 hy,lit400 hz]
 have hc:Ze [x,y,z] = some [x,y,z]:=rfl
 rw [ZbB (by decide) (by decide) (by simp),ha,hc]
 simp only [ZmD,ZmT,ZmF,ZmQ]
 have e1:Zh (n + 6) [x,y,z] = _:=sortC3 n hx hy hz h h2
 have e2:Z4 (n + 6) [y,z,x] = _:=compC3 n h h2
 rw [e1]
 simp only [ZmD]
 rw [e2]
 simp only [ZmD]
 rw [clauseOk3 (fuel:=n + 6) hx hy hz h h2]
 rfl
theorem in400 {x:Int} (h:litN 391 x = true):Zg x (-400) 400 = some true ∧ ¬ x = 0:=by
 rw [litN_iff] at h
 unfold iab at h
 unfold Zg
 split at h <;> (refine ⟨?_,by omega⟩; simp; omega)
theorem mkS2 (n:Nat) {x y:Int} (hx:litN 391 x = true) (hy:litN 391 y = true) (h:iab y < iab x):ZP (n + 6) [x,y] = some ([y,x],true):=by
 unfold ZP
 obtain ⟨fx,fx'⟩:=YM hx (Znw _)
 obtain ⟨fy,fy'⟩:=YM hy (Znw _)
 have v1:=YX fx fx'
 have v2:=YX fy fy'
 obtain ⟨i1,m1⟩:=in400 hx
 obtain ⟨i2,m2⟩:=in400 hy
 have hn:¬ iab x < iab y:=by omega
 have t1:=ZcK h
 have w2:=Yc hy (Znw _)
 have w1:=Yc hx (Znw _)
 rw [Int.zero_sub] at w1 w2
 simp [iterN,get?,cut?,vcut,app?,room,len,v1,v2,i1,i2,m1,m2,hn,t1,w1,w2,j0,j1,j2]
theorem mkS3 (n:Nat) {x y z:Int} (hx:litN 391 x = true) (hy:litN 391 y = true) (hz:litN 391 z = true) (h:iab y < iab z) (h2:iab z < iab x):ZP (n + 6) [x,y,z] = some ([y,z,x],true):=by
 unfold ZP
 obtain ⟨fx,fx'⟩:=YM hx (Znw _)
 obtain ⟨fy,fy'⟩:=YM hy (Znw _)
 obtain ⟨fz,fz'⟩:=YM hz (Znw _)
 have v1:=YX fx fx'
 have v2:=YX fy fy'
 have v3:=YX fz fz'
 obtain ⟨i1,m1⟩:=in400 hx
 obtain ⟨i2,m2⟩:=in400 hy
 obtain ⟨i3,m3⟩:=in400 hz
 have hn:¬ iab x < iab y:=by omega
 have hn2:¬ iab x < iab z:=by omega
 have t1:=ZcK (show iab y < iab x by omega)
 have t2:=ZcK h2
 have t3:=ZcK h
 have w2:=Yc hy (Znw _)
 have w1:=Yc hx (Znw _)
 have w3:=Yc hz (Znw _)
 rw [Int.zero_sub] at w1 w2 w3
 simp [iterN,get?,cut?,vcut,app?,room,len,v1,v2,v3,i1,i2,i3,m1,m2,m3,h,hn,hn2,t1,t2,t3,w1,w2,w3,j0,j1,j2,j3]
theorem Zkc {n x:Int}:[x].all (litN n) = litN n x:=by simp
theorem inner3 (n:Nat) {MC:List Int → Option (List Int × Bool)} {l1 l2 l3 r1 r2 r3:List Int} (h1:MC l1 = some (r1,true)) (h2:MC l2 = some (r2,true)) (h3:MC l3 = some (r3,true)) {out:List (List Int)} (hl:out.length ≤ 100000) :
  iterN (fun (s2:Int × (List (List Int)))=>
   if (decide (s2.1 < (len ([l1,l2,l3]:List (List Int))))) then
    (get? ([l1,l2,l3]:List (List Int)) s2.1).bind fun x4=>
    (MC x4).bind fun x5=>
    (app? s2.2 ([x5.1]:List (List Int))).bind fun x6=>
    some (.inl ((w64 (s2.1 + 1)),x6))
   else
    some (.inr (s2.2))) (n + 6) (0,out) = some (out ++ [r1,r2,r3]):=by
 have hc:len ([l1,l2,l3]:List (List Int)) = 3:=rfl
 have ha:∀ (l:List (List Int)) (q:List Int),l.length ≤ 100003 → app? l [q] = some (l ++ [q]):=fun l q h=>by unfold app?; rw [ZmJ (by simp; unfold room; omega)]
 have a1:=ha out r1 (by omega)
 have a2:=ha (out ++ [r1]) r2 (by simp; omega)
 have a3:=ha (out ++ [r1] ++ [r2]) r3 (by simp; omega)
 simp only [Znf,Zny] at a2 a3
 rw [hc]
 simp [iterN,get?,h1,h2,h3,a1,a2,a3,j0,j1,j2,j3]
def stepF (c:D.Circuit) (i:Nat) (g:D.Gate):List (List Int):=[[g.A,-(c.Inputs + 2 + i)],[g.B,-(c.Inputs + 2 + i)],[-g.A,-g.B,c.Inputs + 2 + i]]
def accF (c:D.Circuit):Nat → List (List Int)
 | 0=>[[1]]
 | k + 1=>accF c k ++ stepF c k (c.Gates.getD k ⟨0,0⟩)
theorem accF_len (c:D.Circuit) (k:Nat):(accF c k).length = 1 + 3 * k:=by
 induction k with
 | zero=>rfl
 | succ k ih=>simp only [accF,ZmO,ih,stepF,Znc,ZnI]; omega
structure GateOk (c:D.Circuit) (k:Nat) (g:D.Gate):Prop where
 a:litN 391 g.A = true
 b:litN 391 g.B = true
 na:litN 391 (-g.A) = true
 nb:litN 391 (-g.B) = true
 l:litN 391 (c.Inputs + 2 + k) = true
 nl:litN 391 (-(c.Inputs + 2 + k)) = true
 ab:iab (-g.A) < iab (-g.B)
 bl:iab (-g.B) < iab (c.Inputs + 2 + k)
 al':iab g.A < iab (-(c.Inputs + 2 + k))
 bl':iab g.B < iab (-(c.Inputs + 2 + k))
theorem ZfY {c:D.Circuit} (hc:CircP c) {k:Nat} {g:D.Gate} (hg:c.Gates[k]? = some g):GateOk c k g:=by
 have h:=Zb9.1 (hc.gate k g hg)
 obtain ⟨h1,h2,h3,h4,-⟩:=h
 have hk:=(ZmG.1 hg).1
 have hlt:(c.Gates.take k).length = k:=by simp; omega
 rw [hlt] at h1 h2
 have hl:=hc.lines1
 have hi:=hc.i0
 unfold lines at hl
 have e1:iab (c.Inputs + 2 + k) = c.Inputs + 2 + k:=by unfold iab; rw [ZmI (by omega)]
 have b1:iab g.A ≤ c.Inputs + 1 + k:=by unfold iab; split <;> omega
 have b2:iab g.B ≤ c.Inputs + 1 + k:=by unfold iab; split <;> omega
 refine ⟨litN_iff.2 (by omega),litN_iff.2 (by omega),?_,?_,litN_iff.2 (by omega),?_,?_,?_,?_,?_⟩
 ·rw [ZQ]; exact litN_iff.2 (by omega)
 ·rw [ZQ]; exact litN_iff.2 (by omega)
 ·rw [ZQ]; exact litN_iff.2 (by omega)
 ·rw [YG,YG]; exact h4
 ·rw [YG]; omega
 ·rw [YG]; omega
 ·rw [YG]; omega
def formP (c:D.Circuit) (lit:Int):D.Formula × Bool:=if circB2 c && litN (lines c) lit then (⟨lines c,accF c c.Gates.length ++ [[lit]]⟩,true) else (⟨0,[]⟩,false)
theorem Zbi {c:D.Circuit} {k:Nat} (hk:k < c.Gates.length):c.Gates[k]? = some (c.Gates.getD k ⟨0,0⟩):=by
 rw [ZmL,ZmE hk]; rfl
theorem spec_FormulaOf_eq {c:D.Circuit} {lit:Int} (hc:ZaM c) (hg:c.Gates.length ≤ 1048576):XK fuel c lit = some (formP c lit):=by
 obtain ⟨N,rfl⟩ : ∃ n,fuel = n + 6:=⟨fuel - 6,by have:=FU.le (n:=fuel); omega⟩
 unfold XK formP
 rw [Zj9 hc hg]
 simp only [ZmD]
 cases h1:circB2 c with
 | false=>simp
 | true=>
  have hp:=circP_iff.1 h1
  rw [Zio hp (by simp)]
  simp only [ZmT,ZmF,ZmQ,ZmD,Znt,Zn1,Zkc]
  cases h2:litN (lines c) lit with
  | false=>simp
  | true=>
   have hi0:=hp.i0
   have hi1:=hp.i1
   have hl:=hp.len
   simp only [ZmT,ZmF,ZmQ,Znl]
   rw [Ya (I:=fun k t=>t = ((k:Int),accF c k)) (m:=c.Gates.length) (r:=accF c c.Gates.length) (fun k t hk ht=>?_) (fun t ht=>?_) c.Gates.length 0 (0,[[1]]) (by omega) rfl (N + 6) (lt_fuel (by omega))]
   ·simp only [ZmD]
    have ha:app? (accF c c.Gates.length) [[lit]] = some (accF c c.Gates.length ++ [[lit]]):=by unfold app?; rw [ZmJ (by rw [accF_len]; simp; unfold room; omega)]
    rw [ha]
    simp only [ZmD]
    rw [Za,Zb (x:=c.Inputs + 1) (by omega) (by omega),Zb (by omega) (by omega)]
    rfl
   all_goals subst ht
   ·refine ⟨_, ?_, rfl⟩
    have o:=ZfY hp (Zbi hk)
    simp only [accF]
    rw [ZmJ (by rw [Za]; simp; omega),get?_nat,Zbi hk]
    simp only [ZmD]
    generalize c.Gates.getD k ⟨0,0⟩ = g at o ⊢
    rw [Zb (x:=c.Inputs + 2) (by omega) (by omega),Zb (x:=c.Inputs + 2 + (k:Int)) (by omega) (by omega),Yc o.a (Znw _),Yc o.b (Znw _),Yc o.l (Znw _)]
    have m1:ZP (N + 6) [-(c.Inputs + 2 + (k:Int)),g.A] = _:=mkS2 N o.nl o.a o.al'
    have m2:ZP (N + 6) [-(c.Inputs + 2 + (k:Int)),g.B] = _:=mkS2 N o.nl o.b o.bl'
    have m3:ZP (N + 6) [c.Inputs + 2 + (k:Int),-g.A,-g.B] = _:=mkS3 N o.l o.na o.nb o.ab o.bl
    have q:=inner3 N (MC:=ZP (N + 6)) m1 m2 m3 (out:=accF c k) (by rw [accF_len]; omega)
    have q':iterN _ (N + 6) _ = _:=q
    rw [q']
    simp only [ZmD]
    rw [Zb (by omega) (by omega)]
    rfl
   ·simp only
    rw [ZmI (by rw [Za]; simp)]
theorem impl_FormulaOf_eq {c:D.Circuit} {lit:Int} (hc:ZaM c) (hg:c.Gates.length ≤ 1048576):XH fuel c lit = some (formP c lit):=by
 obtain ⟨N,rfl⟩ : ∃ n,fuel = n + 6:=⟨fuel - 6,by have:=FU.le (n:=fuel); omega⟩
 unfold XH formP
 rw [Zjy hc hg]
 simp only [ZmD]
 cases h1:circB2 c with
 | false=>simp
 | true=>
  have hp:=circP_iff.1 h1
  have hl0:=hp.lines0
  have hl1:=hp.lines1
  simp only [ZmT,ZmF,ZmQ,ZhG hp,ZmD,Znt,Zn1,ZcQ (x:=lit) (n:=lines c) (by omega) (by omega)]
  cases h2:litN (lines c) lit with
  | false=>simp
  | true=>
   have hi0:=hp.i0
   have hi1:=hp.i1
   have hl:=hp.len
   simp only [ZmT,ZmF,ZmQ,Znl]
   rw [Ya (I:=fun k t=>t = ((k:Int),accF c k)) (m:=c.Gates.length) (r:=accF c c.Gates.length) (fun k t hk ht=>?_) (fun t ht=>?_) c.Gates.length 0 (0,[[1]]) (by omega) rfl (N + 6) (lt_fuel (by omega))]
   ·simp only [ZmD]
    have ha:app? (accF c c.Gates.length) [[lit]] = some (accF c c.Gates.length ++ [[lit]]):=by unfold app?; rw [ZmJ (by rw [accF_len]; simp; unfold room; omega)]
    rw [ha]
    rfl
   all_goals subst ht
   ·refine ⟨_, ?_, rfl⟩
    have o:=ZfY hp (Zbi hk)
    simp only [accF]
    rw [ZmJ (by rw [Za]; simp; omega),get?_nat,Zbi hk]
    simp only [ZmD]
    generalize c.Gates.getD k ⟨0,0⟩ = g at o ⊢
    rw [show w64 (2 + c.Inputs) = c.Inputs + 2 by rw [Zb (by omega) (by omega)]; omega,Zb (x:=c.Inputs + 2 + (k:Int)) (by omega) (by omega),Yc o.a (Znw _),Yc o.b (Znw _),Yc o.l (Znw _)]
    have m1:ZY (N + 6) [-(c.Inputs + 2 + (k:Int)),g.A] = _:=mkI2 N o.nl o.a o.al'
    have m2:ZY (N + 6) [-(c.Inputs + 2 + (k:Int)),g.B] = _:=mkI2 N o.nl o.b o.bl'
    have m3:ZY (N + 6) [c.Inputs + 2 + (k:Int),-g.A,-g.B] = _:=mkI3 N o.l o.na o.nb o.ab o.bl
    have q:=inner3 N (MC:=ZY (N + 6)) m1 m2 m3 (out:=accF c k) (by rw [accF_len]; omega)
    have q':iterN _ (N + 6) _ = _:=q
    rw [q']
    simp only [ZmD]
    rw [Zb (by omega) (by omega)]
    rfl
   ·simp only
    rw [ZmI (by rw [Za]; simp)]
def IncI (n:Int) (c:List Int):Prop:=(∀ x ∈ c,litN n x = true) ∧ c.Pairwise fun x y=>iab x < iab y
theorem Zlo {c:D.Circuit}:∀ k,∀ x ∈ accF c k,x = [1] ∨ ∃ i,i < k ∧ x ∈ stepF c i (c.Gates.getD i ⟨0,0⟩):=by
 intro k
 induction k with
 | zero=>intro x hx; exact .inl (Znm.1 hx)
 | succ k ih=>
  intro x hx
  rcases Znb.1 hx with h | h
  ·rcases ih x h with h | ⟨i, h1, h2⟩
   ·exact .inl h
   ·exact .inr ⟨i,by omega,h2⟩
  ·exact .inr ⟨k,by omega,h⟩
theorem inc1 {n x:Int} (h:litN n x = true):IncI n [x]:=⟨fun y hy=>by rw [Znm.1 hy]; exact h,by simp⟩
theorem form_inc {c:D.Circuit} (hc:CircP c) {lit:Int} (hl:litN (lines c) lit = true):∀ x ∈ accF c c.Gates.length ++ [[lit]],IncI (lines c) x ∧ x.length ≤ 3:=by
 intro x hx
 rcases Znb.1 hx with hx | hx
 ·rcases Zlo _ x hx with rfl | ⟨i, hi, h⟩
  ·exact ⟨inc1 (litN_iff.2 (by have:=hc.lines0; unfold iab; simp; omega)),by simp⟩
  ·have o := ZfY hc (Zbi hi)
   have hb:=Zb9.1 (hc.gate i _ (Zbi hi))
   have hlt:(c.Gates.take i).length = i:=by simp; omega
   rw [hlt] at hb
   obtain ⟨h1,h2,h3,h4,-⟩:=hb
   generalize c.Gates.getD i ⟨0,0⟩ = g at *
   have hi0:=hc.i0
   have eN:lines c = c.Inputs + 1 + (c.Gates.length:Int):=rfl
   have lt:∀ y:Int,1 ≤ iab y → iab y ≤ c.Inputs + 2 + (i:Int) → litN (lines c) y = true:=fun y a b=>litN_iff.2 ⟨a,by omega⟩
   have o1:=(litN_iff.1 o.a).1
   have o2:=(litN_iff.1 o.b).1
   have o3:=(litN_iff.1 o.l).1
   have e1:iab (c.Inputs + 2 + (i:Int)) = c.Inputs + 2 + (i:Int):=by unfold iab; rw [ZmI (by omega)]
   have oa:=o.al'
   have ob:=o.bl'
   have oc:=o.ab
   rw [YG,e1] at oa ob
   rw [YG,YG] at oc
   unfold stepF at h
   simp only [Zno,Zo3,or_false] at h
   rcases h with rfl | rfl | rfl
   ·exact ⟨⟨by simp only [Zno,Zo3,or_false]; rintro y (rfl | rfl); exact lt _ o1 (by omega); exact lt _ (by rw [YG]; omega) (by rw [YG]; omega),by simp [YG,e1]; omega⟩,by simp⟩
   ·exact ⟨⟨by simp only [Zno,Zo3,or_false]; rintro y (rfl | rfl); exact lt _ o2 (by omega); exact lt _ (by rw [YG]; omega) (by rw [YG]; omega),by simp [YG,e1]; omega⟩,by simp⟩
   ·exact ⟨⟨by simp only [Zno,Zo3,or_false]; rintro y (rfl | rfl | rfl); exact lt _ (by rw [YG]; omega) (by rw [YG]; omega); exact lt _ (by rw [YG]; omega) (by rw [YG]; omega); exact lt _ (by omega) (by omega),by simp [YG,e1]; omega⟩,by simp⟩
 ·rw [Znm.1 hx]; exact ⟨inc1 hl,by simp⟩
def prv (c:List Int):Nat → Int
 | 0=>0
 | k + 1=>iab (c.getD k 0)
theorem Ziq {n:Int} {c:List Int} (h:IncI n c) {k:Nat} (hk:k < c.length):1 ≤ iab c[k] ∧ iab c[k] ≤ n ∧ prv c k < iab c[k]:=by
 have h1:=litN_iff.1 (h.1 _ (Zns hk))
 refine ⟨h1.1,h1.2,?_⟩
 cases k with
 | zero=>show (0:Int) < _; omega
 | succ k=>
  show iab (c.getD k 0) < _
  rw [ZmL,ZmE (by omega)]
  exact (ZnY.1 h.2) k (k + 1) (by omega) hk (by omega)
theorem Zlm {n:Int} {c:List Int} (h0:0 ≤ n) (h1:n ≤ 400) (h:IncI n c) (hl:c.length ≤ 1000):XE fuel c n = some true:=by
 unfold XE
 rw [Ya (I:=fun k t=>t = (prv c k,(k:Int))) (m:=c.length) (r:=.inl ()) (fun k t hk ht=>?_) (fun t ht=>?_) c.length 0 (0,0) (by omega) rfl fuel (lt_fuel (by omega))]
 ·rfl
 all_goals subst ht
 ·refine ⟨_, ?_, rfl⟩
  obtain ⟨a1,a2,a3⟩:=Ziq h hk
  have hb : -1000 ≤ c[k] ∧ fitInt c[k]:=by unfold fitInt; unfold iab at a2; split at a2 <;> omega
  simp only
  rw [ZmJ (by rw [Za]; simp; omega),get?_nat,ZmE hk]
  simp only [ZmD]
  have hi:Zg c[k] (w64 (0 - n)) n = some true:=by
   unfold Zg
   rw [Zb (by omega) (by omega)]
   unfold iab at a2; split at a2 <;> simp <;> omega
  rw [hi]
  simp only [ZmD,ZmT,ZmF,ZmQ,Znt,YX hb.2 hb.1]
  rw [ZmI (by simp; omega),Zb (by omega) (by omega)]
  simp only [prv]
  rw [ZmL,ZmE hk]; rfl
 ·simp only
  rw [ZmI (by rw [Za]; simp)]
theorem ZkF {n:Int} {c:List Int} (h0:0 ≤ n) (h1:n ≤ 400) (h:IncI n c) (hl:c.length ≤ 1000):Yt fuel c n = some true:=by
 unfold Yt
 rw [ZbB h0 (by omega) (by omega),show c.all (litN n) = true from ZmR.2 h.1]
 simp only [ZmD,ZmT,ZmF,ZmQ]
 rw [Ya (I:=fun k t=>t = ((k + 1:Nat):Int)) (m:=c.length - 1) (r:=.inl ()) (fun k t hk ht=>?_) (fun t ht=>?_) (c.length - 1) 0 1 (by omega) rfl fuel (lt_fuel (by omega))]
 ·rfl
 all_goals subst ht
 ·refine ⟨_, ?_, rfl⟩
  have hk1:k + 1 < c.length:=by omega
  have hk0:k < c.length:=by omega
  obtain ⟨a1,a2,a3⟩:=Ziq h hk1
  obtain ⟨b1,b2,b3⟩:=Ziq h hk0
  have hx : -1000 ≤ c[k + 1] ∧ fitInt c[k + 1]:=by unfold fitInt; unfold iab at a2; split at a2 <;> omega
  have hy : -1000 ≤ c[k] ∧ fitInt c[k]:=by unfold fitInt; unfold iab at b2; split at b2 <;> omega
  replace a3:iab (c.getD k 0) < _:=a3
  rw [ZmL,ZmE hk0] at a3
  have e1:w64 (((k + 1:Nat):Int) - 1) = (k:Int):=by rw [Zb (by omega) (by omega)]; omega
  rw [ZmJ (by rw [Za]; simp; omega),e1,get?_nat,get?_nat,ZmE hk1,ZmE hk0]
  simp only [ZmD,Yk hx.2 hx.1,Yk hy.2 hy.1]
  rw [ZmI (by simp at a3 ⊢; omega),Zb (by omega) (by omega)]; rfl
 ·rw [ZmI (by rw [Za]; simp; omega)]
section
variable {f:D.Formula} (h0:0 ≤ f.Vars) (h1:f.Vars ≤ 400) (hn:f.Clauses.length ≤ 1600) (h:∀ c ∈ f.Clauses,IncI f.Vars c ∧ c.length ≤ 1000)
include h0 h1 hn h
theorem spec_fok:YY fuel f = some true:=by
 unfold YY
 rw [show Zg f.Vars 0 400 = some true by unfold Zg; simp; omega]
 simp only [ZmD]
 rw [ZmI (by rw [Za]; simp; omega)]
 rw [Ya (I:=fun k t=>t = (k:Int)) (m:=f.Clauses.length) (r:=.inl ()) (fun k t hk ht=>?_) (fun t ht=>?_) f.Clauses.length 0 0 (by omega) rfl fuel (lt_fuel (by omega))]
 ·rfl
 all_goals subst ht
 ·refine ⟨((k + 1 : Nat) : Int), ?_, rfl⟩
  have hc:=h _ (Zns hk)
  rw [ZmJ (by rw [Za]; simp; omega),get?_nat,ZmE hk]
  simp only [ZmD]
  rw [Zlm h0 h1 hc.1 hc.2]
  simp only [ZmD]
  rw [ZmI (by simp),Zb (by omega) (by omega)]; rfl
 ·rw [ZmI (by rw [Za]; simp)]
theorem impl_fok:YT fuel f = some true:=by
 unfold YT
 rw [ZmI (by rw [Za]; simp; omega)]
 rw [Ya (I:=fun k t=>t = (k:Int)) (m:=f.Clauses.length) (r:=.inl ()) (fun k t hk ht=>?_) (fun t ht=>?_) f.Clauses.length 0 0 (by omega) rfl fuel (lt_fuel (by omega))]
 ·rfl
 all_goals subst ht
 ·refine ⟨((k + 1 : Nat) : Int), ?_, rfl⟩
  have hc:=h _ (Zns hk)
  rw [ZmJ (by rw [Za]; simp; omega),get?_nat,ZmE hk]
  simp only [ZmD]
  rw [ZkF h0 h1 hc.1 hc.2]
  simp only [ZmD]
  rw [ZmI (by simp),Zb (by omega) (by omega)]; rfl
 ·rw [ZmI (by rw [Za]; simp)]
end
end Go.Proofs.YtgpcokpcbjloiaaGreat.Cc
end
section
namespace Go.Proofs.YtgpcokpcbjloiaaGreat
open Go.GL
set_option linter.unusedSimpArgs false
set_option maxRecDepth 100000
theorem itS {σt ρt:Type} {B:σt → Option (σt ⊕ ρt)} {s s':σt} {n:Nat} (h:B s = some (.inl s')):iterN B (n + 1) s = iterN B n s':=by
 rw [iterN,h]
theorem itE {σt ρt:Type} {B:σt → Option (σt ⊕ ρt)} {s:σt} {r:ρt} {n:Nat} (h:B s = some (.inr r)) (hn:0 < n):iterN B n s = some r:=by
 obtain ⟨n,rfl⟩ : ∃ k,n = k + 1:=⟨n - 1,by omega⟩
 rw [iterN,h]
def bit (b:Bool):Int:=if b then 1 else 0
def wrd (l:List Bool):Int:=l.foldl (fun a b=>w64 (w64 (2 * a) + bit b)) 0
theorem ZgA (l:List Bool) (b:Bool):wrd (l ++ [b]) = w64 (w64 (2 * wrd l) + bit b):=by unfold wrd; rw [ZnS]; rfl
def valsP (model:List Bool):Nat → List D.Value → List D.Value
 | _,[]=>[]
 | off,v :: L=>⟨v.Name,v.W,wrd ((model.drop off).take v.W.toNat)⟩ :: valsP model (off + v.W.toNat) L
theorem Zf3 (model:List Bool):∀ (L:List D.Value) (off:Nat),(valsP model off L).length = L.length
 | [],_=>rfl
 | v :: L,off=>by rw [valsP,Znc,Zf3 model L,Znc]
def wsum (L:List D.Value):Nat:=(L.map fun v=>v.W.toNat).sum
theorem ZfN:∀ (L:List D.Value) (a:Int),(∀ v ∈ L,1 ≤ v.W ∧ v.W ≤ 16) → bitsV L a = a + (wsum L:Int)
 | [],a,_=>by unfold wsum bitsV; simp
 | v :: L,a,h=>by
  have hv:=h v (by simp)
  rw [ZhN,ZfN L _ fun x hx=>h x (by simp [hx])]
  unfold wsum
  rw [ZmX,ZpJ]; omega
section
variable {model:List Bool} (hM:model.length ≤ 1000)
theorem Zfq {off j:Nat} (h:off + j < model.length):(model.drop off).take (j + 1) = (model.drop off).take j ++ [model[off + j]]:=by
 rw [Zni (by rw [Znh]; omega),List.getElem_drop]
include hM
theorem Zia {off W:Nat} {w:Int} (hw:w = (W:Int)) (h:off + W ≤ model.length) {n:Nat} (hn:2000 ≤ n):iterN (fun (s2:Int × Int × Int)=>
    if (decide (s2.2.2 < w)) then
     (get? model s2.1).bind fun x2=>
     (Xk x2).bind fun x3=>
     some (.inl ((w64 (s2.1 + 1)),(w64 ((w64 (2 * s2.2.1)) + x3)),(w64 (s2.2.2 + 1))))
    else
     some (.inr (s2.1,s2.2.1))) n ((off:Int),0,0) = some (((off + W:Nat):Int),wrd ((model.drop off).take W)):=by
  rw [Ya (I:=fun k t=>t = (((off + k:Nat):Int),wrd ((model.drop off).take k),(k:Int))) (m:=W) (r:=(((off + W:Nat):Int),wrd ((model.drop off).take W))) (fun k t hk ht=>?_) (fun t ht=>?_) W 0 _ (by omega) (by simp [wrd]) n (by omega)]
  all_goals subst ht
  · refine ⟨_, ?_, rfl⟩
    have hd:decide ((k:Int) < w) = true:=decide_eq_true (by omega)
    have ht:Xk model[off + k] = some (bit model[off + k]):=by unfold Xk bit; split <;> rfl
    simp only [hd,Znl]
    rw [get?_nat,ZmE (by omega)]
    simp only [ZmD,ht]
    rw [Zfq (by omega),ZgA,Zb (x:=((off + k:Nat):Int) + 1) (by omega) (by omega),Zb (x:=(k:Int) + 1) (by omega) (by omega)]; rfl
  · have hd : decide ((W : Int) < w) = false := decide_eq_false (by omega)
    simp only [hd,ZmF,ZmQ]
theorem ZfW {L:List D.Value} (hL:L.length ≤ 1000) (hw:∀ v ∈ L,1 ≤ v.W ∧ v.W ≤ 16) {n:Nat} (hn:4000 ≤ n) (hs:1 + wsum L ≤ model.length):XF n L model = some (valsP model 1 L):=by
  unfold XF
  have key:∀ (rest pre out:List D.Value) (off k:Nat),pre ++ rest = L → off + wsum rest ≤ model.length → out.length = pre.length → rest.length < k → iterN (fun (s1:Int × Int × (List D.Value))=>
  if (decide (s1.2.1 < (len L))) then
   (get? L s1.2.1).bind fun x1 =>
   (iterN (fun (s2 : Int × Int × Int) =>
    if (decide (s2.2.2 < x1.W)) then
     (get? model s2.1).bind fun x2=>
     (Xk x2).bind fun x3=>
     some (.inl ((w64 (s2.1 + 1)),(w64 ((w64 (2 * s2.2.1)) + x3)),(w64 (s2.2.2 + 1))))
    else
     some (.inr (s2.1,s2.2.1))
   ) n (s1.1,0,0)).bind fun (rl2:Int × Int)=>
   (app? s1.2.2 ([(D.Value.mk x1.Name x1.W rl2.2)]:List D.Value)).bind fun x4=>
   some (.inl (rl2.1,(w64 (s1.2.1 + 1)),x4))
  else
   some (.inr (s1.2.2))) k ((off:Int),(pre.length:Int),out) = some (out ++ valsP model off rest):=by
    intro rest
    induction rest with
    | nil =>
      intro pre out off k he hb ho hk
      have hd:decide ((pre.length:Int) < len L) = false:=by rw [Za,← he,Znu]; simp
      refine itE ?_ (by omega)
      simp only [hd,ZmF,ZmQ,valsP,Znu]
    | cons v rest ih =>
      intro pre out off k he hb ho hk
      have hlen:pre.length + (rest.length + 1) = L.length:=by rw [← he]; simp
      simp only [Znc] at hk
      obtain ⟨k,rfl⟩ : ∃ j,k = j + 1:=⟨k - 1,by omega⟩
      have hd:decide ((pre.length:Int) < len L) = true:=by rw [Za]; exact decide_eq_true (by omega)
      have hv:=hw v (by rw [← he]; simp)
      have hg:L[pre.length]? = some v:=by rw [← he]; simp
      have hws:wsum (v :: rest) = v.W.toNat + wsum rest:=by unfold wsum; rw [ZmX,ZpJ]
      rw [itS (s':=(((off + v.W.toNat:Nat):Int),((pre ++ [v]).length:Int),out ++ [⟨v.Name,v.W,wrd ((model.drop off).take v.W.toNat)⟩])) (by
        simp only [hd,Znl]
        rw [get?_nat,hg]
        simp only [ZmD]
        rw [Zia hM (W:=v.W.toNat) (by omega) (by omega) (by omega)]
        simp only [ZmD]
        unfold app?
        rw [ZmJ (by simp only [Znc,ZnI]; unfold room; omega),Zb (by omega) (by omega)]
        simp)]
      rw [ih (pre ++ [v]) _ _ k (by rw [Znf]; exact he) (by omega) (by rw [ZmO,ZmO,ho]; rfl) (by omega),valsP,Znf]; rfl
  have:=key L [] [] 1 n rfl hs rfl (by omega)
  exact congrArg (fun o=>Option.bind o fun (rl1:List D.Value)=>some rl1) this
theorem ZhF {off W:Nat} {out rest:List D.Value} {nm:Str} (h:off + W ≤ model.length) (ho:out.length ≤ 1000) {n:Nat} (hn:2000 ≤ n):iterN (fun (s2:Int × Int × (List D.Value))=>
    (get? s2.2.2 (out.length:Int)).bind fun x2=>
    if (decide (s2.2.1 < x2.W)) then
     (get? s2.2.2 (out.length:Int)).bind fun x3=>
     (get? model (w64 (s2.1 - 1))).bind fun x4=>
     (Xi x4).bind fun x5=>
     (get? s2.2.2 (out.length:Int)).bind fun x6=>
     (set? s2.2.2 (out.length:Int) ({ x6 with N:=(w64 ((w64 (2 * x3.N)) + x5)) }:D.Value)).bind fun x7=>
     some (.inl ((w64 (s2.1 + 1)),(w64 (s2.2.1 + 1)),x7))
    else
     some (.inr (s2.1,s2.2.2))) n (((off + 1:Nat):Int),0,out ++ ⟨nm,(W:Int),0⟩ :: rest) = some (((off + W + 1:Nat):Int),out ++ ⟨nm,(W:Int),wrd ((model.drop off).take W)⟩ :: rest):=by
  have hat:∀ v:D.Value,get? (out ++ v :: rest) (out.length:Int) = some v:=fun v=>by rw [get?_nat]; simp
  have hst:∀ v v':D.Value,set? (out ++ v :: rest) (out.length:Int) v' = some (out ++ v' :: rest):=fun v v'=>by rw [set?_nat (by simp)]; simp
  rw [Ya (I:=fun k t=>t = (((off + k + 1:Nat):Int),(k:Int),out ++ ⟨nm,(W:Int),wrd ((model.drop off).take k)⟩ :: rest)) (m:=W) (r:=(((off + W + 1:Nat):Int),out ++ ⟨nm,(W:Int),wrd ((model.drop off).take W)⟩ :: rest)) (fun k t hk ht=>?_) (fun t ht=>?_) W 0 _ (by omega) (by simp [wrd]) n (by omega)]
  all_goals subst ht
  · refine ⟨_, ?_, rfl⟩
    have hd:decide ((k:Int) < (W:Int)) = true:=decide_eq_true (by omega)
    have ht:Xi model[off + k] = some (bit model[off + k]):=by unfold Xi bit; split <;> rfl
    have e1:w64 (((off + k + 1:Nat):Int) - 1) = ((off + k:Nat):Int):=by rw [Zb (by omega) (by omega)]; omega
    simp only [hat,ZmD,hd,Znl,e1]
    rw [get?_nat,ZmE (by omega)]
    simp only [ZmD,ht,hst]
    rw [Zfq (by omega),ZgA,Zb (x:=((off + k + 1:Nat):Int) + 1) (by omega) (by omega),Zb (x:=(k:Int) + 1) (by omega) (by omega)]; rfl
  · have hd : decide ((W : Int) < (W : Int)) = false := decide_eq_false (by omega)
    simp only [hat,ZmD,hd,ZmF,ZmQ]
theorem Zgm {L:List D.Value} (hL:L.length ≤ 1000) (hw:∀ v ∈ L,1 ≤ v.W ∧ v.W ≤ 16) {n:Nat} (hn:4000 ≤ n) (hs:1 + wsum L ≤ model.length) {t:D.Term} (hv:Xv n t = some (L.map zv)):Zaa n t model = some (valsP model 1 L):=by
  unfold Zaa
  rw [hv]
  simp only [ZmD]
  have key:∀ (rest pre out:List D.Value) (off k:Nat),pre ++ rest = L → off + wsum rest ≤ model.length → out.length = pre.length → rest.length < k → iterN (fun (s1:Int × Int × (List D.Value))=>
  if (decide (s1.2.1 < (len (L.map zv)))) then
   (iterN (fun (s2 : Int × Int × (List D.Value)) =>
    (get? s2.2.2 s1.2.1).bind fun x2=>
    if (decide (s2.2.1 < x2.W)) then
     (get? s2.2.2 s1.2.1).bind fun x3=>
     (get? model (w64 (s2.1 - 1))).bind fun x4=>
     (Xi x4).bind fun x5=>
     (get? s2.2.2 s1.2.1).bind fun x6=>
     (set? s2.2.2 s1.2.1 ({ x6 with N:=(w64 ((w64 (2 * x3.N)) + x5)) }:D.Value)).bind fun x7=>
     some (.inl ((w64 (s2.1 + 1)),(w64 (s2.2.1 + 1)),x7))
    else
     some (.inr (s2.1,s2.2.2))
   ) n (s1.1,0,s1.2.2)).bind fun (rl2:Int × (List D.Value))=>
   some (.inl (rl2.1,(w64 (s1.2.1 + 1)),rl2.2))
  else
   some (.inr (s1.2.2))) k (((off + 1:Nat):Int),(pre.length:Int),out ++ rest.map zv) = some (out ++ valsP model off rest):=by
    intro rest
    induction rest with
    | nil =>
      intro pre out off k he hb ho hk
      have hd:decide ((pre.length:Int) < len (L.map zv)) = false:=by rw [Za,Zoy,← he,Znu]; simp
      refine itE ?_ (by omega)
      simp only [hd,ZmF,ZmQ,valsP,Znu,Zo6]
    | cons v rest ih =>
      intro pre out off k he hb ho hk
      have hlen:pre.length + (rest.length + 1) = L.length:=by rw [← he]; simp
      simp only [Znc] at hk
      obtain ⟨k,rfl⟩ : ∃ j,k = j + 1:=⟨k - 1,by omega⟩
      have hd:decide ((pre.length:Int) < len (L.map zv)) = true:=by rw [Za,Zoy]; exact decide_eq_true (by omega)
      have hv:=hw v (by rw [← he]; simp)
      have hws:wsum (v :: rest) = v.W.toNat + wsum rest:=by unfold wsum; rw [ZmX,ZpJ]
      have hvw:((v.W.toNat:Nat):Int) = v.W:=by omega
      have hin:=ZhF hM (off:=off) (W:=v.W.toNat) (out:=out) (rest:=rest.map zv) (nm:=v.Name) (n:=n) (by omega) (by omega) (by omega)
      rw [hvw] at hin
      rw [itS (s':=(((off + v.W.toNat + 1:Nat):Int),((pre ++ [v]).length:Int),(out ++ [⟨v.Name,v.W,wrd ((model.drop off).take v.W.toNat)⟩]) ++ rest.map zv)) (by
        simp only [hd,Znl]
        rw [← ho]
        refine (congrArg (fun o=>Option.bind o (fun (rl2:Int × (List D.Value))=>some (.inl (rl2.1,w64 ((out.length:Int) + 1),rl2.2):(Int × Int × List D.Value) ⊕ List D.Value))) hin).trans ?_
        simp only [ZmD]
        rw [Zb (by omega) (by omega)]
        simp [ho])]
      rw [ih (pre ++ [v]) _ _ k (by rw [Znf]; exact he) (by omega) (by rw [ZmO,ZmO,ho]; rfl) (by omega),valsP,Znf]; rfl
  have:=key L [] [] 1 n rfl hs rfl (by omega)
  exact congrArg (fun o=>Option.bind o fun (rl1:List D.Value)=>some rl1) this
end
theorem ZfX (v:D.Value):Zav v v = some true:=by
 have:Str.eqb v.Name v.Name = true:=by unfold Str.eqb; exact ZoF _
 unfold Zav
 rw [this]; simp
theorem Zfg {l:List D.Value} (hl:l.length ≤ 100000):Xj fuel l l = some true:=by
 unfold Xj
 rw [ZmI (by simp)]
 rw [Ya (I:=fun k s=>s = (k:Int)) (m:=l.length) (r:=.inl ()) (fun k s hk hs=>?_) (fun s hs=>?_) l.length 0 _ (by omega) (by simp) fuel (lt_fuel (by omega))]
 ·rfl
 all_goals subst hs
 ·refine ⟨((k + 1 : Nat) : Int), ?_, rfl⟩
  rw [ZmJ (by rw [Za]; simp; omega),get?_nat,ZmE hk]
  simp only [ZmD]
  rw [ZfX]
  simp only [ZmD]
  rw [ZmI (by simp),Zb (by omega) (by omega)]
  rfl
 ·rw [ZmI (by rw [Za]; simp)]
def mkT (k:Int):Str:=(Yf fuel k).getD ⟨[]⟩
theorem ZkO {k:Int} (h0:0 ≤ k) (h1:k ≤ 200000000000000000):Yf fuel k = some (mkT k):=by
 obtain ⟨s,e⟩:=ZfA h0 h1 (n:=fuel) (by unfold fuel; omega)
 unfold mkT
 rw [e]; rfl
def mvL:Int → Nat → List D.Value
 | _,0=>[]
 | k,n + 1=>⟨mkT k,k + 1,k + 1 + 1⟩ :: mvL (k + 3) n
theorem Zgw:∀ (n:Nat) (k:Int),(mvL k n).length = n
 | 0,_=>rfl
 | n + 1,k=>by rw [mvL,Znc,Zgw n]
theorem Zfj {l:List D.Value} {k:Int} (hk:0 ≤ k) (hb:k ≤ 1000000000) (hl:l.length ≤ 100000):X7 fuel l k = some (k + 3 * l.length,mvL k l.length):=by
  unfold X7
  have key:∀ (rest out:List D.Value) (k':Int) (n:Nat),out.length + rest.length = l.length → 0 ≤ k' → k' + 3 * rest.length ≤ 2000000000 → rest.length < n → iterN (fun (s1:Int × Int × (List D.Value))=>
  if (decide (s1.2.1 < (len l))) then
   (Yf fuel s1.1).bind fun x1=>
   (get? s1.2.2 s1.2.1).bind fun x2=>
   (set? s1.2.2 s1.2.1 ({ x2 with Name:=x1 }:D.Value)).bind fun x3=>
   (get? x3 s1.2.1).bind fun x4=>
   (set? x3 s1.2.1 ({ x4 with W:=(w64 (s1.1 + 1)) }:D.Value)).bind fun x5=>
   (get? x5 s1.2.1).bind fun x6=>
   (set? x5 s1.2.1 ({ x6 with N:=(w64 ((w64 (s1.1 + 1)) + 1)) }:D.Value)).bind fun x7=>
   some (.inl ((w64 ((w64 ((w64 (s1.1 + 1)) + 1)) + 1)),(w64 (s1.2.1 + 1)),x7))
  else
   some (.inr (s1.1,s1.2.2))) n (k',(out.length:Int),out ++ rest) = some (k' + 3 * rest.length,out ++ mvL k' rest.length):=by
    intro rest
    induction rest with
    | nil =>
      intro out k' n ho h0 h1 hn
      have hd:decide ((out.length:Int) < len l) = false:=by rw [Za]; exact decide_eq_false (by simp at ho; omega)
      refine itE ?_ (by omega)
      simp only [hd,ZmF,ZmQ,mvL,Znu,ZnI]
      simp
    | cons v rest ih =>
      intro out k' n ho h0 h1 hn
      simp only [Znc] at ho hn h1
      obtain ⟨n,rfl⟩ : ∃ j,n = j + 1:=⟨n - 1,by omega⟩
      have hd:decide ((out.length:Int) < len l) = true:=by rw [Za]; exact decide_eq_true (by omega)
      have hat:∀ v:D.Value,get? (out ++ v :: rest) (out.length:Int) = some v:=fun v=>by rw [get?_nat]; simp
      have hst:∀ v v':D.Value,set? (out ++ v :: rest) (out.length:Int) v' = some (out ++ v' :: rest):=fun v v'=>by rw [set?_nat (by simp)]; simp
      rw [itS (s':=(k' + 3,((out ++ [⟨mkT k',k' + 1,k' + 1 + 1⟩]:List D.Value).length:Int),(out ++ [⟨mkT k',k' + 1,k' + 1 + 1⟩]) ++ rest)) (by
        simp only [hd,Znl]
        rw [ZkO h0 (by omega)]
        simp only [ZmD,hat,hst]
        rw [Zb (x:=k' + 1) (by omega) (by omega),Zb (x:=k' + 1 + 1) (by omega) (by omega),Zb (x:=k' + 1 + 1 + 1) (by omega) (by omega),Zb (x:=(out.length:Int) + 1) (by omega) (by omega)]
        simp; omega)]
      rw [ih _ (k' + 3) n (by simp; omega) (by omega) (by omega) (by omega)]
      rw [Znc,mvL,Znf]
      simp; omega
  have:=key l [] k fuel (by simp) hk (by omega) (lt_fuel (by omega))
  exact congrArg (fun o=>Option.bind o fun (rl1:Int × List D.Value)=>some (rl1.1,rl1.2)) this
theorem Zfh {L:Nat} {k:Int} (hk:0 ≤ k) (hb:k ≤ 1000000000) (hl:L ≤ 100000):Xc fuel (mvL k L) k = some (k + 3 * L):=by
  unfold Xc
  have key:∀ (d:Nat) (pre:List D.Value) (k':Int) (n:Nat),pre.length + d = L → pre ++ mvL k' d = mvL k L → 0 ≤ k' → k' + 3 * d ≤ 2000000000 → d < n → iterN (fun (s1:Int × Int)=>
  if (decide (s1.2 < (len (mvL k L)))) then
   (get? (mvL k L) s1.2).bind fun x1=>
   (Yf fuel s1.1).bind fun x2=>
   if (!(Str.eqb x1.Name x2)) then
    some (.inr (.inr (-1)))
   else
    (get? (mvL k L) s1.2).bind fun x3=>
    if (x3.W != (w64 (s1.1 + 1))) then
     some (.inr (.inr (-1)))
    else
     (get? (mvL k L) s1.2).bind fun x4=>
     if (x4.N != (w64 ((w64 (s1.1 + 1)) + 1))) then
      some (.inr (.inr (-1)))
     else
      some (.inl ((w64 ((w64 ((w64 (s1.1 + 1)) + 1)) + 1)),(w64 (s1.2 + 1))))
  else
   some (.inr (.inl (s1.1)))) n (k',(pre.length:Int)) = some ((.inl (k' + 3 * d)):Int ⊕ Int):=by
    intro d
    induction d with
    | zero =>
      intro pre k' n ho he h0 h1 hn
      have hd:decide ((pre.length:Int) < len (mvL k L)) = false:=by rw [Za,Zgw]; exact decide_eq_false (by omega)
      refine itE ?_ (by omega)
      simp only [hd,ZmF,ZmQ]
      simp
    | succ d ih =>
      intro pre k' n ho he h0 h1 hn
      obtain ⟨n,rfl⟩ : ∃ j,n = j + 1:=⟨n - 1,by omega⟩
      have hd:decide ((pre.length:Int) < len (mvL k L)) = true:=by rw [Za,Zgw]; exact decide_eq_true (by omega)
      have hat:get? (mvL k L) (pre.length:Int) = some ⟨mkT k',k' + 1,k' + 1 + 1⟩:=by rw [← he,mvL,get?_nat]; simp
      have hq:Str.eqb (mkT k') (mkT k') = true:=by unfold Str.eqb; exact ZoF _
      rw [itS (s':=(k' + 3,((pre ++ [⟨mkT k',k' + 1,k' + 1 + 1⟩]:List D.Value).length:Int))) (by
        simp only [hd,Znl]
        rw [ZkO h0 (by omega)]
        simp only [ZmD,hat,hq,ZmT,ZmF,ZmQ]
        rw [Zb (x:=k' + 1) (by omega) (by omega),Zb (x:=k' + 1 + 1) (by omega) (by omega),Zb (x:=k' + 1 + 1 + 1) (by omega) (by omega),Zb (x:=(pre.length:Int) + 1) (by omega) (by omega)]
        simp; omega)]
      rw [ih _ (k' + 3) n (by simp; omega) (by rw [Znf]; exact he) (by omega) (by omega) (by omega)]
      congr 2; omega
  have:=key L [] k fuel (by simp) rfl hk (by omega) (lt_fuel (by omega))
  exact congrArg (fun o=>Option.bind o fun (rl1:Int ⊕ Int)=>match rl1 with | .inl s1r=>some s1r | .inr v=>some v) this
end Go.Proofs.YtgpcokpcbjloiaaGreat
end
section
namespace Go.Proofs.YtgpcokpcbjloiaaGreat.Sv
open Go.GL
set_option linter.unusedSimpArgs false
def lv (a:List Int) (x:Int):Int:=if x < 0 then -(a.getD x.natAbs 0) else a.getD x.natAbs 0
def isL (m:Nat) (x:Int):Prop:=x ≠ 0 ∧ x.natAbs ≤ m
structure Asg (m:Nat) (a:List Int):Prop where
 len:a.length = m + 1
 val:∀ i,a.getD i 0 = -1 ∨ a.getD i 0 = 0 ∨ a.getD i 0 = 1
 nul:a.getD 0 0 = 0
structure ClM (m:Nat) (c:List Int):Prop where
 lit:∀ x ∈ c,isL m x
 dif:c.Pairwise fun x y=>x.natAbs ≠ y.natAbs
def stA (a:List Int) (l:Int):List Int:=a.set l.natAbs (if l < 0 then -1 else 1)
theorem Zb2 {a:List Int} {x:Int} (h:x ≠ 0):lv a (-x) = - lv a x:=by
 unfold lv
 rw [ZoX]
 by_cases c:x < 0
 ·rw [ZmI (by omega),ZmJ c]; omega
 ·rw [ZmJ (by omega),ZmI c]
theorem Zi1 {m:Nat} {a:List Int} (h:Asg m a) (x:Int):lv a x = -1 ∨ lv a x = 0 ∨ lv a x = 1:=by
 unfold lv
 have:=h.val x.natAbs
 split <;> omega
theorem Zez {a:List Int} {i j:Nat} {v:Int} (h:i < a.length):(a.set i v).getD j 0 = if j = i then v else a.getD j 0:=by
 rw [ZmL,Zoa,ZmL]
 by_cases e:i = j
 ·subst e; rw [ZmJ rfl,ZmJ h,ZmJ rfl]; rfl
 ·rw [ZmI e,ZmI (Ne.symm e)]
theorem ZbK {m:Nat} {a:List Int} {l x:Int} (ha:a.length = m + 1) (hl:isL m l) (hx:x ≠ 0):lv (stA a l) x = if x = l then 1 else if x = -l then -1 else lv a x:=by
 obtain ⟨l0,l1⟩:=hl
 unfold lv stA
 rw [Zez (by omega)]
 by_cases e:x.natAbs = l.natAbs
 ·rw [ZmJ e]
  by_cases e1:x = l
  ·subst e1
   rw [ZmJ rfl]
   by_cases c:x < 0
   ·rw [ZmJ c,ZmJ c]; omega
   ·rw [ZmI c,ZmI c]
  ·have e2 : x = -l := by omega
   rw [ZmI e1,ZmJ e2]
   by_cases c:x < 0
   ·rw [ZmJ c,ZmI (by omega)]
   ·rw [ZmI c,ZmJ (by omega)]
 ·rw [ZmI e,ZmI (show ¬ x = l by intro h; exact e (by rw [h])),ZmI (show ¬ x = -l by intro h; exact e (by rw [h,ZoX]))]
theorem Zeq {m:Nat} {a:List Int} {l:Int} (h:Asg m a) (hl:isL m l):Asg m (stA a l):=by
 obtain ⟨l0,l1⟩:=hl
 have h1:=h.len
 refine ⟨by unfold stA; rw [ZoN]; exact h1,fun i=>?_,?_⟩
 ·unfold stA
  rw [Zez (by omega)]
  split
  ·split <;> omega
  ·exact h.val i
 ·unfold stA
  rw [Zez (by omega),ZmI (by omega)]; exact h.nul
theorem Zl9 {m:Nat} {a b:List Int} (ha:Asg m a) (hb:Asg m b) (h:∀ x,isL m x → (lv a x = 1 ↔ lv b x = 1)):a = b:=by
 refine List.ext_getElem (ha.len.trans hb.len.symm) fun i h1 h2=>?_
 have g1:a.getD i 0 = a[i]:=by rw [ZmL,ZmE h1]; rfl
 have g2:b.getD i 0 = b[i]:=by rw [ZmL,ZmE h2]; rfl
 rw [← g1,← g2]
 by_cases hi:i = 0
 ·subst hi; rw [ha.nul,hb.nul]
 have hm:i ≤ m:=by have:=ha.len; omega
 have p:=h (i:Int) ⟨by omega,by omega⟩
 have q:=h (-(i:Int)) ⟨by omega,by omega⟩
 rw [Zb2 (by omega),Zb2 (by omega)] at q
 have e:∀ c:List Int,lv c (i:Int) = c.getD i 0:=fun c=>by unfold lv; rw [ZmI (by omega)]; simp
 rw [e,e] at p q
 have va:=ha.val i
 have vb:=hb.val i
 omega
inductive Der (cs:List (List Int)) (S:Int → Prop):Int → Prop
 | base {x:Int}:S x → Der cs S x
 | unit {c:List Int} {x:Int}:c ∈ cs → x ∈ c → (∀ y ∈ c,y ≠ x → Der cs S (-y)) → Der cs S x
def good (a:List Int) (c:List Int):Prop:=(∃ x ∈ c,lv a x = 1) ∨ ∃ x ∈ c,∃ y ∈ c,x ≠ y ∧ lv a x = 0 ∧ lv a y = 0
structure Okc (m:Nat) (cs:List (List Int)) (S:Int → Prop) (a:List Int):Prop where
 asg:Asg m a
 ext:∀ x,S x → lv a x = 1
 snd:∀ x,isL m x → lv a x = 1 → Der cs S x
 cl:∀ c ∈ cs,good a c
def Bad (cs:List (List Int)) (S:Int → Prop):Prop:=∃ c ∈ cs,∀ y ∈ c,Der cs S (-y)
section
variable {m:Nat} {cs:List (List Int)} {S:Int → Prop} {a b:List Int}
theorem ZhJ (hcs:∀ c ∈ cs,ClM m c) (h:Okc m cs S a) {x:Int} (hd:Der cs S x):lv a x = 1:=by
 induction hd with
 | base hx=>exact h.ext _ hx
 | @unit c x hc hx _ ih=>
  have ih':∀ y ∈ c,y ≠ x → lv a y = -1:=fun y hy hne=>by
   have:=ih y hy hne
   rw [Zb2 ((hcs c hc).lit y hy).1] at this
   omega
  rcases h.cl c hc with ⟨z,hz,hz1⟩ | ⟨y,hy,z,hz,hne,hy0,hz0⟩
  ·by_cases e : z = x
   ·subst e; exact hz1
   ·have:=ih' z hz e; omega
  ·by_cases e : y = x
   ·have:=ih' z hz (fun e'=>hne (e.trans e'.symm)); omega
   ·have:=ih' y hy e; omega
theorem Zg8 (hcs:∀ c ∈ cs,ClM m c) (h:Okc m cs S a):¬ Bad cs S:=fun ⟨c,hc,hb⟩=>by
 have ih:∀ y ∈ c,lv a y = -1:=fun y hy=>by
  have:=ZhJ hcs h (hb y hy)
  rw [Zb2 ((hcs c hc).lit y hy).1] at this
  omega
 rcases h.cl c hc with ⟨z,hz,hz1⟩ | ⟨y,hy,z,hz,hne,hy0,hz0⟩
 ·have:=ih z hz; omega
 ·have:=ih y hy; omega
theorem ZkA (hcs:∀ c ∈ cs,ClM m c) (h:Okc m cs S a) (h':Okc m cs S b):a = b:=
 Zl9 h.asg h'.asg fun x hx=>⟨fun e=>ZhJ hcs h' (h.snd x hx e),fun e=>ZhJ hcs h (h'.snd x hx e)⟩
def Res (m:Nat) (cs:List (List Int)) (S:Int → Prop):Option (List Int) → Prop
 | some a=>Okc m cs S a
 | none=>Bad cs S
def free (a:List Int) (c:List Int):List Int:=c.filter fun x=>lv a x == 0
theorem Zcm {c:List Int} {x:Int}:x ∈ free a c ↔ x ∈ c ∧ lv a x = 0:=by unfold free; rw [Zne]; simp
theorem Zg2 {c:List Int} (hc:ClM m c) (h:2 ≤ (free a c).length):good a c:=by
 have hp:(free a c).Pairwise fun x y=>x.natAbs ≠ y.natAbs:=hc.dif.filter _
 match hf:free a c,h with
 | x :: y :: l,_=>
  rw [hf] at hp
  have hx:x ∈ free a c:=by rw [hf]; simp
  have hy:y ∈ free a c:=by rw [hf]; simp
  rw [Zcm] at hx hy
  refine .inr ⟨x,hx.1,y,hy.1,fun e=>?_,hx.2,hy.2⟩
  rw [Zop] at hp
  exact hp.1 y (by simp) (by rw [e])
def Snd (m:Nat) (cs:List (List Int)) (S:Int → Prop) (a:List Int):Prop:=∀ x,isL m x → lv a x = 1 → Der cs S x
theorem ZiQ (hA:Asg m a) (hs:Snd m cs S a) {c:List Int} (hc:ClM m c) {y:Int} (hy:y ∈ c) (h1:lv a y ≠ 1) (h0:lv a y ≠ 0):Der cs S (-y):=by
 have hl:=hc.lit y hy
 have:=Zi1 hA y
 exact hs (-y) ⟨by have:=hl.1; omega,by rw [ZoX]; exact hl.2⟩ (by rw [Zb2 hl.1]; omega)
theorem Zhe (hA:Asg m a) (hs:Snd m cs S a) {c:List Int} (hcs:c ∈ cs) (hc:ClM m c) (hn:∀ x ∈ c,lv a x ≠ 1) (hf:free a c = []):Bad cs S :=
 ⟨c, hcs, fun y hy => ZiQ hA hs hc hy (hn y hy) fun h => by
  have:y ∈ free a c:=Zcm.2 ⟨hy,h⟩
  rw [hf] at this; cases this⟩
theorem ZkQ (hA:Asg m a) (hs:Snd m cs S a) {c:List Int} (hcs:c ∈ cs) (hc:ClM m c) (hn:∀ x ∈ c,lv a x ≠ 1) {l:Int} (hf:free a c = [l]):isL m l ∧ l ∈ c ∧ lv a l = 0 ∧ Asg m (stA a l) ∧ Snd m cs S (stA a l):=by
 have hl:l ∈ free a c:=by rw [hf]; simp
 rw [Zcm] at hl
 have hL:=hc.lit l hl.1
 refine ⟨hL,hl.1,hl.2,Zeq hA hL,fun x hx h=>?_⟩
 rw [ZbK hA.len hL hx.1] at h
 by_cases e:x = l
 ·subst e
  refine .unit hcs hl.1 fun y hy hne=>ZiQ hA hs hc hy (hn y hy) fun h0=>?_
  have:y ∈ free a c:=Zcm.2 ⟨hy,h0⟩
  rw [hf,Znm] at this
  exact hne this
 ·rw [ZmI e] at h
  split at h
  ·omega
  ·exact hs x hx h
theorem Zen (hA:Asg m a) {l:Int} (hl:isL m l) (h0:lv a l = 0) {x:Int} (hx:x ≠ 0) (h:lv a x ≠ 0):lv (stA a l) x = lv a x:=by
 rw [ZbK hA.len hl hx,ZmI (show ¬ x = l from fun e=>h (e ▸ h0)),ZmI (show ¬ x = -l from fun e=>h (by rw [e,Zb2 hl.1,h0]; rfl))]
theorem Zhh (hA:Asg m a) {l:Int} (hl:isL m l) (h0:lv a l = 0) {c:List Int} (hc:ClM m c) (h:good a c):good (stA a l) c ∨ -l ∈ c:=by
 by_cases hn : -l ∈ c
 ·exact .inr hn
 refine .inl ?_
 rcases h with ⟨x,hx,h1⟩ | ⟨x,hx,y,hy,hne,hx0,hy0⟩
 ·exact .inl ⟨x,hx,by rw [Zen hA hl h0 (hc.lit x hx).1 (by omega)]; exact h1⟩
 ·by_cases e : l ∈ c
  ·exact .inl ⟨l,e,by rw [ZbK hA.len hl hl.1,ZmJ rfl]⟩
  ·have k:∀ z ∈ c,lv a z = 0 → lv (stA a l) z = 0:=fun z hz hz0=>by
    rw [ZbK hA.len hl (hc.lit z hz).1,ZmI (show ¬ z = l from fun e'=>e (e' ▸ hz)),ZmI (show ¬ z = -l from fun e'=>hn (e' ▸ hz))]; exact hz0
   exact .inr ⟨x,hx,y,hy,hne,k x hx hx0,k y hy hy0⟩
end
set_option maxRecDepth 100000
structure FmP (f:D.Formula) (m:Nat):Prop where
 vars:f.Vars = m
 small:m ≤ 400
 num:f.Clauses.length ≤ 1600
 cl:∀ c ∈ f.Clauses,ClM m c ∧ c.length ≤ 1000
def Sv (m:Nat) (v:List Int) (x:Int):Prop:=isL m x ∧ lv v x = 1
def zer (v:List Int):Nat:=v.count 0
theorem Zat {σt ρt:Type} {B:σt → Option (σt ⊕ ρt)} {s s':σt} {n:Nat} (h:B s = some (.inl s')):iterN B (n + 1) s = iterN B n s':=by
 rw [iterN,h]
section
variable {m:Nat} {a:List Int} {x:Int}
theorem Zbb {i:Nat} (h:i < a.length):a[i]? = some (a.getD i 0):=by
 rw [ZmL,ZmE h]; rfl
theorem Zde (hA:Asg m a) (hl:isL m x) (h0:lv a x = 0):zer (stA a x) + 1 = zer a:=by
 obtain ⟨l0,l1⟩:=hl
 have hi:x.natAbs < a.length:=by have:=hA.len; omega
 have hg:a[x.natAbs] = 0:=by
  have h1:=Zbb hi
  rw [ZmE hi] at h1
  have h2:=Option.some.inj h1
  unfold lv at h0
  rw [h2]
  split at h0 <;> omega
 have hpos:0 < a.count 0:=Zpi.2 (hg ▸ Zns hi)
 unfold zer stA
 rw [List.count_set hi,hg]
 have hne:((if x < 0 then (-1:Int) else 1) == 0) = false:=by split <;> decide
 simp only [ZoF,Znl,hne,ZmF,ZmQ]
 omega
theorem ZiJ (hm:m ≤ 400) (hl:isL m x):(if (decide (x < 0)) = true then some (w64 (0 - x)) else some x) = some (x.natAbs:Int):=by
 obtain ⟨l0,l1⟩:=hl
 by_cases h:x < 0
 ·rw [ZmJ (by simpa using h),Zb (by omega) (by omega)]; congr 1; omega
 ·rw [ZmI (by simpa using h)]; congr 1; omega
theorem YX (hm:m ≤ 400) (hl:isL m x):Zo x = some (x.natAbs:Int):=ZiJ hm hl
theorem ZhM (hA:Asg m a) (hl:isL m x):get? a (x.natAbs:Int) = some (a.getD x.natAbs 0):=by
 rw [get?_nat]
 exact Zbb (by have:=hA.len; have:=hl.2; omega)
theorem ZlM (hA:Asg m a) (x:Int):(cond (decide (x < 0)) (w64 (0 - a.getD x.natAbs 0)) (a.getD x.natAbs 0)) = lv a x:=by
 unfold lv
 have:=hA.val x.natAbs
 by_cases h:x < 0
 ·rw [ZmJ h,decide_eq_true h,cond_true,Zb (by omega) (by omega)]; omega
 ·rw [ZmI h,decide_eq_false h,cond_false]
def lst (l:List Int):Int:=l.getLastD 0
theorem Zda (c d:List Int):free a (c ++ d) = free a c ++ free a d:=by unfold free; rw [List.filter_append]
theorem ZiD (l:List Int) (y:Int):lst (l ++ [y]) = y:=by unfold lst; simp
theorem Zjt (hA:Asg m a) (hm:m ≤ 400) {c:List Int} (hc:∀ x ∈ c,isL m x) (hlen:c.length ≤ 1000) {n:Nat} (hn:2000 ≤ n):iterN (fun (s3:Int × Int × Bool × Int)=>
      if (decide (s3.2.2.2 < (len c))) then
       (get? c s3.2.2.2).bind fun x2=>
       (Zo x2).bind fun x3=>
       (get? a x3).bind fun x4=>
       if ((cond (decide (x2 < 0)) (w64 (0 - x4)) x4) == 0) then
        some (.inl ((w64 (s3.1 + 1)),x2,(s3.2.2.1 || (decide ((cond (decide (x2 < 0)) (w64 (0 - x4)) x4) > 0))),(w64 (s3.2.2.2 + 1))))
       else
        some (.inl (s3.1,s3.2.1,(s3.2.2.1 || (decide ((cond (decide (x2 < 0)) (w64 (0 - x4)) x4) > 0))),(w64 (s3.2.2.2 + 1))))
      else
       some (.inr (s3.1,s3.2.1,s3.2.2.1))
     ) n (0,0,false,0) = some (((free a c).length:Int),lst (free a c),c.any fun x=>lv a x == 1):=by
  obtain ⟨r,g1,g2⟩:=ZZ (l:=c) (n:=n) (σ:=Int × Int × Bool) (ρ:=Int × Int × Bool) (B:=fun (s3:Int × Int × Bool × Int)=>
      if (decide (s3.2.2.2 < (len c))) then
       (get? c s3.2.2.2).bind fun x2=>
       (Zo x2).bind fun x3=>
       (get? a x3).bind fun x4=>
       if ((cond (decide (x2 < 0)) (w64 (0 - x4)) x4) == 0) then
        some (.inl ((w64 (s3.1 + 1)),x2,(s3.2.2.1 || (decide ((cond (decide (x2 < 0)) (w64 (0 - x4)) x4) > 0))),(w64 (s3.2.2.2 + 1))))
       else
        some (.inl (s3.1,s3.2.1,(s3.2.2.1 || (decide ((cond (decide (x2 < 0)) (w64 (0 - x4)) x4) > 0))),(w64 (s3.2.2.2 + 1))))
      else
       some (.inr (s3.1,s3.2.1,s3.2.2.1))) (fun k q=>(q.1,q.2.1,q.2.2,(k:Int)))
    (fun ys q=>∃ pre,pre ++ ys = c ∧ q = (((free a pre).length:Int),lst (free a pre),pre.any fun x=>lv a x == 1))
    (fun r=>r = (((free a c).length:Int),lst (free a c),c.any fun x=>lv a x == 1))
    (fun k x xs q hk hx hl ⟨pre,h1,h2⟩=>by
      have hd:decide ((k:Int) < len c) = true:=by rw [Za]; simp; omega
      have hlx:=hc x (ZmM hx)
      have hfl:(free a pre).length ≤ c.length:=by
        rw [← h1]
        exact ZnM (List.length_filter_le _ _) (by simp)
      subst h2
      simp only [hd,Znl,get?_nat,hx,ZmD]
      rw [YX hm hlx]
      simp only [ZmD]
      rw [ZhM hA hlx]
      simp only [ZmD,ZlM hA x]
      have hv:=Zi1 hA x
      have hk1:w64 ((k:Int) + 1) = ((k + 1:Nat):Int):=by rw [Zb (by omega) (by omega)]; rfl
      have hany:((pre ++ [x]).any fun x=>lv a x == 1) = ((pre.any fun x=>lv a x == 1) || decide (lv a x > 0)):=by
        rw [Zp1]
        simp only [List.any_cons,List.any_nil,ZoR]
        congr 1
        rcases hv with e | e | e <;> rw [e] <;> decide
      by_cases h0:lv a x = 0
      · have hb : (lv a x == 0) = true := by simpa using h0
        refine .inl ⟨(((free a (pre ++ [x])).length:Int),lst (free a (pre ++ [x])),(pre ++ [x]).any fun x=>lv a x == 1),?_,pre ++ [x],by rw [Znf]; exact h1,rfl⟩
        have hfr:free a (pre ++ [x]) = free a pre ++ [x]:=by
          rw [Zda]; congr 1; unfold free; simp [h0]
        rw [ZmJ hb,hk1,hany,hfr,ZiD,Zb (by omega) (by omega)]
        simp
      · have hb : (lv a x == 0) = false := by simpa using h0
        refine .inl ⟨(((free a (pre ++ [x])).length:Int),lst (free a (pre ++ [x])),(pre ++ [x]).any fun x=>lv a x == 1),?_,pre ++ [x],by rw [Znf]; exact h1,rfl⟩
        have hfr:free a (pre ++ [x]) = free a pre:=by
          rw [Zda]
          have:free a [x] = []:=by unfold free; simp [h0]
          rw [this,Znu]
        rw [ZmI (by rw [hb]; decide),hk1,hany,hfr])
    (fun q ⟨pre,h1,h2⟩=>by
      have hd:decide ((c.length:Int) < len c) = false:=by rw [Za]; simp
      simp only [hd,ZmF,ZmQ]
      rw [Znu] at h1
      subst h1
      exact ⟨_,rfl,h2⟩) (a:=(0,0,false)) ⟨[],rfl,rfl⟩ (by omega)
  rw [show ((0:Nat):Int) = 0 from rfl] at g1
  rw [g1,g2]
theorem ZkN (hm:m ≤ 400) (hl:isL m x):quo? x (x.natAbs:Int) = some (if x < 0 then -1 else 1):=by
 obtain ⟨l0,l1⟩:=hl
 unfold quo?
 rw [ZmI (by omega)]
 by_cases h:x < 0
 ·have e : (x.natAbs : Int) = -x := by omega
  rw [ZmJ h,e,Int.tdiv_neg,Int.tdiv_self l0]; rfl
 ·have e : (x.natAbs : Int) = x := by omega
  rw [ZmI h,e,Int.tdiv_self l0]; rfl
theorem ZiS (hA:Asg m a) (hl:isL m x):set? a (x.natAbs:Int) (if x < 0 then -1 else 1) = some (stA a x):=by
 unfold set? stA
 rw [ZmJ ⟨by omega,by have:=hA.len; have:=hl.2; simp; omega⟩]; simp
end
section
variable {f:D.Formula} {m:Nat} {S:Int → Prop}
structure Way (m:Nat) (cs:List (List Int)) (S:Int → Prop) (a:List Int):Prop where
 asg:Asg m a
 ext:∀ x,S x → lv a x = 1
 snd:Snd m cs S a
theorem Way.unit {cs:List (List Int)} {a:List Int} (h:Way m cs S a) (hS:∀ x,S x → isL m x) {c:List Int} (hc:c ∈ cs) (hm:ClM m c) (hn:∀ x ∈ c,lv a x ≠ 1) {l:Int} (hf:free a c = [l]):Way m cs S (stA a l) ∧ isL m l ∧ lv a l = 0 ∧ l ∈ c:=by
 obtain ⟨h1,h2,h3,h4,h5⟩:=ZkQ h.asg h.snd hc hm hn hf
 refine ⟨⟨h4,fun x hx=>?_,h5⟩,h1,h3,h2⟩
 rw [Zen h.asg h1 h3 (hS x hx).1 (by rw [h.ext x hx]; decide)]
 exact h.ext x hx
theorem Zb7 {a:List Int} {c:List Int}:(c.any fun x=>lv a x == 1) = true ↔ ∃ x ∈ c,lv a x = 1:=by
 rw [List.any_eq_true]; simp
theorem ZgC (hf:FmP f m) (hS:∀ x,S x → isL m x) {a:List Int} (hw:Way m f.Clauses S a) {c:List Int} (hc:c ∈ f.Clauses) :
  (((c.any fun x=>lv a x == 1) || decide (((free a c).length:Int) > 1)) = true ∧ good a c) ∨
  (((c.any fun x=>lv a x == 1) || decide (((free a c).length:Int) > 1)) = false ∧ ((((free a c).length:Int) == 0) = true ∧ Bad f.Clauses S ∨ (((free a c).length:Int) == 0) = false ∧ isL m (lst (free a c)) ∧ Way m f.Clauses S (stA a (lst (free a c))) ∧ zer (stA a (lst (free a c))) + 1 = zer a)):=by
 have hcl:=(hf.cl c hc).1
 cases hany:c.any fun x=>lv a x == 1 with
 | true=>exact .inl ⟨by simp,.inl (Zb7.1 hany)⟩
 | false=>
  have hn:∀ x ∈ c,lv a x ≠ 1:=fun x hx e=>by
   have:=Zb7.2 ⟨x,hx,e⟩
   rw [hany] at this; cases this
  match hfr:free a c with
  | []=>exact .inr ⟨by simp,.inl ⟨by simp,Zhe hw.asg hw.snd hc hcl hn hfr⟩⟩
  | [l]=>
   obtain ⟨h1,h2,h3,_⟩:=hw.unit hS hc hcl hn hfr
   exact .inr ⟨by simp,.inr ⟨by simp,h2,h1,Zde hw.asg h2 h3⟩⟩
  | x :: y :: l=>exact .inl ⟨by simp; omega,Zg2 hcl (by rw [hfr]; simp)⟩
theorem ZeS (hf:FmP f m) (hS:∀ x,S x → isL m x) {v0:List Int} (hw:Way m f.Clauses S v0) {n:Nat} (hn:2000 ≤ n) :
    ∃ r,iterN (fun (s2:Bool × Int × (List Int))=>
    if (decide (s2.2.1 < (len f.Clauses))) then
     (get? f.Clauses s2.2.1).bind fun x1 =>
     (iterN (fun (s3 : Int × Int × Bool × Int) =>
      if (decide (s3.2.2.2 < (len x1))) then
       (get? x1 s3.2.2.2).bind fun x2=>
       (Zo x2).bind fun x3=>
       (get? s2.2.2 x3).bind fun x4=>
       if ((cond (decide (x2 < 0)) (w64 (0 - x4)) x4) == 0) then
        some (.inl ((w64 (s3.1 + 1)),x2,(s3.2.2.1 || (decide ((cond (decide (x2 < 0)) (w64 (0 - x4)) x4) > 0))),(w64 (s3.2.2.2 + 1))))
       else
        some (.inl (s3.1,s3.2.1,(s3.2.2.1 || (decide ((cond (decide (x2 < 0)) (w64 (0 - x4)) x4) > 0))),(w64 (s3.2.2.2 + 1))))
      else
       some (.inr (s3.1,s3.2.1,s3.2.2.1))
     ) n (0,0,false,0)).bind fun (rl3:Int × Int × Bool)=>
     if (rl3.2.2 || (decide (rl3.1 > 1))) then
      some (.inl (s2.1,(w64 (s2.2.1 + 1)),s2.2.2))
     else
      if (rl3.1 == 0) then
       some (.inr (.inr (false,s2.2.2)))
      else
       (Zo rl3.2.1).bind fun x5=>
       (Zo rl3.2.1).bind fun x6=>
       (quo? rl3.2.1 x6).bind fun x7=>
       (set? s2.2.2 x5 x7).bind fun x8=>
       some (.inl (true,(w64 (s2.2.1 + 1)),x8))
    else
     some (.inr (.inl (s2.1,s2.2.2))):Bool × Int × (List Int) → Option ((Bool × Int × (List Int)) ⊕ ((Bool × (List Int)) ⊕ (Bool × (List Int))))) n (false,0,v0) = some r ∧
    ((∃ b v,r = .inl (b,v) ∧ Way m f.Clauses S v ∧ (b = false → v = v0 ∧ ∀ c ∈ f.Clauses,good v c) ∧ (b = true → zer v < zer v0)) ∨ ∃ v,r = .inr (false,v) ∧ v.length = m + 1 ∧ Bad f.Clauses S):=by
  have hnum:=hf.num
  obtain ⟨r,g1,g2⟩:=ZZ (l:=f.Clauses) (n:=n) (σ:=Bool × List Int) (ρ:=(Bool × (List Int)) ⊕ (Bool × (List Int))) (B:=fun (s2:Bool × Int × (List Int))=>
    if (decide (s2.2.1 < (len f.Clauses))) then
     (get? f.Clauses s2.2.1).bind fun x1 =>
     (iterN (fun (s3 : Int × Int × Bool × Int) =>
      if (decide (s3.2.2.2 < (len x1))) then
       (get? x1 s3.2.2.2).bind fun x2=>
       (Zo x2).bind fun x3=>
       (get? s2.2.2 x3).bind fun x4=>
       if ((cond (decide (x2 < 0)) (w64 (0 - x4)) x4) == 0) then
        some (.inl ((w64 (s3.1 + 1)),x2,(s3.2.2.1 || (decide ((cond (decide (x2 < 0)) (w64 (0 - x4)) x4) > 0))),(w64 (s3.2.2.2 + 1))))
       else
        some (.inl (s3.1,s3.2.1,(s3.2.2.1 || (decide ((cond (decide (x2 < 0)) (w64 (0 - x4)) x4) > 0))),(w64 (s3.2.2.2 + 1))))
      else
       some (.inr (s3.1,s3.2.1,s3.2.2.1))
     ) n (0,0,false,0)).bind fun (rl3:Int × Int × Bool)=>
     if (rl3.2.2 || (decide (rl3.1 > 1))) then
      some (.inl (s2.1,(w64 (s2.2.1 + 1)),s2.2.2))
     else
      if (rl3.1 == 0) then
       some (.inr (.inr (false,s2.2.2)))
      else
       (Zo rl3.2.1).bind fun x5=>
       (Zo rl3.2.1).bind fun x6=>
       (quo? rl3.2.1 x6).bind fun x7=>
       (set? s2.2.2 x5 x7).bind fun x8=>
       some (.inl (true,(w64 (s2.2.1 + 1)),x8))
    else
     some (.inr (.inl (s2.1,s2.2.2)))) (fun k q=>(q.1,(k:Int),q.2))
    (fun ys q=>Way m f.Clauses S q.2 ∧ (q.1 = false → q.2 = v0 ∧ ∃ pre,pre ++ ys = f.Clauses ∧ ∀ c ∈ pre,good q.2 c) ∧ (q.1 = true → zer q.2 < zer v0))
    (fun r=>(∃ b v,r = .inl (b,v) ∧ Way m f.Clauses S v ∧ (b = false → v = v0 ∧ ∀ c ∈ f.Clauses,good v c) ∧ (b = true → zer v < zer v0)) ∨ ∃ v,r = .inr (false,v) ∧ v.length = m + 1 ∧ Bad f.Clauses S)
    (fun k c xs q hk hx hl ⟨i1,i2,i3⟩=>by
      have hd:decide ((k:Int) < len f.Clauses) = true:=by rw [Za]; simp; omega
      have hcm:=ZmM hx
      have hcl:=hf.cl c hcm
      have hk1:w64 ((k:Int) + 1) = ((k + 1:Nat):Int):=by rw [Zb (by omega) (by omega)]; rfl
      have hsc:=Zjt i1.asg hf.small hcl.1.lit hcl.2 hn
      simp only [hd,Znl,get?_nat,hx,ZmD]
      rw [hsc]
      simp only [ZmD]
      rcases ZgC hf hS i1 hcm with ⟨e,hg⟩ | ⟨e,⟨e0,hb⟩ | ⟨e0,hl1,hw1,hz⟩⟩
      · refine .inl ⟨q, by rw [ZmJ e, hk1], i1, fun hq => ?_, i3⟩
        obtain ⟨j1,pre,j2,j3⟩:=i2 hq
        refine ⟨j1,pre ++ [c],by rw [Znf]; exact j2,fun d hd=>?_⟩
        rcases Znb.1 hd with hd | hd
        · exact j3 d hd
        · rw [Znm] at hd; subst hd; exact hg
      · exact .inr ⟨_,by rw [ZmI (by rw [e]; decide),ZmJ e0],.inr ⟨_,rfl,i1.asg.len,hb⟩⟩
      · refine .inl ⟨(true, stA q.2 (lst (free q.2 c))), ?_, hw1, fun h => (by cases h), fun _ => ?_⟩
        · rw [ZmI (by rw [e]; decide), ZmI (by rw [e0]; decide), YX hf.small hl1]
          simp only [ZmD]
          rw [ZkN hf.small hl1]
          simp only [ZmD]
          rw [ZiS i1.asg hl1]
          simp only [ZmD,hk1]
        · show zer (stA q.2 (lst (free q.2 c))) < zer v0
          cases hq:q.1
          · have:=(i2 hq).1; rw [this] at hz ⊢; omega
          · have:=i3 hq; omega)
    (fun q ⟨i1,i2,i3⟩=>by
      have hd:decide ((f.Clauses.length:Int) < len f.Clauses) = false:=by rw [Za]; simp
      simp only [hd,ZmF,ZmQ]
      refine ⟨_,rfl,.inl ⟨q.1,q.2,rfl,i1,fun hq=>?_,i3⟩⟩
      obtain ⟨j1,pre,j2,j3⟩:=i2 hq
      rw [Znu] at j2
      exact ⟨j1,j2 ▸ j3⟩) (a:=(false,v0)) ⟨hw,fun _=>⟨rfl,[],rfl,fun _ h=>(by cases h)⟩,fun h=>(by cases h)⟩ (by omega)
  exact ⟨r,g1,g2⟩
theorem Zif {a:List Int} (h:Asg m a):zer a ≤ m + 1:=by
 rw [← h.len]; exact List.count_le_length
theorem ZgR (hf:FmP f m) (hS:∀ x,S x → isL m x) {v:List Int} (hw:Way m f.Clauses S v) {n:Nat} (hn:2000 ≤ n) :
    ∃ b v',YV n f v = some (b,v') ∧ v'.length = m + 1 ∧ (b = true → Okc m f.Clauses S v') ∧ (b = false → Bad f.Clauses S):=by
  have key:∀ (z:Nat) (v:List Int) (k:Nat),zer v ≤ z → Way m f.Clauses S v → z + 2 ≤ k → ∃ r,iterN (fun (s1:Bool × (List Int))=>
  if s1.1 then
   (iterN (fun (s2 : Bool × Int × (List Int)) =>
    if (decide (s2.2.1 < (len f.Clauses))) then
     (get? f.Clauses s2.2.1).bind fun x1 =>
     (iterN (fun (s3 : Int × Int × Bool × Int) =>
      if (decide (s3.2.2.2 < (len x1))) then
       (get? x1 s3.2.2.2).bind fun x2=>
       (Zo x2).bind fun x3=>
       (get? s2.2.2 x3).bind fun x4=>
       if ((cond (decide (x2 < 0)) (w64 (0 - x4)) x4) == 0) then
        some (.inl ((w64 (s3.1 + 1)),x2,(s3.2.2.1 || (decide ((cond (decide (x2 < 0)) (w64 (0 - x4)) x4) > 0))),(w64 (s3.2.2.2 + 1))))
       else
        some (.inl (s3.1,s3.2.1,(s3.2.2.1 || (decide ((cond (decide (x2 < 0)) (w64 (0 - x4)) x4) > 0))),(w64 (s3.2.2.2 + 1))))
      else
       some (.inr (s3.1,s3.2.1,s3.2.2.1))
     ) n (0,0,false,0)).bind fun (rl3:Int × Int × Bool)=>
     if (rl3.2.2 || (decide (rl3.1 > 1))) then
      some (.inl (s2.1,(w64 (s2.2.1 + 1)),s2.2.2))
     else
      if (rl3.1 == 0) then
       some (.inr (.inr (false,s2.2.2)))
      else
       (Zo rl3.2.1).bind fun x5=>
       (Zo rl3.2.1).bind fun x6=>
       (quo? rl3.2.1 x6).bind fun x7=>
       (set? s2.2.2 x5 x7).bind fun x8=>
       some (.inl (true,(w64 (s2.2.1 + 1)),x8))
    else
     some (.inr (.inl (s2.1,s2.2.2)))
   ) n (false,0,s1.2)).bind fun (rl2:(Bool × (List Int)) ⊕ (Bool × (List Int)))=>
   match rl2 with
   | .inl s2r=>
    some (.inl (s2r.1,s2r.2))
   | .inr v=>some (.inr (.inr v))
  else
   some (.inr (.inl (s1.2))):Bool × (List Int) → Option ((Bool × (List Int)) ⊕ ((List Int) ⊕ (Bool × (List Int))))) k (true,v) = some r ∧ ((∃ a,r = .inl a ∧ Okc m f.Clauses S a) ∨ ∃ a,r = .inr (false,a) ∧ a.length = m + 1 ∧ Bad f.Clauses S):=by
    intro z
    induction z with
    | zero =>
      intro v k hz hw hk
      obtain ⟨k,rfl⟩ : ∃ q,k = q + 2:=⟨k - 2,by omega⟩
      obtain ⟨r,g1,g2⟩:=ZeS hf hS hw hn
      rcases g2 with ⟨b,a,rfl,h1,h2,h3⟩ | ⟨a,rfl,h1,h2⟩
      · cases b with
        | true=>have:=h3 rfl; omega
        | false =>
          obtain ⟨e,hg⟩:=h2 rfl
          refine ⟨.inl a,?_,.inl ⟨a,rfl,⟨h1.asg,h1.ext,h1.snd,hg⟩⟩⟩
          rw [show k + 2 = (k + 1) + 1 from rfl,Zat (s':=(false,a)) (by simp only [Znl]; rw [g1]; rfl)]
          exact ZC rfl (by omega)
      · exact ⟨.inr (false,a),ZC (by simp only [Znl]; rw [g1]; rfl) (by omega),.inr ⟨a,rfl,h1,h2⟩⟩
    | succ z ih =>
      intro v k hz hw hk
      obtain ⟨k,rfl⟩ : ∃ q,k = q + 2:=⟨k - 2,by omega⟩
      obtain ⟨r,g1,g2⟩:=ZeS hf hS hw hn
      rcases g2 with ⟨b,a,rfl,h1,h2,h3⟩ | ⟨a,rfl,h1,h2⟩
      · cases b with
        | true =>
          have:=h3 rfl
          obtain ⟨r,q1,q2⟩:=ih a (k + 1) (by omega) h1 (by omega)
          refine ⟨r,?_,q2⟩
          rw [show k + 2 = (k + 1) + 1 from rfl,Zat (s':=(true,a)) (by simp only [Znl]; rw [g1]; rfl)]
          exact q1
        | false =>
          obtain ⟨e,hg⟩:=h2 rfl
          refine ⟨.inl a,?_,.inl ⟨a,rfl,⟨h1.asg,h1.ext,h1.snd,hg⟩⟩⟩
          rw [show k + 2 = (k + 1) + 1 from rfl,Zat (s':=(false,a)) (by simp only [Znl]; rw [g1]; rfl)]
          exact ZC rfl (by omega)
      · exact ⟨.inr (false,a),ZC (by simp only [Znl]; rw [g1]; rfl) (by omega),.inr ⟨a,rfl,h1,h2⟩⟩
  obtain ⟨r,g1,g2⟩:=key (m + 1) v n (Zif hw.asg) hw (by have:=hf.small; omega)
  have G:∀ q,r = q → YV n f v = (match q with | .inl s1r=>some (true,s1r) | .inr v=>some v):=fun q e=>by
    subst e
    unfold YV
    exact congrArg (fun o=>Option.bind o (fun (rl1:(List Int) ⊕ (Bool × (List Int)))=>match rl1 with | .inl s1r=>some (true,s1r) | .inr v=>some v)) g1
  rcases g2 with ⟨a,e,h⟩ | ⟨a,e,h1,h2⟩
  · exact ⟨true,a,G _ e,h.asg.len,fun _=>h,fun h=>(by cases h)⟩
  · exact ⟨false,a,G _ e,h1,fun h=>(by cases h),fun _=>h2⟩
end
section
variable {f:D.Formula} {m:Nat} {S:Int → Prop}
theorem Yk {x:Int} (hm:m ≤ 400) (hl:isL m x):Yi x = some (x.natAbs:Int):=ZiJ hm hl
theorem ZkJ {x:Int} (hm:m ≤ 400) (hl:isL m x):(cond (decide (x < 0)) (w64 (0 - x)) x) = (x.natAbs:Int):=by
 obtain ⟨l0,l1⟩:=hl
 by_cases h:x < 0
 ·rw [decide_eq_true h,cond_true,Zb (by omega) (by omega)]; omega
 ·rw [decide_eq_false h,cond_false]; omega
theorem Zkv {x:Int}:(cond (decide (x < 0)) (-1) 1:Int) = if x < 0 then -1 else 1:=by
 by_cases h:x < 0
 ·rw [decide_eq_true h,cond_true,ZmJ h]
 ·rw [decide_eq_false h,cond_false,ZmI h]
theorem ZlL {α:Type} {l:List α} {x:α} (h:l.length ≤ 1000000):app? l [x] = some (l ++ [x]):=by
 unfold app? room; rw [ZmJ (by simp; omega)]
theorem ZgN {a q:List Int} {l:Int} (hA:Asg m a) (hm:m ≤ 400) (hl:isL m l) (h0:lv a l = 0) (hq:q.length ≤ 1000000):Z9 ⟨a,q⟩ l = some (true,⟨stA a l,q ++ [l]⟩):=by
 have hg:a.getD l.natAbs 0 = 0:=by unfold lv at h0; split at h0 <;> omega
 unfold Z9
 rw [ZkJ hm hl,ZhM hA hl,hg]
 simp only [ZmD]
 rw [ZmI (by decide),Zkv,ZiS hA hl]
 simp only [ZmD]
 rw [ZlL hq]; rfl
theorem Zju {a q:List Int} (hA:Asg m a) (hm:m ≤ 400) {c:List Int} (hc:∀ x ∈ c,isL m x) (hlen:c.length ≤ 1000) (hq:q.length ≤ 1000000) {n:Nat} (hn:2000 ≤ n) :
    ((c.any fun x=>lv a x == 1) = true ∧ Zp n ⟨a,q⟩ c = some (true,⟨a,q⟩)) ∨
    ((c.any fun x=>lv a x == 1) = false ∧ ((free a c = [] ∧ Zp n ⟨a,q⟩ c = some (false,⟨a,q⟩)) ∨ (∃ l,free a c = [l] ∧ Zp n ⟨a,q⟩ c = some (true,⟨stA a l,q ++ [l]⟩)) ∨ (2 ≤ (free a c).length ∧ Zp n ⟨a,q⟩ c = some (true,⟨a,q⟩)))):=by
  obtain ⟨r,g1,g2⟩:=ZZ (l:=c) (n:=n) (σ:=Int × Int) (ρ:=(Int × Int) ⊕ (Bool × D.assignment)) (B:=fun (s1:Int × Int × Int)=>
  if (decide (s1.2.2 < (len c))) then
   (get? c s1.2.2).bind fun x1=>
   (Yi x1).bind fun x2=>
   (get? a x2).bind fun x3=>
   if (x3 == 0) then
    some (.inl ((w64 (s1.1 + 1)),x1,(w64 (s1.2.2 + 1))))
   else
    if ((decide (x3 > 0)) == (decide (x1 > 0))) then
     some (.inr (.inr (true,(⟨a,q⟩ : D.assignment))))
    else
     some (.inl (s1.1,s1.2.1,(w64 (s1.2.2 + 1))))
  else
   some (.inr (.inl (s1.1,s1.2.1)))) (fun k z=>(z.1,z.2,(k:Int)))
    (fun ys z=>∃ pre,pre ++ ys = c ∧ z = (((free a pre).length:Int),lst (free a pre)) ∧ (pre.any fun x=>lv a x == 1) = false)
    (fun r=>(r = .inl (((free a c).length:Int),lst (free a c)) ∧ (c.any fun x=>lv a x == 1) = false) ∨ (r = .inr (true,⟨a,q⟩) ∧ (c.any fun x=>lv a x == 1) = true))
    (fun k x xs z hk hx hl ⟨pre,h1,h2,h3⟩=>by
      have hd:decide ((k:Int) < len c) = true:=by rw [Za]; simp; omega
      have hlx:=hc x (ZmM hx)
      have hfl:(free a pre).length ≤ c.length:=by
        rw [← h1]
        exact ZnM (List.length_filter_le _ _) (by simp)
      have hk1:w64 ((k:Int) + 1) = ((k + 1:Nat):Int):=by rw [Zb (by omega) (by omega)]; rfl
      have hv:=hA.val x.natAbs
      have hx0:=hlx.1
      subst h2
      simp only [hd,Znl,get?_nat,hx,ZmD]
      rw [Yk hm hlx]
      simp only [ZmD]
      rw [ZhM hA hlx]
      simp only [ZmD]
      by_cases h0:a.getD x.natAbs 0 = 0
      · have hl0 : lv a x = 0 := by unfold lv; rw [h0]; split <;> rfl
        have hfr:free a (pre ++ [x]) = free a pre ++ [x]:=by
          rw [Zda]; congr 1; unfold free; simp [hl0]
        refine .inl ⟨(((free a (pre ++ [x])).length:Int),lst (free a (pre ++ [x]))),?_,pre ++ [x],by rw [Znf]; exact h1,rfl,?_⟩
        · rw [ZmJ (by simpa using h0),hk1,hfr,ZiD,Zb (by omega) (by omega)]; simp
        · rw [Zp1,h3]; simp [hl0]
      · have hl0 : lv a x ≠ 0 := fun e => h0 (by unfold lv at e; split at e <;> omega)
        rw [ZmI (by simpa using h0)]
        by_cases h4:lv a x = 1
        · refine .inr ⟨_, ?_, .inr ⟨rfl, Zb7.2 ⟨x, ZmM hx, h4⟩⟩⟩
          rw [ZmJ]
          unfold lv at h4
          by_cases hneg:x < 0
          · rw [ZmJ hneg] at h4
            have e1:a.getD x.natAbs 0 = -1:=by omega
            rw [e1,decide_eq_false (show ¬ x > 0 by omega)]; decide
          · rw [ZmI hneg] at h4
            rw [h4,decide_eq_true (show x > 0 by omega)]; decide
        · have hfr:free a (pre ++ [x]) = free a pre:=by
            rw [Zda]
            have:free a [x] = []:=by unfold free; simp [hl0]
            rw [this,Znu]
          refine .inl ⟨(((free a (pre ++ [x])).length:Int),lst (free a (pre ++ [x]))),?_,pre ++ [x],by rw [Znf]; exact h1,rfl,?_⟩
          · rw [ZmI, hk1, hfr]
            unfold lv at h4
            by_cases hneg:x < 0
            · rw [ZmJ hneg] at h4
              have e1:a.getD x.natAbs 0 = 1:=by omega
              rw [e1,decide_eq_false (show ¬ x > 0 by omega)]; decide
            · rw [ZmI hneg] at h4
              have e1:a.getD x.natAbs 0 = -1:=by omega
              rw [e1,decide_eq_true (show x > 0 by omega)]; decide
          · rw [Zp1,h3]; simp [h4])
    (fun z ⟨pre,h1,h2,h3⟩=>by
      have hd:decide ((c.length:Int) < len c) = false:=by rw [Za]; simp
      simp only [hd,ZmF,ZmQ]
      rw [Znu] at h1
      subst h1
      exact ⟨_,rfl,.inl ⟨by rw [h2],h3⟩⟩) (a:=(0,0)) ⟨[],rfl,rfl,rfl⟩ (by omega)
  have G:∀ z,r = z → Zp n ⟨a,q⟩ c = (match z with
     | .inl s1r=>if (s1r.1 == 0) then some (false,⟨a,q⟩) else if (s1r.1 == 1) then (Z9 ⟨a,q⟩ s1r.2).bind fun x4=>some (x4.1,x4.2) else some (true,⟨a,q⟩)
     | .inr v=>some v):=fun z e=>by
    subst e
    unfold Zp
    exact congrArg (fun o=>Option.bind o (fun (rl1:(Int × Int) ⊕ (Bool × D.assignment))=>match rl1 with
     | .inl s1r=>if (s1r.1 == 0) then some (false,⟨a,q⟩) else if (s1r.1 == 1) then (Z9 ⟨a,q⟩ s1r.2).bind fun x4=>some (x4.1,x4.2) else some (true,⟨a,q⟩)
     | .inr v=>some v)) g1
  rcases g2 with ⟨e,hany⟩ | ⟨e,hany⟩
  · refine .inr ⟨hany, ?_⟩
    have G:=G _ e
    match hfr:free a c with
    | []=>exact .inl ⟨rfl,by rw [G,hfr]; rfl⟩
    | [l] =>
      have hlm:l ∈ free a c:=by rw [hfr]; simp
      rw [Zcm] at hlm
      refine .inr (.inl ⟨l,rfl,?_⟩)
      rw [G,hfr]
      show ((Z9 ⟨a,q⟩ l).bind fun x4=>some (x4.1,x4.2)) = _
      rw [ZgN hA hm (hc l hlm.1) hlm.2 hq]; rfl
    | x :: y :: l =>
      refine .inr (.inr ⟨by simp,?_⟩)
      rw [G,hfr]
      simp only
      rw [ZmI (by simp; omega),ZmI (by simp; omega)]
  · exact .inl ⟨hany,G _ e⟩
def pend (a q:List Int) (c:List Int):Prop:=∃ x ∈ c,lv a x = -1 ∧ -x ∈ q
structure Wq (m:Nat) (cs:List (List Int)) (S:Int → Prop) (a q:List Int):Prop where
 way:Way m cs S a
 tru:∀ l ∈ q,isL m l ∧ lv a l = 1
 len:q.length + zer a ≤ 1000
theorem ZfR (hf:FmP f m) (hS:∀ x,S x → isL m x) {a q:List Int} (hw:Wq m f.Clauses S a q) {c:List Int} (hc:c ∈ f.Clauses) (P:List Int → Prop) (hJ:∀ d ∈ f.Clauses,P d ∨ good a d ∨ pend a q d) {n:Nat} (hn:2000 ≤ n) :
  (Zp n ⟨a,q⟩ c = some (false,⟨a,q⟩) ∧ Bad f.Clauses S) ∨
  ∃ a' q',Zp n ⟨a,q⟩ c = some (true,⟨a',q'⟩) ∧ Wq m f.Clauses S a' q' ∧ q'.length + 2 * zer a' ≤ q.length + 2 * zer a ∧ good a' c ∧ ∀ d ∈ f.Clauses,P d ∨ good a' d ∨ pend a' q' d:=by
 have hcl:=hf.cl c hc
 have hA:=hw.way.asg
 rcases Zju (q:=q) hA hf.small hcl.1.lit hcl.2 (by have:=hw.len; omega) hn with ⟨h1,h2⟩ | ⟨h1,⟨h3,h2⟩ | ⟨l,h3,h2⟩ | ⟨h3,h2⟩⟩
 ·exact .inr ⟨a,q,h2,hw,ZmY _,.inl (Zb7.1 h1),hJ⟩
 ·have hn1:∀ x ∈ c,lv a x ≠ 1:=fun x hx e=>by
   have:=Zb7.2 ⟨x,hx,e⟩
   rw [h1] at this; cases this
  exact .inl ⟨h2,Zhe hA hw.way.snd hc hcl.1 hn1 h3⟩
 ·have hn1:∀ x ∈ c,lv a x ≠ 1:=fun x hx e=>by
   have:=Zb7.2 ⟨x,hx,e⟩
   rw [h1] at this; cases this
  obtain ⟨k1,k2,k3,k4⟩:=hw.way.unit hS hc hcl.1 hn1 h3
  have hz:=Zde hA k2 k3
  have hlen:=hw.len
  refine .inr ⟨stA a l,q ++ [l],h2,⟨k1,fun y hy=>?_,by rw [ZmO]; simp; omega⟩,by rw [ZmO]; simp; omega,.inl ⟨l,k4,by rw [ZbK hA.len k2 k2.1,ZmJ rfl]⟩,fun d hd=>?_⟩
  ·rcases Znb.1 hy with hy | hy
   ·have := hw.tru y hy
    exact ⟨this.1,by rw [Zen hA k2 k3 this.1.1 (by omega)]; exact this.2⟩
   ·rw [Znm] at hy; subst hy
    exact ⟨k2,by rw [ZbK hA.len k2 k2.1,ZmJ rfl]⟩
  ·rcases hJ d hd with h | h | ⟨x, hx, hx1, hx2⟩
   ·exact .inl h
   ·rcases Zhh hA k2 k3 (hf.cl d hd).1 h with h | h
    ·exact .inr (.inl h)
    ·exact .inr (.inr ⟨-l,h,by rw [Zb2 k2.1,ZbK hA.len k2 k2.1,ZmJ rfl],by simp⟩)
   ·exact .inr (.inr ⟨x,hx,by rw [Zen hA k2 k3 ((hf.cl d hd).1.lit x hx).1 (by omega)]; exact hx1,ZoB _ hx2⟩)
 ·exact .inr ⟨a,q,h2,hw,ZmY _,Zg2 hcl.1 h3,hJ⟩
end
structure OccP (f:D.Formula) (m:Nat) (occ:List (List Int)):Prop where
 len:occ.length = 2 * m + 1
 val:∀ j,∀ i ∈ occ.getD j [],0 ≤ i ∧ i < (f.Clauses.length:Int)
 all:∀ (i:Nat) (c:List Int),f.Clauses[i]? = some c → ∀ y ∈ c,(i:Int) ∈ occ.getD (y + m).toNat []
 small:∀ j,(occ.getD j []).length ≤ 1700000
theorem Zix {α:Type} {l:List α} {x:α} (h:l.length ≤ 4000000):app? l [x] = some (l ++ [x]):=by
 unfold app? room; rw [ZmJ (by simp; omega)]
theorem Zdz {l:List (List Int)} {i j:Nat} {v:List Int} (h:i < l.length):(l.set i v).getD j [] = if j = i then v else l.getD j []:=by
 rw [ZmL,Zoa,ZmL]
 by_cases e:i = j
 ·subst e; rw [ZmJ rfl,ZmJ h,ZmJ rfl]; rfl
 ·rw [ZmI e,ZmI (Ne.symm e)]
theorem Zi5 {l:List (List Int)} {i:Nat} (h:i < l.length):l[i]? = some (l.getD i []):=by
 rw [ZmL,ZmE h]; rfl
section
variable {f:D.Formula} {m:Nat} {S:Int → Prop} {occ:List (List Int)}
theorem ZkI {y:Int} (hm:m ≤ 400) (hl:isL m y):w64 (y + (m:Int)) = (((y + m).toNat:Nat):Int) ∧ (y + m).toNat < 2 * m + 1:=by
 obtain ⟨l0,l1⟩:=hl
 rw [Zb (by omega) (by omega)]; omega
structure OccK (f:D.Formula) (m k:Nat) (pre:List Int) (occ:List (List Int)):Prop where
 len:occ.length = 2 * m + 1
 val:∀ j,∀ i ∈ occ.getD j [],0 ≤ i ∧ i < (f.Clauses.length:Int)
 all:∀ (i:Nat) (c:List Int),i < k → f.Clauses[i]? = some c → ∀ y ∈ c,(i:Int) ∈ occ.getD (y + m).toNat []
 cur:∀ y ∈ pre,(k:Int) ∈ occ.getD (y + m).toNat []
 small:∀ j,(occ.getD j []).length ≤ 1000 * k + pre.length
theorem ZjS (hf:FmP f m) {k:Nat} {c:List Int} (hk:f.Clauses[k]? = some c) (h:OccK f m k [] occ) {n:Nat} (hn:4000000 ≤ n):∃ occ',iterN (fun (s2:Int × (List (List Int)))=>
    if (decide (s2.1 < (len c))) then
     (get? c s2.1).bind fun x3=>
     (get? s2.2 (w64 (x3 + f.Vars))).bind fun x4=>
     (app? x4 ([(k:Int)]:List Int)).bind fun x5=>
     (set? s2.2 (w64 (x3 + f.Vars)) x5).bind fun x6=>
     some (.inl ((w64 (s2.1 + 1)),x6))
    else
     some (.inr (s2.2))) n (0,occ) = some occ' ∧ OccK f m k c occ':=by
  have hcl:=hf.cl c (ZmM hk)
  have hkl:k < f.Clauses.length:=(ZmG.1 hk).1
  have hnum:=hf.num
  obtain ⟨r,g1,g2⟩:=ZZ (l:=c) (n:=n) (σ:=List (List Int)) (ρ:=List (List Int)) (B:=fun (s2:Int × (List (List Int)))=>
    if (decide (s2.1 < (len c))) then
     (get? c s2.1).bind fun x3=>
     (get? s2.2 (w64 (x3 + f.Vars))).bind fun x4=>
     (app? x4 ([(k:Int)]:List Int)).bind fun x5=>
     (set? s2.2 (w64 (x3 + f.Vars)) x5).bind fun x6=>
     some (.inl ((w64 (s2.1 + 1)),x6))
    else
     some (.inr (s2.2))) (fun j a=>((j:Int),a)) (fun ys a=>∃ pre,pre ++ ys = c ∧ OccK f m k pre a) (fun r=>OccK f m k c r)
    (fun j y ys a hj hy hl ⟨pre,h1,h2⟩=>by
      have hd:decide ((j:Int) < len c) = true:=by rw [Za]; simp; omega
      have hly:=hcl.1.lit y (ZmM hy)
      have hk1:w64 ((j:Int) + 1) = ((j + 1:Nat):Int):=by rw [Zb (by omega) (by omega)]; rfl
      obtain ⟨e1,e2⟩:=ZkI hf.small hly
      have hpl:pre.length ≤ c.length:=by rw [← h1]; simp
      have hsm:=h2.small (y + m).toNat
      simp only [hd,Znl,get?_nat,hy,ZmD]
      rw [hf.vars,e1,get?_nat,Zi5 (by rw [h2.len]; exact e2)]
      simp only [ZmD]
      rw [Zix (by omega)]
      simp only [ZmD]
      have hst:set? a (((y + m).toNat:Nat):Int) (a.getD (y + m).toNat [] ++ [(k:Int)]) = some (a.set (y + m).toNat (a.getD (y + m).toNat [] ++ [(k:Int)])):=by
        unfold set?
        rw [ZmJ ⟨by omega,by have:=h2.len; rw [Znz]; omega⟩,Znz]
      rw [hst]
      have hlt:(y + m).toNat < a.length:=by rw [h2.len]; exact e2
      have hmem:∀ j' i,i ∈ a.getD j' [] → i ∈ (a.set (y + m).toNat (a.getD (y + m).toNat [] ++ [(k:Int)])).getD j' []:=fun j' i hi=>by
        rw [Zdz hlt]
        split
        · rename_i e; subst e; exact ZoB _ hi
        · exact hi
      refine .inl ⟨_,by simp only [ZmD,hk1],pre ++ [y],by rw [Znf]; exact h1,?_,fun j' i hi=>?_,fun i d hi hd' z hz=>hmem _ _ (h2.all i d hi hd' z hz),fun z hz=>?_,fun j'=>?_⟩
      · rw [ZoN]; exact h2.len
      · rw [Zdz hlt] at hi
        split at hi
        · rcases Znb.1 hi with hi | hi
          · exact h2.val _ i hi
          · rw [Znm] at hi; subst hi; omega
        · exact h2.val _ i hi
      · rcases Znb.1 hz with hz | hz
        · exact hmem _ _ (h2.cur z hz)
        · rw [Znm] at hz; subst hz
          rw [Zdz hlt,ZmJ rfl]; simp
      · have e : (pre ++ [y]).length = pre.length + 1 := by simp
        have h3:=h2.small j'
        rw [Zdz hlt,e]
        split
        · rw [ZmO,ZnO]; omega
        · omega)
    (fun a ⟨pre,h1,h2⟩=>by
      have hd:decide ((c.length:Int) < len c) = false:=by rw [Za]; simp
      simp only [hd,ZmF,ZmQ]
      rw [Znu] at h1
      subst h1
      exact ⟨_,rfl,h2⟩) (a:=occ) ⟨[],rfl,h⟩ (by omega)
  exact ⟨r,g1,g2⟩
theorem Zga {α:Type} {k:Nat} {z:α} (h:k ≤ 100000):mk? (k:Int) z = some (List.replicate k z):=by
 unfold mk? room
 rw [ZmJ (by omega)]; simp
theorem Zh3 (hf:FmP f m) {n:Nat} (hn:4000000 ≤ n):∃ occ,XN n f = some ⟨f,occ⟩ ∧ OccP f m occ:=by
  have hnum:=hf.num
  have hm:=hf.small
  have e0:w64 (w64 (2 * f.Vars) + 1) = ((2 * m + 1:Nat):Int):=by rw [hf.vars,Zb (x:=2 * (m:Int)) (by omega) (by omega),Zb (by omega) (by omega)]; omega
  have hgl:∀ j,(List.replicate (2 * m + 1) ([]:List Int)).getD j [] = []:=fun j=>by
    rw [ZmL,Zod]
    split <;> rfl
  obtain ⟨r,g1,g2⟩:=ZZ (l:=f.Clauses) (n:=n) (σ:=List (List Int)) (ρ:=List (List Int)) (B:=fun (s1:Int × (List (List Int)))=>
  if (decide (s1.1 < (len f.Clauses))) then
   (get? f.Clauses s1.1).bind fun x2 =>
   (iterN (fun (s2 : Int × (List (List Int))) =>
    if (decide (s2.1 < (len x2))) then
     (get? x2 s2.1).bind fun x3=>
     (get? s2.2 (w64 (x3 + f.Vars))).bind fun x4=>
     (app? x4 ([s1.1]:List Int)).bind fun x5=>
     (set? s2.2 (w64 (x3 + f.Vars)) x5).bind fun x6=>
     some (.inl ((w64 (s2.1 + 1)),x6))
    else
     some (.inr (s2.2))
   ) n (0,s1.2)).bind fun (rl2:(List (List Int)))=>
   some (.inl ((w64 (s1.1 + 1)),rl2))
  else
   some (.inr (s1.2))) (fun j a=>((j:Int),a)) (fun ys a=>∃ k,k + ys.length = f.Clauses.length ∧ OccK f m k [] a) (fun r=>OccK f m f.Clauses.length [] r)
    (fun j c xs a hj hx hl ⟨k,h1,h2⟩=>by
      have hd:decide ((j:Int) < len f.Clauses) = true:=by rw [Za]; simp; omega
      have hkj:k = j:=by omega
      subst hkj
      have hk1:w64 ((k:Int) + 1) = ((k + 1:Nat):Int):=by rw [Zb (by omega) (by omega)]; rfl
      have hcl:=hf.cl c (ZmM hx)
      obtain ⟨o',q1,q2⟩:=ZjS hf hx h2 hn
      simp only [hd,Znl,get?_nat,hx,ZmD]
      rw [q1]
      refine .inl ⟨o',by simp only [ZmD,hk1],k + 1,by simp at h1; omega,q2.len,q2.val,fun i d hi hd' y hy=>?_,fun y hy=>(by cases hy),fun j'=>?_⟩
      · by_cases e : i = k
        · subst e
          rw [hx] at hd'
          cases hd'
          exact q2.cur y hy
        · exact q2.all i d (by omega) hd' y hy
      · have h3 := q2.small j'
        have h4:=hcl.2
        have e:([]:List Int).length = 0:=rfl
        rw [e]; omega)
    (fun a ⟨k,h1,h2⟩=>by
      have hd:decide ((f.Clauses.length:Int) < len f.Clauses) = false:=by rw [Za]; simp
      simp only [hd,ZmF,ZmQ]
      have:k = f.Clauses.length:=by simpa using h1
      subst this
      exact ⟨_,rfl,h2⟩) (a:=List.replicate (2 * m + 1) []) ⟨0,by simp,by simp,fun j i hi=>(by rw [hgl] at hi; cases hi),fun i c hi=>(by omega),fun y hy=>(by cases hy),fun j=>(by rw [hgl]; simp)⟩ (by omega)
  refine ⟨r,?_,g2.len,g2.val,fun i c hc y hy=>g2.all i c (ZmG.1 hc).1 hc y hy,fun j=>?_⟩
  · unfold XN
    rw [e0,Zga (by omega)]
    simp only [ZmD]
    rw [show ((0:Nat):Int) = 0 from rfl] at g1
    rw [g1]; rfl
  · have h3 := g2.small j
    have e:([]:List Int).length = 0:=rfl
    rw [e] at h3; omega
theorem Zlp (hf:FmP f m) (hS:∀ x,S x → isL m x) (ho:OccP f m occ) {n:Nat} (hn:4000000 ≤ n):∀ (M:Nat) (a q:List Int) (k:Nat),q.length + 2 * zer a ≤ M → Wq m f.Clauses S a q → (∀ d ∈ f.Clauses,good a d ∨ pend a q d) → M + 1 ≤ k → ∃ r,iterN (fun (s1:(List Int) × (List Int))=>
  if (decide ((len s1.2) > 0)) then
   (get? s1.2 (w64 ((len s1.2) - 1))).bind fun x1=>
   (cut? s1.2 0 (w64 ((len s1.2) - 1))).bind fun x2=>
   (get? occ (w64 (f.Vars - x1))).bind fun x3 =>
   (iterN (fun (s2 : Int × (List Int) × (List Int)) =>
    if (decide (s2.1 < (len x3))) then
     (get? x3 s2.1).bind fun x4=>
     (get? f.Clauses x4).bind fun x5=>
     (Zp n (D.assignment.mk s2.2.1 s2.2.2) x5).bind fun x6=>
     if (!x6.1) then
      some (.inr (.inr (false,x6.2)))
     else
      some (.inl ((w64 (s2.1 + 1)),x6.2.val,x6.2.queue))
    else
     some (.inr (.inl (s2.2.1,s2.2.2)))
   ) n (0,s1.1,x2)).bind fun (rl2:((List Int) × (List Int)) ⊕ (Bool × D.assignment))=>
   match rl2 with
   | .inl s2r=>
    some (.inl (s2r.1,s2r.2))
   | .inr v=>some (.inr (.inr v))
  else
   some (.inr (.inl (s1.1,s1.2))):(List Int) × (List Int) → Option (((List Int) × (List Int)) ⊕ (((List Int) × (List Int)) ⊕ (Bool × D.assignment)))) k (a,q) = some r ∧ ((∃ a',r = .inl (a',[]) ∧ Okc m f.Clauses S a') ∨ ∃ x,r = .inr (false,x) ∧ Bad f.Clauses S):=by
  intro M
  induction M with
  | zero =>
    intro a q k hM hw hJ hk
    have hq:q = []:=ZnB (by omega)
    subst hq
    refine ⟨_,ZC rfl (by omega),.inl ⟨a,rfl,hw.way.asg,hw.way.ext,hw.way.snd,fun d hd=>?_⟩⟩
    rcases hJ d hd with h | ⟨x,_,_,h⟩
    · exact h
    · cases h
  | succ M ih =>
    intro a q k hM hw hJ hk
    obtain ⟨k,rfl⟩ : ∃ j,k = j + 1:=⟨k - 1,by omega⟩
    rcases List.eq_nil_or_concat q with rfl | ⟨q0,l,rfl⟩
    · refine ⟨_, ZC rfl (by omega), .inl ⟨a, rfl, hw.way.asg, hw.way.ext, hw.way.snd, fun d hd => ?_⟩⟩
      rcases hJ d hd with h | ⟨x,_,_,h⟩
      · exact h
      · cases h
    · have hlen := hw.len
      rw [List.concat_eq_append] at *
      rw [ZmO] at hlen hM
      simp only [ZnO] at hlen hM
      obtain ⟨hl,hl1⟩:=hw.tru l (by simp)
      have hln:isL m (-l):=⟨by have:=hl.1; omega,by rw [ZoX]; exact hl.2⟩
      have e1:w64 (len (q0 ++ [l]) - 1) = (q0.length:Int):=by rw [Za,ZmO]; simp; exact Zb (by omega) (by omega)
      have e2:get? (q0 ++ [l]) (q0.length:Int) = some l:=by rw [get?_nat,ZmS (ZmY _)]; simp
      have e3:cut? (q0 ++ [l]) 0 (q0.length:Int) = some q0:=by
        unfold cut?
        rw [ZmJ ⟨Znw _,by omega,by rw [ZmO,ZnO]; omega⟩,Znz]; simp
      obtain ⟨x1,x2⟩:=ZkI hf.small hln
      have e4:get? occ (w64 (f.Vars - l)) = some (occ.getD (-l + m).toNat []):=by
        rw [hf.vars,show ((m:Int) - l) = -l + m by omega,x1,get?_nat,Zi5 (by rw [ho.len]; exact x2)]
      have hgt:decide (len (q0 ++ [l]) > 0) = true:=by rw [Za]; exact decide_eq_true (by rw [ZmO,ZnO]; omega)
      have hw0:Wq m f.Clauses S a q0:=⟨hw.way,fun y hy=>hw.tru y (ZoB _ hy),by omega⟩
      have hsm:=ho.small (-l + m).toNat
      obtain ⟨r,g1,g2⟩:=ZZ (l:=occ.getD (-l + m).toNat []) (n:=n) (σ:=List Int × List Int) (ρ:=((List Int) × (List Int)) ⊕ (Bool × D.assignment)) (B:=fun (s2:Int × (List Int) × (List Int))=>
    if (decide (s2.1 < (len (occ.getD (-l + m).toNat [])))) then
     (get? (occ.getD (-l + m).toNat []) s2.1).bind fun x4=>
     (get? f.Clauses x4).bind fun x5=>
     (Zp n (D.assignment.mk s2.2.1 s2.2.2) x5).bind fun x6=>
     if (!x6.1) then
      some (.inr (.inr (false,x6.2)))
     else
      some (.inl ((w64 (s2.1 + 1)),x6.2.val,x6.2.queue))
    else
     some (.inr (.inl (s2.2.1,s2.2.2)))) (fun j z=>((j:Int),z.1,z.2))
        (fun ys z=>Wq m f.Clauses S z.1 z.2 ∧ z.2.length + 2 * zer z.1 ≤ M ∧ ∀ d ∈ f.Clauses,(∃ i ∈ ys,f.Clauses[i.toNat]? = some d) ∨ good z.1 d ∨ pend z.1 z.2 d)
        (fun r=>(∃ z,r = .inl z ∧ Wq m f.Clauses S z.1 z.2 ∧ z.2.length + 2 * zer z.1 ≤ M ∧ ∀ d ∈ f.Clauses,good z.1 d ∨ pend z.1 z.2 d) ∨ ∃ x,r = .inr (false,x) ∧ Bad f.Clauses S)
        (fun j i ys z hj hi hl' ⟨i1,i2,i3⟩=>by
          have hd:decide ((j:Int) < len (occ.getD (-l + m).toNat [])) = true:=by rw [Za]; exact decide_eq_true (by omega)
          have hk1:w64 ((j:Int) + 1) = ((j + 1:Nat):Int):=by rw [Zb (by omega) (by omega)]; rfl
          have hiv:=ho.val _ i (ZmM hi)
          have hic:f.Clauses[i.toNat]? = some f.Clauses[i.toNat]:=ZmE (by omega)
          have hg:get? f.Clauses i = some f.Clauses[i.toNat]:=by unfold get?; rw [ZmJ hiv.1]; exact hic
          simp only [hd,Znl,get?_nat,hi,ZmD]
          rw [hg]
          simp only [ZmD]
          rcases ZfR hf hS i1 (Zns (show i.toNat < f.Clauses.length by omega)) (fun d=>(∃ i ∈ ys,f.Clauses[i.toNat]? = some d) ∨ d = f.Clauses[i.toNat]) (fun d hd'=>by
            rcases i3 d hd' with ⟨i',h1,h2⟩ | h | h
            · rcases Zno.1 h1 with rfl | h1
              · rw [hic] at h2; exact .inl (.inr (Option.some.inj h2).symm)
              · exact .inl (.inl ⟨i',h1,h2⟩)
            · exact .inr (.inl h)
            · exact .inr (.inr h)) (n:=n) (by omega) with ⟨h1,h2⟩ | ⟨a',q',h1,h2,h3,h4,h5⟩
          · rw [h1]
            exact .inr ⟨_,rfl,.inr ⟨_,rfl,h2⟩⟩
          · rw [h1]
            refine .inl ⟨(a',q'),by simp only [ZmD,hk1]; rfl,h2,by simp only; omega,fun d hd'=>?_⟩
            rcases h5 d hd' with (h | h) | h | h
            · exact .inl h
            · exact .inr (.inl (h ▸ h4))
            · exact .inr (.inl h)
            · exact .inr (.inr h))
        (fun z ⟨i1,i2,i3⟩=>by
          have hd:decide (((occ.getD (-l + m).toNat []).length:Int) < len (occ.getD (-l + m).toNat [])) = false:=by rw [Za]; simp
          simp only [hd,ZmF,ZmQ]
          refine ⟨_,rfl,.inl ⟨z,rfl,i1,i2,fun d hd'=>?_⟩⟩
          rcases i3 d hd' with ⟨i',h1,_⟩ | h
          · cases h1
          · exact h) (a := (a, q0)) ⟨hw0, by simp only; omega, fun d hd' => by
            rcases hJ d hd' with h | ⟨x,hx,hx1,hx2⟩
            · exact .inr (.inl h)
            · rcases Znb.1 hx2 with h | h
              · exact .inr (.inr ⟨x,hx,hx1,h⟩)
              · rw [Znm] at h
                obtain ⟨i,hi⟩:=Zot hd'
                have hxl:x = -l:=by omega
                exact .inl ⟨(i:Int),ho.all i d hi (-l) (hxl ▸ hx),by simpa using hi⟩⟩ (by omega)
      rw [show ((0:Nat):Int) = 0 from rfl] at g1
      rcases g2 with ⟨z,rfl,h1,h2,h3⟩ | ⟨x,rfl,h1⟩
      · obtain ⟨r', q1, q2⟩ := ih z.1 z.2 k (by omega) h1 h3 (by omega)
        refine ⟨r',?_,q2⟩
        rw [Zat (s':=(z.1,z.2)) (by
          simp only [hgt,Znl,e1,e2,e3,ZmD]
          rw [e4]
          simp only [ZmD]
          rw [g1]; rfl)]
        exact q1
      · refine ⟨_,ZC (r:=.inr (false,x)) (by
          simp only [hgt,Znl,e1,e2,e3,ZmD]
          rw [e4]
          simp only [ZmD]
          rw [g1]; rfl) (by omega),.inr ⟨x,rfl,h1⟩⟩
end
section
variable {f:D.Formula} {m:Nat} {S:Int → Prop} {occ:List (List Int)}
theorem Ze9 {cs:List (List Int)} {a:List Int} (hA:Asg m a):Way m cs (Sv m a) a:=⟨hA,fun _ hx=>hx.2,fun _ h1 h2=>.base ⟨h1,h2⟩⟩
theorem Zgt {a:List Int}:∀ x,Sv m a x → isL m x:=fun _ h=>h.1
theorem FmP.cls (hf:FmP f m):∀ c ∈ f.Clauses,ClM m c:=fun c hc=>(hf.cl c hc).1
noncomputable def clo (m:Nat) (cs:List (List Int)) (v:List Int):Option (List Int):=open Classical in if h:∃ a,Okc m cs (Sv m v) a then some h.choose else none
theorem ZhQ {cs:List (List Int)} (hcs:∀ c ∈ cs,ClM m c) {v a:List Int} (h:Okc m cs (Sv m v) a):clo m cs v = some a:=by
 have hx:∃ a,Okc m cs (Sv m v) a:=⟨a,h⟩
 unfold clo
 rw [dif_pos hx,ZkA hcs hx.choose_spec h]
theorem Zei {cs:List (List Int)} (hcs:∀ c ∈ cs,ClM m c) {v:List Int} (h:Bad cs (Sv m v)):clo m cs v = none:=by
 unfold clo
 rw [dif_neg (fun ⟨a,ha⟩=>Zg8 hcs ha h)]
theorem Zck {cs:List (List Int)} {v a:List Int} (h:clo m cs v = some a):Okc m cs (Sv m v) a:=by
 unfold clo at h
 split at h
 ·rename_i hx; rw [← Option.some.inj h]; exact hx.choose_spec
 ·cases h
theorem Zji (hf:FmP f m) {v:List Int} (hA:Asg m v) {n:Nat} (hn:2000 ≤ n):∃ b v',YV n f v = some (b,v') ∧ ((b = true ∧ clo m f.Clauses v = some v') ∨ (b = false ∧ clo m f.Clauses v = none)):=by
 obtain ⟨b,v',h1,h2,h3,h4⟩:=ZgR hf Zgt (Ze9 (cs:=f.Clauses) hA) hn
 refine ⟨b,v',h1,?_⟩
 cases b with
 | true=>exact .inl ⟨rfl,ZhQ hf.cls (h3 rfl)⟩
 | false=>exact .inr ⟨rfl,Zei hf.cls (h4 rfl)⟩
theorem ZgX (hf:FmP f m) (hS:∀ x,S x → isL m x) (ho:OccP f m occ) {n:Nat} (hn:4000000 ≤ n) {a q:List Int} (hw:Wq m f.Clauses S a q) (hJ:∀ d ∈ f.Clauses,good a d ∨ pend a q d) :
  ∃ b a',Yb n ⟨f,occ⟩ ⟨a,q⟩ = some (b,a') ∧ ((b = true ∧ a'.queue = [] ∧ Okc m f.Clauses S a'.val) ∨ (b = false ∧ Bad f.Clauses S)):=by
 have hz:=hw.len
 obtain ⟨r,g1,g2⟩:=Zlp hf hS ho hn (q.length + 2 * zer a) a q n (ZmY _) hw hJ (by omega)
 have G:∀ z,r = z → Yb n ⟨f,occ⟩ ⟨a,q⟩ = (match z with | .inl s1r=>some (true,(D.assignment.mk s1r.1 s1r.2)) | .inr v=>some v):=fun z e=>by
  subst e
  unfold Yb
  exact congrArg (fun o=>Option.bind o (fun (rl1:((List Int) × (List Int)) ⊕ (Bool × D.assignment))=>match rl1 with | .inl s1r=>some (true,(D.assignment.mk s1r.1 s1r.2)) | .inr v=>some v)) g1
 rcases g2 with ⟨a',e,h⟩ | ⟨x,e,h⟩
 ·exact ⟨true,⟨a',[]⟩,G _ e,.inl ⟨rfl,rfl,h⟩⟩
 ·exact ⟨false,x,G _ e,.inr ⟨rfl,h⟩⟩
theorem ZlV {l:List Int} (h:l.length ≤ 1000000):Ze l = some l:=by
 unfold Ze app? room
 rw [ZmJ (by simp; omega)]; rfl
theorem ZjL (hf:FmP f m) (ho:OccP f m occ) {n:Nat} (hn:4000000 ≤ n) {a q:List Int} {l:Int} (hA:Asg m a) (hg:∀ c ∈ f.Clauses,good a c) (hl:isL m l) (h0:lv a l = 0) :
  ∃ a' b,Zy n ⟨f,occ⟩ ⟨a,q⟩ l = some (a',b) ∧ ((b = true ∧ a'.queue = [] ∧ clo m f.Clauses (stA a l) = some a'.val) ∨ (b = false ∧ clo m f.Clauses (stA a l) = none)):=by
 have hm:=hf.small
 have hz:=Zif hA
 have hz1:=Zde hA hl h0
 have hA1:=Zeq hA hl
 have hw:Wq m f.Clauses (Sv m (stA a l)) (stA a l) [l]:=⟨Ze9 hA1,fun y hy=>by
  rw [Znm] at hy; subst hy
  exact ⟨hl,by rw [ZbK hA.len hl hl.1,ZmJ rfl]⟩,by simp; omega⟩
 obtain ⟨b,a',h1,h2⟩:=ZgX hf Zgt ho hn hw fun d hd=>by
  rcases Zhh hA hl h0 (hf.cl d hd).1 (hg d hd) with h | h
  ·exact .inl h
  ·exact .inr ⟨-l,h,by rw [Zb2 hl.1,ZbK hA.len hl hl.1,ZmJ rfl],by simp⟩
 unfold Zy
 rw [ZlV (l:=a) (by have:=hA.len; omega)]
 simp only [ZmD]
 rw [ZgN hA hm hl h0 (by simp)]
 simp only [ZmD,ZmT,ZmF,ZmQ,Zox]
 rw [h1]
 simp only [ZmD]
 rcases h2 with ⟨rfl,h3,h4⟩ | ⟨rfl,h3⟩
 ·exact ⟨a',true,rfl,.inl ⟨rfl,h3,ZhQ hf.cls h4⟩⟩
 ·exact ⟨default,false,rfl,.inr ⟨rfl,Zei hf.cls h3⟩⟩
theorem ZfO (m:Nat):Asg m (List.replicate (m + 1) 0):=by
 have h:∀ i,(List.replicate (m + 1) (0:Int)).getD i 0 = 0:=fun i=>by
  rw [ZmL,Zod]
  split <;> rfl
 exact ⟨by simp,fun i=>by rw [h]; omega,h 0⟩
theorem start_eq (hf:FmP f m) (ho:OccP f m occ) {n:Nat} (hn:4000000 ≤ n) :
    ∃ a' b,YH n ⟨f,occ⟩ [] = some (a',b) ∧ ((b = true ∧ a'.queue = [] ∧ clo m f.Clauses (List.replicate (m + 1) 0) = some a'.val) ∨ (b = false ∧ clo m f.Clauses (List.replicate (m + 1) 0) = none)):=by
  have hm:=hf.small
  have hnum:=hf.num
  have hA:=ZfO m
  have hz:=Zif hA
  have e0:w64 (f.Vars + 1) = ((m + 1:Nat):Int):=by rw [hf.vars,Zb (by omega) (by omega)]; rfl
  have hw:Wq m f.Clauses (Sv m (List.replicate (m + 1) 0)) (List.replicate (m + 1) 0) []:=⟨Ze9 hA,fun y hy=>(by cases hy),by rw [ZnI]; omega⟩
  obtain ⟨r,g1,g2⟩:=ZZ (l:=f.Clauses) (n:=n) (σ:=List Int × List Int) (ρ:=((List Int) × (List Int)) ⊕ (D.assignment × Bool)) (B:=fun (s2:Int × (List Int) × (List Int))=>
   if (decide (s2.1 < (len f.Clauses))) then
    (get? f.Clauses s2.1).bind fun x4=>
    (Zp n (D.assignment.mk s2.2.1 s2.2.2) x4).bind fun x5=>
    if (!x5.1) then
     some (.inr (.inr (default,false)))
    else
     some (.inl ((w64 (s2.1 + 1)),x5.2.val,x5.2.queue))
   else
    some (.inr (.inl (s2.2.1,s2.2.2)))) (fun j z=>((j:Int),z.1,z.2))
    (fun ys z=>Wq m f.Clauses (Sv m (List.replicate (m + 1) 0)) z.1 z.2 ∧ ∀ d ∈ f.Clauses,d ∈ ys ∨ good z.1 d ∨ pend z.1 z.2 d)
    (fun r=>(∃ z,r = .inl z ∧ Wq m f.Clauses (Sv m (List.replicate (m + 1) 0)) z.1 z.2 ∧ ∀ d ∈ f.Clauses,good z.1 d ∨ pend z.1 z.2 d) ∨ r = .inr (default,false) ∧ Bad f.Clauses (Sv m (List.replicate (m + 1) 0)))
    (fun j c ys z hj hx hl ⟨i1,i2⟩=>by
      have hd:decide ((j:Int) < len f.Clauses) = true:=by rw [Za]; exact decide_eq_true (by omega)
      have hk1:w64 ((j:Int) + 1) = ((j + 1:Nat):Int):=by rw [Zb (by omega) (by omega)]; rfl
      simp only [hd,Znl,get?_nat,hx,ZmD]
      rcases ZfR hf Zgt i1 (ZmM hx) (fun d=>d ∈ ys ∨ d = c) (fun d hd'=>by
        rcases i2 d hd' with h | h | h
        · rcases Zno.1 h with h | h
          · exact .inl (.inr h)
          · exact .inl (.inl h)
        · exact .inr (.inl h)
        · exact .inr (.inr h)) (n:=n) (by omega) with ⟨h1,h2⟩ | ⟨a',q',h1,h2,h3,h4,h5⟩
      · rw [h1]
        exact .inr ⟨_,rfl,.inr ⟨rfl,h2⟩⟩
      · rw [h1]
        refine .inl ⟨(a',q'),by simp only [ZmD,hk1]; rfl,h2,fun d hd'=>?_⟩
        rcases h5 d hd' with (h | h) | h | h
        · exact .inl h
        · exact .inr (.inl (h ▸ h4))
        · exact .inr (.inl h)
        · exact .inr (.inr h))
    (fun z ⟨i1,i2⟩=>by
      have hd:decide ((f.Clauses.length:Int) < len f.Clauses) = false:=by rw [Za]; simp
      simp only [hd,ZmF,ZmQ]
      refine ⟨_,rfl,.inl ⟨z,rfl,i1,fun d hd'=>?_⟩⟩
      rcases i2 d hd' with h | h
      · cases h
      · exact h) (a:=(List.replicate (m + 1) 0,[])) ⟨hw,fun d hd=>.inl hd⟩ (by omega)
  rw [show ((0:Nat):Int) = 0 from rfl] at g1
  have hl0:iterN (fun (s1:Int × (List Int) × (List Int))=>
  if (decide (s1.1 < (len ([]:List Int)))) then
   (get? ([]:List Int) s1.1).bind fun x2=>
   (Z9 (D.assignment.mk s1.2.1 s1.2.2) x2).bind fun x3=>
   if (!x3.1) then
    some (.inr (.inr ((default:D.assignment),false)))
   else
    some (.inl ((w64 (s1.1 + 1)),x3.2.val,x3.2.queue))
  else
   some (.inr (.inl (s1.2.1,s1.2.2))):Int × (List Int) × (List Int) → Option ((Int × (List Int) × (List Int)) ⊕ (((List Int) × (List Int)) ⊕ (D.assignment × Bool)))) n (0,List.replicate (m + 1) 0,[]) = some (.inl (List.replicate (m + 1) 0,[])):=ZC rfl (by omega)
  have G:∀ z,r = z → YH n ⟨f,occ⟩ [] = (match z with
    | .inl s2r=>(Yb n ⟨f,occ⟩ (D.assignment.mk s2r.1 s2r.2)).bind fun x6=>if (!x6.1) then some (default,false) else some (x6.2,true)
    | .inr v=>some v):=fun z e=>by
    subst e
    unfold YH
    rw [e0,Zga (by omega)]
    simp only [ZmD]
    refine (congrArg (fun o=>Option.bind o _) hl0).trans ?_
    exact congrArg (fun o=>Option.bind o (fun (rl2:((List Int) × (List Int)) ⊕ (D.assignment × Bool))=>match rl2 with
    | .inl s2r=>(Yb n ⟨f,occ⟩ (D.assignment.mk s2r.1 s2r.2)).bind fun x6=>if (!x6.1) then some (default,false) else some (x6.2,true)
    | .inr v=>some v)) g1
  rcases g2 with ⟨z,e,h1,h2⟩ | ⟨e,h⟩
  · obtain ⟨b, a', k1, k2⟩ := ZgX hf Zgt ho hn h1 h2
    have G:=G _ e
    simp only at G
    rw [k1] at G
    rcases k2 with ⟨rfl,k3,k4⟩ | ⟨rfl,k3⟩
    · exact ⟨a',true,G,.inl ⟨rfl,k3,ZhQ hf.cls k4⟩⟩
    · exact ⟨default,false,G,.inr ⟨rfl,Zei hf.cls k3⟩⟩
  · exact ⟨default,false,G _ e,.inr ⟨rfl,Zei hf.cls h⟩⟩
def LF (a:List Int) (v:Nat):Prop:=(v = 0 ∧ ∀ i,1 ≤ i → i < a.length → a.getD i 0 ≠ 0) ∨ (1 ≤ v ∧ v < a.length ∧ a.getD v 0 = 0 ∧ ∀ i,1 ≤ i → i < v → a.getD i 0 ≠ 0)
theorem LF.uniq {a:List Int} {v w:Nat} (h:LF a v) (h':LF a w):v = w:=by
 rcases h with ⟨h1,h2⟩ | ⟨h1,h2,h3,h4⟩ <;> rcases h' with ⟨k1,k2⟩ | ⟨k1,k2,k3,k4⟩
 ·omega
 ·exact absurd k3 (h2 w k1 k2)
 ·exact absurd h3 (k2 v h1 h2)
 ·by_cases e : v < w
  ·exact absurd h3 (k4 v h1 e)
  ·by_cases e' : w < v
   ·exact absurd k3 (h4 w k1 e')
   ·omega
theorem ZlW {a q:List Int} {n:Nat} (hl:1 ≤ a.length ∧ a.length ≤ 1000) (hn:2000 ≤ n):∃ v:Nat,LF a v ∧ ZW n ⟨a,q⟩ = some (v:Int):=by
  have key:∀ (d i k:Nat),i + d = a.length → 1 ≤ i → (∀ j,1 ≤ j → j < i → a.getD j 0 ≠ 0) → d < k → ∃ r:Unit ⊕ Int,iterN (fun (s1:Int)=>
  if (decide (s1 < (len a))) then
   (get? a s1).bind fun x1=>
   if (x1 == 0) then
    some (.inr (.inr s1))
   else
    some (.inl ((w64 (s1 + 1))))
  else
   some (.inr (.inl ()))) k (i:Int) = some r ∧ ((r = .inl () ∧ LF a 0) ∨ ∃ v:Nat,r = .inr (v:Int) ∧ LF a v):=by
    intro d
    induction d with
    | zero =>
      intro i k hi h1 hp hk
      have hd:decide ((i:Int) < len a) = false:=by rw [Za]; exact decide_eq_false (by omega)
      exact ⟨.inl (),ZC (by simp only [hd,ZmF,ZmQ]) (by omega),.inl ⟨rfl,.inl ⟨rfl,fun j hj hj'=>hp j hj (by omega)⟩⟩⟩
    | succ d ih =>
      intro i k hi h1 hp hk
      obtain ⟨k,rfl⟩ : ∃ j,k = j + 1:=⟨k - 1,by omega⟩
      have hd:decide ((i:Int) < len a) = true:=by rw [Za]; exact decide_eq_true (by omega)
      have hg:get? a (i:Int) = some (a.getD i 0):=by rw [get?_nat,Zbb (by omega)]
      by_cases h0:a.getD i 0 = 0
      · exact ⟨.inr (i:Int),ZC (by simp only [hd,Znl,hg,ZmD]; rw [ZmJ (by simpa using h0)]) (by omega),.inr ⟨i,rfl,.inr ⟨h1,by omega,h0,hp⟩⟩⟩
      · obtain ⟨r,q1,q2⟩:=ih (i + 1) k (by omega) (by omega) (fun j hj hj'=>by
          by_cases e:j = i
          · subst e; exact h0
          · exact hp j hj (by omega)) (by omega)
        refine ⟨r,?_,q2⟩
        rw [Zat (s':=((i + 1:Nat):Int)) (by
          simp only [hd,Znl,hg,ZmD]
          rw [ZmI (by simpa using h0),Zb (by omega) (by omega)]; rfl)]
        exact q1
  obtain ⟨r,g1,g2⟩:=key (a.length - 1) 1 n (by omega) (by omega) (fun j hj hj'=>by omega) (by omega)
  have G:∀ z,r = z → ZW n ⟨a,q⟩ = (match z with | .inl _=>some 0 | .inr v=>some v):=fun z e=>by
    subst e
    unfold ZW
    exact congrArg (fun o=>Option.bind o (fun (rl1:Unit ⊕ Int)=>match rl1 with | .inl _=>some 0 | .inr v=>some v)) g1
  rcases g2 with ⟨e,h⟩ | ⟨v,e,h⟩
  · exact ⟨0,h,G _ e⟩
  · exact ⟨v,h,G _ e⟩
theorem Zlv {a:List Int} {n:Nat} {N:Int} (hN:N = (a.length:Int)) (hl:1 ≤ a.length ∧ a.length ≤ 1000) (hn:2000 ≤ n):∃ v:Nat,LF a v ∧ iterN (fun (s1:Int)=>
   (if (decide (s1 < N)) then (get? a s1) else some default).bind fun x2=>
   if ((decide (s1 < N)) && (x2 != 0)) then
    some (.inl ((w64 (s1 + 1))))
   else
    some (.inr (s1))) n 1 = some (if v = 0 then N else (v:Int)):=by
  subst hN
  have key:∀ (d i k:Nat),i + d = a.length → 1 ≤ i → (∀ j,1 ≤ j → j < i → a.getD j 0 ≠ 0) → d < k → ∃ v:Nat,LF a v ∧ iterN (fun (s1:Int)=>
   (if (decide (s1 < (a.length:Int))) then (get? a s1) else some default).bind fun x2=>
   if ((decide (s1 < (a.length:Int))) && (x2 != 0)) then
    some (.inl ((w64 (s1 + 1))))
   else
    some (.inr (s1))) k (i:Int) = some (if v = 0 then (a.length:Int) else (v:Int)):=by
    intro d
    induction d with
    | zero =>
      intro i k hi h1 hp hk
      have hd:decide ((i:Int) < (a.length:Int)) = false:=decide_eq_false (by omega)
      refine ⟨0,.inl ⟨rfl,fun j hj hj'=>hp j hj (by omega)⟩,?_⟩
      rw [ZmJ rfl,show (a.length:Int) = (i:Int) by omega]
      refine ZC ?_ (by omega)
      have hd:decide ((i:Int) < (i:Int)) = false:=decide_eq_false (by omega)
      simp only [hd,ZmF,ZmQ,ZmD,ZoV]
    | succ d ih =>
      intro i k hi h1 hp hk
      obtain ⟨k,rfl⟩ : ∃ j,k = j + 1:=⟨k - 1,by omega⟩
      have hd:decide ((i:Int) < (a.length:Int)) = true:=decide_eq_true (by omega)
      have hg:get? a (i:Int) = some (a.getD i 0):=by rw [get?_nat,Zbb (by omega)]
      by_cases h0:a.getD i 0 = 0
      · refine ⟨i, .inr ⟨h1, by omega, h0, hp⟩, ?_⟩
        rw [ZmI (by omega)]
        exact ZC (by simp only [hd,Znl,hg,ZmD,Zn1]; rw [ZmI (by rw [h0]; decide)]) (by omega)
      · obtain ⟨v,q1,q2⟩:=ih (i + 1) k (by omega) (by omega) (fun j hj hj'=>by
          by_cases e:j = i
          · subst e; exact h0
          · exact hp j hj (by omega)) (by omega)
        refine ⟨v,q1,?_⟩
        rw [Zat (s':=((i + 1:Nat):Int)) (by
          simp only [hd,Znl,hg,ZmD,Zn1]
          rw [ZmJ (by simpa using h0),Zb (by omega) (by omega)]; rfl)]
        exact q2
  exact key (a.length - 1) 1 n (by omega) (by omega) (fun j hj hj'=>by omega) (by omega)
end
theorem Zff:∀ (l l':List Int),l.length = l'.length → (∀ i:Nat,l'[i]? = some (0:Int) → l[i]? = some (0:Int)) → l'.count 0 ≤ l.count 0
 | [],[],_,_=>ZmY _
 | x :: l,y :: l',h,hi=>by
  have ih:=Zff l l' (by simpa using h) fun i e=>by simpa using hi (i + 1) (by simpa using e)
  rw [Zpx,Zpx]
  by_cases hy:y = 0
  ·have : x = 0 := by simpa [hy] using hi 0
   rw [hy,this]; omega
  ·have : (y == 0) = false := by simpa using hy
   rw [this]
   simp only [ZmF,ZmQ]
   omega
section
variable {f:D.Formula} {m:Nat} {occ:List (List Int)} {limit:Int}
theorem Zg5 {cs:List (List Int)} {v b:List Int} (hv:Asg m v) (h:Okc m cs (Sv m v) b):zer b ≤ zer v:=by
 refine Zff v b (hv.len.trans h.asg.len.symm) fun i hi=>?_
 have hlt:i < b.length:=(ZmG.1 hi).1
 have hb0:b.getD i 0 = 0:=by
  have:=Zbb hlt
  rw [hi] at this
  exact (Option.some.inj this).symm
 rw [Zbb (by rw [hv.len,← h.asg.len]; exact hlt)]
 congr 1
 by_cases h0:i = 0
 ·subst h0; exact hv.nul
 have hlen:=h.asg.len
 have e:∀ c:List Int,lv c (i:Int) = c.getD i 0:=fun c=>by unfold lv; rw [ZmI (by omega)]; simp
 have en:∀ c:List Int,lv c (-(i:Int)) = -c.getD i 0:=fun c=>by rw [Zb2 (by omega),e]
 rcases hv.val i with h1 | h1 | h1
 ·have := h.ext (-(i : Int)) ⟨⟨by omega, by omega⟩, by rw [en, h1]; rfl⟩
  rw [en,hb0] at this; omega
 ·exact h1
 ·have := h.ext (i : Int) ⟨⟨by omega, by omega⟩, by rw [e, h1]⟩
  rw [e,hb0] at this; omega
noncomputable def lfr (a:List Int):Nat:=open Classical in if h:∃ v,LF a v then h.choose else 0
theorem Zlc {a:List Int} {v:Nat} (h:LF a v):lfr a = v:=by
 have hx:∃ v,LF a v:=⟨v,h⟩
 unfold lfr
 rw [dif_pos hx]
 exact hx.choose_spec.uniq h
noncomputable def srch (m:Nat) (cs:List (List Int)) (limit:Int):Nat → List Int → Int → Int × List Int × Int
 | 0,_,s=>(2,[],s)
 | d + 1,a,s=>if lfr a = 0 then (1,a,s) else if s = limit then (3,[],s) else
  let r:Int × List Int × Int:=match clo m cs (stA a (-(lfr a:Int))) with | none=>(2,[],s + 1) | some b=>srch m cs limit d b (s + 1)
  if r.1 = 2 then (match clo m cs (stA a (lfr a:Int)) with | none=>(2,[],r.2.2) | some b=>srch m cs limit d b r.2.2) else r
noncomputable def brn (m:Nat) (cs:List (List Int)) (limit:Int) (d:Nat) (v:List Int) (s:Int):Int × List Int × Int:=match clo m cs v with | none=>(2,[],s) | some b=>srch m cs limit d b s
theorem Zc3 (m:Nat) (cs:List (List Int)) (limit:Int) (d:Nat) (a:List Int) (s:Int):srch m cs limit (d + 1) a s = if lfr a = 0 then (1,a,s) else if s = limit then (3,[],s) else
  if (brn m cs limit d (stA a (-(lfr a:Int))) (s + 1)).1 = 2 then brn m cs limit d (stA a (lfr a:Int)) (brn m cs limit d (stA a (-(lfr a:Int))) (s + 1)).2.2 else brn m cs limit d (stA a (-(lfr a:Int))) (s + 1):=by
 rw [srch]; rfl
structure SOk (limit s:Int) (r:Int × List Int × Int):Prop where
 code:r.1 = 1 ∨ r.1 = 2 ∨ r.1 = 3
 nil:r.1 ≠ 1 → r.2.1 = []
 lo:s ≤ r.2.2
 hi:r.2.2 ≤ limit
theorem ZiU (m:Nat) (cs:List (List Int)) (limit:Int):∀ (d:Nat) (a:List Int) (s:Int),s ≤ limit → SOk limit s (srch m cs limit d a s)
 | 0,a,s,h=>⟨.inr (.inl rfl),fun _=>rfl,Znw _,h⟩
 | d + 1,a,s,h=>by
  have hb:∀ v s',s' ≤ limit → SOk limit s' (brn m cs limit d v s'):=fun v s' h'=>by
   unfold brn
   cases clo m cs v with
   | none=>exact ⟨.inr (.inl rfl),fun _=>rfl,Znw _,h'⟩
   | some b=>exact ZiU m cs limit d b s' h'
  rw [Zc3]
  by_cases c1:lfr a = 0
  ·rw [ZmJ c1]; exact ⟨.inl rfl,fun h=>absurd rfl h,Znw _,h⟩
  rw [ZmI c1]
  by_cases c2:s = limit
  ·rw [ZmJ c2]; exact ⟨.inr (.inr rfl),fun _=>rfl,Znw _,h⟩
  rw [ZmI c2]
  have h1:=hb (stA a (-(lfr a:Int))) (s + 1) (by omega)
  by_cases c3:(brn m cs limit d (stA a (-(lfr a:Int))) (s + 1)).1 = 2
  ·rw [ZmJ c3]
   have h2:=hb (stA a (lfr a:Int)) _ h1.hi
   exact ⟨h2.code,h2.nil,by have:=h1.lo; have:=h2.lo; omega,h2.hi⟩
  ·rw [ZmI c3]
   exact ⟨h1.code,h1.nil,by have:=h1.lo; omega,h1.hi⟩
theorem Zgd (m:Nat) (cs:List (List Int)) (limit:Int) (d:Nat) (v:List Int) (s:Int) (h:s ≤ limit):SOk limit s (brn m cs limit d v s):=by
 unfold brn
 cases clo m cs v with
 | none=>exact ⟨.inr (.inl rfl),fun _=>rfl,Znw _,h⟩
 | some b=>exact ZiU m cs limit d b s h
def bls (a:List Int):List Bool:=(a.drop 1).map fun x=>decide (x > 0)
theorem bls_len {a:List Int} (h:Asg m a):(bls a).length = m:=by unfold bls; rw [Zoy,Znh,h.len]; rfl
theorem ZhE {a:List Int} (hA:Asg m a) (hm:m ≤ 400) {n:Nat} (hn:2000 ≤ n):iterN (fun (s1:Int × (List Bool))=>
   if (decide (s1.1 < (len (List.replicate m false)))) then
    (get? a (w64 (s1.1 + 1))).bind fun x3=>
    (set? s1.2 s1.1 (decide (x3 > 0))).bind fun x4=>
    some (.inl ((w64 (s1.1 + 1)),x4))
   else
    some (.inr (s1.2))) n (0,List.replicate m false) = some (bls a):=by
  have hlen:=hA.len
  have key:∀ (d i k:Nat),i + d = m → d < k → iterN (fun (s1:Int × (List Bool))=>
   if (decide (s1.1 < (len (List.replicate m false)))) then
    (get? a (w64 (s1.1 + 1))).bind fun x3=>
    (set? s1.2 s1.1 (decide (x3 > 0))).bind fun x4=>
    some (.inl ((w64 (s1.1 + 1)),x4))
   else
    some (.inr (s1.2))) k ((i:Int),(bls a).take i ++ List.replicate d false) = some (bls a):=by
    intro d
    induction d with
    | zero =>
      intro i k hi hk
      have hd:decide ((i:Int) < len (List.replicate m false)) = false:=by rw [Za,Zn3]; exact decide_eq_false (by omega)
      refine ZC ?_ (by omega)
      simp only [hd,ZmF,ZmQ]
      rw [List.replicate_zero,Znu,Zn8 (by rw [bls_len hA]; omega)]
    | succ d ih =>
      intro i k hi hk
      obtain ⟨k,rfl⟩ : ∃ j,k = j + 1:=⟨k - 1,by omega⟩
      have hd:decide ((i:Int) < len (List.replicate m false)) = true:=by rw [Za,Zn3]; exact decide_eq_true (by omega)
      have e1:w64 ((i:Int) + 1) = ((i + 1:Nat):Int):=by rw [Zb (by omega) (by omega)]; rfl
      have hil:i < (bls a).length:=by rw [bls_len hA]; omega
      have e2:(bls a)[i] = decide (a.getD (i + 1) 0 > 0):=by
        have e3:a.getD (i + 1) 0 = a[1 + i]'(by omega):=by
          rw [ZmL,show i + 1 = 1 + i from Nat.add_comm _ _,ZmE (by omega)]; rfl
        simp only [bls,List.getElem_map,List.getElem_drop,e3]
      have hlt:((bls a).take i).length = i:=by rw [ZmP]; omega
      rw [Zat (s':=(((i + 1:Nat):Int),(bls a).take (i + 1) ++ List.replicate d false)) (by
        simp only [hd,Znl,e1]
        rw [get?_nat,Zbb (by omega)]
        simp only [ZmD]
        unfold set?
        rw [ZmJ ⟨by omega,by rw [Znz,ZmO,hlt,Zn3]; omega⟩,Znz]
        simp only [ZmD]
        congr 3
        rw [ZnE _ _ (by omega),hlt,Zof,ZoH,Zoi,Zni hil,e2,Znf]; rfl)]
      exact ih (i + 1) k (by omega) (by omega)
  exact key m 0 n (by omega) (by omega)
theorem Zha {a:List Int} (hA:Asg m a) {v:Nat} (h:LF a v) (h0:v ≠ 0):isL m (v:Int) ∧ isL m (-(v:Int)) ∧ lv a (v:Int) = 0 ∧ lv a (-(v:Int)) = 0:=by
 rcases h with ⟨h1,_⟩ | ⟨h1,h2,h3,_⟩
 ·exact absurd h1 h0
 ·have := hA.len
  have e:lv a (v:Int) = 0:=by unfold lv; rw [ZmI (by omega)]; simpa using h3
  exact ⟨⟨by omega,by omega⟩,⟨by omega,by omega⟩,e,by rw [Zb2 (by omega),e]; rfl⟩
theorem Zmx (hf:FmP f m) (ho:OccP f m occ) (hl3:limit ≤ 3000):∀ (d:Nat) (a q:List Int) (s:Int) (mo:List Bool) (n:Nat),Asg m a → (∀ c ∈ f.Clauses,good a c) → zer a ≤ d → 4000000 + d ≤ n → 0 ≤ s → s ≤ limit →
    ZU n ⟨⟨f,occ⟩,limit,s,mo⟩ ⟨a,q⟩ = some ((srch m f.Clauses limit d a s).1,⟨⟨f,occ⟩,limit,(srch m f.Clauses limit d a s).2.2,if (srch m f.Clauses limit d a s).1 = 1 then bls (srch m f.Clauses limit d a s).2.1 else mo⟩):=by
  intro d
  induction d with
  | zero =>
    intro a q s mo n hA hg hz
    have:0 < zer a:=Zpi.2 (by
      have h1:=hA.nul
      have h2:=Zbb (a:=a) (i:=0) (by have:=hA.len; omega)
      rw [h1] at h2
      exact ZmM h2)
    omega
  | succ d ih =>
    intro a q s mo n hA hg hz hn h0 hs
    obtain ⟨n,rfl⟩ : ∃ k,n = k + 1:=⟨n - 1,by omega⟩
    have hm:=hf.small
    have hlen:=hA.len
    obtain ⟨v,hv,e1⟩:=ZlW (a:=a) (q:=q) (n:=n) (by omega) (by omega)
    rw [ZU,e1,Zc3,Zlc hv]
    simp only [ZmD]
    by_cases c1:v = 0
    · rw [ZmJ (by simpa using c1), ZmJ c1]
      simp only [Znl]
      rw [hf.vars,Zga (by omega)]
      simp only [ZmD]
      rw [ZhE hA hm (by omega)]; rfl
    · rw [ZmI (by simpa using c1), ZmI c1]
      by_cases c2:s = limit
      · rw [ZmJ (by simpa using c2),ZmJ c2]; rfl
      · rw [ZmI (by simpa using c2), ZmI c2]
        obtain ⟨k1,k2,k3,k4⟩:=Zha hA hv c1
        have e3:w64 (0 - (v:Int)) = -(v:Int):=by have:=k1.2; rw [Zb (by omega) (by omega)]; omega
        have e4:w64 (s + 1) = s + 1:=Zb (by omega) (by omega)
        have one:∀ (l:Int),isL m l → lv a l = 0 → ∀ (s':Int) (mo':List Bool),0 ≤ s' → s' ≤ limit →
            ∃ a' b, Zy n ⟨f, occ⟩ ⟨a, q⟩ l = some (a', b) ∧ ((b = false ∧ brn m f.Clauses limit d (stA a l) s' = (2, [], s')) ∨
              (b = true ∧ ZU n ⟨⟨f,occ⟩,limit,s',mo'⟩ a' = some ((brn m f.Clauses limit d (stA a l) s').1,⟨⟨f,occ⟩,limit,(brn m f.Clauses limit d (stA a l) s').2.2,if (brn m f.Clauses limit d (stA a l) s').1 = 1 then bls (brn m f.Clauses limit d (stA a l) s').2.1 else mo'⟩))):=fun l hl hl0 s' mo' hs0 hs1=>by
          obtain ⟨a',b,g1,g2⟩:=ZjL hf ho (n:=n) (by omega) (q:=q) hA hg hl hl0
          refine ⟨a',b,g1,?_⟩
          rcases g2 with ⟨rfl,g3,g4⟩ | ⟨rfl,g3⟩
          · have hok := Zck g4
            have hz1:=Zde hA hl hl0
            have hz2:=Zg5 (Zeq hA hl) hok
            refine .inr ⟨rfl,?_⟩
            have:=ih a'.val a'.queue s' mo' n hok.asg hok.cl (by omega) (by omega) hs0 hs1
            unfold brn
            rw [g4]
            exact this
          · exact .inl ⟨rfl,by unfold brn; rw [g3]⟩
        generalize hQ:(if (brn m f.Clauses limit d (stA a (-(v:Int))) (s + 1)).1 = 2 then brn m f.Clauses limit d (stA a (v:Int)) (brn m f.Clauses limit d (stA a (-(v:Int))) (s + 1)).2.2 else brn m f.Clauses limit d (stA a (-(v:Int))) (s + 1)) = Q
        have hb1:=Zgd m f.Clauses limit d (stA a (-(v:Int))) (s + 1) (by omega)
        have key:∃ r:(Int × Int × (List Bool)) ⊕ (Int × D.searcher),iterN (fun (s2:Int × Int × Int × (List Bool))=>
    if (decide (s2.1 < 2)) then
     (get? ([(w64 (0 - (v:Int))),(v:Int)]:List Int) s2.1).bind fun x5=>
     (Zy n ⟨f,occ⟩ ⟨a,q⟩ x5).bind fun x6=>
     if (!x6.2) then
      some (.inl ((w64 (s2.1 + 1)),s2.2.1,s2.2.2.1,s2.2.2.2))
     else
      (ZU n (D.searcher.mk ⟨f,occ⟩ s2.2.1 s2.2.2.1 s2.2.2.2) x6.1).bind fun x7=>
      if (x7.1 != 2) then
       some (.inr (.inr (x7.1,(D.searcher.mk ⟨f,occ⟩ x7.2.limit x7.2.splits x7.2.model))))
      else
       some (.inl ((w64 (s2.1 + 1)),x7.2.limit,x7.2.splits,x7.2.model))
    else
     some (.inr (.inl (s2.2.1, s2.2.2.1, s2.2.2.2)))) n (0, limit, w64 (s + 1), mo) = some r ∧
          (match r with | .inl s2r=>some (2,(D.searcher.mk ⟨f,occ⟩ s2r.1 s2r.2.1 s2r.2.2)) | .inr v=>some v) = some (Q.1,(⟨⟨f,occ⟩,limit,Q.2.2,if Q.1 = 1 then bls Q.2.1 else mo⟩ : D.searcher)):=by
          rw [e3,e4]
          obtain ⟨k,rfl⟩ : ∃ j,n = j + 3:=⟨n - 3,by omega⟩
          generalize hR1:brn m f.Clauses limit d (stA a (-(v:Int))) (s + 1) = R1 at *
          have second:∀ s':Int,0 ≤ s' → s' ≤ limit → ∃ r:(Int × Int × (List Bool)) ⊕ (Int × D.searcher),iterN (fun (s2:Int × Int × Int × (List Bool))=>
    if (decide (s2.1 < 2)) then
     (get? ([-(v:Int),(v:Int)]:List Int) s2.1).bind fun x5=>
     (Zy (k + 3) ⟨f,occ⟩ ⟨a,q⟩ x5).bind fun x6=>
     if (!x6.2) then
      some (.inl ((w64 (s2.1 + 1)),s2.2.1,s2.2.2.1,s2.2.2.2))
     else
      (ZU (k + 3) (D.searcher.mk ⟨f,occ⟩ s2.2.1 s2.2.2.1 s2.2.2.2) x6.1).bind fun x7=>
      if (x7.1 != 2) then
       some (.inr (.inr (x7.1,(D.searcher.mk ⟨f,occ⟩ x7.2.limit x7.2.splits x7.2.model))))
      else
       some (.inl ((w64 (s2.1 + 1)),x7.2.limit,x7.2.splits,x7.2.model))
    else
     some (.inr (.inl (s2.2.1,s2.2.2.1,s2.2.2.2)))) (k + 2) (1,limit,s',mo) = some r ∧
              (match r with | .inl s2r=>some (2,(D.searcher.mk ⟨f,occ⟩ s2r.1 s2r.2.1 s2r.2.2)) | .inr v=>some v) = some ((brn m f.Clauses limit d (stA a (v:Int)) s').1,(⟨⟨f,occ⟩,limit,(brn m f.Clauses limit d (stA a (v:Int)) s').2.2,if (brn m f.Clauses limit d (stA a (v:Int)) s').1 = 1 then bls (brn m f.Clauses limit d (stA a (v:Int)) s').2.1 else mo⟩ : D.searcher)):=fun s' hs0 hs1=>by
            obtain ⟨a',b,g1,g2⟩:=one (v:Int) k1 k3 s' mo hs0 hs1
            have hw:w64 (1 + 1) = 2:=by decide
            rcases g2 with ⟨rfl,g3⟩ | ⟨rfl,g3⟩
            · refine ⟨.inl (limit, s', mo), ?_, by rw [g3]; rfl⟩
              rw [show k + 2 = (k + 1) + 1 from rfl,Zat (s':=(2,limit,s',mo)) (by
                show ((Zy (k + 3) ⟨f,occ⟩ ⟨a,q⟩ (v:Int)).bind _) = _
                rw [g1]
                simp only [ZmD,ZnX,Znl,hw])]
              exact ZC rfl (by omega)
            · generalize brn m f.Clauses limit d (stA a (v : Int)) s' = R at *
              by_cases c:R.1 = 2
              · refine ⟨.inl (limit, R.2.2, mo), ?_, by rw [c, ZmI (by decide)]⟩
                rw [show k + 2 = (k + 1) + 1 from rfl,Zat (s':=(2,limit,R.2.2,mo)) (by
                  show ((Zy (k + 3) ⟨f,occ⟩ ⟨a,q⟩ (v:Int)).bind _) = _
                  rw [g1]
                  simp only [ZmD,ZmT,ZmF,ZmQ]
                  rw [g3]
                  simp only [ZmD]
                  rw [ZmI (by rw [c]; decide),ZmI (show ¬ R.1 = 1 by omega),hw])]
                exact ZC rfl (by omega)
              · refine ⟨.inr (R.1, ⟨⟨f, occ⟩, limit, R.2.2, if R.1 = 1 then bls R.2.1 else mo⟩), ?_, rfl⟩
                refine ZC ?_ (by omega)
                show ((Zy (k + 3) ⟨f,occ⟩ ⟨a,q⟩ (v:Int)).bind _) = _
                rw [g1]
                simp only [ZmD,ZmT,ZmF,ZmQ]
                rw [g3]
                simp only [ZmD]
                rw [ZmJ (by simpa using c)]
          obtain ⟨a',b,g1,g2⟩:=one (-(v:Int)) k2 k4 (s + 1) mo (by omega) (by omega)
          rw [hR1] at g2
          have hw:w64 (0 + 1) = 1:=by decide
          rcases g2 with ⟨rfl,g3⟩ | ⟨rfl,g3⟩
          · obtain ⟨r, q1, q2⟩ := second (s + 1) (by omega) (by omega)
            refine ⟨r,?_,?_⟩
            · rw [show k + 3 = (k + 2) + 1 from rfl,Zat (s':=(1,limit,s + 1,mo)) (by
                show ((Zy (k + 3) ⟨f,occ⟩ ⟨a,q⟩ (-(v:Int))).bind _) = _
                rw [g1]
                simp only [ZmD,ZnX,Znl,hw])]
              exact q1
            · rw [← hQ,g3,ZmJ rfl]; exact q2
          · by_cases c : R1.1 = 2
            · obtain ⟨r, q1, q2⟩ := second R1.2.2 (by have := hb1.lo; omega) hb1.hi
              refine ⟨r,?_,?_⟩
              · rw [show k + 3 = (k + 2) + 1 from rfl,Zat (s':=(1,limit,R1.2.2,mo)) (by
                  show ((Zy (k + 3) ⟨f,occ⟩ ⟨a,q⟩ (-(v:Int))).bind _) = _
                  rw [g1]
                  simp only [ZmD,ZmT,ZmF,ZmQ]
                  rw [g3]
                  simp only [ZmD]
                  rw [ZmI (by rw [c]; decide),ZmI (show ¬ R1.1 = 1 by omega),hw])]
                exact q1
              · rw [← hQ,ZmJ c]; exact q2
            · refine ⟨.inr (R1.1, ⟨⟨f, occ⟩, limit, R1.2.2, if R1.1 = 1 then bls R1.2.1 else mo⟩), ?_, by rw [← hQ, ZmI c]⟩
              refine ZC ?_ (by omega)
              show ((Zy (k + 3) ⟨f,occ⟩ ⟨a,q⟩ (-(v:Int))).bind _) = _
              rw [g1]
              simp only [ZmD,ZmT,ZmF,ZmQ]
              rw [g3]
              simp only [ZmD]
              rw [ZmJ (by simpa using c)]
        obtain ⟨r,q1,q2⟩:=key
        refine Eq.trans ?_ q2
        exact congrArg (fun o=>Option.bind o (fun (rl2:(Int × Int × (List Bool)) ⊕ (Int × D.searcher))=>match rl2 with | .inl s2r=>some (2,(D.searcher.mk ⟨f,occ⟩ s2r.1 s2r.2.1 s2r.2.2)) | .inr v=>some v)) q1
end
end Go.Proofs.YtgpcokpcbjloiaaGreat.Sv
end
