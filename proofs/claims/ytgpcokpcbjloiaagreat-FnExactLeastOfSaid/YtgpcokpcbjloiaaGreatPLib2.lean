/- Texts of this claim put into one: library or plain laws, without the program under test. -/
import Derived.Test.YtgpcokpcbjloiaaGreatPLib1
import Derived.Test.YtgpcokpcbjloiaaGreatLib4
set_option linter.unusedSimpArgs false
set_option linter.unusedVariables false
section
namespace Go.Proofs.YtgpcokpcbjloiaaGreat
open Go.GL
set_option linter.unusedSimpArgs false
set_option maxRecDepth 100000
theorem YW {op w m:Int} {nm:Str} {ks:List D.Term} (h:nodeB ⟨op,w,m,nm,ks⟩ = true):(1 ≤ w ∧ w ≤ 16) ∧ (
  (op = 0 ∧ ks = [] ∧ nm = ⟨[]⟩ ∧ wordB w m = true) ∨
  (op = 22 ∧ ks = [] ∧ m = 0) ∨
  ((op = 1 ∨ op = 2) ∧ m = 0 ∧ nm = ⟨[]⟩ ∧ ∃ a,ks = [a] ∧ nodeB a = true ∧ a.W = w) ∨
  (3 ≤ op ∧ op ≤ 16 ∧ m = 0 ∧ nm = ⟨[]⟩ ∧ ∃ a b,ks = [a,b] ∧ nodeB a = true ∧ nodeB b = true ∧ a.W = b.W ∧ (op ≤ 13 → a.W = w) ∧ (14 ≤ op → w = 1)) ∨
  (op = 17 ∧ m = 0 ∧ nm = ⟨[]⟩ ∧ ∃ a b c,ks = [a,b,c] ∧ nodeB a = true ∧ nodeB b = true ∧ nodeB c = true ∧ a.W = 1 ∧ b.W = w ∧ c.W = w) ∨
  (op = 18 ∧ m = 0 ∧ nm = ⟨[]⟩ ∧ ∃ a b,ks = [a,b] ∧ nodeB a = true ∧ nodeB b = true ∧ a.W + b.W = w) ∨
  (op = 19 ∧ nm = ⟨[]⟩ ∧ 0 ≤ m ∧ m ≤ 16 ∧ ∃ a,ks = [a] ∧ nodeB a = true ∧ m + w ≤ a.W) ∨
  ((op = 20 ∨ op = 21) ∧ m = 0 ∧ nm = ⟨[]⟩ ∧ ∃ a,ks = [a] ∧ nodeB a = true ∧ a.W ≤ w)):=by
 rw [Zbc,Zml] at h
 obtain ⟨h,hk⟩:=h
 unfold locB at h
 simp only [Zml,Zmp,ZmU,Znj,ZcQ] at h
 obtain ⟨⟨⟨hw,hn⟩,hm⟩,h⟩:=h
 refine ⟨hw,?_⟩
 simp only at hk
 unfold shB at h
 by_cases o0:op = 0
 ·rw [Zmk o0] at h
  simp only [Zml,List.isEmpty_iff,List.map_eq_nil_iff] at h
  exact .inl ⟨o0,h.1,by rcases hn with hn | hn; exact hn; omega,h.2⟩
 rw [Zmj o0] at h
 by_cases o1:op = 22
 ·rw [Zmk o1] at h
  simp only [Zml,List.isEmpty_iff,List.map_eq_nil_iff] at h
  exact .inr (.inl ⟨o1,h.1,by omega⟩)
 rw [Zmj o1] at h
 have hn:nm = ⟨[]⟩:=by rcases hn with hn | hn; exact hn; exact absurd hn o1
 have hm:op ≠ 19 → m = 0:=fun o=>by omega
 clear o0 o1
 have k1:∀ f:Int → Bool,(match ks.map (·.W) with | [a]=>f a | _=>false) = true → ∃ a,ks = [a] ∧ nodeB a = true ∧ f a.W = true:=fun f h=>by
  rcases ks with _ | ⟨a,_ | ⟨b,l⟩⟩ <;> simp at h
  rw [Y6] at hk; simp at hk
  exact ⟨a,rfl,hk,h⟩
 have k2:∀ f:Int → Int → Bool,(match ks.map (·.W) with | [a,b]=>f a b | _=>false) = true → ∃ a b,ks = [a,b] ∧ nodeB a = true ∧ nodeB b = true ∧ f a.W b.W = true:=fun f h=>by
  rcases ks with _ | ⟨a,_ | ⟨b,_ | ⟨c,l⟩⟩⟩ <;> simp at h
  rw [Y6] at hk; simp at hk
  exact ⟨a,b,rfl,hk.1,hk.2,h⟩
 have k3:∀ f:Int → Int → Int → Bool,(match ks.map (·.W) with | [a,b,c]=>f a b c | _=>false) = true → ∃ a b c,ks = [a,b,c] ∧ nodeB a = true ∧ nodeB b = true ∧ nodeB c = true ∧ f a.W b.W c.W = true:=fun f h=>by
  rcases ks with _ | ⟨a,_ | ⟨b,_ | ⟨c,_ | ⟨d,l⟩⟩⟩⟩ <;> simp at h
  rw [Y6] at hk; simp at hk
  exact ⟨a,b,c,rfl,hk.1,hk.2.1,hk.2.2,h⟩
 by_cases o2:1 ≤ op ∧ op ≤ 2
 ·rw [Zmk o2] at h
  obtain ⟨a,ha,hb,hf⟩:=k1 (fun a=>a == w) h
  exact .inr (.inr (.inl ⟨by omega,hm (by omega),hn,a,ha,hb,by simpa using hf⟩))
 rw [Zmj o2] at h
 by_cases o3:3 ≤ op ∧ op ≤ 13
 ·rw [Zmk o3] at h
  obtain ⟨a,b,ha,hb,hc,hf⟩:=k2 (fun a b=>a == w && b == w) h
  simp only [Zml,Znj] at hf
  exact .inr (.inr (.inr (.inl ⟨by omega,by omega,hm (by omega),hn,a,b,ha,hb,hc,by omega,by omega,by omega⟩)))
 rw [Zmj o3] at h
 by_cases o4:14 ≤ op ∧ op ≤ 16
 ·rw [Zmk o4] at h
  obtain ⟨a,b,ha,hb,hc,hf⟩:=k2 (fun a b=>a == b && w == 1) h
  simp only [Zml,Znj] at hf
  exact .inr (.inr (.inr (.inl ⟨by omega,by omega,hm (by omega),hn,a,b,ha,hb,hc,hf.1,by omega,by omega⟩)))
 rw [Zmj o4] at h
 by_cases o5:op = 17
 ·rw [Zmk o5] at h
  obtain ⟨a,b,c,ha,hb,hc,hd,hf⟩:=k3 (fun a b c=>a == 1 && b == w && c == w) h
  simp only [Zml,Znj] at hf
  exact .inr (.inr (.inr (.inr (.inl ⟨o5,hm (by omega),hn,a,b,c,ha,hb,hc,hd,hf.1.1,hf.1.2,hf.2⟩))))
 rw [Zmj o5] at h
 by_cases o6:op = 18
 ·rw [Zmk o6] at h
  obtain ⟨a,b,ha,hb,hc,hf⟩:=k2 (fun a b=>a + b == w) h
  exact .inr (.inr (.inr (.inr (.inr (.inl ⟨o6,hm (by omega),hn,a,b,ha,hb,hc,by simpa using hf⟩)))))
 rw [Zmj o6] at h
 by_cases o7:op = 19
 ·rw [Zmk o7] at h
  obtain ⟨a,ha,hb,hf⟩:=k1 (fun a=>decide (0 ≤ m ∧ m ≤ 16) && decide (m + w ≤ a)) h
  simp only [Zml,Zmp] at hf
  exact .inr (.inr (.inr (.inr (.inr (.inr (.inl ⟨o7,hn,hf.1.1,hf.1.2,a,ha,hb,hf.2⟩))))))
 rw [Zmj o7] at h
 by_cases o8:20 ≤ op ∧ op ≤ 21
 ·rw [Zmk o8] at h
  obtain ⟨a,ha,hb,hf⟩:=k1 (fun a=>decide (a ≤ w)) h
  exact .inr (.inr (.inr (.inr (.inr (.inr (.inr ⟨by omega,hm (by omega),hn,a,ha,hb,by simpa using hf⟩))))))
 rw [Zmj o8] at h; cases h
open Cc (BS LS CircP Grow GoodL Good litN lines negs seqP ifP opP net RelB FOk)
def bitI (v:Int) (k:Nat):Bool:=match shr? v (k:Int) with | some x=>band x 1 == 1 | none=>false
def wordL (w:Nat) (v:Int):List Int:=(List.range w).map fun k=>if bitI v k then 1 else -1
theorem Zaz (w:Nat) (v:Int):(wordL w v).length = w:=by simp [wordL]
def atV:List D.Value → Int → Str → Int
 | [],a,_=>a
 | v :: l,a,s=>if Str.eqb v.Name s then a + v.W else atV l (a + v.W) s
def varL (vs:List D.Value) (s:Str) (w:Nat):List Int:=(List.range w).map fun k:Nat=>atV vs 1 s - (k:Int)
theorem ZgM (vs:List D.Value) (s:Str) (w:Nat):(varL vs s w).length = w:=by simp [varL]
def fin (op:Int) (w m:Nat) (ks:List (List Int)) (s:BS):LS:=
 if op = 1 then (negs (ks.getD 0 []),s)
 else if op = 2 then if w = 16 then (List.replicate w (-1),(s.1,true)) else opP s 4 (List.replicate w (-1)) (ks.getD 0 [])
 else if op = 17 then seqP (fun s p=>ifP s ((ks.getD 0 []).getD 0 0) p.1 p.2) s ((ks.getD 1 []).zip (ks.getD 2 []))
 else if op = 18 then (ks.getD 1 [] ++ ks.getD 0 [],s)
 else if op = 19 then (((ks.getD 0 []).drop m).take w,s)
 else if op = 20 then (ks.getD 0 [] ++ List.replicate (w - (ks.getD 0 []).length) (-1),s)
 else if op = 21 then (ks.getD 0 [] ++ List.replicate (w - (ks.getD 0 []).length) ((ks.getD 0 []).getD ((ks.getD 0 []).length - 1) 0),s)
 else if (ks.getD 0 []).length = 16 then (List.replicate w (-1),(s.1,true)) else opP s op (ks.getD 0 []) (ks.getD 1 [])
mutual
def nP (vs:List D.Value):D.Term → BS → LS
 | ⟨op,w,m,nm,ks⟩,s=>if op = 0 then (wordL w.toNat m,s) else if op = 22 then (varL vs nm w.toNat,s) else let r:=nPs vs ks s; fin op w.toNat m.toNat r.1 r.2
def nPs (vs:List D.Value):List D.Term → BS → List (List Int) × BS
 | [],s=>([],s)
 | t :: l,s=>let r:=nP vs t s; let q:=nPs vs l r.2; (r.1 :: q.1,q.2)
end
theorem Zio (vs:List D.Value) (t:D.Term) (s:BS):nP vs t s = if t.Op = 0 then (wordL t.W.toNat t.N,s) else if t.Op = 22 then (varL vs t.Name t.W.toNat,s) else fin t.Op t.W.toNat t.N.toNat (nPs vs t.Kids s).1 (nPs vs t.Kids s).2:=by cases t; rw [nP]
theorem ZfD (vs:List D.Value) (s:BS):nPs vs [] s = ([],s):=by rw [nPs]
theorem ZcO (vs:List D.Value) (t:D.Term) (l:List D.Term) (s:BS):nPs vs (t :: l) s = ((nP vs t s).1 :: (nPs vs l (nP vs t s).2).1,(nPs vs l (nP vs t s).2).2):=by rw [nPs]
structure VF (vs:List D.Value) (c:D.Circuit):Prop where
 w1:∀ v ∈ vs,1 ≤ v.W
 sum:(vs.map (·.W)).foldl (· + ·) 0 = c.Inputs
def TV (vs:List D.Value) (t:D.Term):Prop:=∀ p ∈ vrs t,∃ v ∈ vs,v.Name = p.1 ∧ v.W = p.2
open Cc (BS LS CircP Grow GoodL Good litN lines negs seqP ifP opP net RelB FOk ZaO YX litN_iff litN_mono ZT)
theorem Zjz {vs:List D.Value} {s:Str} (h1:∀ v ∈ vs,1 ≤ v.W):∀ {a:Int},a ≤ atV vs a s ∧ atV vs a s ≤ (vs.map (·.W)).foldl (· + ·) a:=by
 induction vs with
 | nil=>intro a; simp [atV]
 | cons v l ih=>
  intro a
  have hv:=h1 v (by simp)
  have hf:∀ (l:List D.Value) (a:Int),(∀ v ∈ l,1 ≤ v.W) → a ≤ (l.map (·.W)).foldl (· + ·) a:=fun l=>by
   induction l with
   | nil=>intro a _; simp
   | cons x l ih=>intro a hx; have:=ih (a + x.W) (fun v hv=>hx v (by simp [hv])); have:=hx x (by simp); simp only [Zm2,ZnT]; omega
  unfold atV
  simp only [Zm2,ZnT]
  split
  ·have:=hf l (a + v.W) (fun v hv=>h1 v (by simp [hv])); omega
  ·have:=ih (fun v hv=>h1 v (by simp [hv])) (a:=a + v.W); omega
theorem Zjv {s:Str} {w:Int}:∀ {vs:List D.Value} {a:Int},(∀ v ∈ vs,1 ≤ v.W) → vs.Pairwise (fun x y=>x.Name ≠ y.Name) → (∃ v ∈ vs,v.Name = s ∧ v.W = w) → a + w ≤ atV vs a s
 | [],a,_,_,⟨v,hv,_⟩=>by cases hv
 | v :: l,a,h1,hp,⟨x,hx,hn,hw⟩=>by
  unfold atV
  rw [ZnG] at hp
  by_cases c:v.Name = s
  ·have e : Str.eqb v.Name s = true := by rw [c]; exact Zet s
   rw [Zmk e]
   rcases ZmF.1 hx with rfl | hx
   ·omega
   ·exact absurd (c.trans hn.symm) (hp.1 x hx)
  ·have e : Str.eqb v.Name s = false := by rw [ZcQ]; simpa using c
   rw [e]
   simp only [Zmg,Zmr]
   rcases ZmF.1 hx with rfl | hx
   ·exact absurd hn c
   ·have := Zjv (a := a + v.W) (fun v hv => h1 v (by simp [hv])) hp.2 ⟨x, hx, hn, hw⟩
    have:=h1 v (by simp)
    omega
theorem Zcy:∀ (l:List Int) (a b:Int),l.foldl (· + ·) (a + b) = a + l.foldl (· + ·) b
 | [],a,b=>rfl
 | x :: l,a,b=>by simp only [ZnT]; rw [Int.add_assoc]; exact Zcy l a (b + x)
theorem Zju {vs:List D.Value} {s:BS} {nm:Str} {w:Int} (hs:CircP s.1) (hv:VF vs s.1) (hp:vs.Pairwise fun x y=>x.Name ≠ y.Name) (h:∃ v ∈ vs,v.Name = nm ∧ v.W = w) (hw:1 ≤ w):GoodL s w.toNat (varL vs nm w.toNat,s):=by
 refine ⟨hs,Grow.refl _,ZgM _ _ _,fun x hx=>?_⟩
 unfold varL at hx
 obtain ⟨k,hk,rfl⟩:=Znf.1 hx
 have hk:=Zm6.1 hk
 have h1:=Zjv (a:=1) hv.w1 hp h
 have h2:=(Zjz (s:=nm) hv.w1 (a:=1)).2
 have h3:=Zcy (vs.map (·.W)) 1 0
 rw [show (1:Int) + 0 = 1 from rfl,hv.sum] at h3
 rw [h3] at h2
 rw [litN_iff]
 show 1 ≤ Cc.iab (atV vs 1 nm - (k:Int)) ∧ Cc.iab (atV vs 1 nm - (k:Int)) ≤ s.1.Inputs + 1 + (s.1.Gates.length:Int)
 unfold Cc.iab
 have:=hs.i0
 constructor <;> split <;> omega
theorem Zjp {s:BS} {w:Nat} {v:Int} (hs:CircP s.1):GoodL s w (wordL w v,s):=by
 refine ⟨hs,Grow.refl _,Zaz _ _,fun x hx=>?_⟩
 unfold wordL at hx
 obtain ⟨k,hk,rfl⟩:=Znf.1 hx
 split
 ·exact ZaO hs
 ·exact YX hs
def K2 (s:BS) (t:D.Term) (l:List Int):Prop:=l.length = t.W.toNat ∧ ∀ x ∈ l,litN (lines s.1) x = true
def KK (s:BS):List D.Term → List (List Int) → Prop
 | [],[]=>True
 | t :: ts,l :: ls=>K2 s t l ∧ KK s ts ls
 | _,_=>False
theorem KK1 {s:BS} {t:D.Term} {ts:List D.Term} {ls:List (List Int)} (h:KK s (t :: ts) ls):∃ l l',K2 s t l ∧ KK s ts l' ∧ ls = l :: l':=by
 cases ls with
 | nil=>exact h.elim
 | cons l l'=>exact ⟨l,l',h.1,h.2,rfl⟩
theorem KK0 {s:BS} {ls:List (List Int)} (h:KK s [] ls):ls = []:=by
 cases ls with
 | nil=>rfl
 | cons l l'=>exact h.elim
theorem K2.mono {s s':BS} {t:D.Term} {l:List Int} (h:K2 s t l) (g:Grow s.1 s'.1):K2 s' t l:=⟨h.1,fun x hx=>litN_mono (h.2 x hx) g.lines⟩
theorem ZgE {s:BS} {w:Nat} (hs:CircP s.1) (f:Bool):GoodL s w (List.replicate w (-1),(s.1,f)):=⟨hs,Grow.refl _,by simp,fun x hx=>by rw [(Zol.1 hx).2]; exact YX hs⟩
theorem Zdf {s:BS} {w:Nat} (hs:CircP s.1):∀ x ∈ List.replicate w (-1:Int),litN (lines s.1) x = true:=fun x hx=>by rw [(Zol.1 hx).2]; exact YX hs
theorem Zkx {s:BS} {c:Int} {a b:List Int} (hs:CircP s.1) (hc:litN (lines s.1) c = true) (ha:∀ x ∈ a,litN (lines s.1) x = true) (hb:∀ x ∈ b,litN (lines s.1) x = true):FOk (fun s p=>ifP s c p.1 p.2) s (a.zip b):=fun s' p hc' hg hp=>by
 have h1:=ZoQ hp
 exact Cc.if_good hc' (litN_mono hc hg.lines) (litN_mono (ha _ h1.1) hg.lines) (litN_mono (hb _ h1.2) hg.lines)
theorem fin_good {s:BS} {t:D.Term} {ls:List (List Int)} (hb:nodeB t = true) (hs:CircP s.1) (h0:t.Op ≠ 0) (h22:t.Op ≠ 22) (hk:KK s t.Kids ls):GoodL s t.W.toNat (fin t.Op t.W.toNat t.N.toNat ls s):=by
 obtain ⟨op,w,m,nm,ks⟩:=t
 obtain ⟨hw,hsh⟩:=YW hb
 simp only at h0 h22 hk ⊢
 rcases hsh with ⟨rfl,-⟩ | ⟨rfl,-⟩ | ⟨ho,-,-,a,rfl,ha,haw⟩ | ⟨h3,h16,-,-,a,b,rfl,ha,hb',hab,h13,h14⟩ | ⟨rfl,-,-,a,b,c,rfl,ha,hb',hc,ha1,hbw,hcw⟩ | ⟨rfl,-,-,a,b,rfl,ha,hb',habw⟩ | ⟨rfl,-,hm0,hm1,a,rfl,ha,haw⟩ | ⟨ho,-,-,a,rfl,ha,haw⟩
 ·exact absurd rfl h0
 ·exact absurd rfl h22
 ·obtain ⟨la, r1, k1, hn1, rfl⟩ := KK1 hk
  obtain rfl:=KK0 hn1
  have hl:la.length = w.toNat:=by rw [k1.1,haw]
  unfold fin
  simp only [ZmH]
  rcases ho with rfl | rfl
  ·simp only [Zm8]
   exact ⟨hs,Grow.refl _,by rw [Cc.negs_len,hl],Cc.negs_lits k1.2⟩
  ·simp only [show ¬ ((2 : Int) = 1) by decide, Zmr, Zm8]
   split
   ·exact ZgE hs true
   ·rename_i h16
    have:=Cc.op_good hs (op:=4) (a:=List.replicate w.toNat (-1)) (b:=la) (by omega) (by simp [hl]) (by simp; omega) (by simp; omega) (Zdf hs) k1.2
    simpa [Cc.opW] using this
 ·obtain ⟨la, r1, k1, hn1, rfl⟩ := KK1 hk
  obtain ⟨lb,r2,k2,hn2,rfl⟩:=KK1 hn1
  obtain rfl:=KK0 hn2
  have hA:=Yr ha
  unfold fin
  simp only [ZmH,Znr]
  rw [Zmj (by omega),Zmj (by omega),Zmj (by omega),Zmj (by omega),Zmj (by omega),Zmj (by omega),Zmj (by omega)]
  split
  ·exact ZgE hs true
  ·rename_i h16'
   have:=Cc.op_good hs (op:=op) (a:=la) (b:=lb) ⟨h3,h16⟩ (by rw [k1.1,k2.1,hab]) (by have:=k1.1; omega) (by have:=k1.1; omega) k1.2 k2.2
   have e:Cc.opW op la.length = w.toNat:=by
    unfold Cc.opW; split
    ·rw [h14 (by omega)]; rfl
    ·rw [k1.1,h13 (by omega)]
   rw [e] at this; exact this
 ·obtain ⟨la, r1, k1, hn1, rfl⟩ := KK1 hk
  obtain ⟨lb,r2,k2,hn2,rfl⟩:=KK1 hn1
  obtain ⟨lc,r3,k3,hn3,rfl⟩:=KK1 hn2
  obtain rfl:=KK0 hn3
  unfold fin
  simp only [ZmH,Znr]
  rw [Zmj (by omega),Zmj (by omega),Zmk (by trivial)]
  have hc0:litN (lines s.1) (la.getD 0 0) = true:=k1.2 _ (Cc.getD_mem (by have:=k1.1; rw [ha1] at this; simp at this; omega))
  have g:=Cc.seq_good hs (Zkx hs hc0 k2.2 k3.2)
  rw [Znq,k2.1,k3.1,hbw,hcw,Zow] at g
  exact g
 ·obtain ⟨la, r1, k1, hn1, rfl⟩ := KK1 hk
  obtain ⟨lb,r2,k2,hn2,rfl⟩:=KK1 hn1
  obtain rfl:=KK0 hn2
  have hA:=Yr ha
  have hB:=Yr hb'
  unfold fin
  simp only [ZmH,Znr]
  rw [Zmj (by omega),Zmj (by omega),Zmj (by omega),Zmk (by trivial)]
  exact ⟨hs,Grow.refl _,by rw [Zmo,k1.1,k2.1]; omega,fun x hx=>(Zm0.1 hx).elim (k2.2 x) (k1.2 x)⟩
 ·obtain ⟨la, r1, k1, hn1, rfl⟩ := KK1 hk
  obtain rfl:=KK0 hn1
  unfold fin
  simp only [ZmH]
  rw [Zmj (by omega),Zmj (by omega),Zmj (by omega),Zmj (by omega),Zmk (by trivial)]
  exact ⟨hs,Grow.refl _,by rw [Zmq,Zm7,k1.1]; omega,fun x hx=>k1.2 x (Zn3 (Zn9 hx))⟩
 ·obtain ⟨la, r1, k1, hn1, rfl⟩ := KK1 hk
  obtain rfl:=KK0 hn1
  have hA:=Yr ha
  unfold fin
  simp only [ZmH]
  rcases ho with rfl | rfl
  ·rw [Zmj (by omega), Zmj (by omega), Zmj (by omega), Zmj (by omega), Zmj (by omega), Zmk (by trivial)]
   exact ⟨hs,Grow.refl _,by rw [Zmo,ZmV,k1.1]; omega,fun x hx=>(Zm0.1 hx).elim (k1.2 x) (Zdf hs x)⟩
  ·rw [Zmj (by omega), Zmj (by omega), Zmj (by omega), Zmj (by omega), Zmj (by omega), Zmj (by omega), Zmk (by trivial)]
   refine ⟨hs,Grow.refl _,by rw [Zmo,ZmV,k1.1]; omega,fun x hx=>(Zm0.1 hx).elim (k1.2 x) fun h=>?_⟩
   rw [(Zol.1 h).2]
   exact k1.2 _ (Cc.getD_mem (by have:=k1.1; omega))
theorem KK.mono {s s':BS} (g:Grow s.1 s'.1):∀ {ts:List D.Term} {ls:List (List Int)},KK s ts ls → KK s' ts ls
 | [],[],_=>trivial
 | [],_ :: _,h=>h.elim
 | _ :: _,[],h=>h.elim
 | _ :: _,_ :: _,h=>⟨h.1.mono g,KK.mono g h.2⟩
theorem VF.mono {vs:List D.Value} {c c':D.Circuit} (h:VF vs c) (g:Grow c c'):VF vs c':=⟨h.w1,h.sum.trans g.inputs.symm⟩
theorem Zc9 {vs:List D.Value} {t x:D.Term} (h:TV vs t) (ho:t.Op ≠ 22) (hx:x ∈ t.Kids):TV vs x:=fun p hp=>by
 refine h p ?_
 rw [Zbe,Zmj ho]
 have:∀ {l:List D.Term},x ∈ l → p ∈ vrss l:=fun {l}=>by
  induction l with
  | nil=>intro h; cases h
  | cons y l ih=>
   intro hy
   rw [XZ,Zm0]
   rcases ZmF.1 hy with rfl | hy
   ·exact .inl hp
   ·exact .inr (ih hy)
 exact this hx
theorem Zch {vs:List D.Value}:∀ (l:List D.Term) (s:BS),(∀ t ∈ l,∀ s:BS,CircP s.1 → VF vs s.1 → GoodL s t.W.toNat (nP vs t s)) → CircP s.1 → VF vs s.1 → CircP (nPs vs l s).2.1 ∧ Grow s.1 (nPs vs l s).2.1 ∧ KK (nPs vs l s).2 l (nPs vs l s).1
 | [],s,_,hs,_=>by rw [ZfD]; exact ⟨hs,Grow.refl _,trivial⟩
 | t :: l,s,h,hs,hv=>by
  rw [ZcO]
  have g:=h t (by simp) s hs hv
  obtain ⟨q1,q2,q3⟩:=Zch l (nP vs t s).2 (fun x hx=>h x (by simp [hx])) g.circ (hv.mono g.grow)
  exact ⟨q1,g.grow.trans q2,⟨g.len,fun x hx=>litN_mono (g.lits x hx) q2.lines⟩,q3⟩
theorem nodeK {t:D.Term} (hb:nodeB t = true):∀ x ∈ t.Kids,nodeB x = true:=fun x hx=>by
 rw [Zbc,Zml,Y6,Zms] at hb
 exact hb.2 x hx
theorem Zcp {vs:List D.Value} (hp:vs.Pairwise fun x y=>x.Name ≠ y.Name):∀ (n:Nat) (t:D.Term) (s:BS),cnt t ≤ n → nodeB t = true → TV vs t → CircP s.1 → VF vs s.1 → GoodL s t.W.toNat (nP vs t s):=by
 intro n
 induction n with
 | zero=>intro t s h; have:=XO t; omega
 | succ n ih=>
  intro t s hc hb ht hs hv
  have hw:=Yr hb
  rw [Zio]
  by_cases h0:t.Op = 0
  ·rw [Zmk h0]; exact Zjp hs
  rw [Zmj h0]
  by_cases h22:t.Op = 22
  ·rw [Zmk h22]
   refine Zju hs hv hp (ht (t.Name,t.W) ?_) hw.1
   rw [Zbe,Zmk h22]; simp
  rw [Zmj h22]
  have hcn:=XO t
  obtain ⟨q1,q2,q3⟩:=Zch t.Kids s (fun x hx s' hs' hv'=>ih x s' (by have:=XT hx; omega) (nodeK hb x hx) (Zc9 ht h22 hx) hs' hv') hs hv
  have g:=fin_good hb q1 h0 h22 q3
  exact ⟨g.circ,q2.trans g.grow,g.len,g.lits⟩
open Cc (BS LS CircP Grow GoodL Good litN lines negs seqP ifP opP net RelB FOk FU)
theorem Zgi (v:Int) (k:Nat):∃ x,shr? v (k:Int) = some x ∧ bitI v k = (band x 1 == 1):=by
 have:∃ x,shr? v (k:Int) = some x:=by unfold shr?; rw [Zmj (by omega)]; exact ⟨_,rfl⟩
 obtain ⟨x,hx⟩:=this
 exact ⟨x,hx,by unfold bitI; rw [hx]⟩
theorem Zer (k:Nat) (v:Int):wordL (k + 1) v = wordL k v ++ [if bitI v k then 1 else -1]:=by unfold wordL; rw [ZnY,Zno]; rfl
theorem ZeK (w:Nat):wordL w 0 = List.replicate w (-1):=by
 have:∀ k,bitI 0 k = false:=fun k=>by
  have h:shr? 0 (k:Int) = some 0:=by unfold shr?; rw [Zmj (by omega)]; simp
  unfold bitI; rw [h]; exact Cc.band01
 unfold wordL
 simp only [this,Zmg,Zmr]
 rw [List.map_const']; simp
section
variable {fu:Nat} [FU fu]
theorem ZeD {w:Nat} (hw:w ≤ 1000) (v:Int):Xu fu (w:Int) v = some (wordL w v):=by
 unfold Xu
 rw [Yx (I:=fun k t=>t = ((k:Int),wordL k v)) (m:=w) (r:=wordL w v) (fun k t hk ht=>?_) (fun t ht=>?_) w 0 _ (by omega) (by simp [wordL]) fu (Cc.lt_fuel (by omega))]
 ·rfl
 all_goals subst ht
 ·refine ⟨_, ?_, rfl⟩
  obtain ⟨x,hx,hb⟩:=Zgi v k
  have ha:∀ y:Int,app? (wordL k v) [y] = some (wordL k v ++ [y]):=fun y=>by
   unfold app?
   rw [Zmk (by rw [Zaz]; simp; unfold room; omega)]
  simp only
  rw [Zmk (by simp; omega),hx]
  simp only [Zme]
  rw [Zer,hb]
  by_cases c:(band x 1 == 1) = true
  ·rw [Zmk c,Zmk c,ha,Zb (by omega) (by omega)]; rfl
  ·rw [Zmj c,Zmj c,ha,Zb (by omega) (by omega)]; rfl
 ·simp only
  rw [Zmj (by simp)]
theorem Zeu {w:Nat} (hw:w ≤ 900) (v:Int):Ym fu (w:Int) v = some (wordL w v):=by
 unfold Ym
 have hmk:mk? (w:Int) (0:Int) = some (List.replicate w 0):=by
  unfold mk?; rw [Zmk ⟨by omega,by unfold room; omega⟩]; rfl
 rw [hmk]
 simp only [Zme]
 rw [Yx (I:=fun k t=>t = ((k:Int),wordL k v ++ List.replicate (w - k) 0)) (m:=w) (r:=wordL w v) (fun k t hk ht=>?_) (fun t ht=>?_) w 0 _ (by omega) (by simp [wordL]) fu (Cc.lt_fuel (by omega))]
 ·rfl
 all_goals subst ht
 ·refine ⟨_, ?_, rfl⟩
  obtain ⟨x,hx,hb⟩:=Zgi v k
  have e:∀ y:Int,(wordL k v ++ List.replicate (w - k) 0).set k y = (wordL k v ++ [y]) ++ List.replicate (w - (k + 1)) 0:=fun y=>by
   have:=Cc.set_fill (l:=wordL k v) (n:=w - (k + 1)) (x:=y)
   rw [Zaz,show w - (k + 1) + 1 = w - k by omega] at this
   exact this
  have e2:∀ y z:Int,((wordL k v ++ [y]) ++ List.replicate (w - (k + 1)) 0).set k z = (wordL k v ++ [z]) ++ List.replicate (w - (k + 1)) 0:=fun y z=>by
   rw [Zm9,Zni _ _ (by rw [Zaz]; omega),Zaz,ZnB,ZmP,Zn7,Zm9,ZmP]
  simp only
  rw [Zmk (by rw [Za]; simp; omega),set?_nat (by simp [Zaz]; omega)]
  simp only [Zme]
  rw [Cc.u64k (by omega),hx]
  simp only [Zme]
  rw [e,Zer,hb]
  by_cases c:(band x 1 == 1) = true
  ·rw [Zmk c, Zmk c, set?_nat (by simp [Zaz] <;> omega), e2]
   simp only [Zme]
   rw [Zb (by omega) (by omega)]; rfl
  ·rw [Zmj c,Zmj c,Zb (by omega) (by omega)]; rfl
 ·simp only
  rw [Zmj (by rw [Za]; simp)]
  simp
theorem at_loop {vs:List D.Value} {s:Str} (hl:vs.length ≤ 1000) (hw:∀ v ∈ vs,1 ≤ v.W ∧ v.W ≤ 16):iterN (fun (s1:Int × Int)=>
    if (decide (s1.2 < (len vs))) then
     (get? vs s1.2).bind fun x2=>
     if (Str.eqb x2.Name s) then
      some (.inr ((w64 (s1.1 + x2.W))))
     else
      some (.inl ((w64 (s1.1 + x2.W)),(w64 (s1.2 + 1))))
    else
     some (.inr (s1.1))
   ) fu (1,0) = some (atV vs 1 s):=by
  obtain ⟨r,g1,g2⟩:=Yd (l:=vs) (n:=fu) (σ:=Int) (ρ:=Int) (B:=fun (s1:Int × Int)=>
    if (decide (s1.2 < (len vs))) then
     (get? vs s1.2).bind fun x2=>
     if (Str.eqb x2.Name s) then
      some (.inr ((w64 (s1.1 + x2.W))))
     else
      some (.inl ((w64 (s1.1 + x2.W)),(w64 (s1.2 + 1))))
    else
     some (.inr (s1.1))) (fun k a=>(a,(k:Int))) (fun ys a=>atV ys a s = atV vs 1 s ∧ 1 ≤ a ∧ a ≤ 1 + 16 * (vs.length - ys.length:Int) ∧ ∀ y ∈ ys,y ∈ vs) (fun r=>r = atV vs 1 s)
    (fun k x xs a hk hx hlen ⟨h1,h2,h3,h4⟩=>by
      have hd:decide ((k:Int) < len vs) = true:=by rw [Za]; simp; omega
      have hxw:=hw x (h4 x (by simp))
      simp only [ZmC] at hlen h3
      simp only [hd,Zm8,get?_nat,hx,Zme]
      have e1:w64 (a + x.W) = a + x.W:=Zb (by omega) (by omega)
      rw [e1]
      have h1:(if Str.eqb x.Name s = true then a + x.W else atV xs (a + x.W) s) = atV vs 1 s:=h1
      cases c:Str.eqb x.Name s
      · rw [c] at h1
        simp only [Zmg,Zmr] at h1 ⊢
        exact .inl ⟨a + x.W,by rw [Zb (by omega) (by omega)]; rfl,h1,by omega,by omega,fun y hy=>h4 y (by simp [hy])⟩
      · rw [c] at h1
        simp only [Zm8] at h1 ⊢
        exact .inr ⟨_,rfl,h1⟩)
    (fun a ⟨h1,_⟩=>by
      have hd:decide ((vs.length:Int) < len vs) = false:=by rw [Za]; simp
      simp only [hd,Zmg,Zmr]
      exact ⟨_,rfl,h1⟩) (a:=1) ⟨rfl,by omega,by omega,fun y h=>h⟩ (Cc.lt_fuel (by omega))
  rw [show ((0:Nat):Int) = 0 from rfl] at g1
  rw [g1,g2]
theorem ZiA {a:Int} {w:Nat} (hw:w ≤ 16) (h1:1 ≤ a) (h2:a ≤ 100000):iterN (fun (s2:Int × (List Int))=>
    if (decide (s2.1 < (w:Int))) then
     (app? s2.2 ([(w64 (a - s2.1))]:List Int)).bind fun x3=>
     some (.inl ((w64 (s2.1 + 1)),x3))
    else
     some (.inr (s2.2))
   ) fu (0,([]:List Int)) = some ((List.range w).map fun k:Nat=>a - (k:Int)):=by
  rw [Yx (I:=fun k t=>t = ((k:Int),(List.range k).map fun k:Nat=>a - (k:Int))) (m:=w) (r:=(List.range w).map fun k:Nat=>a - (k:Int)) (fun k t hk ht=>?_) (fun t ht=>?_) w 0 _ (by omega) (by simp) fu (Cc.lt_fuel (by omega))]
  all_goals subst ht
  · refine ⟨_, ?_, rfl⟩
    simp only
    have ha:∀ y:Int,app? ((List.range k).map fun k:Nat=>a - (k:Int)) [y] = some (((List.range k).map fun k:Nat=>a - (k:Int)) ++ [y]):=fun y=>by
      unfold app?
      rw [Zmk (by simp; unfold room; omega)]
    rw [Zmk (by simp; omega),Zb (x:=a - (k:Int)) (by omega) (by omega),ha]
    simp only [Zme]
    rw [Zb (by omega) (by omega),ZnY,Zno]; rfl
  · simp only
    rw [Zmj (by simp)]
end
theorem ZfO:∀ {l:List D.Value} {a:Int},(∀ v ∈ l,1 ≤ v.W) → a + l.length ≤ (l.map (·.W)).foldl (· + ·) a
 | [],a,_=>by simp
 | v :: l,a,h=>by
  have:=ZfO (l:=l) (a:=a + v.W) fun x hx=>h x (by simp [hx])
  have:=h v (by simp)
  simp only [Zm2,ZnT,ZmC]; omega
theorem Zaw {c c':D.Circuit} {x:Int} (h:litN (lines c) x = true) (g:Grow c c'):litN (lines c') x = true:=Cc.litN_mono h g.lines
section
variable {n:Nat} [FU n] {s:BS}
def sfin (n:Nat) (p1:D.Term) (ls:List (List Int)) (s:BS):Option ((List Int) × D.l04Net):=
   (get? ls 0).bind fun x7=>
   if (p1.Op == 1) then
    (Xe n x7).bind fun x8=>
    some (x8,(D.l04Net.mk (D.Circuit.mk s.1.Inputs s.1.Gates) s.2))
   else
    if (p1.Op == 2) then
     (Xu n p1.W 0).bind fun x9=>
     (get? ([x9,x7]:List (List Int)) 0).bind fun x10=>
     if ((len x10) == 16) then
      (ZY n p1.W (-1)).bind fun x11=>
      some (x11,(D.l04Net.mk (D.Circuit.mk s.1.Inputs s.1.Gates) true))
     else
      (get? ([x9,x7]:List (List Int)) 0).bind fun x12=>
      (get? ([x9,x7]:List (List Int)) 1).bind fun x13=>
      (ZU n (D.l04Net.mk (D.Circuit.mk s.1.Inputs s.1.Gates) s.2) (cond (p1.Op == 2) 4 p1.Op) x12 x13).bind fun x14=>
      some (x14.1,x14.2)
    else
     if (p1.Op == 17) then
      (iterN (fun (s4 : Int × (List Int) × Int × Bool × (List D.Gate)) =>
       if (decide (s4.1 < p1.W)) then
        (get? x7 0).bind fun x15=>
        (get? ls 1).bind fun x16=>
        (get? x16 s4.1).bind fun x17=>
        (get? ls 2).bind fun x18=>
        (get? x18 s4.1).bind fun x19=>
        (Zl n (D.l04Net.mk (D.Circuit.mk s4.2.2.1 s4.2.2.2.2) s4.2.2.2.1) x15 x17 x19).bind fun x20=>
        (app? s4.2.1 ([x20.1]:List Int)).bind fun x21=>
        some (.inl ((w64 (s4.1 + 1)),x21,x20.2.c.Inputs,x20.2.full,x20.2.c.Gates))
       else
        some (.inr (s4.2.1,s4.2.2.1,s4.2.2.2.1,s4.2.2.2.2))
      ) n (0,([]:List Int),s.1.Inputs,s.2,s.1.Gates)).bind fun (rl4:(List Int) × Int × Bool × (List D.Gate))=>
      some (rl4.1,(D.l04Net.mk (D.Circuit.mk rl4.2.1 rl4.2.2.2) rl4.2.2.1))
     else
      if (p1.Op == 18) then
       (get? ls 1).bind fun x22=>
       (app? ([]:List Int) x22).bind fun x23=>
       (app? x23 x7).bind fun x24=>
       some (x24,(D.l04Net.mk (D.Circuit.mk s.1.Inputs s.1.Gates) s.2))
      else
       if (p1.Op == 19) then
        (cut? x7 p1.N (w64 (p1.N + p1.W))).bind fun x25=>
        some (x25,(D.l04Net.mk (D.Circuit.mk s.1.Inputs s.1.Gates) s.2))
       else
        if (p1.Op == 20) then
         (app? ([]:List Int) x7).bind fun x26=>
         (ZY n (w64 (p1.W - (len x7))) (-1)).bind fun x27=>
         (app? x26 x27).bind fun x28=>
         some (x28,(D.l04Net.mk (D.Circuit.mk s.1.Inputs s.1.Gates) s.2))
        else
         if (p1.Op == 21) then
          (app? ([]:List Int) x7).bind fun x29=>
          (get? x7 (w64 ((len x7) - 1))).bind fun x30=>
          (ZY n (w64 (p1.W - (len x7))) x30).bind fun x31=>
          (app? x29 x31).bind fun x32=>
          some (x32,(D.l04Net.mk (D.Circuit.mk s.1.Inputs s.1.Gates) s.2))
         else
          (get? ls 0).bind fun x33=>
          if ((len x33) == 16) then
           (ZY n p1.W (-1)).bind fun x34=>
           some (x34,(D.l04Net.mk (D.Circuit.mk s.1.Inputs s.1.Gates) true))
          else
           (get? ls 0).bind fun x35=>
           (get? ls 1).bind fun x36=>
           (ZU n (D.l04Net.mk (D.Circuit.mk s.1.Inputs s.1.Gates) s.2) (cond (p1.Op == 2) 4 p1.Op) x35 x36).bind fun x37=>
           some (x37.1,x37.2)
theorem ZhZ {l:List Int} {m w:Nat} (h:m + w ≤ l.length) (hl:l.length ≤ 1000):cut? l (m:Int) (w64 ((m:Int) + (w:Int))) = some ((l.drop m).take w):=by
 rw [Zb (by omega) (by omega)]
 unfold cut?
 rw [Zmk ⟨by omega,by omega,by omega⟩]
 have e1:((m:Int) + (w:Int)).toNat = m + w:=by omega
 rw [e1,ZmQ,Zo9,Nat.add_sub_cancel_left]
theorem ZbG {l m:List Int} (h:l.length + m.length ≤ 1000):app? l m = some (l ++ m):=by unfold app?; rw [Zmk (by unfold room; omega)]
theorem g0 {α:Type} {a:α} {l:List α}:get? (a :: l) 0 = some a:=rfl
theorem g1 {α:Type} {a b:α} {l:List α}:get? (a :: b :: l) 1 = some b:=rfl
theorem g2 {α:Type} {a b c:α} {l:List α}:get? (a :: b :: c :: l) 2 = some c:=rfl
theorem Zks {l:List Int} (h:1 ≤ l.length) (h2:l.length ≤ 1000):get? l (w64 (len l - 1)) = some (l.getD (l.length - 1) 0):=by
 rw [Za,Zb (by omega) (by omega),show (l.length:Int) - 1 = ((l.length - 1:Nat):Int) by omega,get?_nat,Cc.getD_get (by omega)]
theorem Zk0 {t:D.Term} {ls:List (List Int)} (hb:nodeB t = true) (hs:CircP s.1) (h0:t.Op ≠ 0) (h22:t.Op ≠ 22) (hk:KK s t.Kids ls):sfin n t ls s = some ((fin t.Op t.W.toNat t.N.toNat ls s).1,net (fin t.Op t.W.toNat t.N.toNat ls s).2):=by
 obtain ⟨op,w,m,nm,ks⟩:=t
 obtain ⟨hw,hsh⟩:=YW hb
 simp only at h0 h22 hk ⊢
 have eW:((w.toNat:Nat):Int) = w:=by omega
 unfold sfin
 simp only
 rcases hsh with ⟨rfl,-⟩ | ⟨rfl,-⟩ | ⟨ho,-,-,a,rfl,ha,haw⟩ | ⟨h3,h16,-,-,a,b,rfl,ha,hb',hab,h13,h14⟩ | ⟨rfl,-,-,a,b,c,rfl,ha,hb',hc,ha1,hbw,hcw⟩ | ⟨rfl,-,-,a,b,rfl,ha,hb',habw⟩ | ⟨rfl,-,hm0,hm1,a,rfl,ha,haw⟩ | ⟨ho,-,-,a,rfl,ha,haw⟩
 ·exact absurd rfl h0
 ·exact absurd rfl h22
 ·obtain ⟨la, r1, k1, hn1, rfl⟩ := KK1 hk
  obtain rfl:=KK0 hn1
  have hl:la.length = w.toNat:=by rw [k1.1,haw]
  rw [g0]
  simp only [Zme]
  unfold fin
  simp only [ZmH]
  rcases ho with rfl | rfl
  ·rw [Zmk (by rfl), Zmk (by trivial), Cc.spec_not hs.lines1 (by omega) k1.2]
   rfl
  ·rw [Zmj (by decide), Zmk (by rfl), Zmj (by decide), Zmk (by trivial), ← eW, ZeD (by omega), ZeK]
   simp only [Zme,g0,g1,ZmQ,Za,ZmV]
   by_cases c:w.toNat = 16
   ·rw [Zmk (by simp; omega), Zmk c, Cc.spec_fill (by omega)]
    rfl
   ·rw [Zmj (by simp; omega), Zmj c]
    have:=Cc.spec_op (fuel:=n) hs (op:=4) (a:=List.replicate w.toNat (-1)) (b:=la) (by omega) (by simp [hl]) (by simp; omega) (by simp; omega) (Zdf hs) k1.2
    have this':ZU n (D.l04Net.mk (D.Circuit.mk s.1.Inputs s.1.Gates) s.2) (cond ((2:Int) == 2) 4 2) (List.replicate w.toNat (-1)) la = _:=this
    rw [this']
    rfl
 ·obtain ⟨la, r1, k1, hn1, rfl⟩ := KK1 hk
  obtain ⟨lb,r2,k2,hn2,rfl⟩:=KK1 hn1
  obtain rfl:=KK0 hn2
  have hA:=Yr ha
  unfold fin
  simp only [ZmH,Znr,g0,g1,Zme]
  have bb:∀ k:Int,k ≤ 2 ∨ 17 ≤ k → (op == k) = false:=fun k hk=>by simp; omega
  have cc:∀ k:Int,k ≤ 2 ∨ 17 ≤ k → ¬ op = k:=fun k hk=>by omega
  simp only [bb 1 (by omega),bb 2 (by omega),bb 17 (by omega),bb 18 (by omega),bb 19 (by omega),bb 20 (by omega),bb 21 (by omega),cc 1 (by omega),cc 2 (by omega),cc 17 (by omega),cc 18 (by omega),cc 19 (by omega),cc 20 (by omega),cc 21 (by omega),Zmg,Zmr,cond_false]
  have hla:=k1.1
  by_cases c:la.length = 16
  ·rw [Zmk (by rw [Za]; simp; omega), Zmk c, ← eW, Cc.spec_fill (by omega)]
   simp only [ZmQ]
   rfl
  ·rw [Zmj (by rw [Za]; simp; omega), Zmj c]
   have:=Cc.spec_op (fuel:=n) hs (op:=op) (a:=la) (b:=lb) ⟨h3,h16⟩ (by rw [k1.1,k2.1,hab]) (by omega) (by omega) k1.2 k2.2
   have this':ZU n (D.l04Net.mk (D.Circuit.mk s.1.Inputs s.1.Gates) s.2) op la lb = _:=this
   rw [this']
   rfl
 ·obtain ⟨la, r1, k1, hn1, rfl⟩ := KK1 hk
  obtain ⟨lb,r2,k2,hn2,rfl⟩:=KK1 hn1
  obtain ⟨lc,r3,k3,hn3,rfl⟩:=KK1 hn2
  obtain rfl:=KK0 hn3
  unfold fin
  simp only [ZmH,Znr,g0,g1,g2,Zme]
  rw [Zmj (by decide),Zmj (by decide),Zmk (by rfl)]
  rw [Zmj (by omega),Zmj (by omega),Zmk (by trivial)]
  have hla:=k1.1
  have hlb:=k2.1
  have hlc:=k3.1
  rw [ha1] at hla
  rw [hbw] at hlb
  rw [hcw] at hlc
  have hl1:la.length = 1:=by simpa using hla
  have hg0:get? la 0 = some (la.getD 0 0):=by
   obtain ⟨z,hz⟩:=Zor.1 hl1
   rw [hz]; rfl
  have hc0:litN (lines s.1) (la.getD 0 0) = true:=k1.2 _ (Cc.getD_mem (by omega))
  have hz:(lb.zip lc).length = w.toNat:=by rw [Znq,hlb,hlc,Zow]
  rw [Cc.spec_seq (fuel:=n) hs (by omega) (Zkx hs hc0 k2.2 k3.2) (fun j out s' x hx hc' hg hout=>?_) (fun out s'=>?_)]
  ·rfl
  ·have hj : j < w.toNat := by have := (Zmi.1 hx).1; omega
   have hz2:=Cc.zip_mem hx
   have e:=Cc.spec_if (fuel:=n) hc' (Zaw hc0 hg) (Zaw (k2.2 _ (Zmn hz2.1)) hg) (Zaw (k3.2 _ (Zmn hz2.2)) hg)
   have e':Zl n (D.l04Net.mk (D.Circuit.mk s'.1.Inputs s'.1.Gates) s'.2) (la.getD 0 0) x.1 x.2 = _:=e
   simp only
   rw [Zmk (by simp; omega),hg0]
   simp only [Zme]
   rw [get?_nat,get?_nat,hz2.1,hz2.2]
   simp only [Zme,e']
   rw [ZbG (by simp; omega)]
   simp only [Zme]
   rw [Zb (by omega) (by omega)]
   rfl
  ·simp only
   rw [Zmj (by simp; omega)]
 ·obtain ⟨la, r1, k1, hn1, rfl⟩ := KK1 hk
  obtain ⟨lb,r2,k2,hn2,rfl⟩:=KK1 hn1
  obtain rfl:=KK0 hn2
  have hA:=Yr ha
  have hB:=Yr hb'
  have hla:=k1.1
  have hlb:=k2.1
  unfold fin
  simp only [ZmH,Znr,g0,g1,Zme]
  rw [Zmj (by decide),Zmj (by decide),Zmj (by decide),Zmk (by rfl)]
  rw [Zmj (by omega),Zmj (by omega),Zmj (by omega),Zmk (by trivial)]
  rw [ZbG (by simp; omega)]
  simp only [Zme,ZnN]
  rw [ZbG (by omega)]
  rfl
 ·obtain ⟨la, r1, k1, hn1, rfl⟩ := KK1 hk
  obtain rfl:=KK0 hn1
  have hA:=Yr ha
  have hla:=k1.1
  unfold fin
  simp only [ZmH,g0,Zme]
  rw [Zmj (by decide),Zmj (by decide),Zmj (by decide),Zmj (by decide),Zmk (by rfl)]
  rw [Zmj (by omega),Zmj (by omega),Zmj (by omega),Zmj (by omega),Zmk (by trivial)]
  have:=ZhZ (l:=la) (m:=m.toNat) (w:=w.toNat) (by omega) (by omega)
  rw [show ((m.toNat:Nat):Int) = m by omega,eW] at this
  rw [this]
  rfl
 ·obtain ⟨la, r1, k1, hn1, rfl⟩ := KK1 hk
  obtain rfl:=KK0 hn1
  have hA:=Yr ha
  have hla:=k1.1
  have e:w64 (w - len la) = ((w.toNat - la.length:Nat):Int):=by rw [Za,Zb (by omega) (by omega)]; omega
  unfold fin
  simp only [ZmH,g0,Zme]
  rcases ho with rfl | rfl
  ·rw [Zmj (by decide), Zmj (by decide), Zmj (by decide), Zmj (by decide), Zmj (by decide), Zmk (by rfl)]
   rw [Zmj (by omega),Zmj (by omega),Zmj (by omega),Zmj (by omega),Zmj (by omega),Zmk (by trivial)]
   rw [ZbG (by simp; omega),e,Cc.spec_fill (by omega)]
   simp only [Zme,ZnN]
   rw [ZbG (by simp; omega)]
   rfl
  ·rw [Zmj (by decide), Zmj (by decide), Zmj (by decide), Zmj (by decide), Zmj (by decide), Zmj (by decide), Zmk (by rfl)]
   rw [Zmj (by omega),Zmj (by omega),Zmj (by omega),Zmj (by omega),Zmj (by omega),Zmj (by omega),Zmk (by trivial)]
   rw [ZbG (by simp; omega),Zks (by omega) (by omega)]
   simp only [Zme,ZnN]
   rw [e,Cc.spec_fill (by omega)]
   simp only [Zme]
   rw [ZbG (by simp; omega)]
   rfl
end
section
variable {vs:List D.Value} (hp:vs.Pairwise fun x y=>x.Name ≠ y.Name) (hw16:∀ v ∈ vs,v.W ≤ 16)
include hp hw16
theorem Zk7:∀ (n:Nat) (t:D.Term) (s:BS),1048600 + cnt t ≤ n → nodeB t = true → TV vs t → CircP s.1 → VF vs s.1 → ZP n (net s) t vs = some ((nP vs t s).1,net (nP vs t s).2):=by
  intro n
  induction n with
  | zero=>intro t s h; omega
  | succ n ih =>
    intro t s hn hb ht hs hv
    haveI:FU n:=⟨by omega⟩
    have hw:=Yr hb
    have hcn:=XO t
    have hlen:vs.length ≤ 30:=by have:=ZfO (l:=vs) (a:=0) hv.w1; have:=hv.sum; have:=hs.i1; omega
    have eW:((t.W.toNat:Nat):Int) = t.W:=by omega
    rw [ZP,Zio]
    by_cases h0:t.Op = 0
    · rw [Zmk (by simpa using h0), Zmk h0, ← eW, ZeD (by omega)]
      simp only [Zme,ZmQ]
    rw [Zmj (by simpa using h0),Zmj h0]
    by_cases h22:t.Op = 22
    · rw [Zmk (by simpa using h22), Zmk h22, at_loop (by omega) (fun v hv' => ⟨hv.w1 v hv', hw16 v hv'⟩)]
      simp only [Zme]
      have h1:=(Zjz (s:=t.Name) hv.w1 (a:=1))
      have h2:=Zcy (vs.map (·.W)) 1 0
      rw [show (1:Int) + 0 = 1 from rfl,hv.sum] at h2
      rw [h2] at h1
      have:=hs.i1
      rw [← eW,ZiA (by omega) h1.1 (by omega)]
      simp only [Zme,ZmQ]
      rfl
    rw [Zmj (by simpa using h22),Zmj h22]
    have hkg:∀ x ∈ t.Kids,∀ s:BS,CircP s.1 → VF vs s.1 → GoodL s x.W.toNat (nP vs x s):=fun x hx s' hs' hv'=>Zcp hp _ x s' (Zmy _) (nodeK hb x hx) (Zc9 ht h22 hx) hs' hv'
    obtain ⟨q1,q2,q3⟩:=Zch t.Kids s hkg hs hv
    have hkl:t.Kids.length ≤ 3:=by
      obtain ⟨op,w,m,nm,ks⟩:=t
      obtain ⟨-,hsh⟩:=YW hb
      rcases hsh with ⟨-,rfl,-⟩ | ⟨-,rfl,-⟩ | ⟨-,-,-,a,rfl,-⟩ | ⟨-,-,-,-,a,b,rfl,-⟩ | ⟨-,-,-,a,b,c,rfl,-⟩ | ⟨-,-,-,a,b,rfl,-⟩ | ⟨-,-,-,-,a,rfl,-⟩ | ⟨-,-,-,a,rfl,-⟩ <;> simp
    obtain ⟨r,g1,g2⟩:=Yd (l:=t.Kids) (n:=n) (σ:=List (List Int) × BS) (ρ:=(List (List Int)) × Int × Bool × (List D.Gate)) (B:=fun (s3:Int × (List (List Int)) × Int × Bool × (List D.Gate))=>
      if (decide (s3.1 < (len t.Kids))) then
       (get? t.Kids s3.1).bind fun x4=>
       (ZP n (D.l04Net.mk (D.Circuit.mk s3.2.2.1 s3.2.2.2.2) s3.2.2.2.1) x4 vs).bind fun x5=>
       (app? s3.2.1 ([x5.1]:List (List Int))).bind fun x6=>
       some (.inl ((w64 (s3.1 + 1)),x6,x5.2.c.Inputs,x5.2.full,x5.2.c.Gates))
      else
       some (.inr (s3.2.1,s3.2.2.1,s3.2.2.2.1,s3.2.2.2.2))) (fun k a=>((k:Int),a.1,a.2.1.Inputs,a.2.2,a.2.1.Gates))
      (fun ys a=>a.1 ++ (nPs vs ys a.2).1 = (nPs vs t.Kids s).1 ∧ (nPs vs ys a.2).2 = (nPs vs t.Kids s).2 ∧ CircP a.2.1 ∧ VF vs a.2.1 ∧ a.1.length + ys.length = t.Kids.length ∧ ∀ y ∈ ys,y ∈ t.Kids)
      (fun r=>r = ((nPs vs t.Kids s).1,(nPs vs t.Kids s).2.1.Inputs,(nPs vs t.Kids s).2.2,(nPs vs t.Kids s).2.1.Gates))
      (fun k x xs a hk hx hlen' ⟨h1,h2,h3,h4,h5,h6⟩=>by
        have hd:decide ((k:Int) < len t.Kids) = true:=by rw [Za]; simp; omega
        have hxk:=h6 x (by simp)
        have hc:=XT hxk
        have e:=ih x a.2 (by omega) (nodeK hb x hxk) (Zc9 ht h22 hxk) h3 h4
        have e':ZP n (D.l04Net.mk (D.Circuit.mk a.2.1.Inputs a.2.1.Gates) a.2.2) x vs = _:=e
        have g:=hkg x hxk a.2 h3 h4
        simp only [ZmC] at h5
        simp only [hd,Zm8,get?_nat,hx,Zme,e']
        rw [show app? a.1 [(nP vs x a.2).1] = some (a.1 ++ [(nP vs x a.2).1]) from by unfold app?; rw [Zmk (by simp; unfold room; omega)]]
        simp only [Zme]
        rw [Zb (by omega) (by omega)]
        rw [ZcO] at h1 h2
        exact .inl ⟨(a.1 ++ [(nP vs x a.2).1],(nP vs x a.2).2),rfl,by rw [← h1]; simp,h2,g.circ,h4.mono g.grow,by simp; omega,fun y hy=>h6 y (by simp [hy])⟩)
      (fun a ⟨h1,h2,h3,h4,h5,h6⟩=>by
        have hd:decide ((t.Kids.length:Int) < len t.Kids) = false:=by rw [Za]; simp
        simp only [hd,Zmg,Zmr]
        rw [ZfD] at h1 h2
        simp only [ZmO] at h1
        exact ⟨_,rfl,by rw [← h1,← h2]⟩) (a:=([],s)) ⟨by simp,rfl,hs,hv,by simp,fun _ h=>h⟩ (by omega)
    rw [show ((0:Nat):Int) = 0 from rfl] at g1
    have g1':=g1
    rw [show ((([]:List (List Int)),s).1) = [] from rfl] at g1'
    rw [show (net s).c.Inputs = s.1.Inputs from rfl,show (net s).full = s.2 from rfl,show (net s).c.Gates = s.1.Gates from rfl,g1',g2]
    simp only [Zme]
    exact Zk0 hb q1 h0 h22 q3
end
def wide1 (t:D.Term):Bool:=(t.Op == 2 || decide (3 ≤ t.Op ∧ t.Op ≤ 16)) && (match t.Kids with | a :: _=>a.W == 16 | []=>false)
mutual
def wideB:D.Term → Bool
 | ⟨op,w,m,nm,ks⟩=>wide1 ⟨op,w,m,nm,ks⟩ || wideBs ks
def wideBs:List D.Term → Bool
 | []=>false
 | t :: l=>wideB t || wideBs l
end
theorem Zcl (t:D.Term):wideB t = (wide1 t || wideBs t.Kids):=by cases t; rw [wideB]
theorem Zcb (t:D.Term) (l:List D.Term):wideBs (t :: l) = (wideB t || wideBs l):=by rw [wideBs]
theorem Zb6:wideBs [] = false:=by rw [wideBs]
theorem Zel {x:D.Term}:∀ {l:List D.Term},wideBs l = false → x ∈ l → wideB x = false
 | y :: l,h,hx=>by
  rw [Zcb,Zoc] at h
  rcases ZmF.1 hx with rfl | hx
  ·exact h.1
  ·exact Zel h.2 hx
theorem ZiD:∀ (n:Nat) (t:D.Term),1048600 + cnt t ≤ n → nodeB t = true → Xd n t = some (wideB t):=by
  intro n
  induction n with
  | zero=>intro t h; omega
  | succ n ih =>
    intro t hn hb
    have hcn:=XO t
    have hkl:t.Kids.length ≤ 3:=by
      obtain ⟨op,w,m,nm,ks⟩:=t
      obtain ⟨-,hsh⟩:=YW hb
      rcases hsh with ⟨-,rfl,-⟩ | ⟨-,rfl,-⟩ | ⟨-,-,-,a,rfl,-⟩ | ⟨-,-,-,-,a,b,rfl,-⟩ | ⟨-,-,-,a,b,c,rfl,-⟩ | ⟨-,-,-,a,b,rfl,-⟩ | ⟨-,-,-,-,a,rfl,-⟩ | ⟨-,-,-,a,rfl,-⟩ <;> simp
    have hone:((if (t.Op == 2) then some default else (Xw t.Op)).bind fun x1=>(if ((t.Op == 2) || x1) then (get? t.Kids 0) else some default).bind fun x2=>some (((t.Op == 2) || x1) && (x2.W == 16))) = some (wide1 t):=by
      have hk:(t.Op = 2 ∨ 3 ≤ t.Op ∧ t.Op ≤ 16) → ∃ a l,t.Kids = a :: l:=fun ho=>by
        obtain ⟨op,w,m,nm,ks⟩:=t
        obtain ⟨-,hsh⟩:=YW hb
        simp only at ho
        rcases hsh with ⟨rfl,-⟩ | ⟨rfl,-⟩ | ⟨-,-,-,a,rfl,-⟩ | ⟨-,-,-,-,a,b,rfl,-⟩ | ⟨rfl,-⟩ | ⟨rfl,-⟩ | ⟨rfl,-⟩ | ⟨h1,-⟩
        · omega
        · omega
        · exact ⟨_,_,rfl⟩
        · exact ⟨_,_,rfl⟩
        · omega
        · omega
        · omega
        · omega
      unfold wide1 Xw
      by_cases h2:t.Op = 2
      · obtain ⟨a, l, hl⟩ := hk (.inl h2)
        simp [h2,hl,g0]
      · have b2 : (t.Op == 2) = false := by simpa using h2
        by_cases h3:3 ≤ t.Op ∧ t.Op ≤ 16
        · obtain ⟨a, l, hl⟩ := hk (.inr h3)
          simp [b2,hl,g0,h3]
        · have : ¬ (t.Op ≥ 3 ∧ t.Op ≤ 16) := h3
          have e:(decide (t.Op ≥ 3) && decide (t.Op ≤ 16)) = false:=by simp; omega
          simp [b2,e,h3]
    rw [Xd,Zcl]
    obtain ⟨y1,hy1,hone⟩:=Znk.1 hone
    obtain ⟨y2,hy2,hone⟩:=Znk.1 hone
    rw [hy1]
    simp only [Zme]
    rw [hy2]
    simp only [Zme]
    rw [Option.some.inj hone]
    cases hw1:wide1 t
    · simp only [Zmg, Zmr, ZmI]
      obtain ⟨r,g1,g2⟩:=Yd (l:=t.Kids) (n:=n) (σ:=Unit) (ρ:=Unit ⊕ Bool) (B:=fun (s1:Int)=>
        if (decide (s1 < (len t.Kids))) then
         (get? t.Kids s1).bind fun x3=>
         (Xd n x3).bind fun x4=>
         if x4 then
          some (.inr (.inr true))
         else
          some (.inl ((w64 (s1 + 1))))
        else
         some (.inr (.inl ()))) (fun k _=>(k:Int)) (fun ys _=>wideBs ys = wideBs t.Kids ∧ ∀ y ∈ ys,y ∈ t.Kids) (fun r=>r = if wideBs t.Kids = true then (.inr true:Unit ⊕ Bool) else .inl ())
        (fun k x xs a hk hx hlen ⟨h1,h2⟩=>by
          have hd:decide ((k:Int) < len t.Kids) = true:=by rw [Za]; simp; omega
          have hxk:=h2 x (by simp)
          have hc:=XT hxk
          simp only [hd,Zm8,get?_nat,hx,Zme,ih x (by omega) (nodeK hb x hxk)]
          rw [Zcb] at h1
          cases hx':wideB x
          · rw [hx'] at h1
            simp only [ZmI] at h1
            simp only [Zmg,Zmr]
            exact .inl ⟨(),by rw [Zb (by omega) (by omega)]; rfl,h1,fun y hy=>h2 y (by simp [hy])⟩
          · rw [hx'] at h1
            simp only [ZnH] at h1
            exact .inr ⟨_,rfl,by rw [← h1]; rfl⟩)
        (fun a ⟨h1,_⟩=>by
          have hd:decide ((t.Kids.length:Int) < len t.Kids) = false:=by rw [Za]; simp
          simp only [hd,Zmg,Zmr]
          rw [Zb6] at h1
          exact ⟨_,rfl,by rw [← h1]; rfl⟩) (a:=()) ⟨rfl,fun _ h=>h⟩ (by omega)
      rw [show ((0:Nat):Int) = 0 from rfl] at g1
      rw [g1,g2]
      cases wideBs t.Kids <;> rfl
    · rfl
theorem Zgj {n:Nat} {x:Int} {w:Nat} (hw:w ≤ 16):∀ (d:Nat) (l:List Int),l.length + d = w → d < n → iterN (fun (s3:(List Int))=>
           if (decide ((len s3) < (w:Int))) then
            (app? s3 ([x]:List Int)).bind fun x24=>
            some (.inl (x24))
           else
            some (.inr (s3))
          ) n l = some (l ++ List.replicate d x)
  | 0, l, h, hn => by
    obtain ⟨n,rfl⟩ : ∃ j,n = j + 1:=⟨n - 1,by omega⟩
    rw [iterN]
    rw [Zmj (by rw [Za]; simp; omega)]
    simp
  | d + 1, l, h, hn => by
    obtain ⟨n,rfl⟩ : ∃ j,n = j + 1:=⟨n - 1,by omega⟩
    rw [iterN]
    rw [Zmk (by rw [Za]; simp; omega),ZbG (by simp; omega)]
    simp only [Zme]
    rw [Zgj hw d (l ++ [x]) (by simp; omega) (by omega)]
    rw [Zm9,ZmP,← Zof]
section
variable {n:Nat} [FU n] {s:BS}
def ifin (n:Nat) (p1:D.Term) (ls:List (List Int)) (m:D.builder):Option ((List Int) × D.builder):=
   (get? ls 0).bind fun x8=>
   if (p1.Op == 1) then
    (Yu n x8).bind fun x9=>
    some (x9,(D.builder.mk (D.Circuit.mk m.c.Inputs m.c.Gates) m.line m.full))
   else
    if (p1.Op == 2) then
     (Ym n p1.W 0).bind fun x10=>
     (ZB n (D.builder.mk (D.Circuit.mk m.c.Inputs m.c.Gates) m.line m.full) 4 x10 x8).bind fun x11=>
     some (x11.1,x11.2)
    else
     if (p1.Op == 17) then
      (mk? p1.W (0:Int)).bind fun x12 =>
      (iterN (fun (s2 : Int × (List Int) × Int × Bool × (List D.Gate) × (List (D.Gate × Int))) =>
       if (decide (s2.1 < (len x12))) then
        (get? x8 0).bind fun x13=>
        (get? ls 1).bind fun x14=>
        (get? x14 s2.1).bind fun x15=>
        (get? ls 2).bind fun x16=>
        (get? x16 s2.1).bind fun x17=>
        (Zc (D.builder.mk (D.Circuit.mk s2.2.2.1 s2.2.2.2.2.1) s2.2.2.2.2.2 s2.2.2.2.1) x13 x15 x17).bind fun x18=>
        (set? s2.2.1 s2.1 x18.1).bind fun x19=>
        some (.inl ((w64 (s2.1 + 1)),x19,x18.2.c.Inputs,x18.2.full,x18.2.c.Gates,x18.2.line))
       else
        some (.inr (s2.2.1,s2.2.2.1,s2.2.2.2.1,s2.2.2.2.2.1,s2.2.2.2.2.2))
      ) n (0,x12,m.c.Inputs,m.full,m.c.Gates,m.line)).bind fun (rl2:(List Int) × Int × Bool × (List D.Gate) × (List (D.Gate × Int)))=>
      some (rl2.1,(D.builder.mk (D.Circuit.mk rl2.2.1 rl2.2.2.2.1) rl2.2.2.2.2 rl2.2.2.1))
     else
      if (p1.Op == 18) then
       (get? ls 1).bind fun x20=>
       (app? x20 x8).bind fun x21=>
       some (x21,(D.builder.mk (D.Circuit.mk m.c.Inputs m.c.Gates) m.line m.full))
      else
       if (p1.Op == 19) then
        (cut? x8 p1.N (w64 (p1.N + p1.W))).bind fun x22=>
        some (x22,(D.builder.mk (D.Circuit.mk m.c.Inputs m.c.Gates) m.line m.full))
       else
        if ((p1.Op == 20) || (p1.Op == 21)) then
         if (p1.Op == 21) then
          (get? x8 (w64 ((len x8) - 1))).bind fun x23 =>
          (iterN (fun (s3 : (List Int)) =>
           if (decide ((len s3) < p1.W)) then
            (app? s3 ([x23]:List Int)).bind fun x24=>
            some (.inl (x24))
           else
            some (.inr (s3))
          ) n (x8)).bind fun (rl3:(List Int))=>
          some (rl3,(D.builder.mk (D.Circuit.mk m.c.Inputs m.c.Gates) m.line m.full))
         else
          (iterN (fun (s4 : (List Int)) =>
           if (decide ((len s4) < p1.W)) then
            (app? s4 ([(-1)]:List Int)).bind fun x25=>
            some (.inl (x25))
           else
            some (.inr (s4))
          ) n (x8)).bind fun (rl4:(List Int))=>
          some (rl4,(D.builder.mk (D.Circuit.mk m.c.Inputs m.c.Gates) m.line m.full))
        else
         (get? ls 1).bind fun x26=>
         (ZB n (D.builder.mk (D.Circuit.mk m.c.Inputs m.c.Gates) m.line m.full) p1.Op x8 x26).bind fun x27=>
         some (x27.1,x27.2)
theorem Zk8 {t:D.Term} {ls:List (List Int)} {m:D.builder} (hb:nodeB t = true) (hwd:wide1 t = false) (hs:CircP s.1) (hm:RelB m s) (h0:t.Op ≠ 0) (h22:t.Op ≠ 22) (hk:KK s t.Kids ls):∃ m',ifin n t ls m = some ((fin t.Op t.W.toNat t.N.toNat ls s).1,m') ∧ RelB m' (fin t.Op t.W.toNat t.N.toNat ls s).2:=by
  obtain ⟨op,w,mm,nm,ks⟩:=t
  obtain ⟨hw,hsh⟩:=YW hb
  simp only at h0 h22 hk ⊢
  have eW:((w.toNat:Nat):Int) = w:=by omega
  unfold ifin
  simp only
  rcases hsh with ⟨rfl,-⟩ | ⟨rfl,-⟩ | ⟨ho,-,-,a,rfl,ha,haw⟩ | ⟨h3,h16,-,-,a,b,rfl,ha,hb',hab,h13,h14⟩ | ⟨rfl,-,-,a,b,c,rfl,ha,hb',hc,ha1,hbw,hcw⟩ | ⟨rfl,-,-,a,b,rfl,ha,hb',habw⟩ | ⟨rfl,-,hm0,hm1,a,rfl,ha,haw⟩ | ⟨ho,-,-,a,rfl,ha,haw⟩
  · exact absurd rfl h0
  · exact absurd rfl h22
  · obtain ⟨la, r1, k1, hn1, rfl⟩ := KK1 hk
    obtain rfl:=KK0 hn1
    have hl:la.length = w.toNat:=by rw [k1.1,haw]
    rw [g0]
    simp only [Zme]
    unfold fin
    simp only [ZmH]
    rcases ho with rfl | rfl
    · rw [Zmk (by rfl), Zmk (by trivial), Cc.impl_opp hs.lines1 (by omega) k1.2]
      exact ⟨m,rfl,hm⟩
    · have hne:¬ w.toNat = 16:=fun e=>by
        have:a.W = 16:=by omega
        simp [wide1,this] at hwd
      rw [Zmj (by decide),Zmk (by rfl),Zmj (by decide),Zmk (by trivial),← eW,Zeu (by omega),ZeK]
      simp only [Zme,ZmQ]
      rw [Zmj hne]
      obtain ⟨m',e,r⟩:=Cc.impl_op (fuel:=n) hs (op:=4) (a:=List.replicate w.toNat (-1)) (b:=la) (by omega) (by simp [hl]) (by simp; omega) (by simp; omega) (Zdf hs) k1.2 hm
      have e':ZB n (D.builder.mk (D.Circuit.mk m.c.Inputs m.c.Gates) m.line m.full) 4 (List.replicate w.toNat (-1)) la = _:=e
      rw [e']
      exact ⟨m',rfl,r⟩
  · obtain ⟨la, r1, k1, hn1, rfl⟩ := KK1 hk
    obtain ⟨lb,r2,k2,hn2,rfl⟩:=KK1 hn1
    obtain rfl:=KK0 hn2
    have hA:=Yr ha
    have hla:=k1.1
    have hne:¬ la.length = 16:=fun e=>by
      have:a.W = 16:=by omega
      simp [wide1,this] at hwd
      omega
    unfold fin
    simp only [ZmH,Znr,g0,g1,Zme]
    have bb:∀ k:Int,k ≤ 2 ∨ 17 ≤ k → (op == k) = false:=fun k hk=>by simp; omega
    have cc:∀ k:Int,k ≤ 2 ∨ 17 ≤ k → ¬ op = k:=fun k hk=>by omega
    simp only [bb 1 (by omega),bb 2 (by omega),bb 17 (by omega),bb 18 (by omega),bb 19 (by omega),bb 20 (by omega),bb 21 (by omega),cc 1 (by omega),cc 2 (by omega),cc 17 (by omega),cc 18 (by omega),cc 19 (by omega),cc 20 (by omega),cc 21 (by omega),Zmg,Zmr,ZnC]
    rw [Zmj hne]
    obtain ⟨m',e,r⟩:=Cc.impl_op (fuel:=n) hs (op:=op) (a:=la) (b:=lb) ⟨h3,h16⟩ (by rw [k1.1,k2.1,hab]) (by omega) (by omega) k1.2 k2.2 hm
    have e':ZB n (D.builder.mk (D.Circuit.mk m.c.Inputs m.c.Gates) m.line m.full) op la lb = _:=e
    rw [e']
    exact ⟨m',rfl,r⟩
  · obtain ⟨la, r1, k1, hn1, rfl⟩ := KK1 hk
    obtain ⟨lb,r2,k2,hn2,rfl⟩:=KK1 hn1
    obtain ⟨lc,r3,k3,hn3,rfl⟩:=KK1 hn2
    obtain rfl:=KK0 hn3
    unfold fin
    simp only [ZmH,Znr,g0,g1,g2,Zme]
    rw [Zmj (by decide),Zmj (by decide),Zmk (by rfl)]
    rw [Zmj (by omega),Zmj (by omega),Zmk (by trivial)]
    have hla:=k1.1
    have hlb:=k2.1
    have hlc:=k3.1
    rw [ha1] at hla
    rw [hbw] at hlb
    rw [hcw] at hlc
    have hl1:la.length = 1:=by simpa using hla
    have hg0:get? la 0 = some (la.getD 0 0):=by
      obtain ⟨z,hz⟩:=Zor.1 hl1
      rw [hz]; rfl
    have hc0:litN (lines s.1) (la.getD 0 0) = true:=k1.2 _ (Cc.getD_mem (by omega))
    have hz:(lb.zip lc).length = w.toNat:=by rw [Znq,hlb,hlc,Zow]
    rw [show mk? w (0:Int) = some (List.replicate w.toNat 0) from by unfold mk?; rw [Zmk ⟨by omega,by unfold room; omega⟩]]
    simp only [Zme]
    obtain ⟨m',e,r⟩:=Cc.impl_seq (fuel:=n) (B:=(fun (s2:Int × (List Int) × Int × Bool × (List D.Gate) × (List (D.Gate × Int)))=>
       if (decide (s2.1 < (len (List.replicate w.toNat (0:Int))))) then
        (get? la 0).bind fun x13=>
        (get? lb s2.1).bind fun x15=>
        (get? lc s2.1).bind fun x17=>
        (Zc (D.builder.mk (D.Circuit.mk s2.2.2.1 s2.2.2.2.2.1) s2.2.2.2.2.2 s2.2.2.2.1) x13 x15 x17).bind fun x18=>
        (set? s2.2.1 s2.1 x18.1).bind fun x19=>
        some (.inl ((w64 (s2.1 + 1)),x19,x18.2.c.Inputs,x18.2.full,x18.2.c.Gates,x18.2.line))
       else
        some (.inr (s2.2.1,s2.2.2.1,s2.2.2.2.1,s2.2.2.2.2.1,s2.2.2.2.2.2)))) hs (by omega) (Zkx hs hc0 k2.2 k3.2) (L0:=List.replicate w.toNat 0) (by rw [hz,ZmV]) (fun j L m1 s' x hx hc' hg hr hL _=>by
          have hj:j < w.toNat:=by have:=(Zmi.1 hx).1; omega
          have hz2:=Cc.zip_mem hx
          obtain ⟨m4,e4,r4⟩:=Cc.impl_if hc' (Zaw hc0 hg) (Zaw (k2.2 _ (Zmn hz2.1)) hg) (Zaw (k3.2 _ (Zmn hz2.2)) hg) m1 hr
          have e4':Zc (D.builder.mk (D.Circuit.mk m1.c.Inputs m1.c.Gates) m1.line m1.full) (la.getD 0 0) x.1 x.2 = _:=e4
          refine ⟨m4,?_,r4⟩
          simp only
          rw [Zmk (by rw [Za]; simp; omega),hg0]
          simp only [Zme]
          rw [get?_nat,get?_nat,hz2.1,hz2.2]
          simp only [Zme,e4']
          rw [set?_nat (by omega)]
          simp only [Zme]
          rw [Zb (by omega) (by omega)]
          rfl) (fun L m1=>by
          simp only
          rw [Zmj (by rw [Za]; simp; omega)]) hm
    rw [e]
    exact ⟨m',rfl,r⟩
  · obtain ⟨la, r1, k1, hn1, rfl⟩ := KK1 hk
    obtain ⟨lb,r2,k2,hn2,rfl⟩:=KK1 hn1
    obtain rfl:=KK0 hn2
    have hA:=Yr ha
    have hB:=Yr hb'
    have hla:=k1.1
    have hlb:=k2.1
    unfold fin
    simp only [ZmH,Znr,g0,g1,Zme]
    rw [Zmj (by decide),Zmj (by decide),Zmj (by decide),Zmk (by rfl)]
    rw [Zmj (by omega),Zmj (by omega),Zmj (by omega),Zmk (by trivial)]
    rw [ZbG (by omega)]
    exact ⟨m,rfl,hm⟩
  · obtain ⟨la, r1, k1, hn1, rfl⟩ := KK1 hk
    obtain rfl:=KK0 hn1
    have hA:=Yr ha
    have hla:=k1.1
    unfold fin
    simp only [ZmH,g0,Zme]
    rw [Zmj (by decide),Zmj (by decide),Zmj (by decide),Zmj (by decide),Zmk (by rfl)]
    rw [Zmj (by omega),Zmj (by omega),Zmj (by omega),Zmj (by omega),Zmk (by trivial)]
    have:=ZhZ (l:=la) (m:=mm.toNat) (w:=w.toNat) (by omega) (by omega)
    rw [show ((mm.toNat:Nat):Int) = mm by omega,eW] at this
    rw [this]
    exact ⟨m,rfl,hm⟩
  · obtain ⟨la, r1, k1, hn1, rfl⟩ := KK1 hk
    obtain rfl:=KK0 hn1
    have hA:=Yr ha
    have hla:=k1.1
    have hpad:∀ x:Int,_:=fun x=>Zgj (n:=n) (x:=x) (w:=w.toNat) (by omega) (w.toNat - la.length) la (by omega) (by have:=FU.le (n:=n); omega)
    rw [eW] at hpad
    unfold fin
    simp only [ZmH,g0,Zme]
    rcases ho with rfl | rfl
    · rw [Zmj (by decide), Zmj (by decide), Zmj (by decide), Zmj (by decide), Zmj (by decide), Zmk (by rfl), Zmj (by decide)]
      rw [Zmj (by omega),Zmj (by omega),Zmj (by omega),Zmj (by omega),Zmj (by omega),Zmk (by trivial)]
      rw [hpad]
      exact ⟨m,rfl,hm⟩
    · rw [Zmj (by decide), Zmj (by decide), Zmj (by decide), Zmj (by decide), Zmj (by decide), Zmk (by rfl), Zmk (by rfl)]
      rw [Zmj (by omega),Zmj (by omega),Zmj (by omega),Zmj (by omega),Zmj (by omega),Zmj (by omega),Zmk (by trivial)]
      rw [Zks (by omega) (by omega)]
      simp only [Zme]
      rw [hpad]
      exact ⟨m,rfl,hm⟩
end
def MapOk (vs:List D.Value) (mp:List (Str × List Int)):Prop:=∀ v ∈ vs,v.Name.bytes.length ≤ 1000 ∧ (mp.lookup v.Name).getD [] = varL vs v.Name v.W.toNat
section
variable {vs:List D.Value} (hp:vs.Pairwise fun x y=>x.Name ≠ y.Name) {mp:List (Str × List Int)} (hmp:MapOk vs mp)
include hp hmp
theorem ZjD:∀ (n:Nat) (t:D.Term) (s:BS) (m:D.builder),1048600 + cnt t ≤ n → nodeB t = true → wideB t = false → TV vs t → CircP s.1 → VF vs s.1 → RelB m s → ∃ m',ZO n m t (some mp) = some ((nP vs t s).1,m') ∧ RelB m' (nP vs t s).2:=by
  intro n
  induction n with
  | zero=>intro t s m h; omega
  | succ n ih =>
    intro t s m hn hb hwd ht hs hv hm
    haveI:FU n:=⟨by omega⟩
    have hw:=Yr hb
    have hcn:=XO t
    have eW:((t.W.toNat:Nat):Int) = t.W:=by omega
    rw [Zcl,Zoc] at hwd
    rw [ZO,Zio]
    by_cases h0:t.Op = 0
    · rw [Zmk (by simpa using h0), Zmk h0, ← eW, Zeu (by omega)]
      simp only [Zme,ZmQ]
      exact ⟨m,rfl,hm⟩
    rw [Zmj (by simpa using h0),Zmj h0]
    by_cases h22:t.Op = 22
    · rw [Zmk (by simpa using h22), Zmk h22]
      obtain ⟨v,hv1,hv2,hv3⟩:=ht (t.Name,t.W) (by rw [Zbe,Zmk h22]; simp)
      simp only at hv2 hv3
      obtain ⟨q1,q2⟩:=hmp v hv1
      rw [hv2] at q1 q2
      rw [hv3] at q2
      have e:mgeto? fitS ([]:List Int) (some mp) t.Name = some (varL vs t.Name t.W.toNat):=by
        unfold mgeto? mget?
        rw [Zmk (by unfold fitS; simp; omega)]
        exact congrArg some q2
      rw [e]
      simp only [Zme]
      rw [show Ze (varL vs t.Name t.W.toNat) = some (varL vs t.Name t.W.toNat) from by unfold Ze; rw [ZbG (by rw [ZgM]; simp; omega)]; rfl]
      exact ⟨m,rfl,hm⟩
    rw [Zmj (by simpa using h22),Zmj h22]
    have hkg:∀ x ∈ t.Kids,∀ s:BS,CircP s.1 → VF vs s.1 → GoodL s x.W.toNat (nP vs x s):=fun x hx s' hs' hv'=>Zcp hp _ x s' (Zmy _) (nodeK hb x hx) (Zc9 ht h22 hx) hs' hv'
    obtain ⟨q1,q2,q3⟩:=Zch t.Kids s hkg hs hv
    have hkl:t.Kids.length ≤ 3:=by
      obtain ⟨op,w,m,nm,ks⟩:=t
      obtain ⟨-,hsh⟩:=YW hb
      rcases hsh with ⟨-,rfl,-⟩ | ⟨-,rfl,-⟩ | ⟨-,-,-,a,rfl,-⟩ | ⟨-,-,-,-,a,b,rfl,-⟩ | ⟨-,-,-,a,b,c,rfl,-⟩ | ⟨-,-,-,a,b,rfl,-⟩ | ⟨-,-,-,-,a,rfl,-⟩ | ⟨-,-,-,a,rfl,-⟩ <;> simp
    rw [show mk? (len t.Kids) (([]:List Int):List Int) = some (List.replicate t.Kids.length []) from by rw [Za]; unfold mk?; rw [Zmk ⟨by omega,by unfold room; omega⟩]; simp]
    simp only [Zme]
    obtain ⟨r,g1,m',rfl,g2⟩:=Yd (l:=t.Kids) (n:=n) (σ:=List (List Int) × D.builder) (ρ:=Int × Bool × (List D.Gate) × (List (D.Gate × Int)) × (List (List Int))) (B:=fun (s1:Int × Int × Bool × (List D.Gate) × (List (D.Gate × Int)) × (List (List Int)))=>
      if (decide (s1.1 < (len t.Kids))) then
       (get? t.Kids s1.1).bind fun x5=>
       (ZO n (D.builder.mk (D.Circuit.mk s1.2.1 s1.2.2.2.1) s1.2.2.2.2.1 s1.2.2.1) x5 (some mp)).bind fun x6=>
       (set? s1.2.2.2.2.2 s1.1 x6.1).bind fun x7=>
       some (.inl ((w64 (s1.1 + 1)),x6.2.c.Inputs,x6.2.full,x6.2.c.Gates,x6.2.line,x7))
      else
       some (.inr (s1.2.1,s1.2.2.1,s1.2.2.2.1,s1.2.2.2.2.1,s1.2.2.2.2.2))) (fun k a=>((k:Int),a.2.c.Inputs,a.2.full,a.2.c.Gates,a.2.line,a.1))
      (fun ys a=>∃ (pre:List (List Int)) (s':BS),a.1 = pre ++ List.replicate ys.length [] ∧ pre ++ (nPs vs ys s').1 = (nPs vs t.Kids s).1 ∧ (nPs vs ys s').2 = (nPs vs t.Kids s).2 ∧ RelB a.2 s' ∧ CircP s'.1 ∧ VF vs s'.1 ∧ pre.length + ys.length = t.Kids.length ∧ ∀ y ∈ ys,y ∈ t.Kids)
      (fun r=>∃ m':D.builder,r = (m'.c.Inputs,m'.full,m'.c.Gates,m'.line,(nPs vs t.Kids s).1) ∧ RelB m' (nPs vs t.Kids s).2)
      (fun k x xs a hk hx hlen' ⟨pre,s',h0,h1,h2,hr,h3,h4,h5,h6⟩=>by
        have hd:decide ((k:Int) < len t.Kids) = true:=by rw [Za]; simp; omega
        have hxk:=h6 x (by simp)
        have hc:=XT hxk
        obtain ⟨m1,e,r1⟩:=ih x s' a.2 (by omega) (nodeK hb x hxk) (Zel hwd.2 hxk) (Zc9 ht h22 hxk) h3 h4 hr
        have e':ZO n (D.builder.mk (D.Circuit.mk a.2.c.Inputs a.2.c.Gates) a.2.line a.2.full) x (some mp) = _:=e
        have g:=hkg x hxk s' h3 h4
        simp only [ZmC] at h5 hlen'
        have hpk:pre.length = k:=by omega
        have hset:set? a.1 (k:Int) (nP vs x s').1 = some ((pre ++ [(nP vs x s').1]) ++ List.replicate xs.length []):=by
          rw [h0,set?_nat (by simp; omega),Zni _ _ (by omega),hpk,ZnB,ZmC,Zof,Zn7,Zm9,ZmP]
        simp only [hd,Zm8,get?_nat,hx,Zme,e',hset]
        rw [Zb (by omega) (by omega)]
        rw [ZcO] at h1 h2
        exact .inl ⟨((pre ++ [(nP vs x s').1]) ++ List.replicate xs.length [],m1),rfl,pre ++ [(nP vs x s').1],(nP vs x s').2,rfl,by rw [← h1]; simp,h2,r1,g.circ,h4.mono g.grow,by simp; omega,fun y hy=>h6 y (by simp [hy])⟩)
      (fun a ⟨pre,s',h0,h1,h2,hr,h3,h4,h5,h6⟩=>by
        have hd:decide ((t.Kids.length:Int) < len t.Kids) = false:=by rw [Za]; simp
        simp only [hd,Zmg,Zmr]
        rw [ZfD] at h1 h2
        simp only [ZmO,Zn2,List.replicate_zero] at h1 h0
        exact ⟨_,rfl,a.2,by rw [h0,h1],by rw [← h2]; exact hr⟩) (a:=(List.replicate t.Kids.length [],m)) ⟨[],s,by simp,by simp,rfl,hm,hs,hv,by simp,fun _ h=>h⟩ (by omega)
    rw [show ((0:Nat):Int) = 0 from rfl] at g1
    rw [show ((List.replicate t.Kids.length ([]:List Int),m).2) = m from rfl,show ((List.replicate t.Kids.length ([]:List Int),m).1) = List.replicate t.Kids.length [] from rfl] at g1
    rw [g1]
    simp only [Zme]
    exact Zk8 hb hwd.1 q1 g2 h0 h22 q3
end
open Cc (BS LS CircP Grow GoodL Good litN lines negs seqP ifP opP net RelB FOk FU andP orP xorP addP accP mulK divK shP shK)
theorem Zbl {s:BS} {a b:Int} (h:s.2 = true):(andP s a b).2.2 = true:=by
 unfold andP
 split
 ·exact h
 split
 ·exact h
 split
 ·exact h
 split
 ·exact h
 split
 ·rfl
 ·exact h
theorem Zgm {s:BS} {a b:Int} (h:s.2 = true):(orP s a b).2.2 = true:=Zbl h
theorem ZfJ {s:BS} {a b:Int} (h:s.2 = true):(xorP s a b).2.2 = true:=Zgm (Zbl (Zbl h))
theorem Zit {s:BS} {c a b:Int} (h:s.2 = true):(ifP s c a b).2.2 = true:=Zgm (Zbl (Zbl h))
theorem ZkH {α:Type} {f:BS → α → Int × BS} (hf:∀ s x,s.2 = true → (f s x).2.2 = true):∀ {l:List α} {t:LS},t.2.2 = true → (l.foldl (fun t x=>(t.1 ++ [(f t.2 x).1],(f t.2 x).2)) t).2.2 = true
 | [],t,h=>h
 | x :: l,t,h=>ZkH hf (l:=l) (t:=(t.1 ++ [(f t.2 x).1],(f t.2 x).2)) (hf _ _ h)
theorem Zbh {α:Type} {f:BS → α → Int × BS} (hf:∀ s x,s.2 = true → (f s x).2.2 = true) {l:List α} {s:BS} (h:s.2 = true):(seqP f s l).2.2 = true:=ZkH hf (t:=([],s)) h
theorem Zic {α:Type} {f:BS → Int → α → Int × BS} (hf:∀ s c x,s.2 = true → (f s c x).2.2 = true):∀ {l:List α} {s:BS} {c:Int},s.2 = true → (accP f s c l).2.2 = true:=by
 have:∀ {l:List α} {t:Int × BS},t.2.2 = true → (l.foldl (fun t x=>f t.2 t.1 x) t).2.2 = true:=fun {l}=>by
  induction l with
  | nil=>intro t h; exact h
  | cons x l ih=>intro t h; exact ih (hf _ _ _ h)
 exact fun {l s c} h=>this (t:=(c,s)) h
theorem Zd6 {s:BS} {a b:List Int} {c:Int} (h:s.2 = true):(addP s a b c).2.2.2 = true:=by
 have:∀ {l:List (Int × Int)} {t:Cc.AS},t.2.2.2 = true → (l.foldl Cc.addStep t).2.2.2 = true:=fun {l}=>by
  induction l with
  | nil=>intro t h; exact h
  | cons x l ih=>intro t h; exact ih (Zgm (Zbl (Zbl (ZfJ (ZfJ h)))))
 exact this (t:=([],c,s)) h
theorem Zke {s:BS} {a b:List Int} (h:s.2 = true):∀ k,(mulK s a b k).2.2 = true
 | 0=>h
 | k + 1=>by rw [Cc.mulK_succ]; exact Zd6 (Zbh (fun s x h=>Zbl h) (Zke h k))
theorem ZhH {s:BS} {a b:List Int} (h:s.2 = true):∀ k,(divK s a b k).2.2.2 = true
 | 0=>h
 | k + 1=>by rw [Cc.divK_succ]; exact Zbh (fun s x h=>Zit h) (Zd6 (ZhH h k))
theorem Zkw {s:BS} {a b:List Int} {L:Bool} {fill:Int} (h:s.2 = true):∀ k,(shK s a b L fill k).2.2 = true
 | 0=>h
 | k + 1=>by rw [Cc.shK_succ]; exact Zbh (fun s x h=>Zit h) (Zkw h k)
theorem Zj8 {s:BS} {a b:List Int} {L:Bool} {fill:Int} (h:s.2 = true):(shP s a b L fill).2.2 = true:=Zbh (fun s x h=>Zit h) (Zic (fun s c x h=>Zgm h) (Zkw h _))
theorem Xo {c:Prop} [Decidable c] {x y:LS} (h1:x.2.2 = true) (h2:y.2.2 = true):(if c then x else y).2.2 = true:=by split <;> assumption
theorem ZlW {s:BS} {op:Int} {a b:List Int} (h:s.2 = true):(opP s op a b).2.2 = true:=by
 unfold opP
 exact Xo (Zd6 h) (Xo (Zd6 h) (Xo (Zke h _) (Xo (ZhH h _) (Xo (ZhH h _) (Xo (Zbh (fun s x h=>Zbl h) h) (Xo (Zbh (fun s x h=>Zgm h) h) (Xo (Zbh (fun s x h=>ZfJ h) h) (Xo (Zj8 h) (Xo (Zj8 h) (Xo (Zj8 h) (Xo (Zic (fun s c x h=>Zbl (ZfJ h)) h) (Xo (Zd6 h) (Zd6 h)))))))))))))
theorem Zj4 {op:Int} {w m:Nat} {ls:List (List Int)} {s:BS} (h:s.2 = true):(fin op w m ls s).2.2 = true:=by
 unfold fin
 repeat' split
 all_goals first | exact h | rfl | exact ZlW h | exact Zbh (fun s x h=>Zit h) h
mutual
theorem Zmc (vs:List D.Value):∀ (t:D.Term) (s:BS),s.2 = true → (nP vs t s).2.2 = true
 | ⟨op,w,m,nm,ks⟩,s,h=>by
  rw [nP]
  split
  ·exact h
  split
  ·exact h
  ·exact Zj4 (Zhw vs ks s h)
theorem Zhw (vs:List D.Value):∀ (l:List D.Term) (s:BS),s.2 = true → (nPs vs l s).2.2 = true
 | [],s,h=>by rw [nPs]; exact h
 | t :: l,s,h=>by rw [nPs]; exact Zhw vs l _ (Zmc vs t s h)
end
theorem Zi4 {vs:List D.Value} (hp:vs.Pairwise fun x y=>x.Name ≠ y.Name):∀ (n:Nat) (t:D.Term) (s:BS),cnt t ≤ n → nodeB t = true → wideB t = true → TV vs t → CircP s.1 → VF vs s.1 → (nP vs t s).2.2 = true:=by
 intro n
 induction n with
 | zero=>intro t s h; have:=XO t; omega
 | succ n ih=>
  intro t s hc hb hwd ht hs hv
  have hcn:=XO t
  rw [Zio]
  by_cases h0:t.Op = 0
  ·exfalso
   obtain ⟨op,w,m,nm,ks⟩:=t
   obtain ⟨-,hsh⟩:=YW hb
   simp only at h0
   subst h0
   rcases hsh with ⟨-,rfl,-⟩ | ⟨h,-⟩ | ⟨h,-⟩ | ⟨h,-⟩ | ⟨h,-⟩ | ⟨h,-⟩ | ⟨h,-⟩ | ⟨h,-⟩
   ·rw [Zcl] at hwd; simp [wide1,Zb6] at hwd
   all_goals omega
  rw [Zmj h0]
  by_cases h22:t.Op = 22
  ·exfalso
   obtain ⟨op,w,m,nm,ks⟩:=t
   obtain ⟨-,hsh⟩:=YW hb
   simp only at h22
   subst h22
   rcases hsh with ⟨h,-⟩ | ⟨-,rfl,-⟩ | ⟨h,-⟩ | ⟨-,h,-⟩ | ⟨h,-⟩ | ⟨h,-⟩ | ⟨h,-⟩ | ⟨h,-⟩
   ·omega
   ·rw [Zcl] at hwd; simp [wide1,Zb6] at hwd
   all_goals omega
  rw [Zmj h22]
  have hkg:∀ x ∈ t.Kids,∀ s:BS,CircP s.1 → VF vs s.1 → GoodL s x.W.toNat (nP vs x s):=fun x hx s' hs' hv'=>Zcp hp _ x s' (Zmy _) (nodeK hb x hx) (Zc9 ht h22 hx) hs' hv'
  obtain ⟨q1,q2,q3⟩:=Zch t.Kids s hkg hs hv
  rw [Zcl,ZmU] at hwd
  rcases hwd with hwd | hwd
  ·
   obtain ⟨op,w,m,nm,ks⟩:=t
   obtain ⟨hw,hsh⟩:=YW hb
   unfold wide1 at hwd
   simp only [Zml,ZmU,Znj,Zmp] at hwd
   obtain ⟨ho,hk⟩:=hwd
   simp only at h0 h22 q1 q2 q3 ⊢
   rcases hsh with ⟨rfl,-⟩ | ⟨rfl,-⟩ | ⟨ho',-,-,a,rfl,ha,haw⟩ | ⟨h3,h16,-,-,a,b,rfl,ha,hb',hab,h13,h14⟩ | ⟨rfl,-⟩ | ⟨rfl,-⟩ | ⟨rfl,-⟩ | ⟨ho',-⟩
   ·omega
   ·omega
   ·have h2 : op = 2 := by omega
    subst h2
    simp only [Znj] at hk
    unfold fin
    rw [Zmj (by omega),Zmk rfl,Zmk (by omega)]
   ·simp only [Znj] at hk
    obtain ⟨la,r1,k1,hn1,e⟩:=KK1 q3
    have hl:((nPs vs [a,b] s).1.getD 0 []).length = 16:=by rw [e,ZmH,k1.1,hk]; rfl
    unfold fin
    rw [Zmj (by omega),Zmj (by omega),Zmj (by omega),Zmj (by omega),Zmj (by omega),Zmj (by omega),Zmj (by omega),Zmk hl]
   all_goals omega
  ·refine Zj4 ?_
   have:∀ (l:List D.Term) (s:BS),(∀ x ∈ l,x ∈ t.Kids) → wideBs l = true → CircP s.1 → VF vs s.1 → (nPs vs l s).2.2 = true:=fun l=>by
    induction l with
    | nil=>intro s _ h; rw [Zb6] at h; cases h
    | cons x l ihl=>
     intro s hm h hs' hv'
     rw [Zcb,ZmU] at h
     rw [ZcO]
     have hx:=hm x (by simp)
     have g:=hkg x hx s hs' hv'
     rcases h with h | h
     ·exact Zhw vs l _ (ih x s (by have:=XT hx; omega) (nodeK hb x hx) h (Zc9 ht h22 hx) hs' hv')
     ·exact ihl _ (fun y hy=>hm y (by simp [hy])) h g.circ (hv'.mono g.grow)
   exact this t.Kids s (fun _ h=>h) hwd hs hv
theorem Ze6 {t:D.Term} (h:nodeB t = true) (ho:t.Op = 22):t.Name.bytes.length ≤ 8 ∧ t.Kids = []:=by
 rw [Zbc,Zml] at h
 have h:=h.1
 unfold locB shB at h
 simp only [ho,Zml] at h
 have h:=h.2
 simp [nameB] at h
 exact ⟨by omega,by simpa using h.1⟩
theorem collect:∀ (n:Nat) (t:D.Term) (g:List (Str × Int)),nodeB t = true → msz t ≤ 1048576 → g.length + (vrs t).length ≤ 1000 → 1048580 + cnt t ≤ n → Yh n t (some g) = some (some ((vrs t).reverse ++ g)):=by
 intro n
 induction n with
 | zero=>intro t g _ _ _ _; omega
 | succ n ih=>
  intro t g hb hs hg hn
  have hz:=Zba t
  have hcn:=XO t
  rw [Yh]
  by_cases o1:t.Op = 22
  ·obtain ⟨h1, h2⟩ := Ze6 hb o1
   have hv:vrs t = [(t.Name,t.W)]:=by rw [Zbe,Zmk o1]
   have c1:(t.Op == 22) = true:=by simpa using o1
   have hw:=Yr hb
   rw [hv] at hg
   simp only [c1,Zm8,Zme,put1 (g:=g) (s:=t.Name) (by omega) hw (by simp at hg; omega)]
   obtain ⟨m,rfl⟩ : ∃ m,n = m + 1:=⟨n - 1,by omega⟩
   rw [h2,hv]
   rfl
  ·have c1 : (t.Op == 22) = false := by simpa using o1
   have hv:vrs t = vrss t.Kids:=by rw [Zbe,Zmj o1]
   simp only [c1,Zmg,Zmr]
   rw [Zbc,Zml,Y6,Zms] at hb
   rw [hv] at hg ⊢
   obtain ⟨r,g1,g2⟩:=Yd (l:=t.Kids) (n:=n) (σ:=Option (List (Str × Int))) (ρ:=Option (List (Str × Int))) (B:=fun (s2:Int × (Option (List (Str × Int))))=>
     if (decide (s2.1 < (len t.Kids))) then
      (get? t.Kids s2.1).bind fun x5=>
      (Yh n x5 s2.2).bind fun x6=>
      some (.inl ((w64 (s2.1 + 1)),x6))
     else
      some (.inr (s2.2))) (fun k a=>((k:Int),a)) (fun ys a=>∃ ga,a = some ga ∧ (vrss ys).reverse ++ ga = (vrss t.Kids).reverse ++ g ∧ ga.length + (vrss ys).length ≤ 1000 ∧ ∀ x ∈ ys,x ∈ t.Kids)
     (fun r=>r = some ((vrss t.Kids).reverse ++ g))
     (fun k x xs a hk' hx hlen ⟨ga, i0, i1, i2, i3⟩ => by
      have hxk:=i3 x (by simp)
      have:=ZaA hxk
      have:=XT hxk
      have hd:decide ((k:Int) < len t.Kids) = true:=by rw [Za]; simp; omega
      rw [XZ,Zmo] at i2
      rw [XZ,List.reverse_append] at i1
      subst i0
      simp only [hd,Zm8,get?_nat,hx,Zme]
      rw [ih x ga (hb.2 x hxk) (by omega) (by omega) (by omega)]
      refine .inl ⟨some ((vrs x).reverse ++ ga),by simp only [Zme]; rw [Zb (by omega) (by omega)]; rfl,_,rfl,by rw [← i1,Zm9],by simp; omega,fun y hy=>i3 y (by simp [hy])⟩)
     (fun a ⟨ga, i0, i1, i2, i3⟩ => by
      have hd:decide ((t.Kids.length:Int) < len t.Kids) = false:=by rw [Za]; simp
      simp only [hd,Zmg,Zmr]
      rw [Zb4] at i1
      exact ⟨_,rfl,by rw [i0,← i1]; rfl⟩) (a:=some g) ⟨g,rfl,rfl,hg,fun x hx=>hx⟩ (by omega)
   rw [show ((0:Nat):Int) = 0 from rfl] at g1
   rw [g1,g2]; rfl
theorem Zfn:∀ {l g g':List (Str × Int)},runV g l = some g' → (∀ p:Str × Int,g.lookup p.1 = some p.2 → g'.lookup p.1 = some p.2) ∧ ∀ p ∈ l,g'.lookup p.1 = some p.2
 | [],g,g',h=>by simp only [runV,Option.some.injEq] at h; subst h; exact ⟨fun p hp=>hp,fun p hp=>by cases hp⟩
 | v :: l,g,g',h=>by
  simp only [runV,Znk] at h
  obtain ⟨g1,h1,h2⟩:=h
  obtain ⟨i1,i2⟩:=Zfn h2
  have hv:g1.lookup v.1 = some v.2:=by
   unfold stp at h1
   split at h1
   ·rename_i w hw
    split at h1
    ·rename_i e; cases h1; rw [hw,e]
    ·cases h1
   ·cases h1; rw [ZmB]; simp
  have hk:∀ p:Str × Int,g.lookup p.1 = some p.2 → g1.lookup p.1 = some p.2:=fun p hp=>by
   unfold stp at h1
   split at h1
   ·split at h1
    ·cases h1; exact hp
    ·cases h1
   ·rename_i hn
    cases h1
    have:p.1 ≠ v.1:=fun e=>by rw [e,hn] at hp; cases hp
    rw [ZmB]
    have:(p.1 == v.1) = false:=by simpa using this
    rw [this]; exact hp
  refine ⟨fun p hp=>i1 p (hk p hp),fun p hp=>?_⟩
  rcases ZmF.1 hp with rfl | hp
  ·exact i1 p hv
  ·exact i2 p hp
theorem Zes {κ β:Type} [BEq κ] [LawfulBEq κ] {x:κ} {y:β}:∀ {m:List (κ × β)},m.lookup x = some y → (x,y) ∈ m
 | [],h=>by cases h
 | (u,z) :: m,h=>by
  rw [ZmB] at h
  by_cases e:x == u
  ·rw [e] at h
   simp only [Option.some.injEq] at h
   rw [eq_of_beq e,h]; exact Zmu
  ·simp only [e] at h
   exact Zmz _ (Zes h)
theorem ZeT {κ β:Type} [BEq κ] [LawfulBEq κ] {x:κ} {y:β}:∀ {m:List (κ × β)},(x,y) ∈ m → ∃ z,m.lookup x = some z
 | (u,z) :: m,h=>by
  rw [ZmB]
  by_cases e:x == u
  ·rw [e]; exact ⟨z,rfl⟩
  ·simp only [e]
   rcases ZmF.1 h with h | h
   ·simp only [Prod.mk.injEq] at h
    rw [h.1] at e; simp at e
   ·exact ZeT h
theorem Zf7 {t:D.Term} (h:termB t = true) (hs:msz t ≤ 1048576):Zaf fuel t = some (vtab (vrs t).reverse):=by
 unfold Zaf
 rw [Zbv hs,h]
 unfold termB at h
 simp only [Zml,Zmp] at h
 have hv:=ZeM t
 simp only [Zme,Zmw,Zmg,Zmr]
 rw [collect fuel t [] h.1.2 hs (by simp; omega) (by unfold fuel; omega)]
 simp only [Zme,ZmO]
 rw [Zmk (by simp; omega)]
instance:FU fuel:=⟨by unfold fuel; omega⟩
theorem ZgI:∀ {l g g':List (Str × Int)},runV g l = some g' → ∀ p:Str × Int,g'.lookup p.1 = some p.2 → g.lookup p.1 = some p.2 ∨ p ∈ l
 | [],g,g',h,p,hp=>by simp only [runV,Option.some.injEq] at h; subst h; exact .inl hp
 | v :: l,g,g',h,p,hp=>by
  simp only [runV,Znk] at h
  obtain ⟨g1,h1,h2⟩:=h
  rcases ZgI h2 p hp with h3 | h3
  ·unfold stp at h1
   split at h1
   ·split at h1
    ·cases h1; exact .inl h3
    ·cases h1
   ·cases h1
    obtain ⟨s,w⟩:=p
    obtain ⟨s',w'⟩:=v
    simp only [List.lookup] at h3
    split at h3
    ·rename_i e
     have e:s = s':=by simpa using e
     cases h3
     exact .inr (by rw [e]; simp)
    ·exact .inl h3
  ·exact .inr (Zmz _ h3)
def zv (v:D.Value):D.Value:=⟨v.Name,v.W,0⟩
structure VL (t:D.Term) (L:List D.Value):Prop where
 eq:L.map zv = vtab (vrs t).reverse
 nm:L.Pairwise fun x y=>x.Name ≠ y.Name
 mem:∀ v ∈ L,(v.Name,v.W) ∈ vrs t
 all:TV L t
theorem Zl4 {a b:Str} (h:Str.ltb a b = true):a ≠ b:=fun e=>by
 subst e
 have:=ZbA a
 rw [this] at h; cases h
theorem Zho {t:D.Term} (h:termB t = true) (hs:msz t ≤ 1048576):∃ L,YS fuel t = some L ∧ VL t L:=by
 have hb:=h
 unfold termB at hb
 simp only [Zml,Zmp] at hb
 obtain ⟨⟨hc,hn⟩,hr⟩:=hb
 have hv:=ZeM t
 obtain ⟨l',b,e,hT,hF⟩:=Zf1 fuel t [] [] hs ⟨List.Pairwise.nil,rfl,fun v hv=>(by cases hv),fun s w h=>(by simp at h)⟩ (by simp; omega) (by unfold fuel; omega)
 cases b with
 | false=>rw [hF rfl] at hr; cases hr
 | true=>
  obtain ⟨g',hg,hR⟩:=hT rfl
  obtain ⟨r1,r2,r3,r4⟩:=hR
  have hlk:=(Zfn hg).2
  have hmem:∀ s w,g'.lookup s = some w → (s,w) ∈ vrs t:=fun s w h=>by
   rcases ZgI hg (s,w) h with h | h
   ·simp at h
   ·exact h
  have hrev:∀ s w,(vrs t).reverse.lookup s = some w ↔ g'.lookup s = some w:=fun s w=>by
   constructor
   ·intro h
    exact hlk (s,w) (ZoH.1 (Zes h))
   ·intro h
    obtain ⟨z,hz⟩:=ZeT (ZoH.2 (hmem s w h))
    have:=hlk (s,z) (ZoH.1 (Zes hz))
    rw [h] at this
    rw [hz,Option.some.inj this]
  refine ⟨l',?_,?_,?_,?_,?_⟩
  ·unfold YS
   rw [Zau hs,h]
   simp only [Zme,Zmw,Zmg,Zmr]
   rw [e]; rfl
  ·refine Zjx (List.pairwise_map.2 r1) (Zce _) fun v => ?_
   rw [ZbO,Znf]
   constructor
   ·rintro ⟨x, hx, rfl⟩
    exact ⟨(hrev _ _).2 (r3 x hx),rfl⟩
   ·rintro ⟨h1, h2⟩
    have h1':=(hrev _ _).1 h1
    obtain ⟨x,hx,hxn⟩:=r4 _ _ h1'
    have:=r3 x hx
    rw [hxn,h1'] at this
    refine ⟨x,hx,?_⟩
    cases v
    simp only [zv] at *
    rw [hxn,← Option.some.inj this,h2]
  ·exact r1.imp fun h=>Zl4 h
  ·exact fun v hv=>hmem _ _ (r3 v hv)
  ·intro p hp
   have:=hlk p hp
   obtain ⟨x,hx,hxn⟩:=r4 _ _ this
   have h2:=r3 x hx
   rw [hxn,this] at h2
   exact ⟨x,hx,hxn,(Option.some.inj h2).symm⟩
def bitsV (l:List D.Value) (a:Int):Int:=(l.map (·.W)).foldl (· + ·) a
theorem Zhd (v:D.Value) (l:List D.Value) (a:Int):bitsV (v :: l) a = bitsV l (a + v.W):=rfl
theorem ZiQ {L:List D.Value} (hl:L.length ≤ 1000) (hw:∀ v ∈ L,1 ≤ v.W ∧ v.W ≤ 16):XM fuel L = some (bitsV L 0):=by
  unfold XM
  obtain ⟨r,g1,g2⟩:=Yd (l:=L) (n:=fuel) (σ:=Int) (ρ:=Int) (B:=fun (s1:Int × Int)=>
    if (decide (s1.2 < (len L))) then
     (get? L s1.2).bind fun x1=>
     some (.inl ((w64 (s1.1 + x1.W)),(w64 (s1.2 + 1))))
    else
     some (.inr (s1.1))) (fun k a=>(a,(k:Int))) (fun ys a=>bitsV ys a = bitsV L 0 ∧ 0 ≤ a ∧ a ≤ 16 * (L.length - ys.length:Int) ∧ ∀ y ∈ ys,y ∈ L) (fun r=>r = bitsV L 0)
    (fun k x xs a hk hx hlen ⟨h1,h2,h3,h4⟩=>by
      have hd:decide ((k:Int) < len L) = true:=by rw [Za]; simp; omega
      have hxw:=hw x (h4 x (by simp))
      simp only [ZmC] at hlen h3
      simp only [hd,Zm8,get?_nat,hx,Zme]
      exact .inl ⟨a + x.W,by rw [Zb (by omega) (by omega),Zb (by omega) (by omega)]; rfl,h1,by omega,by omega,fun y hy=>h4 y (by simp [hy])⟩)
    (fun a ⟨h1,_⟩=>by
      have hd:decide ((L.length:Int) < len L) = false:=by rw [Za]; simp
      simp only [hd,Zmg,Zmr]
      exact ⟨_,rfl,h1⟩) (a:=0) ⟨rfl,by omega,by omega,fun y h=>h⟩ (lt_fuel (by omega))
  rw [show ((0:Nat):Int) = 0 from rfl] at g1
  rw [g1,g2]; rfl
theorem Zjg {a:Int} {w:Nat} (hw:w ≤ 16) (h0:0 ≤ a) (h1:a ≤ 100000):iterN (fun (s2:Int × Int × (List Int))=>
     if (decide (s2.2.1 ≥ 0)) then
      (set? s2.2.2 s2.2.1 (w64 (2 + s2.1))).bind fun x6=>
      some (.inl ((w64 (s2.1 + 1)),(w64 (s2.2.1 - 1)),x6))
     else
      some (.inr (s2.1,s2.2.2))
    ) fuel (a,(w:Int) - 1,List.replicate w 0) = some (a + w,(List.range w).map fun k:Nat=>1 + a + (w:Int) - (k:Int)):=by
  rw [Yx (I:=fun k t=>t = (a + (k:Int),(w:Int) - 1 - (k:Int),List.replicate (w - k) 0 ++ (List.range k).map fun i:Nat=>1 + a + (k:Int) - (i:Int))) (m:=w) (r:=(a + (w:Int),(List.range w).map fun k:Nat=>1 + a + (w:Int) - (k:Int))) (fun k t hk ht=>?_) (fun t ht=>?_) w 0 _ (by omega) (by simp) fuel (lt_fuel (by omega))]
  all_goals subst ht
  · refine ⟨_, ?_, rfl⟩
    simp only
    rw [Zmk (by simp; omega),show (w:Int) - 1 - (k:Int) = ((w - 1 - k:Nat):Int) by omega,set?_nat (by simp; omega),Zb (x:=2 + (a + (k:Int))) (by omega) (by omega)]
    simp only [Zme]
    rw [Zb (by omega) (by omega),Zb (by omega) (by omega)]
    have e:(List.replicate (w - k) (0:Int) ++ (List.range k).map fun i:Nat=>1 + a + (k:Int) - (i:Int)).set (w - 1 - k) (2 + (a + (k:Int))) = List.replicate (w - (k + 1)) 0 ++ (List.range (k + 1)).map fun i:Nat=>1 + a + ((k + 1:Nat):Int) - (i:Int):=by
      rw [List.set_append_left _ _ (by simp; omega),show w - k = (w - (k + 1)) + 1 by omega,Zoz,Zni _ _ (by simp; omega),ZmV,show w - 1 - k - (w - (k + 1)) = 0 by omega,Zn7,Zm9,ZmP,List.range_succ_eq_map,Zm2,List.map_map]
      congr 2
      · omega
      · apply List.map_congr_left
        intro i _
        simp only [Function.comp]
        omega
    rw [e]
    simp only [Option.some.injEq,Sum.inl.injEq,Prod.mk.injEq]
    exact ⟨by omega,by omega,trivial⟩
  · simp only
    rw [Zmj (by simp; omega),ZnB]
    rfl
theorem Zie {x:D.Value} {ys:List D.Value}:∀ {pre:List D.Value} {a:Int},(∀ v ∈ pre,v.Name ≠ x.Name) → atV (pre ++ x :: ys) a x.Name = bitsV pre a + x.W
 | [],a,_=>by
  show (if Str.eqb x.Name x.Name = true then a + x.W else _) = _
  rw [Zmk (Zet _)]; rfl
 | v :: pre,a,h=>by
  show (if Str.eqb v.Name x.Name = true then a + v.W else atV (pre ++ x :: ys) (a + v.W) x.Name) = _
  rw [Zmj (by rw [ZcQ]; simpa using h v (by simp))]
  exact Zie fun u hu=>h u (by simp [hu])
theorem ZkD {L:List D.Value} (hl:L.length ≤ 1000) (hw:∀ v ∈ L,1 ≤ v.W ∧ v.W ≤ 16) (hn:∀ v ∈ L,v.Name.bytes.length ≤ 1000) (hp:L.Pairwise fun x y=>x.Name ≠ y.Name):∃ mp,iterN (fun (s1:Int × Int × (List (Str × List Int)))=>
   if (decide (s1.2.1 < (len (L.map zv)))) then
    (get? (L.map zv) s1.2.1).bind fun x4=>
    (mk? x4.W (0:Int)).bind fun x5 =>
    (iterN (fun (s2 : Int × Int × (List Int)) =>
     if (decide (s2.2.1 ≥ 0)) then
      (set? s2.2.2 s2.2.1 (w64 (2 + s2.1))).bind fun x6=>
      some (.inl ((w64 (s2.1 + 1)),(w64 (s2.2.1 - 1)),x6))
     else
      some (.inr (s2.1,s2.2.2))
    ) fuel (s1.1,(w64 (x4.W - 1)),x5)).bind fun (rl2:Int × (List Int))=>
    (mput? fitS s1.2.2 x4.Name rl2.2).bind fun x7=>
    some (.inl (rl2.1,(w64 (s1.2.1 + 1)),x7))
   else
    some (.inr (s1.1,s1.2.2))
  ) fuel (0,0,([]:List (Str × List Int))) = some (bitsV L 0,mp) ∧ MapOk L mp:=by
  obtain ⟨r,g1,mp,rfl,g2⟩:=Yd (l:=L) (n:=fuel) (σ:=Int × List (Str × List Int)) (ρ:=Int × List (Str × List Int)) (B:=fun (s1:Int × Int × (List (Str × List Int)))=>
   if (decide (s1.2.1 < (len (L.map zv)))) then
    (get? (L.map zv) s1.2.1).bind fun x4=>
    (mk? x4.W (0:Int)).bind fun x5 =>
    (iterN (fun (s2 : Int × Int × (List Int)) =>
     if (decide (s2.2.1 ≥ 0)) then
      (set? s2.2.2 s2.2.1 (w64 (2 + s2.1))).bind fun x6=>
      some (.inl ((w64 (s2.1 + 1)),(w64 (s2.2.1 - 1)),x6))
     else
      some (.inr (s2.1,s2.2.2))
    ) fuel (s1.1,(w64 (x4.W - 1)),x5)).bind fun (rl2:Int × (List Int))=>
    (mput? fitS s1.2.2 x4.Name rl2.2).bind fun x7=>
    some (.inl (rl2.1,(w64 (s1.2.1 + 1)),x7))
   else
    some (.inr (s1.1,s1.2.2))) (fun k a=>(a.1,(k:Int),a.2))
    (fun ys a=>∃ pre,pre ++ ys = L ∧ a.1 = bitsV pre 0 ∧ 0 ≤ a.1 ∧ a.1 ≤ 16 * pre.length ∧ a.2.length = pre.length ∧ ∀ v ∈ pre,a.2.lookup v.Name = some (varL L v.Name v.W.toNat))
    (fun r=>∃ mp,r = (bitsV L 0,mp) ∧ MapOk L mp)
    (fun k x xs a hk hx hlen ⟨pre,h1,h2,h3,h4,h5,h6⟩=>by
      have hxL:x ∈ L:=by rw [← h1]; simp
      have hxw:=hw x hxL
      have hpl:pre.length ≤ L.length:=by rw [← h1]; simp
      have hd:decide ((k:Int) < len (L.map zv)) = true:=by rw [Za]; simp; omega
      have eW:((x.W.toNat:Nat):Int) = x.W:=by omega
      have hz:(L.map zv)[k]? = some (zv x):=by rw [ZmE,hx]; rfl
      have hne:∀ v ∈ pre,v.Name ≠ x.Name:=fun v hv=>by
        rw [← h1] at hp
        exact (ZnM.1 hp).2.2 v hv x (by simp)
      have hat:atV L 1 x.Name = 1 + a.1 + x.W:=by
        rw [← h1,Zie hne,h2]
        have:=Zcy (pre.map (·.W)) 1 0
        unfold bitsV
        rw [show (1:Int) + 0 = 1 from rfl] at this
        rw [this]
      simp only [hd,Zm8,get?_nat,hz,Zme]
      rw [show (zv x).W = x.W from rfl,show (zv x).Name = x.Name from rfl,show mk? x.W (0:Int) = some (List.replicate x.W.toNat 0) from by unfold mk?; rw [Zmk ⟨by omega,by unfold room; omega⟩]]
      simp only [Zme]
      rw [Zb (x:=x.W - 1) (by omega) (by omega)]
      have:=Zjg (a:=a.1) (w:=x.W.toNat) (by omega) h3 (by omega)
      rw [eW] at this
      rw [this]
      simp only [Zme]
      rw [show mput? fitS a.2 x.Name ((List.range x.W.toNat).map fun k:Nat=>1 + a.1 + x.W - (k:Int)) = some ((x.Name,varL L x.Name x.W.toNat) :: a.2) from by
        unfold mput?
        rw [Zmk ⟨by have:=hn x hxL; unfold fitS; simp; omega,by unfold room; omega⟩]
        unfold varL; rw [hat]]
      simp only [Zme]
      rw [Zb (by omega) (by omega)]
      refine .inl ⟨(a.1 + x.W,(x.Name,varL L x.Name x.W.toNat) :: a.2),rfl,pre ++ [x],by rw [Zm9]; exact h1,?_,by show 0 ≤ a.1 + x.W; omega,by simp; omega,by simp [h5],fun v hv=>?_⟩
      · show a.1 + x.W = bitsV (pre ++ [x]) 0
        unfold bitsV
        rw [Zno,Znz,h2]; rfl
      · rcases Zm0.1 hv with hv | hv
        · have hn := hne v hv
          rw [ZmB,show (v.Name == x.Name) = false by simpa using hn]
          exact h6 v hv
        · rw [Zm5] at hv
          subst hv
          rw [ZmB]; simp)
    (fun a ⟨pre,h1,h2,h3,h4,h5,h6⟩=>by
      have hd:decide ((L.length:Int) < len (L.map zv)) = false:=by rw [Za]; simp
      simp only [hd,Zmg,Zmr]
      rw [ZmO] at h1
      subst h1
      exact ⟨_,rfl,a.2,by rw [h2],fun v hv=>⟨hn v hv,by rw [h6 v hv]; rfl⟩⟩) (a:=(0,[])) ⟨[],rfl,rfl,by omega,by simp,rfl,fun v hv=>by cases hv⟩ (lt_fuel (by omega))
  rw [show ((0:Nat):Int) = 0 from rfl] at g1
  exact ⟨mp,g1,g2⟩
theorem ZlS:∀ n:Nat,(∀ t:D.Term,cnt t < n → nodeB t = true → ∀ p ∈ vrs t,1 ≤ p.2 ∧ p.2 ≤ 16 ∧ p.1.bytes.length ≤ 8):=by
 intro n
 induction n with
 | zero=>intro t h; omega
 | succ n ih=>
  intro t h hb p hp
  have hc:=XO t
  rw [Zbe] at hp
  by_cases h22:t.Op = 22
  ·rw [Zmk h22, Zm5] at hp
   subst hp
   have:=Yr hb
   exact ⟨this.1,this.2,(Ze6 hb h22).1⟩
  ·rw [Zmj h22] at hp
   have:∀ l:List D.Term,(∀ x ∈ l,x ∈ t.Kids) → p ∈ vrss l → ∃ x ∈ t.Kids,p ∈ vrs x:=fun l=>by
    induction l with
    | nil=>intro _ h; rw [Zb4] at h; cases h
    | cons y l ihl=>
     intro hm h
     rw [XZ,Zm0] at h
     rcases h with h | h
     ·exact ⟨y,hm y (by simp),h⟩
     ·exact ihl (fun z hz=>hm z (by simp [hz])) h
   obtain ⟨x,hx,hpx⟩:=this t.Kids (fun _ h=>h) hp
   exact ih x (by have:=XT hx; omega) (nodeK hb x hx) p hpx
def c0:D.Circuit:=⟨0,[]⟩
def circT (t:D.Term):D.Circuit × List Int × Bool:=
 if termB t = true then
  let L:=(YS fuel t).getD []
  let r:=nP L t (⟨bitsV L 0,[]⟩,false)
  if bitsV L 0 > 30 ∨ r.2.2 = true then (c0,[],false) else (r.2.1,r.1,true)
 else (c0,[],false)
theorem Zdp {b:Int} (h0:0 ≤ b) (h1:b ≤ 30):CircP ⟨b,[]⟩:=⟨h0,h1,by simp,fun k g hg=>by simp at hg⟩
section
variable {t:D.Term} (h:termB t = true) (hs:msz t ≤ 1048576)
include h hs
theorem Zc7:∃ L,YS fuel t = some L ∧ VL t L ∧ nodeB t = true ∧ cnt t ≤ 240 ∧ (∀ v ∈ L,1 ≤ v.W ∧ v.W ≤ 16) ∧ (∀ v ∈ L,v.Name.bytes.length ≤ 1000) ∧ L.length ≤ 1000 ∧ 0 ≤ bitsV L 0:=by
 obtain ⟨L,e,hL⟩:=Zho h hs
 have hb:=h
 unfold termB at hb
 simp only [Zml,Zmp] at hb
 obtain ⟨⟨hc,hn⟩,-⟩:=hb
 have hw:∀ v ∈ L,1 ≤ v.W ∧ v.W ≤ 16 ∧ v.Name.bytes.length ≤ 8:=fun v hv=>ZlS _ t (Nat.lt_succ_self _) hn _ (hL.mem v hv)
 have hlen:L.length ≤ 1000:=by
  have h1:=congrArg List.length hL.eq
  rw [Zon] at h1
  have h2:=ZcX (vrs t).reverse
  rw [List.length_reverse] at h2
  have:=ZeM t
  omega
 have hb0:=ZfO (l:=L) (a:=0) fun v hv=>(hw v hv).1
 exact ⟨L,e,hL,hn,hc,fun v hv=>⟨(hw v hv).1,(hw v hv).2.1⟩,fun v hv=>by have:=(hw v hv).2.2; omega,hlen,by unfold bitsV; omega⟩
end
theorem ZhJ {t:D.Term} (hs:msz t ≤ 1048576):Xm fuel t = some (circT t):=by
 unfold Xm circT
 by_cases h:termB t = true
 ·obtain ⟨L, e, hL, hn, hc, hw, hnm, hlen, hb0⟩ := Zc7 h hs
  rw [e,Zau hs,h]
  simp only [Zme,Zmw,Zmg,Zmr,ZmI,Zm8,ZmR]
  rw [ZiQ hlen hw]
  simp only [Zme]
  by_cases hb:bitsV L 0 > 30
  ·rw [Zmk (by simpa using hb),Zmk (.inl hb)]; rfl
  ·rw [Zmj (by simpa using hb)]
   have hC:=Zdp hb0 (by omega)
   rw [Cc.spec_new hC]
   simp only [Zme]
   have hv:VF L (⟨bitsV L 0,[]⟩ : D.Circuit):=⟨fun v hv=>(hw v hv).1,rfl⟩
   rw [Zk7 hL.nm (fun v hv=>(hw v hv).2) fuel t (⟨bitsV L 0,[]⟩,false) (by unfold fuel; omega) hn hL.all hC hv]
   simp only [Zme]
   have g:=Zcp hL.nm _ t (⟨bitsV L 0,[]⟩,false) (Zmy _) hn hL.all hC hv
   generalize nP L t (⟨bitsV L 0,[]⟩,false) = r at g ⊢
   have hw16:=Yr hn
   have hl:=g.len
   cases hf:r.2.2
   ·rw [Zmj (by decide), Zmj (by rintro (h | h); exact hb h; cases h)]
    rw [ZbG (by simp; omega)]; rfl
   ·rw [Zmk rfl,Zmk (.inr rfl)]; rfl
 ·have h' : termB t = false := by simpa using h
  have e:YS fuel t = some []:=by
   unfold YS
   rw [Zau hs,h']; rfl
  rw [e,Zau hs,h',Zmj (by decide)]
  rfl
theorem ZhK {t:D.Term} (hs:msz t ≤ 1048576):Xk fuel t = some (circT t):=by
 unfold Xk circT
 rw [Zbv hs]
 simp only [Zme]
 by_cases h:termB t = true
 ·obtain ⟨L, e, hL, hn, hc, hw, hnm, hlen, hb0⟩ := Zc7 h hs
  rw [h]
  simp only [Zmw,Zmg,Zmr,ZmI,Zm8]
  rw [ZiD fuel t (by unfold fuel; omega) hn]
  simp only [Zme,e,ZmR]
  have hv:VF L (⟨bitsV L 0,[]⟩ : D.Circuit):=⟨fun v hv=>(hw v hv).1,rfl⟩
  cases hwd:wideB t
  ·simp only [Zmg, Zmr]
   rw [Zf7 h hs,← hL.eq]
   simp only [Zme]
   obtain ⟨mp,hl1,hmp⟩:=ZkD hlen hw hnm hL.nm
   rw [hl1]
   simp only [Zme]
   by_cases hb:bitsV L 0 > 30
   ·rw [Zmk (by simpa using hb),Zmk (.inl hb)]; rfl
   ·rw [Zmj (by simpa using hb)]
    have hC:=Zdp hb0 (by omega)
    obtain ⟨m0,e0,r0⟩:=Cc.impl_new (fuel:=fuel) hC
    rw [e0]
    simp only [Zme]
    obtain ⟨m1,e1,r1⟩:=ZjD hL.nm hmp fuel t (⟨bitsV L 0,[]⟩,false) m0 (by unfold fuel; omega) hn hwd hL.all hC hv r0
    rw [e1]
    simp only [Zme]
    have g:=Zcp hL.nm _ t (⟨bitsV L 0,[]⟩,false) (Zmy _) hn hL.all hC hv
    generalize nP L t (⟨bitsV L 0,[]⟩,false) = r at g r1 ⊢
    have hw16:=Yr hn
    have hl:=g.len
    rw [r1.full]
    cases hf:r.2.2
    ·rw [Zmj (by decide), Zmj (by rintro (h | h); exact hb h; cases h)]
     rw [show Ze r.1 = some r.1 from by unfold Ze; rw [ZbG (by simp; omega)]; rfl]
     simp only [Zme]
     rw [r1.c]
    ·rw [Zmk rfl,Zmk (.inr rfl)]; rfl
  ·simp only [Zm8]
   by_cases hb:bitsV L 0 > 30
   ·rw [Zmk (.inl hb)]; rfl
   ·have hC := Zdp hb0 (by omega)
    rw [Zmk (.inr (Zi4 hL.nm _ t (⟨bitsV L 0,[]⟩,false) (Zmy _) hn hwd hL.all hC hv))]; rfl
 ·have h' : termB t = false := by simpa using h
  rw [h']
  simp only [Znv,Zm8,Zme,ZnH,Zmg,Zmr]
  rfl
end Go.Proofs.YtgpcokpcbjloiaaGreat
end
section
namespace Go.Proofs.YtgpcokpcbjloiaaGreat.Cc
open Go.GL
set_option linter.unusedSimpArgs false
variable {fuel:Nat} [FU fuel]
theorem j0:w64 0 = 0:=by decide
theorem j1:w64 1 = 1:=by decide
theorem j2:w64 2 = 2:=by decide
theorem j3:w64 3 = 3:=by decide
theorem cmpv {x y:Int} (hx:litN 391 x = true) (hy:litN 391 y = true) (h:iab x < iab y):Yw x y = some (-1):=by
 unfold Yw
 obtain ⟨fx,fx'⟩:=YN hx (ZmM _)
 obtain ⟨fy,fy'⟩:=YN hy (ZmM _)
 rw [Yv fx fx',Yv fy fy']
 simp [YV,Xn,h]
theorem cmpv' {x y:Int} (hx:litN 391 x = true) (hy:litN 391 y = true) (h:iab y < iab x):Yw x y = some 1:=by
 unfold Yw
 obtain ⟨fx,fx'⟩:=YN hx (ZmM _)
 obtain ⟨fy,fy'⟩:=YN hy (ZmM _)
 rw [Yv fx fx',Yv fy fy']
 have h2:¬ iab x < iab y:=by omega
 simp [YV,Xn,h,h2]
theorem insC2 (n:Nat) {x y:Int} (hx:litN 391 x = true) (hy:litN 391 y = true) (h:iab y < iab x):Zi (n + 6) [x,y] 0 2 = some [y,x]:=by
 unfold Zi
 have e1:=cmpv hy hx h
 simp [iterN,get?,set?,e1,j0,j1,j2]
theorem insC3 (n:Nat) {x y z:Int} (hx:litN 391 x = true) (hy:litN 391 y = true) (hz:litN 391 z = true) (h:iab y < iab z) (h2:iab z < iab x):Zi (n + 6) [x,y,z] 0 3 = some [y,z,x]:=by
 unfold Zi
 have e1:=cmpv hy hx (by omega)
 have e2:=cmpv hz hx h2
 have e3:=cmpv' hz hy h
 simp [iterN,get?,set?,e1,e2,e3,j0,j1,j2,j3]
theorem sortC2 (n:Nat) {x y:Int} (hx:litN 391 x = true) (hy:litN 391 y = true) (h:iab y < iab x):Zh (n + 6) [x,y] = some [y,x]:=by
 unfold Zh
 have hl:len [x,y] = 2:=rfl
 have hb:XU (IntKind.u64.wrap 2) = some 2:=by decide
 rw [hl,hb]
 simp only [Zme]
 unfold Zv
 simp [iterN,insC2 n hx hy h,j2]
theorem sortC3 (n:Nat) {x y z:Int} (hx:litN 391 x = true) (hy:litN 391 y = true) (hz:litN 391 z = true) (h:iab y < iab z) (h2:iab z < iab x):Zh (n + 6) [x,y,z] = some [y,z,x]:=by
 unfold Zh
 have hl:len [x,y,z] = 3:=rfl
 have hb:XU (IntKind.u64.wrap 3) = some 2:=by decide
 rw [hl,hb]
 simp only [Zme]
 unfold Zv
 simp [iterN,insC3 n hx hy hz h h2,j3]
theorem ZcJ {x y:Int} (h:iab x < iab y):¬ x = y ∧ ¬ y = x ∧ ¬ y = -x ∧ ¬ x = -y:=by
 unfold iab at h
 split at h <;> split at h <;> omega
theorem compC2 (n:Nat) {x y:Int} (h:iab y < iab x):Z4 (n + 6) [y,x] = some [y,x]:=by
 unfold Z4
 have hl:len [y,x] = 2:=rfl
 have:=ZcJ h
 rw [hl]
 simp [iterN,get?,this,j1,j2,j0]
theorem compC3 (n:Nat) {x y z:Int} (h:iab y < iab z) (h2:iab z < iab x):Z4 (n + 6) [y,z,x] = some [y,z,x]:=by
 unfold Z4
 have hl:len [y,z,x] = 3:=rfl
 have t1:=ZcJ h
 have t2:=ZcJ h2
 rw [hl]
 simp [iterN,get?,t1,t2,j1,j2,j0,j3]
theorem lit400 {x:Int} (h:litN 391 x = true):litN 400 x = true:=litN_mono h (by decide)
theorem clauseOk2 {x y:Int} (hx:litN 391 x = true) (hy:litN 391 y = true) (h:iab y < iab x):Xi fuel [y,x] 400 = some true:=by
 unfold Xi
 rw [Zcr (by decide) (by decide) (by simp)]
 obtain ⟨fx,fx'⟩:=YN hx (ZmM _)
 obtain ⟨fy,fy'⟩:=YN hy (ZmM _)
 have v1:=Yv fx fx'
 have v2:=Yv fy fy'
 have ha:[y,x].all (litN 400) = true:=by simp [lit400 hx,lit400 hy]
 have hl:len [y,x] = 2:=rfl
 obtain ⟨n,hf⟩ : ∃ n,fuel = n + 6:=⟨fuel - 6,by have:=FU.le (n:=fuel); omega⟩
 have hn:¬ iab x ≤ iab y:=by omega
 rw [ha,hl,hf]
 simp [iterN,get?,v1,v2,hn,j0,j1,j2]
theorem clauseOk3 {x y z:Int} (hx:litN 391 x = true) (hy:litN 391 y = true) (hz:litN 391 z = true) (h:iab y < iab z) (h2:iab z < iab x):Xi fuel [y,z,x] 400 = some true:=by
 unfold Xi
 rw [Zcr (by decide) (by decide) (by simp)]
 obtain ⟨fx,fx'⟩:=YN hx (ZmM _)
 obtain ⟨fy,fy'⟩:=YN hy (ZmM _)
 obtain ⟨fz,fz'⟩:=YN hz (ZmM _)
 have v1:=Yv fx fx'
 have v2:=Yv fy fy'
 have v3:=Yv fz fz'
 have ha:[y,z,x].all (litN 400) = true:=by simp [lit400 hx,lit400 hy,lit400 hz]
 have hl:len [y,z,x] = 3:=rfl
 obtain ⟨n,hf⟩ : ∃ n,fuel = n + 6:=⟨fuel - 6,by have:=FU.le (n:=fuel); omega⟩
 have hn:¬ iab z ≤ iab y:=by omega
 have hn2:¬ iab x ≤ iab z:=by omega
 rw [ha,hl,hf]
 simp [iterN,get?,v1,v2,v3,hn,hn2,j0,j1,j2,j3]
theorem mkI2 (n:Nat) [FU (n + 6)] {x y:Int} (hx:litN 391 x = true) (hy:litN 391 y = true) (h:iab y < iab x):Ya (n + 6) [x,y] = some ([y,x],true):=by
 unfold Ya
 have ha:[x,y].all (litN 400) = true:=by simp [lit400 hx,lit400 hy]
 have hc:Ze [x,y] = some [x,y]:=rfl
 rw [Zcr (by decide) (by decide) (by simp),ha,hc]
 simp only [Zme,Zmw,Zmg,Zmr]
 have h1:Zh (n + 6) [x,y] = _:=sortC2 n hx hy h
 have h2:Z4 (n + 6) [y,x] = _:=compC2 n h
 rw [h1]
 simp only [Zme]
 rw [h2]
 simp only [Zme]
 rw [clauseOk2 (fuel:=n + 6) hx hy h]
 rfl
theorem mkI3 (n:Nat) [FU (n + 6)] {x y z:Int} (hx:litN 391 x = true) (hy:litN 391 y = true) (hz:litN 391 z = true) (h:iab y < iab z) (h2:iab z < iab x):Ya (n + 6) [x,y,z] = some ([y,z,x],true):=by
 unfold Ya
 have ha:[x,y,z].all (litN 400) = true:=by simp [lit400 hx,lit400 hy,lit400 hz]
 have hc:Ze [x,y,z] = some [x,y,z]:=rfl
 rw [Zcr (by decide) (by decide) (by simp),ha,hc]
 simp only [Zme,Zmw,Zmg,Zmr]
 have e1:Zh (n + 6) [x,y,z] = _:=sortC3 n hx hy hz h h2
 have e2:Z4 (n + 6) [y,z,x] = _:=compC3 n h h2
 rw [e1]
 simp only [Zme]
 rw [e2]
 simp only [Zme]
 rw [clauseOk3 (fuel:=n + 6) hx hy hz h h2]
 rfl
theorem in400 {x:Int} (h:litN 391 x = true):Zg x (-400) 400 = some true ∧ ¬ x = 0:=by
 rw [litN_iff] at h
 unfold iab at h
 unfold Zg
 split at h <;> (refine ⟨?_,by omega⟩; simp; omega)
theorem mkS2 (n:Nat) {x y:Int} (hx:litN 391 x = true) (hy:litN 391 y = true) (h:iab y < iab x):ZQ (n + 6) [x,y] = some ([y,x],true):=by
 unfold ZQ
 obtain ⟨fx,fx'⟩:=YN hx (ZmM _)
 obtain ⟨fy,fy'⟩:=YN hy (ZmM _)
 have v1:=YF fx fx'
 have v2:=YF fy fy'
 obtain ⟨i1,m1⟩:=in400 hx
 obtain ⟨i2,m2⟩:=in400 hy
 have hn:¬ iab x < iab y:=by omega
 have t1:=ZcJ h
 have w2:=Yc hy (ZmM _)
 have w1:=Yc hx (ZmM _)
 rw [Int.zero_sub] at w1 w2
 simp [iterN,get?,cut?,vcut,app?,room,len,v1,v2,i1,i2,m1,m2,hn,t1,w1,w2,j0,j1,j2]
theorem mkS3 (n:Nat) {x y z:Int} (hx:litN 391 x = true) (hy:litN 391 y = true) (hz:litN 391 z = true) (h:iab y < iab z) (h2:iab z < iab x):ZQ (n + 6) [x,y,z] = some ([y,z,x],true):=by
 unfold ZQ
 obtain ⟨fx,fx'⟩:=YN hx (ZmM _)
 obtain ⟨fy,fy'⟩:=YN hy (ZmM _)
 obtain ⟨fz,fz'⟩:=YN hz (ZmM _)
 have v1:=YF fx fx'
 have v2:=YF fy fy'
 have v3:=YF fz fz'
 obtain ⟨i1,m1⟩:=in400 hx
 obtain ⟨i2,m2⟩:=in400 hy
 obtain ⟨i3,m3⟩:=in400 hz
 have hn:¬ iab x < iab y:=by omega
 have hn2:¬ iab x < iab z:=by omega
 have t1:=ZcJ (show iab y < iab x by omega)
 have t2:=ZcJ h2
 have t3:=ZcJ h
 have w2:=Yc hy (ZmM _)
 have w1:=Yc hx (ZmM _)
 have w3:=Yc hz (ZmM _)
 rw [Int.zero_sub] at w1 w2 w3
 simp [iterN,get?,cut?,vcut,app?,room,len,v1,v2,v3,i1,i2,i3,m1,m2,m3,h,hn,hn2,t1,t2,t3,w1,w2,w3,j0,j1,j2,j3]
theorem Zkk {n x:Int}:[x].all (litN n) = litN n x:=by simp
theorem inner3 (n:Nat) {MC:List Int → Option (List Int × Bool)} {l1 l2 l3 r1 r2 r3:List Int} (h1:MC l1 = some (r1,true)) (h2:MC l2 = some (r2,true)) (h3:MC l3 = some (r3,true)) {out:List (List Int)} (hl:out.length ≤ 100000) :
  iterN (fun (s2:Int × (List (List Int)))=>
   if (decide (s2.1 < (len ([l1,l2,l3]:List (List Int))))) then
    (get? ([l1,l2,l3]:List (List Int)) s2.1).bind fun x4=>
    (MC x4).bind fun x5=>
    (app? s2.2 ([x5.1]:List (List Int))).bind fun x6=>
    some (.inl ((w64 (s2.1 + 1)),x6))
   else
    some (.inr (s2.2))) (n + 6) (0,out) = some (out ++ [r1,r2,r3]):=by
 have hc:len ([l1,l2,l3]:List (List Int)) = 3:=rfl
 have ha:∀ (l:List (List Int)) (q:List Int),l.length ≤ 100003 → app? l [q] = some (l ++ [q]):=fun l q h=>by unfold app?; rw [Zmk (by simp; unfold room; omega)]
 have a1:=ha out r1 (by omega)
 have a2:=ha (out ++ [r1]) r2 (by simp; omega)
 have a3:=ha (out ++ [r1] ++ [r2]) r3 (by simp; omega)
 simp only [Zm9,ZmP] at a2 a3
 rw [hc]
 simp [iterN,get?,h1,h2,h3,a1,a2,a3,j0,j1,j2,j3]
def stepF (c:D.Circuit) (i:Nat) (g:D.Gate):List (List Int):=[[g.A,-(c.Inputs + 2 + i)],[g.B,-(c.Inputs + 2 + i)],[-g.A,-g.B,c.Inputs + 2 + i]]
def accF (c:D.Circuit):Nat → List (List Int)
 | 0=>[[1]]
 | k + 1=>accF c k ++ stepF c k (c.Gates.getD k ⟨0,0⟩)
theorem accF_len (c:D.Circuit) (k:Nat):(accF c k).length = 1 + 3 * k:=by
 induction k with
 | zero=>rfl
 | succ k ih=>simp only [accF,Zmo,ih,stepF,ZmC,Zn2]; omega
structure GateOk (c:D.Circuit) (k:Nat) (g:D.Gate):Prop where
 a:litN 391 g.A = true
 b:litN 391 g.B = true
 na:litN 391 (-g.A) = true
 nb:litN 391 (-g.B) = true
 l:litN 391 (c.Inputs + 2 + k) = true
 nl:litN 391 (-(c.Inputs + 2 + k)) = true
 ab:iab (-g.A) < iab (-g.B)
 bl:iab (-g.B) < iab (c.Inputs + 2 + k)
 al':iab g.A < iab (-(c.Inputs + 2 + k))
 bl':iab g.B < iab (-(c.Inputs + 2 + k))
theorem ZfA {c:D.Circuit} (hc:CircP c) {k:Nat} {g:D.Gate} (hg:c.Gates[k]? = some g):GateOk c k g:=by
 have h:=Zbz.1 (hc.gate k g hg)
 obtain ⟨h1,h2,h3,h4,-⟩:=h
 have hk:=(Zmi.1 hg).1
 have hlt:(c.Gates.take k).length = k:=by simp; omega
 rw [hlt] at h1 h2
 have hl:=hc.lines1
 have hi:=hc.i0
 unfold lines at hl
 have e1:iab (c.Inputs + 2 + k) = c.Inputs + 2 + k:=by unfold iab; rw [Zmj (by omega)]
 have b1:iab g.A ≤ c.Inputs + 1 + k:=by unfold iab; split <;> omega
 have b2:iab g.B ≤ c.Inputs + 1 + k:=by unfold iab; split <;> omega
 refine ⟨litN_iff.2 (by omega),litN_iff.2 (by omega),?_,?_,litN_iff.2 (by omega),?_,?_,?_,?_,?_⟩
 ·rw [ZT]; exact litN_iff.2 (by omega)
 ·rw [ZT]; exact litN_iff.2 (by omega)
 ·rw [ZT]; exact litN_iff.2 (by omega)
 ·rw [YI,YI]; exact h4
 ·rw [YI]; omega
 ·rw [YI]; omega
 ·rw [YI]; omega
def formP (c:D.Circuit) (lit:Int):D.Formula × Bool:=if circB2 c && litN (lines c) lit then (⟨lines c,accF c c.Gates.length ++ [[lit]]⟩,true) else (⟨0,[]⟩,false)
theorem ZaV {c:D.Circuit} {k:Nat} (hk:k < c.Gates.length):c.Gates[k]? = some (c.Gates.getD k ⟨0,0⟩):=by
 rw [Zmm,Zmf hk]; rfl
theorem spec_FormulaOf_eq {c:D.Circuit} {lit:Int} (hc:ZaD c) (hg:c.Gates.length ≤ 1048576):X9 fuel c lit = some (formP c lit):=by
 obtain ⟨N,rfl⟩ : ∃ n,fuel = n + 6:=⟨fuel - 6,by have:=FU.le (n:=fuel); omega⟩
 unfold X9 formP
 rw [Ziz hc hg]
 simp only [Zme]
 cases h1:circB2 c with
 | false=>simp
 | true=>
  have hp:=circP_iff.1 h1
  rw [Zh4 hp (by simp)]
  simp only [Zmw,Zmg,Zmr,Zme,ZmI,ZmT,Zkk]
  cases h2:litN (lines c) lit with
  | false=>simp
  | true=>
   have hi0:=hp.i0
   have hi1:=hp.i1
   have hl:=hp.len
   simp only [Zmw,Zmg,Zmr,Zm8]
   rw [Yx (I:=fun k t=>t = ((k:Int),accF c k)) (m:=c.Gates.length) (r:=accF c c.Gates.length) (fun k t hk ht=>?_) (fun t ht=>?_) c.Gates.length 0 (0,[[1]]) (by omega) rfl (N + 6) (lt_fuel (by omega))]
   ·simp only [Zme]
    have ha:app? (accF c c.Gates.length) [[lit]] = some (accF c c.Gates.length ++ [[lit]]):=by unfold app?; rw [Zmk (by rw [accF_len]; simp; unfold room; omega)]
    rw [ha]
    simp only [Zme]
    rw [Za,Zb (x:=c.Inputs + 1) (by omega) (by omega),Zb (by omega) (by omega)]
    rfl
   all_goals subst ht
   ·refine ⟨_, ?_, rfl⟩
    have o:=ZfA hp (ZaV hk)
    simp only [accF]
    rw [Zmk (by rw [Za]; simp; omega),get?_nat,ZaV hk]
    simp only [Zme]
    generalize c.Gates.getD k ⟨0,0⟩ = g at o ⊢
    rw [Zb (x:=c.Inputs + 2) (by omega) (by omega),Zb (x:=c.Inputs + 2 + (k:Int)) (by omega) (by omega),Yc o.a (ZmM _),Yc o.b (ZmM _),Yc o.l (ZmM _)]
    have m1:ZQ (N + 6) [-(c.Inputs + 2 + (k:Int)),g.A] = _:=mkS2 N o.nl o.a o.al'
    have m2:ZQ (N + 6) [-(c.Inputs + 2 + (k:Int)),g.B] = _:=mkS2 N o.nl o.b o.bl'
    have m3:ZQ (N + 6) [c.Inputs + 2 + (k:Int),-g.A,-g.B] = _:=mkS3 N o.l o.na o.nb o.ab o.bl
    have q:=inner3 N (MC:=ZQ (N + 6)) m1 m2 m3 (out:=accF c k) (by rw [accF_len]; omega)
    have q':iterN _ (N + 6) _ = _:=q
    rw [q']
    simp only [Zme]
    rw [Zb (by omega) (by omega)]
    rfl
   ·simp only
    rw [Zmj (by rw [Za]; simp)]
theorem impl_FormulaOf_eq {c:D.Circuit} {lit:Int} (hc:ZaD c) (hg:c.Gates.length ≤ 1048576):X8 fuel c lit = some (formP c lit):=by
 obtain ⟨N,rfl⟩ : ∃ n,fuel = n + 6:=⟨fuel - 6,by have:=FU.le (n:=fuel); omega⟩
 unfold X8 formP
 rw [ZiE hc hg]
 simp only [Zme]
 cases h1:circB2 c with
 | false=>simp
 | true=>
  have hp:=circP_iff.1 h1
  have hl0:=hp.lines0
  have hl1:=hp.lines1
  simp only [Zmw,Zmg,Zmr,Zhi hp,Zme,ZmI,ZmT,Zc8 (x:=lit) (n:=lines c) (by omega) (by omega)]
  cases h2:litN (lines c) lit with
  | false=>simp
  | true=>
   have hi0:=hp.i0
   have hi1:=hp.i1
   have hl:=hp.len
   simp only [Zmw,Zmg,Zmr,Zm8]
   rw [Yx (I:=fun k t=>t = ((k:Int),accF c k)) (m:=c.Gates.length) (r:=accF c c.Gates.length) (fun k t hk ht=>?_) (fun t ht=>?_) c.Gates.length 0 (0,[[1]]) (by omega) rfl (N + 6) (lt_fuel (by omega))]
   ·simp only [Zme]
    have ha:app? (accF c c.Gates.length) [[lit]] = some (accF c c.Gates.length ++ [[lit]]):=by unfold app?; rw [Zmk (by rw [accF_len]; simp; unfold room; omega)]
    rw [ha]
    rfl
   all_goals subst ht
   ·refine ⟨_, ?_, rfl⟩
    have o:=ZfA hp (ZaV hk)
    simp only [accF]
    rw [Zmk (by rw [Za]; simp; omega),get?_nat,ZaV hk]
    simp only [Zme]
    generalize c.Gates.getD k ⟨0,0⟩ = g at o ⊢
    rw [show w64 (2 + c.Inputs) = c.Inputs + 2 by rw [Zb (by omega) (by omega)]; omega,Zb (x:=c.Inputs + 2 + (k:Int)) (by omega) (by omega),Yc o.a (ZmM _),Yc o.b (ZmM _),Yc o.l (ZmM _)]
    have m1:Ya (N + 6) [-(c.Inputs + 2 + (k:Int)),g.A] = _:=mkI2 N o.nl o.a o.al'
    have m2:Ya (N + 6) [-(c.Inputs + 2 + (k:Int)),g.B] = _:=mkI2 N o.nl o.b o.bl'
    have m3:Ya (N + 6) [c.Inputs + 2 + (k:Int),-g.A,-g.B] = _:=mkI3 N o.l o.na o.nb o.ab o.bl
    have q:=inner3 N (MC:=Ya (N + 6)) m1 m2 m3 (out:=accF c k) (by rw [accF_len]; omega)
    have q':iterN _ (N + 6) _ = _:=q
    rw [q']
    simp only [Zme]
    rw [Zb (by omega) (by omega)]
    rfl
   ·simp only
    rw [Zmj (by rw [Za]; simp)]
def IncI (n:Int) (c:List Int):Prop:=(∀ x ∈ c,litN n x = true) ∧ c.Pairwise fun x y=>iab x < iab y
theorem ZjT {c:D.Circuit}:∀ k,∀ x ∈ accF c k,x = [1] ∨ ∃ i,i < k ∧ x ∈ stepF c i (c.Gates.getD i ⟨0,0⟩):=by
 intro k
 induction k with
 | zero=>intro x hx; exact .inl (Zm5.1 hx)
 | succ k ih=>
  intro x hx
  rcases Zm0.1 hx with h | h
  ·rcases ih x h with h | ⟨i, h1, h2⟩
   ·exact .inl h
   ·exact .inr ⟨i,by omega,h2⟩
  ·exact .inr ⟨k,by omega,h⟩
theorem inc1 {n x:Int} (h:litN n x = true):IncI n [x]:=⟨fun y hy=>by rw [Zm5.1 hy]; exact h,by simp⟩
theorem form_inc {c:D.Circuit} (hc:CircP c) {lit:Int} (hl:litN (lines c) lit = true):∀ x ∈ accF c c.Gates.length ++ [[lit]],IncI (lines c) x ∧ x.length ≤ 3:=by
 intro x hx
 rcases Zm0.1 hx with hx | hx
 ·rcases ZjT _ x hx with rfl | ⟨i, hi, h⟩
  ·exact ⟨inc1 (litN_iff.2 (by have:=hc.lines0; unfold iab; simp; omega)),by simp⟩
  ·have o := ZfA hc (ZaV hi)
   have hb:=Zbz.1 (hc.gate i _ (ZaV hi))
   have hlt:(c.Gates.take i).length = i:=by simp; omega
   rw [hlt] at hb
   obtain ⟨h1,h2,h3,h4,-⟩:=hb
   generalize c.Gates.getD i ⟨0,0⟩ = g at *
   have hi0:=hc.i0
   have eN:lines c = c.Inputs + 1 + (c.Gates.length:Int):=rfl
   have lt:∀ y:Int,1 ≤ iab y → iab y ≤ c.Inputs + 2 + (i:Int) → litN (lines c) y = true:=fun y a b=>litN_iff.2 ⟨a,by omega⟩
   have o1:=(litN_iff.1 o.a).1
   have o2:=(litN_iff.1 o.b).1
   have o3:=(litN_iff.1 o.l).1
   have e1:iab (c.Inputs + 2 + (i:Int)) = c.Inputs + 2 + (i:Int):=by unfold iab; rw [Zmj (by omega)]
   have oa:=o.al'
   have ob:=o.bl'
   have oc:=o.ab
   rw [YI,e1] at oa ob
   rw [YI,YI] at oc
   unfold stepF at h
   simp only [ZmF,ZnR,or_false] at h
   rcases h with rfl | rfl | rfl
   ·exact ⟨⟨by simp only [ZmF,ZnR,or_false]; rintro y (rfl | rfl); exact lt _ o1 (by omega); exact lt _ (by rw [YI]; omega) (by rw [YI]; omega),by simp [YI,e1]; omega⟩,by simp⟩
   ·exact ⟨⟨by simp only [ZmF,ZnR,or_false]; rintro y (rfl | rfl); exact lt _ o2 (by omega); exact lt _ (by rw [YI]; omega) (by rw [YI]; omega),by simp [YI,e1]; omega⟩,by simp⟩
   ·exact ⟨⟨by simp only [ZmF,ZnR,or_false]; rintro y (rfl | rfl | rfl); exact lt _ (by rw [YI]; omega) (by rw [YI]; omega); exact lt _ (by rw [YI]; omega) (by rw [YI]; omega); exact lt _ (by omega) (by omega),by simp [YI,e1]; omega⟩,by simp⟩
 ·rw [Zm5.1 hx]; exact ⟨inc1 hl,by simp⟩
def prv (c:List Int):Nat → Int
 | 0=>0
 | k + 1=>iab (c.getD k 0)
theorem ZlF {n:Int} {c:List Int} (h:IncI n c) {k:Nat} (hk:k < c.length):1 ≤ iab c[k] ∧ iab c[k] ≤ n ∧ prv c k < iab c[k]:=by
 have h1:=litN_iff.1 (h.1 _ (ZmG hk))
 refine ⟨h1.1,h1.2,?_⟩
 cases k with
 | zero=>show (0:Int) < _; omega
 | succ k=>
  show iab (c.getD k 0) < _
  rw [Zmm,Zmf (by omega)]
  exact (Znw.1 h.2) k (k + 1) (by omega) hk (by omega)
theorem ZjE {n:Int} {c:List Int} (h0:0 ≤ n) (h1:n ≤ 400) (h:IncI n c) (hl:c.length ≤ 1000):XH fuel c n = some true:=by
 unfold XH
 rw [Yx (I:=fun k t=>t = (prv c k,(k:Int))) (m:=c.length) (r:=.inl ()) (fun k t hk ht=>?_) (fun t ht=>?_) c.length 0 (0,0) (by omega) rfl fuel (lt_fuel (by omega))]
 ·rfl
 all_goals subst ht
 ·refine ⟨_, ?_, rfl⟩
  obtain ⟨a1,a2,a3⟩:=ZlF h hk
  have hb : -1000 ≤ c[k] ∧ fitInt c[k]:=by unfold fitInt; unfold iab at a2; split at a2 <;> omega
  simp only
  rw [Zmk (by rw [Za]; simp; omega),get?_nat,Zmf hk]
  simp only [Zme]
  have hi:Zg c[k] (w64 (0 - n)) n = some true:=by
   unfold Zg
   rw [Zb (by omega) (by omega)]
   unfold iab at a2; split at a2 <;> simp <;> omega
  rw [hi]
  simp only [Zme,Zmw,Zmg,Zmr,ZmI,YF hb.2 hb.1]
  rw [Zmj (by simp; omega),Zb (by omega) (by omega)]
  simp only [prv]
  rw [Zmm,Zmf hk]; rfl
 ·simp only
  rw [Zmj (by rw [Za]; simp)]
section
variable {f:D.Formula} (h0:0 ≤ f.Vars) (h1:f.Vars ≤ 400) (hn:f.Clauses.length ≤ 1600) (h:∀ c ∈ f.Clauses,IncI f.Vars c ∧ c.length ≤ 1000)
include h0 h1 hn h
theorem spec_fok:YG fuel f = some true:=by
 unfold YG
 rw [show Zg f.Vars 0 400 = some true by unfold Zg; simp; omega]
 simp only [Zme]
 rw [Zmj (by rw [Za]; simp; omega)]
 rw [Yx (I:=fun k t=>t = (k:Int)) (m:=f.Clauses.length) (r:=.inl ()) (fun k t hk ht=>?_) (fun t ht=>?_) f.Clauses.length 0 0 (by omega) rfl fuel (lt_fuel (by omega))]
 ·rfl
 all_goals subst ht
 ·refine ⟨((k + 1 : Nat) : Int), ?_, rfl⟩
  have hc:=h _ (ZmG hk)
  rw [Zmk (by rw [Za]; simp; omega),get?_nat,Zmf hk]
  simp only [Zme]
  rw [ZjE h0 h1 hc.1 hc.2]
  simp only [Zme]
  rw [Zmj (by simp),Zb (by omega) (by omega)]; rfl
 ·rw [Zmj (by rw [Za]; simp)]
end
end Go.Proofs.YtgpcokpcbjloiaaGreat.Cc
end
section
namespace Go.Proofs.YtgpcokpcbjloiaaGreat
open Go.GL
set_option linter.unusedSimpArgs false
set_option maxRecDepth 100000
theorem itS {σt ρt:Type} {B:σt → Option (σt ⊕ ρt)} {s s':σt} {n:Nat} (h:B s = some (.inl s')):iterN B (n + 1) s = iterN B n s':=by
 rw [iterN,h]
theorem itE {σt ρt:Type} {B:σt → Option (σt ⊕ ρt)} {s:σt} {r:ρt} {n:Nat} (h:B s = some (.inr r)) (hn:0 < n):iterN B n s = some r:=by
 obtain ⟨n,rfl⟩ : ∃ k,n = k + 1:=⟨n - 1,by omega⟩
 rw [iterN,h]
def bit (b:Bool):Int:=if b then 1 else 0
def wsum (L:List D.Value):Nat:=(L.map fun v=>v.W.toNat).sum
theorem ZeW:∀ (L:List D.Value) (a:Int),(∀ v ∈ L,1 ≤ v.W ∧ v.W ≤ 16) → bitsV L a = a + (wsum L:Int)
 | [],a,_=>by unfold wsum bitsV; simp
 | v :: L,a,h=>by
  have hv:=h v (by simp)
  rw [Zhd,ZeW L _ fun x hx=>h x (by simp [hx])]
  unfold wsum
  rw [Zm2,List.sum_cons]; omega
section
variable {model:List Bool} (hM:model.length ≤ 1000)
include hM
end
end Go.Proofs.YtgpcokpcbjloiaaGreat
end
section
namespace Go.Proofs.YtgpcokpcbjloiaaGreat.Sv
open Go.GL
set_option linter.unusedSimpArgs false
def lv (a:List Int) (x:Int):Int:=if x < 0 then -(a.getD x.natAbs 0) else a.getD x.natAbs 0
def isL (m:Nat) (x:Int):Prop:=x ≠ 0 ∧ x.natAbs ≤ m
structure Asg (m:Nat) (a:List Int):Prop where
 len:a.length = m + 1
 val:∀ i,a.getD i 0 = -1 ∨ a.getD i 0 = 0 ∨ a.getD i 0 = 1
 nul:a.getD 0 0 = 0
structure ClM (m:Nat) (c:List Int):Prop where
 lit:∀ x ∈ c,isL m x
 dif:c.Pairwise fun x y=>x.natAbs ≠ y.natAbs
def stA (a:List Int) (l:Int):List Int:=a.set l.natAbs (if l < 0 then -1 else 1)
theorem Zbp {a:List Int} {x:Int} (h:x ≠ 0):lv a (-x) = - lv a x:=by
 unfold lv
 rw [Zov]
 by_cases c:x < 0
 ·rw [Zmj (by omega),Zmk c]; omega
 ·rw [Zmk (by omega),Zmj c]
theorem ZfT {m:Nat} {a:List Int} (h:Asg m a) (x:Int):lv a x = -1 ∨ lv a x = 0 ∨ lv a x = 1:=by
 unfold lv
 have:=h.val x.natAbs
 split <;> omega
theorem ZeI {a:List Int} {i j:Nat} {v:Int} (h:i < a.length):(a.set i v).getD j 0 = if j = i then v else a.getD j 0:=by
 rw [Zmm,Zn4,Zmm]
 by_cases e:i = j
 ·subst e; rw [Zmk rfl,Zmk h,Zmk rfl]; rfl
 ·rw [Zmj e,Zmj (Ne.symm e)]
theorem Zbj {m:Nat} {a:List Int} {l x:Int} (ha:a.length = m + 1) (hl:isL m l) (hx:x ≠ 0):lv (stA a l) x = if x = l then 1 else if x = -l then -1 else lv a x:=by
 obtain ⟨l0,l1⟩:=hl
 unfold lv stA
 rw [ZeI (by omega)]
 by_cases e:x.natAbs = l.natAbs
 ·rw [Zmk e]
  by_cases e1:x = l
  ·subst e1
   rw [Zmk rfl]
   by_cases c:x < 0
   ·rw [Zmk c,Zmk c]; omega
   ·rw [Zmj c,Zmj c]
  ·have e2 : x = -l := by omega
   rw [Zmj e1,Zmk e2]
   by_cases c:x < 0
   ·rw [Zmk c,Zmj (by omega)]
   ·rw [Zmj c,Zmk (by omega)]
 ·rw [Zmj e,Zmj (show ¬ x = l by intro h; exact e (by rw [h])),Zmj (show ¬ x = -l by intro h; exact e (by rw [h,Zov]))]
theorem Zc2 {m:Nat} {a:List Int} {l:Int} (h:Asg m a) (hl:isL m l):Asg m (stA a l):=by
 obtain ⟨l0,l1⟩:=hl
 have h1:=h.len
 refine ⟨by unfold stA; rw [Zo3]; exact h1,fun i=>?_,?_⟩
 ·unfold stA
  rw [ZeI (by omega)]
  split
  ·split <;> omega
  ·exact h.val i
 ·unfold stA
  rw [ZeI (by omega),Zmj (by omega)]; exact h.nul
theorem Zlc {m:Nat} {a b:List Int} (ha:Asg m a) (hb:Asg m b) (h:∀ x,isL m x → (lv a x = 1 ↔ lv b x = 1)):a = b:=by
 refine List.ext_getElem (ha.len.trans hb.len.symm) fun i h1 h2=>?_
 have g1:a.getD i 0 = a[i]:=by rw [Zmm,Zmf h1]; rfl
 have g2:b.getD i 0 = b[i]:=by rw [Zmm,Zmf h2]; rfl
 rw [← g1,← g2]
 by_cases hi:i = 0
 ·subst hi; rw [ha.nul,hb.nul]
 have hm:i ≤ m:=by have:=ha.len; omega
 have p:=h (i:Int) ⟨by omega,by omega⟩
 have q:=h (-(i:Int)) ⟨by omega,by omega⟩
 rw [Zbp (by omega),Zbp (by omega)] at q
 have e:∀ c:List Int,lv c (i:Int) = c.getD i 0:=fun c=>by unfold lv; rw [Zmj (by omega)]; simp
 rw [e,e] at p q
 have va:=ha.val i
 have vb:=hb.val i
 omega
inductive Der (cs:List (List Int)) (S:Int → Prop):Int → Prop
 | base {x:Int}:S x → Der cs S x
 | unit {c:List Int} {x:Int}:c ∈ cs → x ∈ c → (∀ y ∈ c,y ≠ x → Der cs S (-y)) → Der cs S x
def good (a:List Int) (c:List Int):Prop:=(∃ x ∈ c,lv a x = 1) ∨ ∃ x ∈ c,∃ y ∈ c,x ≠ y ∧ lv a x = 0 ∧ lv a y = 0
structure Okc (m:Nat) (cs:List (List Int)) (S:Int → Prop) (a:List Int):Prop where
 asg:Asg m a
 ext:∀ x,S x → lv a x = 1
 snd:∀ x,isL m x → lv a x = 1 → Der cs S x
 cl:∀ c ∈ cs,good a c
def Bad (cs:List (List Int)) (S:Int → Prop):Prop:=∃ c ∈ cs,∀ y ∈ c,Der cs S (-y)
section
variable {m:Nat} {cs:List (List Int)} {S:Int → Prop} {a b:List Int}
theorem Zhu (hcs:∀ c ∈ cs,ClM m c) (h:Okc m cs S a) {x:Int} (hd:Der cs S x):lv a x = 1:=by
 induction hd with
 | base hx=>exact h.ext _ hx
 | @unit c x hc hx _ ih=>
  have ih':∀ y ∈ c,y ≠ x → lv a y = -1:=fun y hy hne=>by
   have:=ih y hy hne
   rw [Zbp ((hcs c hc).lit y hy).1] at this
   omega
  rcases h.cl c hc with ⟨z,hz,hz1⟩ | ⟨y,hy,z,hz,hne,hy0,hz0⟩
  ·by_cases e : z = x
   ·subst e; exact hz1
   ·have:=ih' z hz e; omega
  ·by_cases e : y = x
   ·have:=ih' z hz (fun e'=>hne (e.trans e'.symm)); omega
   ·have:=ih' y hy e; omega
theorem Zgd (hcs:∀ c ∈ cs,ClM m c) (h:Okc m cs S a):¬ Bad cs S:=fun ⟨c,hc,hb⟩=>by
 have ih:∀ y ∈ c,lv a y = -1:=fun y hy=>by
  have:=Zhu hcs h (hb y hy)
  rw [Zbp ((hcs c hc).lit y hy).1] at this
  omega
 rcases h.cl c hc with ⟨z,hz,hz1⟩ | ⟨y,hy,z,hz,hne,hy0,hz0⟩
 ·have:=ih z hz; omega
 ·have:=ih y hy; omega
theorem Zkv (hcs:∀ c ∈ cs,ClM m c) (h:Okc m cs S a) (h':Okc m cs S b):a = b:=
 Zlc h.asg h'.asg fun x hx=>⟨fun e=>Zhu hcs h' (h.snd x hx e),fun e=>Zhu hcs h (h'.snd x hx e)⟩
def Res (m:Nat) (cs:List (List Int)) (S:Int → Prop):Option (List Int) → Prop
 | some a=>Okc m cs S a
 | none=>Bad cs S
def free (a:List Int) (c:List Int):List Int:=c.filter fun x=>lv a x == 0
theorem ZbX {c:List Int} {x:Int}:x ∈ free a c ↔ x ∈ c ∧ lv a x = 0:=by unfold free; rw [Zm4]; simp
theorem Zgu {c:List Int} (hc:ClM m c) (h:2 ≤ (free a c).length):good a c:=by
 have hp:(free a c).Pairwise fun x y=>x.natAbs ≠ y.natAbs:=hc.dif.filter _
 match hf:free a c,h with
 | x :: y :: l,_=>
  rw [hf] at hp
  have hx:x ∈ free a c:=by rw [hf]; simp
  have hy:y ∈ free a c:=by rw [hf]; simp
  rw [ZbX] at hx hy
  refine .inr ⟨x,hx.1,y,hy.1,fun e=>?_,hx.2,hy.2⟩
  rw [ZnG] at hp
  exact hp.1 y (by simp) (by rw [e])
def Snd (m:Nat) (cs:List (List Int)) (S:Int → Prop) (a:List Int):Prop:=∀ x,isL m x → lv a x = 1 → Der cs S x
theorem Zif (hA:Asg m a) (hs:Snd m cs S a) {c:List Int} (hc:ClM m c) {y:Int} (hy:y ∈ c) (h1:lv a y ≠ 1) (h0:lv a y ≠ 0):Der cs S (-y):=by
 have hl:=hc.lit y hy
 have:=ZfT hA y
 exact hs (-y) ⟨by have:=hl.1; omega,by rw [Zov]; exact hl.2⟩ (by rw [Zbp hl.1]; omega)
theorem ZgH (hA:Asg m a) (hs:Snd m cs S a) {c:List Int} (hcs:c ∈ cs) (hc:ClM m c) (hn:∀ x ∈ c,lv a x ≠ 1) (hf:free a c = []):Bad cs S :=
 ⟨c, hcs, fun y hy => Zif hA hs hc hy (hn y hy) fun h => by
  have:y ∈ free a c:=ZbX.2 ⟨hy,h⟩
  rw [hf] at this; cases this⟩
theorem Zj6 (hA:Asg m a) (hs:Snd m cs S a) {c:List Int} (hcs:c ∈ cs) (hc:ClM m c) (hn:∀ x ∈ c,lv a x ≠ 1) {l:Int} (hf:free a c = [l]):isL m l ∧ l ∈ c ∧ lv a l = 0 ∧ Asg m (stA a l) ∧ Snd m cs S (stA a l):=by
 have hl:l ∈ free a c:=by rw [hf]; simp
 rw [ZbX] at hl
 have hL:=hc.lit l hl.1
 refine ⟨hL,hl.1,hl.2,Zc2 hA hL,fun x hx h=>?_⟩
 rw [Zbj hA.len hL hx.1] at h
 by_cases e:x = l
 ·subst e
  refine .unit hcs hl.1 fun y hy hne=>Zif hA hs hc hy (hn y hy) fun h0=>?_
  have:y ∈ free a c:=ZbX.2 ⟨hy,h0⟩
  rw [hf,Zm5] at this
  exact hne this
 ·rw [Zmj e] at h
  split at h
  ·omega
  ·exact hs x hx h
theorem Zdd (hA:Asg m a) {l:Int} (hl:isL m l) (h0:lv a l = 0) {x:Int} (hx:x ≠ 0) (h:lv a x ≠ 0):lv (stA a l) x = lv a x:=by
 rw [Zbj hA.len hl hx,Zmj (show ¬ x = l from fun e=>h (e ▸ h0)),Zmj (show ¬ x = -l from fun e=>h (by rw [e,Zbp hl.1,h0]; rfl))]
theorem Zgv (hA:Asg m a) {l:Int} (hl:isL m l) (h0:lv a l = 0) {c:List Int} (hc:ClM m c) (h:good a c):good (stA a l) c ∨ -l ∈ c:=by
 by_cases hn : -l ∈ c
 ·exact .inr hn
 refine .inl ?_
 rcases h with ⟨x,hx,h1⟩ | ⟨x,hx,y,hy,hne,hx0,hy0⟩
 ·exact .inl ⟨x,hx,by rw [Zdd hA hl h0 (hc.lit x hx).1 (by omega)]; exact h1⟩
 ·by_cases e : l ∈ c
  ·exact .inl ⟨l,e,by rw [Zbj hA.len hl hl.1,Zmk rfl]⟩
  ·have k:∀ z ∈ c,lv a z = 0 → lv (stA a l) z = 0:=fun z hz hz0=>by
    rw [Zbj hA.len hl (hc.lit z hz).1,Zmj (show ¬ z = l from fun e'=>e (e' ▸ hz)),Zmj (show ¬ z = -l from fun e'=>hn (e' ▸ hz))]; exact hz0
   exact .inr ⟨x,hx,y,hy,hne,k x hx hx0,k y hy hy0⟩
end
set_option maxRecDepth 100000
structure FmP (f:D.Formula) (m:Nat):Prop where
 vars:f.Vars = m
 small:m ≤ 400
 num:f.Clauses.length ≤ 1600
 cl:∀ c ∈ f.Clauses,ClM m c ∧ c.length ≤ 1000
def Sv (m:Nat) (v:List Int) (x:Int):Prop:=isL m x ∧ lv v x = 1
def zer (v:List Int):Nat:=v.count 0
theorem X7 {σt ρt:Type} {B:σt → Option (σt ⊕ ρt)} {s s':σt} {n:Nat} (h:B s = some (.inl s')):iterN B (n + 1) s = iterN B n s':=by
 rw [iterN,h]
section
variable {m:Nat} {a:List Int} {x:Int}
theorem Za4 {i:Nat} (h:i < a.length):a[i]? = some (a.getD i 0):=by
 rw [Zmm,Zmf h]; rfl
theorem Zc3 (hA:Asg m a) (hl:isL m x) (h0:lv a x = 0):zer (stA a x) + 1 = zer a:=by
 obtain ⟨l0,l1⟩:=hl
 have hi:x.natAbs < a.length:=by have:=hA.len; omega
 have hg:a[x.natAbs] = 0:=by
  have h1:=Za4 hi
  rw [Zmf hi] at h1
  have h2:=Option.some.inj h1
  unfold lv at h0
  rw [h2]
  split at h0 <;> omega
 have hpos:0 < a.count 0:=Zo7.2 (hg ▸ ZmG hi)
 unfold zer stA
 rw [List.count_set hi,hg]
 have hne:((if x < 0 then (-1:Int) else 1) == 0) = false:=by split <;> decide
 simp only [ZoG,Zm8,hne,Zmg,Zmr]
 omega
theorem Zij (hm:m ≤ 400) (hl:isL m x):(if (decide (x < 0)) = true then some (w64 (0 - x)) else some x) = some (x.natAbs:Int):=by
 obtain ⟨l0,l1⟩:=hl
 by_cases h:x < 0
 ·rw [Zmk (by simpa using h),Zb (by omega) (by omega)]; congr 1; omega
 ·rw [Zmj (by simpa using h)]; congr 1; omega
theorem YF (hm:m ≤ 400) (hl:isL m x):Zo x = some (x.natAbs:Int):=Zij hm hl
theorem Zd2 (hA:Asg m a) (hl:isL m x):get? a (x.natAbs:Int) = some (a.getD x.natAbs 0):=by
 rw [get?_nat]
 exact Za4 (by have:=hA.len; have:=hl.2; omega)
theorem Zlj (hA:Asg m a) (x:Int):(cond (decide (x < 0)) (w64 (0 - a.getD x.natAbs 0)) (a.getD x.natAbs 0)) = lv a x:=by
 unfold lv
 have:=hA.val x.natAbs
 by_cases h:x < 0
 ·rw [Zmk h,decide_eq_true h,cond_true,Zb (by omega) (by omega)]; omega
 ·rw [Zmj h,decide_eq_false h,cond_false]
def lst (l:List Int):Int:=l.getLastD 0
theorem Zdk (c d:List Int):free a (c ++ d) = free a c ++ free a d:=by unfold free; rw [List.filter_append]
theorem Ziq (l:List Int) (y:Int):lst (l ++ [y]) = y:=by unfold lst; simp
theorem ZiX (hA:Asg m a) (hm:m ≤ 400) {c:List Int} (hc:∀ x ∈ c,isL m x) (hlen:c.length ≤ 1000) {n:Nat} (hn:2000 ≤ n):iterN (fun (s3:Int × Int × Bool × Int)=>
      if (decide (s3.2.2.2 < (len c))) then
       (get? c s3.2.2.2).bind fun x2=>
       (Zo x2).bind fun x3=>
       (get? a x3).bind fun x4=>
       if ((cond (decide (x2 < 0)) (w64 (0 - x4)) x4) == 0) then
        some (.inl ((w64 (s3.1 + 1)),x2,(s3.2.2.1 || (decide ((cond (decide (x2 < 0)) (w64 (0 - x4)) x4) > 0))),(w64 (s3.2.2.2 + 1))))
       else
        some (.inl (s3.1,s3.2.1,(s3.2.2.1 || (decide ((cond (decide (x2 < 0)) (w64 (0 - x4)) x4) > 0))),(w64 (s3.2.2.2 + 1))))
      else
       some (.inr (s3.1,s3.2.1,s3.2.2.1))
     ) n (0,0,false,0) = some (((free a c).length:Int),lst (free a c),c.any fun x=>lv a x == 1):=by
  obtain ⟨r,g1,g2⟩:=Yd (l:=c) (n:=n) (σ:=Int × Int × Bool) (ρ:=Int × Int × Bool) (B:=fun (s3:Int × Int × Bool × Int)=>
      if (decide (s3.2.2.2 < (len c))) then
       (get? c s3.2.2.2).bind fun x2=>
       (Zo x2).bind fun x3=>
       (get? a x3).bind fun x4=>
       if ((cond (decide (x2 < 0)) (w64 (0 - x4)) x4) == 0) then
        some (.inl ((w64 (s3.1 + 1)),x2,(s3.2.2.1 || (decide ((cond (decide (x2 < 0)) (w64 (0 - x4)) x4) > 0))),(w64 (s3.2.2.2 + 1))))
       else
        some (.inl (s3.1,s3.2.1,(s3.2.2.1 || (decide ((cond (decide (x2 < 0)) (w64 (0 - x4)) x4) > 0))),(w64 (s3.2.2.2 + 1))))
      else
       some (.inr (s3.1,s3.2.1,s3.2.2.1))) (fun k q=>(q.1,q.2.1,q.2.2,(k:Int)))
    (fun ys q=>∃ pre,pre ++ ys = c ∧ q = (((free a pre).length:Int),lst (free a pre),pre.any fun x=>lv a x == 1))
    (fun r=>r = (((free a c).length:Int),lst (free a c),c.any fun x=>lv a x == 1))
    (fun k x xs q hk hx hl ⟨pre,h1,h2⟩=>by
      have hd:decide ((k:Int) < len c) = true:=by rw [Za]; simp; omega
      have hlx:=hc x (Zmn hx)
      have hfl:(free a pre).length ≤ c.length:=by
        rw [← h1]
        exact Znn (List.length_filter_le _ _) (by simp)
      subst h2
      simp only [hd,Zm8,get?_nat,hx,Zme]
      rw [YF hm hlx]
      simp only [Zme]
      rw [Zd2 hA hlx]
      simp only [Zme,Zlj hA x]
      have hv:=ZfT hA x
      have hk1:w64 ((k:Int) + 1) = ((k + 1:Nat):Int):=by rw [Zb (by omega) (by omega)]; rfl
      have hany:((pre ++ [x]).any fun x=>lv a x == 1) = ((pre.any fun x=>lv a x == 1) || decide (lv a x > 0)):=by
        rw [ZoS]
        simp only [List.any_cons,List.any_nil,Zoq]
        congr 1
        rcases hv with e | e | e <;> rw [e] <;> decide
      by_cases h0:lv a x = 0
      · have hb : (lv a x == 0) = true := by simpa using h0
        refine .inl ⟨(((free a (pre ++ [x])).length:Int),lst (free a (pre ++ [x])),(pre ++ [x]).any fun x=>lv a x == 1),?_,pre ++ [x],by rw [Zm9]; exact h1,rfl⟩
        have hfr:free a (pre ++ [x]) = free a pre ++ [x]:=by
          rw [Zdk]; congr 1; unfold free; simp [h0]
        rw [Zmk hb,hk1,hany,hfr,Ziq,Zb (by omega) (by omega)]
        simp
      · have hb : (lv a x == 0) = false := by simpa using h0
        refine .inl ⟨(((free a (pre ++ [x])).length:Int),lst (free a (pre ++ [x])),(pre ++ [x]).any fun x=>lv a x == 1),?_,pre ++ [x],by rw [Zm9]; exact h1,rfl⟩
        have hfr:free a (pre ++ [x]) = free a pre:=by
          rw [Zdk]
          have:free a [x] = []:=by unfold free; simp [h0]
          rw [this,ZmO]
        rw [Zmj (by rw [hb]; decide),hk1,hany,hfr])
    (fun q ⟨pre,h1,h2⟩=>by
      have hd:decide ((c.length:Int) < len c) = false:=by rw [Za]; simp
      simp only [hd,Zmg,Zmr]
      rw [ZmO] at h1
      subst h1
      exact ⟨_,rfl,h2⟩) (a:=(0,0,false)) ⟨[],rfl,rfl⟩ (by omega)
  rw [show ((0:Nat):Int) = 0 from rfl] at g1
  rw [g1,g2]
theorem Ze3 (hm:m ≤ 400) (hl:isL m x):quo? x (x.natAbs:Int) = some (if x < 0 then -1 else 1):=by
 obtain ⟨l0,l1⟩:=hl
 unfold quo?
 rw [Zmj (by omega)]
 by_cases h:x < 0
 ·have e : (x.natAbs : Int) = -x := by omega
  rw [Zmk h,e,Int.tdiv_neg,Int.tdiv_self l0]; rfl
 ·have e : (x.natAbs : Int) = x := by omega
  rw [Zmj h,e,Int.tdiv_self l0]; rfl
theorem ZfR (hA:Asg m a) (hl:isL m x):set? a (x.natAbs:Int) (if x < 0 then -1 else 1) = some (stA a x):=by
 unfold set? stA
 rw [Zmk ⟨by omega,by have:=hA.len; have:=hl.2; simp; omega⟩]; simp
end
section
variable {f:D.Formula} {m:Nat} {S:Int → Prop}
structure Way (m:Nat) (cs:List (List Int)) (S:Int → Prop) (a:List Int):Prop where
 asg:Asg m a
 ext:∀ x,S x → lv a x = 1
 snd:Snd m cs S a
theorem Way.unit {cs:List (List Int)} {a:List Int} (h:Way m cs S a) (hS:∀ x,S x → isL m x) {c:List Int} (hc:c ∈ cs) (hm:ClM m c) (hn:∀ x ∈ c,lv a x ≠ 1) {l:Int} (hf:free a c = [l]):Way m cs S (stA a l) ∧ isL m l ∧ lv a l = 0 ∧ l ∈ c:=by
 obtain ⟨h1,h2,h3,h4,h5⟩:=Zj6 h.asg h.snd hc hm hn hf
 refine ⟨⟨h4,fun x hx=>?_,h5⟩,h1,h3,h2⟩
 rw [Zdd h.asg h1 h3 (hS x hx).1 (by rw [h.ext x hx]; decide)]
 exact h.ext x hx
theorem Zbt {a:List Int} {c:List Int}:(c.any fun x=>lv a x == 1) = true ↔ ∃ x ∈ c,lv a x = 1:=by
 rw [List.any_eq_true]; simp
theorem Zg4 (hf:FmP f m) (hS:∀ x,S x → isL m x) {a:List Int} (hw:Way m f.Clauses S a) {c:List Int} (hc:c ∈ f.Clauses) :
  (((c.any fun x=>lv a x == 1) || decide (((free a c).length:Int) > 1)) = true ∧ good a c) ∨
  (((c.any fun x=>lv a x == 1) || decide (((free a c).length:Int) > 1)) = false ∧ ((((free a c).length:Int) == 0) = true ∧ Bad f.Clauses S ∨ (((free a c).length:Int) == 0) = false ∧ isL m (lst (free a c)) ∧ Way m f.Clauses S (stA a (lst (free a c))) ∧ zer (stA a (lst (free a c))) + 1 = zer a)):=by
 have hcl:=(hf.cl c hc).1
 cases hany:c.any fun x=>lv a x == 1 with
 | true=>exact .inl ⟨by simp,.inl (Zbt.1 hany)⟩
 | false=>
  have hn:∀ x ∈ c,lv a x ≠ 1:=fun x hx e=>by
   have:=Zbt.2 ⟨x,hx,e⟩
   rw [hany] at this; cases this
  match hfr:free a c with
  | []=>exact .inr ⟨by simp,.inl ⟨by simp,ZgH hw.asg hw.snd hc hcl hn hfr⟩⟩
  | [l]=>
   obtain ⟨h1,h2,h3,_⟩:=hw.unit hS hc hcl hn hfr
   exact .inr ⟨by simp,.inr ⟨by simp,h2,h1,Zc3 hw.asg h2 h3⟩⟩
  | x :: y :: l=>exact .inl ⟨by simp; omega,Zgu hcl (by rw [hfr]; simp)⟩
theorem Ze9 (hf:FmP f m) (hS:∀ x,S x → isL m x) {v0:List Int} (hw:Way m f.Clauses S v0) {n:Nat} (hn:2000 ≤ n) :
    ∃ r,iterN (fun (s2:Bool × Int × (List Int))=>
    if (decide (s2.2.1 < (len f.Clauses))) then
     (get? f.Clauses s2.2.1).bind fun x1 =>
     (iterN (fun (s3 : Int × Int × Bool × Int) =>
      if (decide (s3.2.2.2 < (len x1))) then
       (get? x1 s3.2.2.2).bind fun x2=>
       (Zo x2).bind fun x3=>
       (get? s2.2.2 x3).bind fun x4=>
       if ((cond (decide (x2 < 0)) (w64 (0 - x4)) x4) == 0) then
        some (.inl ((w64 (s3.1 + 1)),x2,(s3.2.2.1 || (decide ((cond (decide (x2 < 0)) (w64 (0 - x4)) x4) > 0))),(w64 (s3.2.2.2 + 1))))
       else
        some (.inl (s3.1,s3.2.1,(s3.2.2.1 || (decide ((cond (decide (x2 < 0)) (w64 (0 - x4)) x4) > 0))),(w64 (s3.2.2.2 + 1))))
      else
       some (.inr (s3.1,s3.2.1,s3.2.2.1))
     ) n (0,0,false,0)).bind fun (rl3:Int × Int × Bool)=>
     if (rl3.2.2 || (decide (rl3.1 > 1))) then
      some (.inl (s2.1,(w64 (s2.2.1 + 1)),s2.2.2))
     else
      if (rl3.1 == 0) then
       some (.inr (.inr (false,s2.2.2)))
      else
       (Zo rl3.2.1).bind fun x5=>
       (Zo rl3.2.1).bind fun x6=>
       (quo? rl3.2.1 x6).bind fun x7=>
       (set? s2.2.2 x5 x7).bind fun x8=>
       some (.inl (true,(w64 (s2.2.1 + 1)),x8))
    else
     some (.inr (.inl (s2.1,s2.2.2))):Bool × Int × (List Int) → Option ((Bool × Int × (List Int)) ⊕ ((Bool × (List Int)) ⊕ (Bool × (List Int))))) n (false,0,v0) = some r ∧
    ((∃ b v,r = .inl (b,v) ∧ Way m f.Clauses S v ∧ (b = false → v = v0 ∧ ∀ c ∈ f.Clauses,good v c) ∧ (b = true → zer v < zer v0)) ∨ ∃ v,r = .inr (false,v) ∧ v.length = m + 1 ∧ Bad f.Clauses S):=by
  have hnum:=hf.num
  obtain ⟨r,g1,g2⟩:=Yd (l:=f.Clauses) (n:=n) (σ:=Bool × List Int) (ρ:=(Bool × (List Int)) ⊕ (Bool × (List Int))) (B:=fun (s2:Bool × Int × (List Int))=>
    if (decide (s2.2.1 < (len f.Clauses))) then
     (get? f.Clauses s2.2.1).bind fun x1 =>
     (iterN (fun (s3 : Int × Int × Bool × Int) =>
      if (decide (s3.2.2.2 < (len x1))) then
       (get? x1 s3.2.2.2).bind fun x2=>
       (Zo x2).bind fun x3=>
       (get? s2.2.2 x3).bind fun x4=>
       if ((cond (decide (x2 < 0)) (w64 (0 - x4)) x4) == 0) then
        some (.inl ((w64 (s3.1 + 1)),x2,(s3.2.2.1 || (decide ((cond (decide (x2 < 0)) (w64 (0 - x4)) x4) > 0))),(w64 (s3.2.2.2 + 1))))
       else
        some (.inl (s3.1,s3.2.1,(s3.2.2.1 || (decide ((cond (decide (x2 < 0)) (w64 (0 - x4)) x4) > 0))),(w64 (s3.2.2.2 + 1))))
      else
       some (.inr (s3.1,s3.2.1,s3.2.2.1))
     ) n (0,0,false,0)).bind fun (rl3:Int × Int × Bool)=>
     if (rl3.2.2 || (decide (rl3.1 > 1))) then
      some (.inl (s2.1,(w64 (s2.2.1 + 1)),s2.2.2))
     else
      if (rl3.1 == 0) then
       some (.inr (.inr (false,s2.2.2)))
      else
       (Zo rl3.2.1).bind fun x5=>
       (Zo rl3.2.1).bind fun x6=>
       (quo? rl3.2.1 x6).bind fun x7=>
       (set? s2.2.2 x5 x7).bind fun x8=>
       some (.inl (true,(w64 (s2.2.1 + 1)),x8))
    else
     some (.inr (.inl (s2.1,s2.2.2)))) (fun k q=>(q.1,(k:Int),q.2))
    (fun ys q=>Way m f.Clauses S q.2 ∧ (q.1 = false → q.2 = v0 ∧ ∃ pre,pre ++ ys = f.Clauses ∧ ∀ c ∈ pre,good q.2 c) ∧ (q.1 = true → zer q.2 < zer v0))
    (fun r=>(∃ b v,r = .inl (b,v) ∧ Way m f.Clauses S v ∧ (b = false → v = v0 ∧ ∀ c ∈ f.Clauses,good v c) ∧ (b = true → zer v < zer v0)) ∨ ∃ v,r = .inr (false,v) ∧ v.length = m + 1 ∧ Bad f.Clauses S)
    (fun k c xs q hk hx hl ⟨i1,i2,i3⟩=>by
      have hd:decide ((k:Int) < len f.Clauses) = true:=by rw [Za]; simp; omega
      have hcm:=Zmn hx
      have hcl:=hf.cl c hcm
      have hk1:w64 ((k:Int) + 1) = ((k + 1:Nat):Int):=by rw [Zb (by omega) (by omega)]; rfl
      have hsc:=ZiX i1.asg hf.small hcl.1.lit hcl.2 hn
      simp only [hd,Zm8,get?_nat,hx,Zme]
      rw [hsc]
      simp only [Zme]
      rcases Zg4 hf hS i1 hcm with ⟨e,hg⟩ | ⟨e,⟨e0,hb⟩ | ⟨e0,hl1,hw1,hz⟩⟩
      · refine .inl ⟨q, by rw [Zmk e, hk1], i1, fun hq => ?_, i3⟩
        obtain ⟨j1,pre,j2,j3⟩:=i2 hq
        refine ⟨j1,pre ++ [c],by rw [Zm9]; exact j2,fun d hd=>?_⟩
        rcases Zm0.1 hd with hd | hd
        · exact j3 d hd
        · rw [Zm5] at hd; subst hd; exact hg
      · exact .inr ⟨_,by rw [Zmj (by rw [e]; decide),Zmk e0],.inr ⟨_,rfl,i1.asg.len,hb⟩⟩
      · refine .inl ⟨(true, stA q.2 (lst (free q.2 c))), ?_, hw1, fun h => (by cases h), fun _ => ?_⟩
        · rw [Zmj (by rw [e]; decide), Zmj (by rw [e0]; decide), YF hf.small hl1]
          simp only [Zme]
          rw [Ze3 hf.small hl1]
          simp only [Zme]
          rw [ZfR i1.asg hl1]
          simp only [Zme,hk1]
        · show zer (stA q.2 (lst (free q.2 c))) < zer v0
          cases hq:q.1
          · have:=(i2 hq).1; rw [this] at hz ⊢; omega
          · have:=i3 hq; omega)
    (fun q ⟨i1,i2,i3⟩=>by
      have hd:decide ((f.Clauses.length:Int) < len f.Clauses) = false:=by rw [Za]; simp
      simp only [hd,Zmg,Zmr]
      refine ⟨_,rfl,.inl ⟨q.1,q.2,rfl,i1,fun hq=>?_,i3⟩⟩
      obtain ⟨j1,pre,j2,j3⟩:=i2 hq
      rw [ZmO] at j2
      exact ⟨j1,j2 ▸ j3⟩) (a:=(false,v0)) ⟨hw,fun _=>⟨rfl,[],rfl,fun _ h=>(by cases h)⟩,fun h=>(by cases h)⟩ (by omega)
  exact ⟨r,g1,g2⟩
theorem Zhf {a:List Int} (h:Asg m a):zer a ≤ m + 1:=by
 rw [← h.len]; exact List.count_le_length
theorem Zg6 (hf:FmP f m) (hS:∀ x,S x → isL m x) {v:List Int} (hw:Way m f.Clauses S v) {n:Nat} (hn:2000 ≤ n) :
    ∃ b v',YZ n f v = some (b,v') ∧ v'.length = m + 1 ∧ (b = true → Okc m f.Clauses S v') ∧ (b = false → Bad f.Clauses S):=by
  have key:∀ (z:Nat) (v:List Int) (k:Nat),zer v ≤ z → Way m f.Clauses S v → z + 2 ≤ k → ∃ r,iterN (fun (s1:Bool × (List Int))=>
  if s1.1 then
   (iterN (fun (s2 : Bool × Int × (List Int)) =>
    if (decide (s2.2.1 < (len f.Clauses))) then
     (get? f.Clauses s2.2.1).bind fun x1 =>
     (iterN (fun (s3 : Int × Int × Bool × Int) =>
      if (decide (s3.2.2.2 < (len x1))) then
       (get? x1 s3.2.2.2).bind fun x2=>
       (Zo x2).bind fun x3=>
       (get? s2.2.2 x3).bind fun x4=>
       if ((cond (decide (x2 < 0)) (w64 (0 - x4)) x4) == 0) then
        some (.inl ((w64 (s3.1 + 1)),x2,(s3.2.2.1 || (decide ((cond (decide (x2 < 0)) (w64 (0 - x4)) x4) > 0))),(w64 (s3.2.2.2 + 1))))
       else
        some (.inl (s3.1,s3.2.1,(s3.2.2.1 || (decide ((cond (decide (x2 < 0)) (w64 (0 - x4)) x4) > 0))),(w64 (s3.2.2.2 + 1))))
      else
       some (.inr (s3.1,s3.2.1,s3.2.2.1))
     ) n (0,0,false,0)).bind fun (rl3:Int × Int × Bool)=>
     if (rl3.2.2 || (decide (rl3.1 > 1))) then
      some (.inl (s2.1,(w64 (s2.2.1 + 1)),s2.2.2))
     else
      if (rl3.1 == 0) then
       some (.inr (.inr (false,s2.2.2)))
      else
       (Zo rl3.2.1).bind fun x5=>
       (Zo rl3.2.1).bind fun x6=>
       (quo? rl3.2.1 x6).bind fun x7=>
       (set? s2.2.2 x5 x7).bind fun x8=>
       some (.inl (true,(w64 (s2.2.1 + 1)),x8))
    else
     some (.inr (.inl (s2.1,s2.2.2)))
   ) n (false,0,s1.2)).bind fun (rl2:(Bool × (List Int)) ⊕ (Bool × (List Int)))=>
   match rl2 with
   | .inl s2r=>
    some (.inl (s2r.1,s2r.2))
   | .inr v=>some (.inr (.inr v))
  else
   some (.inr (.inl (s1.2))):Bool × (List Int) → Option ((Bool × (List Int)) ⊕ ((List Int) ⊕ (Bool × (List Int))))) k (true,v) = some r ∧ ((∃ a,r = .inl a ∧ Okc m f.Clauses S a) ∨ ∃ a,r = .inr (false,a) ∧ a.length = m + 1 ∧ Bad f.Clauses S):=by
    intro z
    induction z with
    | zero =>
      intro v k hz hw hk
      obtain ⟨k,rfl⟩ : ∃ q,k = q + 2:=⟨k - 2,by omega⟩
      obtain ⟨r,g1,g2⟩:=Ze9 hf hS hw hn
      rcases g2 with ⟨b,a,rfl,h1,h2,h3⟩ | ⟨a,rfl,h1,h2⟩
      · cases b with
        | true=>have:=h3 rfl; omega
        | false =>
          obtain ⟨e,hg⟩:=h2 rfl
          refine ⟨.inl a,?_,.inl ⟨a,rfl,⟨h1.asg,h1.ext,h1.snd,hg⟩⟩⟩
          rw [show k + 2 = (k + 1) + 1 from rfl,X7 (s':=(false,a)) (by simp only [Zm8]; rw [g1]; rfl)]
          exact ZA rfl (by omega)
      · exact ⟨.inr (false,a),ZA (by simp only [Zm8]; rw [g1]; rfl) (by omega),.inr ⟨a,rfl,h1,h2⟩⟩
    | succ z ih =>
      intro v k hz hw hk
      obtain ⟨k,rfl⟩ : ∃ q,k = q + 2:=⟨k - 2,by omega⟩
      obtain ⟨r,g1,g2⟩:=Ze9 hf hS hw hn
      rcases g2 with ⟨b,a,rfl,h1,h2,h3⟩ | ⟨a,rfl,h1,h2⟩
      · cases b with
        | true =>
          have:=h3 rfl
          obtain ⟨r,q1,q2⟩:=ih a (k + 1) (by omega) h1 (by omega)
          refine ⟨r,?_,q2⟩
          rw [show k + 2 = (k + 1) + 1 from rfl,X7 (s':=(true,a)) (by simp only [Zm8]; rw [g1]; rfl)]
          exact q1
        | false =>
          obtain ⟨e,hg⟩:=h2 rfl
          refine ⟨.inl a,?_,.inl ⟨a,rfl,⟨h1.asg,h1.ext,h1.snd,hg⟩⟩⟩
          rw [show k + 2 = (k + 1) + 1 from rfl,X7 (s':=(false,a)) (by simp only [Zm8]; rw [g1]; rfl)]
          exact ZA rfl (by omega)
      · exact ⟨.inr (false,a),ZA (by simp only [Zm8]; rw [g1]; rfl) (by omega),.inr ⟨a,rfl,h1,h2⟩⟩
  obtain ⟨r,g1,g2⟩:=key (m + 1) v n (Zhf hw.asg) hw (by have:=hf.small; omega)
  have G:∀ q,r = q → YZ n f v = (match q with | .inl s1r=>some (true,s1r) | .inr v=>some v):=fun q e=>by
    subst e
    unfold YZ
    exact congrArg (fun o=>Option.bind o (fun (rl1:(List Int) ⊕ (Bool × (List Int)))=>match rl1 with | .inl s1r=>some (true,s1r) | .inr v=>some v)) g1
  rcases g2 with ⟨a,e,h⟩ | ⟨a,e,h1,h2⟩
  · exact ⟨true,a,G _ e,h.asg.len,fun _=>h,fun h=>(by cases h)⟩
  · exact ⟨false,a,G _ e,h1,fun h=>(by cases h),fun _=>h2⟩
end
section
variable {f:D.Formula} {m:Nat} {S:Int → Prop}
theorem Yv {x:Int} (hm:m ≤ 400) (hl:isL m x):Yi x = some (x.natAbs:Int):=Zij hm hl
theorem Zgq {x:Int} (hm:m ≤ 400) (hl:isL m x):(cond (decide (x < 0)) (w64 (0 - x)) x) = (x.natAbs:Int):=by
 obtain ⟨l0,l1⟩:=hl
 by_cases h:x < 0
 ·rw [decide_eq_true h,cond_true,Zb (by omega) (by omega)]; omega
 ·rw [decide_eq_false h,cond_false]; omega
theorem ZgD {x:Int}:(cond (decide (x < 0)) (-1) 1:Int) = if x < 0 then -1 else 1:=by
 by_cases h:x < 0
 ·rw [decide_eq_true h,cond_true,Zmk h]
 ·rw [decide_eq_false h,cond_false,Zmj h]
theorem Zlh {α:Type} {l:List α} {x:α} (h:l.length ≤ 1000000):app? l [x] = some (l ++ [x]):=by
 unfold app? room; rw [Zmk (by simp; omega)]
theorem ZeE {a q:List Int} {l:Int} (hA:Asg m a) (hm:m ≤ 400) (hl:isL m l) (h0:lv a l = 0) (hq:q.length ≤ 1000000):Zz ⟨a,q⟩ l = some (true,⟨stA a l,q ++ [l]⟩):=by
 have hg:a.getD l.natAbs 0 = 0:=by unfold lv at h0; split at h0 <;> omega
 unfold Zz
 rw [Zgq hm hl,Zd2 hA hl,hg]
 simp only [Zme]
 rw [Zmj (by decide),ZgD,ZfR hA hl]
 simp only [Zme]
 rw [Zlh hq]; rfl
theorem Zje {a q:List Int} {l:Int} (hA:Asg m a) (hm:m ≤ 400) (hl:isL m l) (h0:lv a l ≠ 0):Zz ⟨a,q⟩ l = some (lv a l == 1,⟨a,q⟩):=by
 have hv:=hA.val l.natAbs
 unfold Zz
 rw [Zgq hm hl,Zd2 hA hl]
 simp only [Zme]
 have hg:a.getD l.natAbs 0 ≠ 0:=fun e=>h0 (by unfold lv; rw [e]; split <;> rfl)
 rw [Zmk (by simpa using hg),ZgD]
 congr 2
 unfold lv
 by_cases h:l < 0
 ·rw [Zmk h,Zmk h]; rcases hv with e | e | e <;> rw [e] <;> decide
 ·rw [Zmj h,Zmj h]
theorem Zjl {a q:List Int} (hA:Asg m a) (hm:m ≤ 400) {c:List Int} (hc:∀ x ∈ c,isL m x) (hlen:c.length ≤ 1000) (hq:q.length ≤ 1000000) {n:Nat} (hn:2000 ≤ n) :
    ((c.any fun x=>lv a x == 1) = true ∧ Zm n ⟨a,q⟩ c = some (true,⟨a,q⟩)) ∨
    ((c.any fun x=>lv a x == 1) = false ∧ ((free a c = [] ∧ Zm n ⟨a,q⟩ c = some (false,⟨a,q⟩)) ∨ (∃ l,free a c = [l] ∧ Zm n ⟨a,q⟩ c = some (true,⟨stA a l,q ++ [l]⟩)) ∨ (2 ≤ (free a c).length ∧ Zm n ⟨a,q⟩ c = some (true,⟨a,q⟩)))):=by
  obtain ⟨r,g1,g2⟩:=Yd (l:=c) (n:=n) (σ:=Int × Int) (ρ:=(Int × Int) ⊕ (Bool × D.assignment)) (B:=fun (s1:Int × Int × Int)=>
  if (decide (s1.2.2 < (len c))) then
   (get? c s1.2.2).bind fun x1=>
   (Yi x1).bind fun x2=>
   (get? a x2).bind fun x3=>
   if (x3 == 0) then
    some (.inl ((w64 (s1.1 + 1)),x1,(w64 (s1.2.2 + 1))))
   else
    if ((decide (x3 > 0)) == (decide (x1 > 0))) then
     some (.inr (.inr (true,(⟨a,q⟩ : D.assignment))))
    else
     some (.inl (s1.1,s1.2.1,(w64 (s1.2.2 + 1))))
  else
   some (.inr (.inl (s1.1,s1.2.1)))) (fun k z=>(z.1,z.2,(k:Int)))
    (fun ys z=>∃ pre,pre ++ ys = c ∧ z = (((free a pre).length:Int),lst (free a pre)) ∧ (pre.any fun x=>lv a x == 1) = false)
    (fun r=>(r = .inl (((free a c).length:Int),lst (free a c)) ∧ (c.any fun x=>lv a x == 1) = false) ∨ (r = .inr (true,⟨a,q⟩) ∧ (c.any fun x=>lv a x == 1) = true))
    (fun k x xs z hk hx hl ⟨pre,h1,h2,h3⟩=>by
      have hd:decide ((k:Int) < len c) = true:=by rw [Za]; simp; omega
      have hlx:=hc x (Zmn hx)
      have hfl:(free a pre).length ≤ c.length:=by
        rw [← h1]
        exact Znn (List.length_filter_le _ _) (by simp)
      have hk1:w64 ((k:Int) + 1) = ((k + 1:Nat):Int):=by rw [Zb (by omega) (by omega)]; rfl
      have hv:=hA.val x.natAbs
      have hx0:=hlx.1
      subst h2
      simp only [hd,Zm8,get?_nat,hx,Zme]
      rw [Yv hm hlx]
      simp only [Zme]
      rw [Zd2 hA hlx]
      simp only [Zme]
      by_cases h0:a.getD x.natAbs 0 = 0
      · have hl0 : lv a x = 0 := by unfold lv; rw [h0]; split <;> rfl
        have hfr:free a (pre ++ [x]) = free a pre ++ [x]:=by
          rw [Zdk]; congr 1; unfold free; simp [hl0]
        refine .inl ⟨(((free a (pre ++ [x])).length:Int),lst (free a (pre ++ [x]))),?_,pre ++ [x],by rw [Zm9]; exact h1,rfl,?_⟩
        · rw [Zmk (by simpa using h0),hk1,hfr,Ziq,Zb (by omega) (by omega)]; simp
        · rw [ZoS,h3]; simp [hl0]
      · have hl0 : lv a x ≠ 0 := fun e => h0 (by unfold lv at e; split at e <;> omega)
        rw [Zmj (by simpa using h0)]
        by_cases h4:lv a x = 1
        · refine .inr ⟨_, ?_, .inr ⟨rfl, Zbt.2 ⟨x, Zmn hx, h4⟩⟩⟩
          rw [Zmk]
          unfold lv at h4
          by_cases hneg:x < 0
          · rw [Zmk hneg] at h4
            have e1:a.getD x.natAbs 0 = -1:=by omega
            rw [e1,decide_eq_false (show ¬ x > 0 by omega)]; decide
          · rw [Zmj hneg] at h4
            rw [h4,decide_eq_true (show x > 0 by omega)]; decide
        · have hfr:free a (pre ++ [x]) = free a pre:=by
            rw [Zdk]
            have:free a [x] = []:=by unfold free; simp [hl0]
            rw [this,ZmO]
          refine .inl ⟨(((free a (pre ++ [x])).length:Int),lst (free a (pre ++ [x]))),?_,pre ++ [x],by rw [Zm9]; exact h1,rfl,?_⟩
          · rw [Zmj, hk1, hfr]
            unfold lv at h4
            by_cases hneg:x < 0
            · rw [Zmk hneg] at h4
              have e1:a.getD x.natAbs 0 = 1:=by omega
              rw [e1,decide_eq_false (show ¬ x > 0 by omega)]; decide
            · rw [Zmj hneg] at h4
              have e1:a.getD x.natAbs 0 = -1:=by omega
              rw [e1,decide_eq_true (show x > 0 by omega)]; decide
          · rw [ZoS,h3]; simp [h4])
    (fun z ⟨pre,h1,h2,h3⟩=>by
      have hd:decide ((c.length:Int) < len c) = false:=by rw [Za]; simp
      simp only [hd,Zmg,Zmr]
      rw [ZmO] at h1
      subst h1
      exact ⟨_,rfl,.inl ⟨by rw [h2],h3⟩⟩) (a:=(0,0)) ⟨[],rfl,rfl,rfl⟩ (by omega)
  have G:∀ z,r = z → Zm n ⟨a,q⟩ c = (match z with
     | .inl s1r=>if (s1r.1 == 0) then some (false,⟨a,q⟩) else if (s1r.1 == 1) then (Zz ⟨a,q⟩ s1r.2).bind fun x4=>some (x4.1,x4.2) else some (true,⟨a,q⟩)
     | .inr v=>some v):=fun z e=>by
    subst e
    unfold Zm
    exact congrArg (fun o=>Option.bind o (fun (rl1:(Int × Int) ⊕ (Bool × D.assignment))=>match rl1 with
     | .inl s1r=>if (s1r.1 == 0) then some (false,⟨a,q⟩) else if (s1r.1 == 1) then (Zz ⟨a,q⟩ s1r.2).bind fun x4=>some (x4.1,x4.2) else some (true,⟨a,q⟩)
     | .inr v=>some v)) g1
  rcases g2 with ⟨e,hany⟩ | ⟨e,hany⟩
  · refine .inr ⟨hany, ?_⟩
    have G:=G _ e
    match hfr:free a c with
    | []=>exact .inl ⟨rfl,by rw [G,hfr]; rfl⟩
    | [l] =>
      have hlm:l ∈ free a c:=by rw [hfr]; simp
      rw [ZbX] at hlm
      refine .inr (.inl ⟨l,rfl,?_⟩)
      rw [G,hfr]
      show ((Zz ⟨a,q⟩ l).bind fun x4=>some (x4.1,x4.2)) = _
      rw [ZeE hA hm (hc l hlm.1) hlm.2 hq]; rfl
    | x :: y :: l =>
      refine .inr (.inr ⟨by simp,?_⟩)
      rw [G,hfr]
      simp only
      rw [Zmj (by simp; omega),Zmj (by simp; omega)]
  · exact .inl ⟨hany,G _ e⟩
def pend (a q:List Int) (c:List Int):Prop:=∃ x ∈ c,lv a x = -1 ∧ -x ∈ q
structure Wq (m:Nat) (cs:List (List Int)) (S:Int → Prop) (a q:List Int):Prop where
 way:Way m cs S a
 tru:∀ l ∈ q,isL m l ∧ lv a l = 1
 len:q.length + zer a ≤ 1000
theorem Zfk (hf:FmP f m) (hS:∀ x,S x → isL m x) {a q:List Int} (hw:Wq m f.Clauses S a q) {c:List Int} (hc:c ∈ f.Clauses) (P:List Int → Prop) (hJ:∀ d ∈ f.Clauses,P d ∨ good a d ∨ pend a q d) {n:Nat} (hn:2000 ≤ n) :
  (Zm n ⟨a,q⟩ c = some (false,⟨a,q⟩) ∧ Bad f.Clauses S) ∨
  ∃ a' q',Zm n ⟨a,q⟩ c = some (true,⟨a',q'⟩) ∧ Wq m f.Clauses S a' q' ∧ q'.length + 2 * zer a' ≤ q.length + 2 * zer a ∧ good a' c ∧ ∀ d ∈ f.Clauses,P d ∨ good a' d ∨ pend a' q' d:=by
 have hcl:=hf.cl c hc
 have hA:=hw.way.asg
 rcases Zjl (q:=q) hA hf.small hcl.1.lit hcl.2 (by have:=hw.len; omega) hn with ⟨h1,h2⟩ | ⟨h1,⟨h3,h2⟩ | ⟨l,h3,h2⟩ | ⟨h3,h2⟩⟩
 ·exact .inr ⟨a,q,h2,hw,Zmy _,.inl (Zbt.1 h1),hJ⟩
 ·have hn1:∀ x ∈ c,lv a x ≠ 1:=fun x hx e=>by
   have:=Zbt.2 ⟨x,hx,e⟩
   rw [h1] at this; cases this
  exact .inl ⟨h2,ZgH hA hw.way.snd hc hcl.1 hn1 h3⟩
 ·have hn1:∀ x ∈ c,lv a x ≠ 1:=fun x hx e=>by
   have:=Zbt.2 ⟨x,hx,e⟩
   rw [h1] at this; cases this
  obtain ⟨k1,k2,k3,k4⟩:=hw.way.unit hS hc hcl.1 hn1 h3
  have hz:=Zc3 hA k2 k3
  have hlen:=hw.len
  refine .inr ⟨stA a l,q ++ [l],h2,⟨k1,fun y hy=>?_,by rw [Zmo]; simp; omega⟩,by rw [Zmo]; simp; omega,.inl ⟨l,k4,by rw [Zbj hA.len k2 k2.1,Zmk rfl]⟩,fun d hd=>?_⟩
  ·rcases Zm0.1 hy with hy | hy
   ·have := hw.tru y hy
    exact ⟨this.1,by rw [Zdd hA k2 k3 this.1.1 (by omega)]; exact this.2⟩
   ·rw [Zm5] at hy; subst hy
    exact ⟨k2,by rw [Zbj hA.len k2 k2.1,Zmk rfl]⟩
  ·rcases hJ d hd with h | h | ⟨x, hx, hx1, hx2⟩
   ·exact .inl h
   ·rcases Zgv hA k2 k3 (hf.cl d hd).1 h with h | h
    ·exact .inr (.inl h)
    ·exact .inr (.inr ⟨-l,h,by rw [Zbp k2.1,Zbj hA.len k2 k2.1,Zmk rfl],by simp⟩)
   ·exact .inr (.inr ⟨x,hx,by rw [Zdd hA k2 k3 ((hf.cl d hd).1.lit x hx).1 (by omega)]; exact hx1,Zob _ hx2⟩)
 ·exact .inr ⟨a,q,h2,hw,Zmy _,Zgu hcl.1 h3,hJ⟩
end
structure OccP (f:D.Formula) (m:Nat) (occ:List (List Int)):Prop where
 len:occ.length = 2 * m + 1
 val:∀ j,∀ i ∈ occ.getD j [],0 ≤ i ∧ i < (f.Clauses.length:Int)
 all:∀ (i:Nat) (c:List Int),f.Clauses[i]? = some c → ∀ y ∈ c,(i:Int) ∈ occ.getD (y + m).toNat []
 small:∀ j,(occ.getD j []).length ≤ 1700000
theorem Zik {α:Type} {l:List α} {x:α} (h:l.length ≤ 4000000):app? l [x] = some (l ++ [x]):=by
 unfold app? room; rw [Zmk (by simp; omega)]
theorem Zds {l:List (List Int)} {i j:Nat} {v:List Int} (h:i < l.length):(l.set i v).getD j [] = if j = i then v else l.getD j []:=by
 rw [Zmm,Zn4,Zmm]
 by_cases e:i = j
 ·subst e; rw [Zmk rfl,Zmk h,Zmk rfl]; rfl
 ·rw [Zmj e,Zmj (Ne.symm e)]
theorem ZhU {l:List (List Int)} {i:Nat} (h:i < l.length):l[i]? = some (l.getD i []):=by
 rw [Zmm,Zmf h]; rfl
section
variable {f:D.Formula} {m:Nat} {S:Int → Prop} {occ:List (List Int)}
theorem ZjL {y:Int} (hm:m ≤ 400) (hl:isL m y):w64 (y + (m:Int)) = (((y + m).toNat:Nat):Int) ∧ (y + m).toNat < 2 * m + 1:=by
 obtain ⟨l0,l1⟩:=hl
 rw [Zb (by omega) (by omega)]; omega
structure OccK (f:D.Formula) (m k:Nat) (pre:List Int) (occ:List (List Int)):Prop where
 len:occ.length = 2 * m + 1
 val:∀ j,∀ i ∈ occ.getD j [],0 ≤ i ∧ i < (f.Clauses.length:Int)
 all:∀ (i:Nat) (c:List Int),i < k → f.Clauses[i]? = some c → ∀ y ∈ c,(i:Int) ∈ occ.getD (y + m).toNat []
 cur:∀ y ∈ pre,(k:Int) ∈ occ.getD (y + m).toNat []
 small:∀ j,(occ.getD j []).length ≤ 1000 * k + pre.length
theorem ZiJ (hf:FmP f m) {k:Nat} {c:List Int} (hk:f.Clauses[k]? = some c) (h:OccK f m k [] occ) {n:Nat} (hn:4000000 ≤ n):∃ occ',iterN (fun (s2:Int × (List (List Int)))=>
    if (decide (s2.1 < (len c))) then
     (get? c s2.1).bind fun x3=>
     (get? s2.2 (w64 (x3 + f.Vars))).bind fun x4=>
     (app? x4 ([(k:Int)]:List Int)).bind fun x5=>
     (set? s2.2 (w64 (x3 + f.Vars)) x5).bind fun x6=>
     some (.inl ((w64 (s2.1 + 1)),x6))
    else
     some (.inr (s2.2))) n (0,occ) = some occ' ∧ OccK f m k c occ':=by
  have hcl:=hf.cl c (Zmn hk)
  have hkl:k < f.Clauses.length:=(Zmi.1 hk).1
  have hnum:=hf.num
  obtain ⟨r,g1,g2⟩:=Yd (l:=c) (n:=n) (σ:=List (List Int)) (ρ:=List (List Int)) (B:=fun (s2:Int × (List (List Int)))=>
    if (decide (s2.1 < (len c))) then
     (get? c s2.1).bind fun x3=>
     (get? s2.2 (w64 (x3 + f.Vars))).bind fun x4=>
     (app? x4 ([(k:Int)]:List Int)).bind fun x5=>
     (set? s2.2 (w64 (x3 + f.Vars)) x5).bind fun x6=>
     some (.inl ((w64 (s2.1 + 1)),x6))
    else
     some (.inr (s2.2))) (fun j a=>((j:Int),a)) (fun ys a=>∃ pre,pre ++ ys = c ∧ OccK f m k pre a) (fun r=>OccK f m k c r)
    (fun j y ys a hj hy hl ⟨pre,h1,h2⟩=>by
      have hd:decide ((j:Int) < len c) = true:=by rw [Za]; simp; omega
      have hly:=hcl.1.lit y (Zmn hy)
      have hk1:w64 ((j:Int) + 1) = ((j + 1:Nat):Int):=by rw [Zb (by omega) (by omega)]; rfl
      obtain ⟨e1,e2⟩:=ZjL hf.small hly
      have hpl:pre.length ≤ c.length:=by rw [← h1]; simp
      have hsm:=h2.small (y + m).toNat
      simp only [hd,Zm8,get?_nat,hy,Zme]
      rw [hf.vars,e1,get?_nat,ZhU (by rw [h2.len]; exact e2)]
      simp only [Zme]
      rw [Zik (by omega)]
      simp only [Zme]
      have hst:set? a (((y + m).toNat:Nat):Int) (a.getD (y + m).toNat [] ++ [(k:Int)]) = some (a.set (y + m).toNat (a.getD (y + m).toNat [] ++ [(k:Int)])):=by
        unfold set?
        rw [Zmk ⟨by omega,by have:=h2.len; rw [ZmQ]; omega⟩,ZmQ]
      rw [hst]
      have hlt:(y + m).toNat < a.length:=by rw [h2.len]; exact e2
      have hmem:∀ j' i,i ∈ a.getD j' [] → i ∈ (a.set (y + m).toNat (a.getD (y + m).toNat [] ++ [(k:Int)])).getD j' []:=fun j' i hi=>by
        rw [Zds hlt]
        split
        · rename_i e; subst e; exact Zob _ hi
        · exact hi
      refine .inl ⟨_,by simp only [Zme,hk1],pre ++ [y],by rw [Zm9]; exact h1,?_,fun j' i hi=>?_,fun i d hi hd' z hz=>hmem _ _ (h2.all i d hi hd' z hz),fun z hz=>?_,fun j'=>?_⟩
      · rw [Zo3]; exact h2.len
      · rw [Zds hlt] at hi
        split at hi
        · rcases Zm0.1 hi with hi | hi
          · exact h2.val _ i hi
          · rw [Zm5] at hi; subst hi; omega
        · exact h2.val _ i hi
      · rcases Zm0.1 hz with hz | hz
        · exact hmem _ _ (h2.cur z hz)
        · rw [Zm5] at hz; subst hz
          rw [Zds hlt,Zmk rfl]; simp
      · have e : (pre ++ [y]).length = pre.length + 1 := by simp
        have h3:=h2.small j'
        rw [Zds hlt,e]
        split
        · rw [Zmo,ZmJ]; omega
        · omega)
    (fun a ⟨pre,h1,h2⟩=>by
      have hd:decide ((c.length:Int) < len c) = false:=by rw [Za]; simp
      simp only [hd,Zmg,Zmr]
      rw [ZmO] at h1
      subst h1
      exact ⟨_,rfl,h2⟩) (a:=occ) ⟨[],rfl,h⟩ (by omega)
  exact ⟨r,g1,g2⟩
theorem ZfN {α:Type} {k:Nat} {z:α} (h:k ≤ 100000):mk? (k:Int) z = some (List.replicate k z):=by
 unfold mk? room
 rw [Zmk (by omega)]; simp
theorem new_solver (hf:FmP f m) {n:Nat} (hn:4000000 ≤ n):∃ occ,XA n f = some ⟨f,occ⟩ ∧ OccP f m occ:=by
  have hnum:=hf.num
  have hm:=hf.small
  have e0:w64 (w64 (2 * f.Vars) + 1) = ((2 * m + 1:Nat):Int):=by rw [hf.vars,Zb (x:=2 * (m:Int)) (by omega) (by omega),Zb (by omega) (by omega)]; omega
  have hgl:∀ j,(List.replicate (2 * m + 1) ([]:List Int)).getD j [] = []:=fun j=>by
    rw [Zmm,Zn1]
    split <;> rfl
  obtain ⟨r,g1,g2⟩:=Yd (l:=f.Clauses) (n:=n) (σ:=List (List Int)) (ρ:=List (List Int)) (B:=fun (s1:Int × (List (List Int)))=>
  if (decide (s1.1 < (len f.Clauses))) then
   (get? f.Clauses s1.1).bind fun x2 =>
   (iterN (fun (s2 : Int × (List (List Int))) =>
    if (decide (s2.1 < (len x2))) then
     (get? x2 s2.1).bind fun x3=>
     (get? s2.2 (w64 (x3 + f.Vars))).bind fun x4=>
     (app? x4 ([s1.1]:List Int)).bind fun x5=>
     (set? s2.2 (w64 (x3 + f.Vars)) x5).bind fun x6=>
     some (.inl ((w64 (s2.1 + 1)),x6))
    else
     some (.inr (s2.2))
   ) n (0,s1.2)).bind fun (rl2:(List (List Int)))=>
   some (.inl ((w64 (s1.1 + 1)),rl2))
  else
   some (.inr (s1.2))) (fun j a=>((j:Int),a)) (fun ys a=>∃ k,k + ys.length = f.Clauses.length ∧ OccK f m k [] a) (fun r=>OccK f m f.Clauses.length [] r)
    (fun j c xs a hj hx hl ⟨k,h1,h2⟩=>by
      have hd:decide ((j:Int) < len f.Clauses) = true:=by rw [Za]; simp; omega
      have hkj:k = j:=by omega
      subst hkj
      have hk1:w64 ((k:Int) + 1) = ((k + 1:Nat):Int):=by rw [Zb (by omega) (by omega)]; rfl
      have hcl:=hf.cl c (Zmn hx)
      obtain ⟨o',q1,q2⟩:=ZiJ hf hx h2 hn
      simp only [hd,Zm8,get?_nat,hx,Zme]
      rw [q1]
      refine .inl ⟨o',by simp only [Zme,hk1],k + 1,by simp at h1; omega,q2.len,q2.val,fun i d hi hd' y hy=>?_,fun y hy=>(by cases hy),fun j'=>?_⟩
      · by_cases e : i = k
        · subst e
          rw [hx] at hd'
          cases hd'
          exact q2.cur y hy
        · exact q2.all i d (by omega) hd' y hy
      · have h3 := q2.small j'
        have h4:=hcl.2
        have e:([]:List Int).length = 0:=rfl
        rw [e]; omega)
    (fun a ⟨k,h1,h2⟩=>by
      have hd:decide ((f.Clauses.length:Int) < len f.Clauses) = false:=by rw [Za]; simp
      simp only [hd,Zmg,Zmr]
      have:k = f.Clauses.length:=by simpa using h1
      subst this
      exact ⟨_,rfl,h2⟩) (a:=List.replicate (2 * m + 1) []) ⟨0,by simp,by simp,fun j i hi=>(by rw [hgl] at hi; cases hi),fun i c hi=>(by omega),fun y hy=>(by cases hy),fun j=>(by rw [hgl]; simp)⟩ (by omega)
  refine ⟨r,?_,g2.len,g2.val,fun i c hc y hy=>g2.all i c (Zmi.1 hc).1 hc y hy,fun j=>?_⟩
  · unfold XA
    rw [e0,ZfN (by omega)]
    simp only [Zme]
    rw [show ((0:Nat):Int) = 0 from rfl] at g1
    rw [g1]; rfl
  · have h3 := g2.small j
    have e:([]:List Int).length = 0:=rfl
    rw [e] at h3; omega
theorem Zj2 (hf:FmP f m) (hS:∀ x,S x → isL m x) (ho:OccP f m occ) {n:Nat} (hn:4000000 ≤ n):∀ (M:Nat) (a q:List Int) (k:Nat),q.length + 2 * zer a ≤ M → Wq m f.Clauses S a q → (∀ d ∈ f.Clauses,good a d ∨ pend a q d) → M + 1 ≤ k → ∃ r,iterN (fun (s1:(List Int) × (List Int))=>
  if (decide ((len s1.2) > 0)) then
   (get? s1.2 (w64 ((len s1.2) - 1))).bind fun x1=>
   (cut? s1.2 0 (w64 ((len s1.2) - 1))).bind fun x2=>
   (get? occ (w64 (f.Vars - x1))).bind fun x3 =>
   (iterN (fun (s2 : Int × (List Int) × (List Int)) =>
    if (decide (s2.1 < (len x3))) then
     (get? x3 s2.1).bind fun x4=>
     (get? f.Clauses x4).bind fun x5=>
     (Zm n (D.assignment.mk s2.2.1 s2.2.2) x5).bind fun x6=>
     if (!x6.1) then
      some (.inr (.inr (false,x6.2)))
     else
      some (.inl ((w64 (s2.1 + 1)),x6.2.val,x6.2.queue))
    else
     some (.inr (.inl (s2.2.1,s2.2.2)))
   ) n (0,s1.1,x2)).bind fun (rl2:((List Int) × (List Int)) ⊕ (Bool × D.assignment))=>
   match rl2 with
   | .inl s2r=>
    some (.inl (s2r.1,s2r.2))
   | .inr v=>some (.inr (.inr v))
  else
   some (.inr (.inl (s1.1,s1.2))):(List Int) × (List Int) → Option (((List Int) × (List Int)) ⊕ (((List Int) × (List Int)) ⊕ (Bool × D.assignment)))) k (a,q) = some r ∧ ((∃ a',r = .inl (a',[]) ∧ Okc m f.Clauses S a') ∨ ∃ x,r = .inr (false,x) ∧ Bad f.Clauses S):=by
  intro M
  induction M with
  | zero =>
    intro a q k hM hw hJ hk
    have hq:q = []:=Znc (by omega)
    subst hq
    refine ⟨_,ZA rfl (by omega),.inl ⟨a,rfl,hw.way.asg,hw.way.ext,hw.way.snd,fun d hd=>?_⟩⟩
    rcases hJ d hd with h | ⟨x,_,_,h⟩
    · exact h
    · cases h
  | succ M ih =>
    intro a q k hM hw hJ hk
    obtain ⟨k,rfl⟩ : ∃ j,k = j + 1:=⟨k - 1,by omega⟩
    rcases List.eq_nil_or_concat q with rfl | ⟨q0,l,rfl⟩
    · refine ⟨_, ZA rfl (by omega), .inl ⟨a, rfl, hw.way.asg, hw.way.ext, hw.way.snd, fun d hd => ?_⟩⟩
      rcases hJ d hd with h | ⟨x,_,_,h⟩
      · exact h
      · cases h
    · have hlen := hw.len
      rw [List.concat_eq_append] at *
      rw [Zmo] at hlen hM
      simp only [ZmJ] at hlen hM
      obtain ⟨hl,hl1⟩:=hw.tru l (by simp)
      have hln:isL m (-l):=⟨by have:=hl.1; omega,by rw [Zov]; exact hl.2⟩
      have e1:w64 (len (q0 ++ [l]) - 1) = (q0.length:Int):=by rw [Za,Zmo]; simp; exact Zb (by omega) (by omega)
      have e2:get? (q0 ++ [l]) (q0.length:Int) = some l:=by rw [get?_nat,Zmt (Zmy _)]; simp
      have e3:cut? (q0 ++ [l]) 0 (q0.length:Int) = some q0:=by
        unfold cut?
        rw [Zmk ⟨ZmM _,by omega,by rw [Zmo,ZmJ]; omega⟩,ZmQ]; simp
      obtain ⟨x1,x2⟩:=ZjL hf.small hln
      have e4:get? occ (w64 (f.Vars - l)) = some (occ.getD (-l + m).toNat []):=by
        rw [hf.vars,show ((m:Int) - l) = -l + m by omega,x1,get?_nat,ZhU (by rw [ho.len]; exact x2)]
      have hgt:decide (len (q0 ++ [l]) > 0) = true:=by rw [Za]; exact decide_eq_true (by rw [Zmo,ZmJ]; omega)
      have hw0:Wq m f.Clauses S a q0:=⟨hw.way,fun y hy=>hw.tru y (Zob _ hy),by omega⟩
      have hsm:=ho.small (-l + m).toNat
      obtain ⟨r,g1,g2⟩:=Yd (l:=occ.getD (-l + m).toNat []) (n:=n) (σ:=List Int × List Int) (ρ:=((List Int) × (List Int)) ⊕ (Bool × D.assignment)) (B:=fun (s2:Int × (List Int) × (List Int))=>
    if (decide (s2.1 < (len (occ.getD (-l + m).toNat [])))) then
     (get? (occ.getD (-l + m).toNat []) s2.1).bind fun x4=>
     (get? f.Clauses x4).bind fun x5=>
     (Zm n (D.assignment.mk s2.2.1 s2.2.2) x5).bind fun x6=>
     if (!x6.1) then
      some (.inr (.inr (false,x6.2)))
     else
      some (.inl ((w64 (s2.1 + 1)),x6.2.val,x6.2.queue))
    else
     some (.inr (.inl (s2.2.1,s2.2.2)))) (fun j z=>((j:Int),z.1,z.2))
        (fun ys z=>Wq m f.Clauses S z.1 z.2 ∧ z.2.length + 2 * zer z.1 ≤ M ∧ ∀ d ∈ f.Clauses,(∃ i ∈ ys,f.Clauses[i.toNat]? = some d) ∨ good z.1 d ∨ pend z.1 z.2 d)
        (fun r=>(∃ z,r = .inl z ∧ Wq m f.Clauses S z.1 z.2 ∧ z.2.length + 2 * zer z.1 ≤ M ∧ ∀ d ∈ f.Clauses,good z.1 d ∨ pend z.1 z.2 d) ∨ ∃ x,r = .inr (false,x) ∧ Bad f.Clauses S)
        (fun j i ys z hj hi hl' ⟨i1,i2,i3⟩=>by
          have hd:decide ((j:Int) < len (occ.getD (-l + m).toNat [])) = true:=by rw [Za]; exact decide_eq_true (by omega)
          have hk1:w64 ((j:Int) + 1) = ((j + 1:Nat):Int):=by rw [Zb (by omega) (by omega)]; rfl
          have hiv:=ho.val _ i (Zmn hi)
          have hic:f.Clauses[i.toNat]? = some f.Clauses[i.toNat]:=Zmf (by omega)
          have hg:get? f.Clauses i = some f.Clauses[i.toNat]:=by unfold get?; rw [Zmk hiv.1]; exact hic
          simp only [hd,Zm8,get?_nat,hi,Zme]
          rw [hg]
          simp only [Zme]
          rcases Zfk hf hS i1 (ZmG (show i.toNat < f.Clauses.length by omega)) (fun d=>(∃ i ∈ ys,f.Clauses[i.toNat]? = some d) ∨ d = f.Clauses[i.toNat]) (fun d hd'=>by
            rcases i3 d hd' with ⟨i',h1,h2⟩ | h | h
            · rcases ZmF.1 h1 with rfl | h1
              · rw [hic] at h2; exact .inl (.inr (Option.some.inj h2).symm)
              · exact .inl (.inl ⟨i',h1,h2⟩)
            · exact .inr (.inl h)
            · exact .inr (.inr h)) (n:=n) (by omega) with ⟨h1,h2⟩ | ⟨a',q',h1,h2,h3,h4,h5⟩
          · rw [h1]
            exact .inr ⟨_,rfl,.inr ⟨_,rfl,h2⟩⟩
          · rw [h1]
            refine .inl ⟨(a',q'),by simp only [Zme,hk1]; rfl,h2,by simp only; omega,fun d hd'=>?_⟩
            rcases h5 d hd' with (h | h) | h | h
            · exact .inl h
            · exact .inr (.inl (h ▸ h4))
            · exact .inr (.inl h)
            · exact .inr (.inr h))
        (fun z ⟨i1,i2,i3⟩=>by
          have hd:decide (((occ.getD (-l + m).toNat []).length:Int) < len (occ.getD (-l + m).toNat [])) = false:=by rw [Za]; simp
          simp only [hd,Zmg,Zmr]
          refine ⟨_,rfl,.inl ⟨z,rfl,i1,i2,fun d hd'=>?_⟩⟩
          rcases i3 d hd' with ⟨i',h1,_⟩ | h
          · cases h1
          · exact h) (a := (a, q0)) ⟨hw0, by simp only; omega, fun d hd' => by
            rcases hJ d hd' with h | ⟨x,hx,hx1,hx2⟩
            · exact .inr (.inl h)
            · rcases Zm0.1 hx2 with h | h
              · exact .inr (.inr ⟨x,hx,hx1,h⟩)
              · rw [Zm5] at h
                obtain ⟨i,hi⟩:=ZnK hd'
                have hxl:x = -l:=by omega
                exact .inl ⟨(i:Int),ho.all i d hi (-l) (hxl ▸ hx),by simpa using hi⟩⟩ (by omega)
      rw [show ((0:Nat):Int) = 0 from rfl] at g1
      rcases g2 with ⟨z,rfl,h1,h2,h3⟩ | ⟨x,rfl,h1⟩
      · obtain ⟨r', q1, q2⟩ := ih z.1 z.2 k (by omega) h1 h3 (by omega)
        refine ⟨r',?_,q2⟩
        rw [X7 (s':=(z.1,z.2)) (by
          simp only [hgt,Zm8,e1,e2,e3,Zme]
          rw [e4]
          simp only [Zme]
          rw [g1]; rfl)]
        exact q1
      · refine ⟨_,ZA (r:=.inr (false,x)) (by
          simp only [hgt,Zm8,e1,e2,e3,Zme]
          rw [e4]
          simp only [Zme]
          rw [g1]; rfl) (by omega),.inr ⟨x,rfl,h1⟩⟩
end
section
variable {f:D.Formula} {m:Nat} {S:Int → Prop} {occ:List (List Int)}
theorem Zek {cs:List (List Int)} {a:List Int} (hA:Asg m a):Way m cs (Sv m a) a:=⟨hA,fun _ hx=>hx.2,fun _ h1 h2=>.base ⟨h1,h2⟩⟩
theorem ZfW {a:List Int}:∀ x,Sv m a x → isL m x:=fun _ h=>h.1
theorem FmP.cls (hf:FmP f m):∀ c ∈ f.Clauses,ClM m c:=fun c hc=>(hf.cl c hc).1
noncomputable def clo (m:Nat) (cs:List (List Int)) (v:List Int):Option (List Int):=open Classical in if h:∃ a,Okc m cs (Sv m v) a then some h.choose else none
theorem ZhI {cs:List (List Int)} (hcs:∀ c ∈ cs,ClM m c) {v a:List Int} (h:Okc m cs (Sv m v) a):clo m cs v = some a:=by
 have hx:∃ a,Okc m cs (Sv m v) a:=⟨a,h⟩
 unfold clo
 rw [dif_pos hx,Zkv hcs hx.choose_spec h]
theorem ZdX {cs:List (List Int)} (hcs:∀ c ∈ cs,ClM m c) {v:List Int} (h:Bad cs (Sv m v)):clo m cs v = none:=by
 unfold clo
 rw [dif_neg (fun ⟨a,ha⟩=>Zgd hcs ha h)]
theorem ZbL {cs:List (List Int)} {v a:List Int} (h:clo m cs v = some a):Okc m cs (Sv m v) a:=by
 unfold clo at h
 split at h
 ·rename_i hx; rw [← Option.some.inj h]; exact hx.choose_spec
 ·cases h
theorem Zi8 (hf:FmP f m) {v:List Int} (hA:Asg m v) {n:Nat} (hn:2000 ≤ n):∃ b v',YZ n f v = some (b,v') ∧ ((b = true ∧ clo m f.Clauses v = some v') ∨ (b = false ∧ clo m f.Clauses v = none)):=by
 obtain ⟨b,v',h1,h2,h3,h4⟩:=Zg6 hf ZfW (Zek (cs:=f.Clauses) hA) hn
 refine ⟨b,v',h1,?_⟩
 cases b with
 | true=>exact .inl ⟨rfl,ZhI hf.cls (h3 rfl)⟩
 | false=>exact .inr ⟨rfl,ZdX hf.cls (h4 rfl)⟩
theorem Zg8 (hf:FmP f m) (hS:∀ x,S x → isL m x) (ho:OccP f m occ) {n:Nat} (hn:4000000 ≤ n) {a q:List Int} (hw:Wq m f.Clauses S a q) (hJ:∀ d ∈ f.Clauses,good a d ∨ pend a q d) :
  ∃ b a',ZF n ⟨f,occ⟩ ⟨a,q⟩ = some (b,a') ∧ ((b = true ∧ a'.queue = [] ∧ Okc m f.Clauses S a'.val) ∨ (b = false ∧ Bad f.Clauses S)):=by
 have hz:=hw.len
 obtain ⟨r,g1,g2⟩:=Zj2 hf hS ho hn (q.length + 2 * zer a) a q n (Zmy _) hw hJ (by omega)
 have G:∀ z,r = z → ZF n ⟨f,occ⟩ ⟨a,q⟩ = (match z with | .inl s1r=>some (true,(D.assignment.mk s1r.1 s1r.2)) | .inr v=>some v):=fun z e=>by
  subst e
  unfold ZF
  exact congrArg (fun o=>Option.bind o (fun (rl1:((List Int) × (List Int)) ⊕ (Bool × D.assignment))=>match rl1 with | .inl s1r=>some (true,(D.assignment.mk s1r.1 s1r.2)) | .inr v=>some v)) g1
 rcases g2 with ⟨a',e,h⟩ | ⟨x,e,h⟩
 ·exact ⟨true,⟨a',[]⟩,G _ e,.inl ⟨rfl,rfl,h⟩⟩
 ·exact ⟨false,x,G _ e,.inr ⟨rfl,h⟩⟩
theorem ZkW {l:List Int} (h:l.length ≤ 1000000):Ze l = some l:=by
 unfold Ze app? room
 rw [Zmk (by simp; omega)]; rfl
theorem Zjj (hf:FmP f m) (ho:OccP f m occ) {n:Nat} (hn:4000000 ≤ n) {a q:List Int} {l:Int} (hA:Asg m a) (hg:∀ c ∈ f.Clauses,good a c) (hl:isL m l) (h0:lv a l = 0) :
  ∃ a' b,Zy n ⟨f,occ⟩ ⟨a,q⟩ l = some (a',b) ∧ ((b = true ∧ a'.queue = [] ∧ clo m f.Clauses (stA a l) = some a'.val) ∨ (b = false ∧ clo m f.Clauses (stA a l) = none)):=by
 have hm:=hf.small
 have hz:=Zhf hA
 have hz1:=Zc3 hA hl h0
 have hA1:=Zc2 hA hl
 have hw:Wq m f.Clauses (Sv m (stA a l)) (stA a l) [l]:=⟨Zek hA1,fun y hy=>by
  rw [Zm5] at hy; subst hy
  exact ⟨hl,by rw [Zbj hA.len hl hl.1,Zmk rfl]⟩,by simp; omega⟩
 obtain ⟨b,a',h1,h2⟩:=Zg8 hf ZfW ho hn hw fun d hd=>by
  rcases Zgv hA hl h0 (hf.cl d hd).1 (hg d hd) with h | h
  ·exact .inl h
  ·exact .inr ⟨-l,h,by rw [Zbp hl.1,Zbj hA.len hl hl.1,Zmk rfl],by simp⟩
 unfold Zy
 rw [ZkW (l:=a) (by have:=hA.len; omega)]
 simp only [Zme]
 rw [ZeE hA hm hl h0 (by simp)]
 simp only [Zme,Zmw,Zmg,Zmr,ZnN]
 rw [h1]
 simp only [Zme]
 rcases h2 with ⟨rfl,h3,h4⟩ | ⟨rfl,h3⟩
 ·exact ⟨a',true,rfl,.inl ⟨rfl,h3,ZhI hf.cls h4⟩⟩
 ·exact ⟨default,false,rfl,.inr ⟨rfl,ZdX hf.cls h3⟩⟩
theorem Zfe (m:Nat):Asg m (List.replicate (m + 1) 0):=by
 have h:∀ i,(List.replicate (m + 1) (0:Int)).getD i 0 = 0:=fun i=>by
  rw [Zmm,Zn1]
  split <;> rfl
 exact ⟨by simp,fun i=>by rw [h]; omega,h 0⟩
def LF (a:List Int) (v:Nat):Prop:=(v = 0 ∧ ∀ i,1 ≤ i → i < a.length → a.getD i 0 ≠ 0) ∨ (1 ≤ v ∧ v < a.length ∧ a.getD v 0 = 0 ∧ ∀ i,1 ≤ i → i < v → a.getD i 0 ≠ 0)
theorem LF.uniq {a:List Int} {v w:Nat} (h:LF a v) (h':LF a w):v = w:=by
 rcases h with ⟨h1,h2⟩ | ⟨h1,h2,h3,h4⟩ <;> rcases h' with ⟨k1,k2⟩ | ⟨k1,k2,k3,k4⟩
 ·omega
 ·exact absurd k3 (h2 w k1 k2)
 ·exact absurd h3 (k2 v h1 h2)
 ·by_cases e : v < w
  ·exact absurd h3 (k4 v h1 e)
  ·by_cases e' : w < v
   ·exact absurd k3 (h4 w k1 e')
   ·omega
theorem Zlq {a q:List Int} {n:Nat} (hl:1 ≤ a.length ∧ a.length ≤ 1000) (hn:2000 ≤ n):∃ v:Nat,LF a v ∧ ZX n ⟨a,q⟩ = some (v:Int):=by
  have key:∀ (d i k:Nat),i + d = a.length → 1 ≤ i → (∀ j,1 ≤ j → j < i → a.getD j 0 ≠ 0) → d < k → ∃ r:Unit ⊕ Int,iterN (fun (s1:Int)=>
  if (decide (s1 < (len a))) then
   (get? a s1).bind fun x1=>
   if (x1 == 0) then
    some (.inr (.inr s1))
   else
    some (.inl ((w64 (s1 + 1))))
  else
   some (.inr (.inl ()))) k (i:Int) = some r ∧ ((r = .inl () ∧ LF a 0) ∨ ∃ v:Nat,r = .inr (v:Int) ∧ LF a v):=by
    intro d
    induction d with
    | zero =>
      intro i k hi h1 hp hk
      have hd:decide ((i:Int) < len a) = false:=by rw [Za]; exact decide_eq_false (by omega)
      exact ⟨.inl (),ZA (by simp only [hd,Zmg,Zmr]) (by omega),.inl ⟨rfl,.inl ⟨rfl,fun j hj hj'=>hp j hj (by omega)⟩⟩⟩
    | succ d ih =>
      intro i k hi h1 hp hk
      obtain ⟨k,rfl⟩ : ∃ j,k = j + 1:=⟨k - 1,by omega⟩
      have hd:decide ((i:Int) < len a) = true:=by rw [Za]; exact decide_eq_true (by omega)
      have hg:get? a (i:Int) = some (a.getD i 0):=by rw [get?_nat,Za4 (by omega)]
      by_cases h0:a.getD i 0 = 0
      · exact ⟨.inr (i:Int),ZA (by simp only [hd,Zm8,hg,Zme]; rw [Zmk (by simpa using h0)]) (by omega),.inr ⟨i,rfl,.inr ⟨h1,by omega,h0,hp⟩⟩⟩
      · obtain ⟨r,q1,q2⟩:=ih (i + 1) k (by omega) (by omega) (fun j hj hj'=>by
          by_cases e:j = i
          · subst e; exact h0
          · exact hp j hj (by omega)) (by omega)
        refine ⟨r,?_,q2⟩
        rw [X7 (s':=((i + 1:Nat):Int)) (by
          simp only [hd,Zm8,hg,Zme]
          rw [Zmj (by simpa using h0),Zb (by omega) (by omega)]; rfl)]
        exact q1
  obtain ⟨r,g1,g2⟩:=key (a.length - 1) 1 n (by omega) (by omega) (fun j hj hj'=>by omega) (by omega)
  have G:∀ z,r = z → ZX n ⟨a,q⟩ = (match z with | .inl _=>some 0 | .inr v=>some v):=fun z e=>by
    subst e
    unfold ZX
    exact congrArg (fun o=>Option.bind o (fun (rl1:Unit ⊕ Int)=>match rl1 with | .inl _=>some 0 | .inr v=>some v)) g1
  rcases g2 with ⟨e,h⟩ | ⟨v,e,h⟩
  · exact ⟨0,h,G _ e⟩
  · exact ⟨v,h,G _ e⟩
theorem Zlp {a:List Int} {n:Nat} {N:Int} (hN:N = (a.length:Int)) (hl:1 ≤ a.length ∧ a.length ≤ 1000) (hn:2000 ≤ n):∃ v:Nat,LF a v ∧ iterN (fun (s1:Int)=>
   (if (decide (s1 < N)) then (get? a s1) else some default).bind fun x2=>
   if ((decide (s1 < N)) && (x2 != 0)) then
    some (.inl ((w64 (s1 + 1))))
   else
    some (.inr (s1))) n 1 = some (if v = 0 then N else (v:Int)):=by
  subst hN
  have key:∀ (d i k:Nat),i + d = a.length → 1 ≤ i → (∀ j,1 ≤ j → j < i → a.getD j 0 ≠ 0) → d < k → ∃ v:Nat,LF a v ∧ iterN (fun (s1:Int)=>
   (if (decide (s1 < (a.length:Int))) then (get? a s1) else some default).bind fun x2=>
   if ((decide (s1 < (a.length:Int))) && (x2 != 0)) then
    some (.inl ((w64 (s1 + 1))))
   else
    some (.inr (s1))) k (i:Int) = some (if v = 0 then (a.length:Int) else (v:Int)):=by
    intro d
    induction d with
    | zero =>
      intro i k hi h1 hp hk
      have hd:decide ((i:Int) < (a.length:Int)) = false:=decide_eq_false (by omega)
      refine ⟨0,.inl ⟨rfl,fun j hj hj'=>hp j hj (by omega)⟩,?_⟩
      rw [Zmk rfl,show (a.length:Int) = (i:Int) by omega]
      refine ZA ?_ (by omega)
      have hd:decide ((i:Int) < (i:Int)) = false:=decide_eq_false (by omega)
      simp only [hd,Zmg,Zmr,Zme,Zot]
    | succ d ih =>
      intro i k hi h1 hp hk
      obtain ⟨k,rfl⟩ : ∃ j,k = j + 1:=⟨k - 1,by omega⟩
      have hd:decide ((i:Int) < (a.length:Int)) = true:=decide_eq_true (by omega)
      have hg:get? a (i:Int) = some (a.getD i 0):=by rw [get?_nat,Za4 (by omega)]
      by_cases h0:a.getD i 0 = 0
      · refine ⟨i, .inr ⟨h1, by omega, h0, hp⟩, ?_⟩
        rw [Zmj (by omega)]
        exact ZA (by simp only [hd,Zm8,hg,Zme,ZmT]; rw [Zmj (by rw [h0]; decide)]) (by omega)
      · obtain ⟨v,q1,q2⟩:=ih (i + 1) k (by omega) (by omega) (fun j hj hj'=>by
          by_cases e:j = i
          · subst e; exact h0
          · exact hp j hj (by omega)) (by omega)
        refine ⟨v,q1,?_⟩
        rw [X7 (s':=((i + 1:Nat):Int)) (by
          simp only [hd,Zm8,hg,Zme,ZmT]
          rw [Zmk (by simpa using h0),Zb (by omega) (by omega)]; rfl)]
        exact q2
  exact key (a.length - 1) 1 n (by omega) (by omega) (fun j hj hj'=>by omega) (by omega)
end
theorem Zem:∀ (l l':List Int),l.length = l'.length → (∀ i:Nat,l'[i]? = some (0:Int) → l[i]? = some (0:Int)) → l'.count 0 ≤ l.count 0
 | [],[],_,_=>Zmy _
 | x :: l,y :: l',h,hi=>by
  have ih:=Zem l l' (by simpa using h) fun i e=>by simpa using hi (i + 1) (by simpa using e)
  rw [ZoO,ZoO]
  by_cases hy:y = 0
  ·have : x = 0 := by simpa [hy] using hi 0
   rw [hy,this]; omega
  ·have : (y == 0) = false := by simpa using hy
   rw [this]
   simp only [Zmg,Zmr]
   omega
section
variable {f:D.Formula} {m:Nat} {occ:List (List Int)} {limit:Int}
theorem ZgL {cs:List (List Int)} {v b:List Int} (hv:Asg m v) (h:Okc m cs (Sv m v) b):zer b ≤ zer v:=by
 refine Zem v b (hv.len.trans h.asg.len.symm) fun i hi=>?_
 have hlt:i < b.length:=(Zmi.1 hi).1
 have hb0:b.getD i 0 = 0:=by
  have:=Za4 hlt
  rw [hi] at this
  exact (Option.some.inj this).symm
 rw [Za4 (by rw [hv.len,← h.asg.len]; exact hlt)]
 congr 1
 by_cases h0:i = 0
 ·subst h0; exact hv.nul
 have hlen:=h.asg.len
 have e:∀ c:List Int,lv c (i:Int) = c.getD i 0:=fun c=>by unfold lv; rw [Zmj (by omega)]; simp
 have en:∀ c:List Int,lv c (-(i:Int)) = -c.getD i 0:=fun c=>by rw [Zbp (by omega),e]
 rcases hv.val i with h1 | h1 | h1
 ·have := h.ext (-(i : Int)) ⟨⟨by omega, by omega⟩, by rw [en, h1]; rfl⟩
  rw [en,hb0] at this; omega
 ·exact h1
 ·have := h.ext (i : Int) ⟨⟨by omega, by omega⟩, by rw [e, h1]⟩
  rw [e,hb0] at this; omega
noncomputable def lfr (a:List Int):Nat:=open Classical in if h:∃ v,LF a v then h.choose else 0
theorem ZjX {a:List Int} {v:Nat} (h:LF a v):lfr a = v:=by
 have hx:∃ v,LF a v:=⟨v,h⟩
 unfold lfr
 rw [dif_pos hx]
 exact hx.choose_spec.uniq h
noncomputable def srch (m:Nat) (cs:List (List Int)) (limit:Int):Nat → List Int → Int → Int × List Int × Int
 | 0,_,s=>(2,[],s)
 | d + 1,a,s=>if lfr a = 0 then (1,a,s) else if s = limit then (3,[],s) else
  let r:Int × List Int × Int:=match clo m cs (stA a (-(lfr a:Int))) with | none=>(2,[],s + 1) | some b=>srch m cs limit d b (s + 1)
  if r.1 = 2 then (match clo m cs (stA a (lfr a:Int)) with | none=>(2,[],r.2.2) | some b=>srch m cs limit d b r.2.2) else r
noncomputable def brn (m:Nat) (cs:List (List Int)) (limit:Int) (d:Nat) (v:List Int) (s:Int):Int × List Int × Int:=match clo m cs v with | none=>(2,[],s) | some b=>srch m cs limit d b s
theorem Zcw (m:Nat) (cs:List (List Int)) (limit:Int) (d:Nat) (a:List Int) (s:Int):srch m cs limit (d + 1) a s = if lfr a = 0 then (1,a,s) else if s = limit then (3,[],s) else
  if (brn m cs limit d (stA a (-(lfr a:Int))) (s + 1)).1 = 2 then brn m cs limit d (stA a (lfr a:Int)) (brn m cs limit d (stA a (-(lfr a:Int))) (s + 1)).2.2 else brn m cs limit d (stA a (-(lfr a:Int))) (s + 1):=by
 rw [srch]; rfl
structure SOk (limit s:Int) (r:Int × List Int × Int):Prop where
 code:r.1 = 1 ∨ r.1 = 2 ∨ r.1 = 3
 nil:r.1 ≠ 1 → r.2.1 = []
 lo:s ≤ r.2.2
 hi:r.2.2 ≤ limit
theorem ZhR (m:Nat) (cs:List (List Int)) (limit:Int):∀ (d:Nat) (a:List Int) (s:Int),s ≤ limit → SOk limit s (srch m cs limit d a s)
 | 0,a,s,h=>⟨.inr (.inl rfl),fun _=>rfl,ZmM _,h⟩
 | d + 1,a,s,h=>by
  have hb:∀ v s',s' ≤ limit → SOk limit s' (brn m cs limit d v s'):=fun v s' h'=>by
   unfold brn
   cases clo m cs v with
   | none=>exact ⟨.inr (.inl rfl),fun _=>rfl,ZmM _,h'⟩
   | some b=>exact ZhR m cs limit d b s' h'
  rw [Zcw]
  by_cases c1:lfr a = 0
  ·rw [Zmk c1]; exact ⟨.inl rfl,fun h=>absurd rfl h,ZmM _,h⟩
  rw [Zmj c1]
  by_cases c2:s = limit
  ·rw [Zmk c2]; exact ⟨.inr (.inr rfl),fun _=>rfl,ZmM _,h⟩
  rw [Zmj c2]
  have h1:=hb (stA a (-(lfr a:Int))) (s + 1) (by omega)
  by_cases c3:(brn m cs limit d (stA a (-(lfr a:Int))) (s + 1)).1 = 2
  ·rw [Zmk c3]
   have h2:=hb (stA a (lfr a:Int)) _ h1.hi
   exact ⟨h2.code,h2.nil,by have:=h1.lo; have:=h2.lo; omega,h2.hi⟩
  ·rw [Zmj c3]
   exact ⟨h1.code,h1.nil,by have:=h1.lo; omega,h1.hi⟩
theorem ZfK (m:Nat) (cs:List (List Int)) (limit:Int) (d:Nat) (v:List Int) (s:Int) (h:s ≤ limit):SOk limit s (brn m cs limit d v s):=by
 unfold brn
 cases clo m cs v with
 | none=>exact ⟨.inr (.inl rfl),fun _=>rfl,ZmM _,h⟩
 | some b=>exact ZhR m cs limit d b s h
def bls (a:List Int):List Bool:=(a.drop 1).map fun x=>decide (x > 0)
theorem ZdZ {a:List Int} (h:Asg m a):(bls a).length = m:=by unfold bls; rw [Zon,Zm7,h.len]; rfl
theorem Zhx {a:List Int} (hA:Asg m a) (hm:m ≤ 400) {n:Nat} (hn:2000 ≤ n):iterN (fun (s1:Int × (List Bool))=>
   if (decide (s1.1 < (len (List.replicate m false)))) then
    (get? a (w64 (s1.1 + 1))).bind fun x3=>
    (set? s1.2 s1.1 (decide (x3 > 0))).bind fun x4=>
    some (.inl ((w64 (s1.1 + 1)),x4))
   else
    some (.inr (s1.2))) n (0,List.replicate m false) = some (bls a):=by
  have hlen:=hA.len
  have key:∀ (d i k:Nat),i + d = m → d < k → iterN (fun (s1:Int × (List Bool))=>
   if (decide (s1.1 < (len (List.replicate m false)))) then
    (get? a (w64 (s1.1 + 1))).bind fun x3=>
    (set? s1.2 s1.1 (decide (x3 > 0))).bind fun x4=>
    some (.inl ((w64 (s1.1 + 1)),x4))
   else
    some (.inr (s1.2))) k ((i:Int),(bls a).take i ++ List.replicate d false) = some (bls a):=by
    intro d
    induction d with
    | zero =>
      intro i k hi hk
      have hd:decide ((i:Int) < len (List.replicate m false)) = false:=by rw [Za,ZmV]; exact decide_eq_false (by omega)
      refine ZA ?_ (by omega)
      simp only [hd,Zmg,Zmr]
      rw [List.replicate_zero,ZmO,ZmZ (by rw [ZdZ hA]; omega)]
    | succ d ih =>
      intro i k hi hk
      obtain ⟨k,rfl⟩ : ∃ j,k = j + 1:=⟨k - 1,by omega⟩
      have hd:decide ((i:Int) < len (List.replicate m false)) = true:=by rw [Za,ZmV]; exact decide_eq_true (by omega)
      have e1:w64 ((i:Int) + 1) = ((i + 1:Nat):Int):=by rw [Zb (by omega) (by omega)]; rfl
      have hil:i < (bls a).length:=by rw [ZdZ hA]; omega
      have e2:(bls a)[i] = decide (a.getD (i + 1) 0 > 0):=by
        have e3:a.getD (i + 1) 0 = a[1 + i]'(by omega):=by
          rw [Zmm,show i + 1 = 1 + i from Nat.add_comm _ _,Zmf (by omega)]; rfl
        simp only [bls,List.getElem_map,List.getElem_drop,e3]
      have hlt:((bls a).take i).length = i:=by rw [Zmq]; omega
      rw [X7 (s':=(((i + 1:Nat):Int),(bls a).take (i + 1) ++ List.replicate d false)) (by
        simp only [hd,Zm8,e1]
        rw [get?_nat,Za4 (by omega)]
        simp only [Zme]
        unfold set?
        rw [Zmk ⟨by omega,by rw [ZmQ,Zmo,hlt,ZmV]; omega⟩,ZmQ]
        simp only [Zme]
        congr 3
        rw [Zni _ _ (by omega),hlt,ZnB,Zof,Zn7,ZmA hil,e2,Zm9]; rfl)]
      exact ih (i + 1) k (by omega) (by omega)
  exact key m 0 n (by omega) (by omega)
theorem Zgx {a:List Int} (hA:Asg m a) {v:Nat} (h:LF a v) (h0:v ≠ 0):isL m (v:Int) ∧ isL m (-(v:Int)) ∧ lv a (v:Int) = 0 ∧ lv a (-(v:Int)) = 0:=by
 rcases h with ⟨h1,_⟩ | ⟨h1,h2,h3,_⟩
 ·exact absurd h1 h0
 ·have := hA.len
  have e:lv a (v:Int) = 0:=by unfold lv; rw [Zmj (by omega)]; simpa using h3
  exact ⟨⟨by omega,by omega⟩,⟨by omega,by omega⟩,e,by rw [Zbp (by omega),e]; rfl⟩
theorem ZlK (hf:FmP f m) (ho:OccP f m occ) (hl3:limit ≤ 3000):∀ (d:Nat) (a q:List Int) (s:Int) (mo:List Bool) (n:Nat),Asg m a → (∀ c ∈ f.Clauses,good a c) → zer a ≤ d → 4000000 + d ≤ n → 0 ≤ s → s ≤ limit →
    ZV n ⟨⟨f,occ⟩,limit,s,mo⟩ ⟨a,q⟩ = some ((srch m f.Clauses limit d a s).1,⟨⟨f,occ⟩,limit,(srch m f.Clauses limit d a s).2.2,if (srch m f.Clauses limit d a s).1 = 1 then bls (srch m f.Clauses limit d a s).2.1 else mo⟩):=by
  intro d
  induction d with
  | zero =>
    intro a q s mo n hA hg hz
    have:0 < zer a:=Zo7.2 (by
      have h1:=hA.nul
      have h2:=Za4 (a:=a) (i:=0) (by have:=hA.len; omega)
      rw [h1] at h2
      exact Zmn h2)
    omega
  | succ d ih =>
    intro a q s mo n hA hg hz hn h0 hs
    obtain ⟨n,rfl⟩ : ∃ k,n = k + 1:=⟨n - 1,by omega⟩
    have hm:=hf.small
    have hlen:=hA.len
    obtain ⟨v,hv,e1⟩:=Zlq (a:=a) (q:=q) (n:=n) (by omega) (by omega)
    rw [ZV,e1,Zcw,ZjX hv]
    simp only [Zme]
    by_cases c1:v = 0
    · rw [Zmk (by simpa using c1), Zmk c1]
      simp only [Zm8]
      rw [hf.vars,ZfN (by omega)]
      simp only [Zme]
      rw [Zhx hA hm (by omega)]; rfl
    · rw [Zmj (by simpa using c1), Zmj c1]
      by_cases c2:s = limit
      · rw [Zmk (by simpa using c2),Zmk c2]; rfl
      · rw [Zmj (by simpa using c2), Zmj c2]
        obtain ⟨k1,k2,k3,k4⟩:=Zgx hA hv c1
        have e3:w64 (0 - (v:Int)) = -(v:Int):=by have:=k1.2; rw [Zb (by omega) (by omega)]; omega
        have e4:w64 (s + 1) = s + 1:=Zb (by omega) (by omega)
        have one:∀ (l:Int),isL m l → lv a l = 0 → ∀ (s':Int) (mo':List Bool),0 ≤ s' → s' ≤ limit →
            ∃ a' b, Zy n ⟨f, occ⟩ ⟨a, q⟩ l = some (a', b) ∧ ((b = false ∧ brn m f.Clauses limit d (stA a l) s' = (2, [], s')) ∨
              (b = true ∧ ZV n ⟨⟨f,occ⟩,limit,s',mo'⟩ a' = some ((brn m f.Clauses limit d (stA a l) s').1,⟨⟨f,occ⟩,limit,(brn m f.Clauses limit d (stA a l) s').2.2,if (brn m f.Clauses limit d (stA a l) s').1 = 1 then bls (brn m f.Clauses limit d (stA a l) s').2.1 else mo'⟩))):=fun l hl hl0 s' mo' hs0 hs1=>by
          obtain ⟨a',b,g1,g2⟩:=Zjj hf ho (n:=n) (by omega) (q:=q) hA hg hl hl0
          refine ⟨a',b,g1,?_⟩
          rcases g2 with ⟨rfl,g3,g4⟩ | ⟨rfl,g3⟩
          · have hok := ZbL g4
            have hz1:=Zc3 hA hl hl0
            have hz2:=ZgL (Zc2 hA hl) hok
            refine .inr ⟨rfl,?_⟩
            have:=ih a'.val a'.queue s' mo' n hok.asg hok.cl (by omega) (by omega) hs0 hs1
            unfold brn
            rw [g4]
            exact this
          · exact .inl ⟨rfl,by unfold brn; rw [g3]⟩
        generalize hQ:(if (brn m f.Clauses limit d (stA a (-(v:Int))) (s + 1)).1 = 2 then brn m f.Clauses limit d (stA a (v:Int)) (brn m f.Clauses limit d (stA a (-(v:Int))) (s + 1)).2.2 else brn m f.Clauses limit d (stA a (-(v:Int))) (s + 1)) = Q
        have hb1:=ZfK m f.Clauses limit d (stA a (-(v:Int))) (s + 1) (by omega)
        have key:∃ r:(Int × Int × (List Bool)) ⊕ (Int × D.searcher),iterN (fun (s2:Int × Int × Int × (List Bool))=>
    if (decide (s2.1 < 2)) then
     (get? ([(w64 (0 - (v:Int))),(v:Int)]:List Int) s2.1).bind fun x5=>
     (Zy n ⟨f,occ⟩ ⟨a,q⟩ x5).bind fun x6=>
     if (!x6.2) then
      some (.inl ((w64 (s2.1 + 1)),s2.2.1,s2.2.2.1,s2.2.2.2))
     else
      (ZV n (D.searcher.mk ⟨f,occ⟩ s2.2.1 s2.2.2.1 s2.2.2.2) x6.1).bind fun x7=>
      if (x7.1 != 2) then
       some (.inr (.inr (x7.1,(D.searcher.mk ⟨f,occ⟩ x7.2.limit x7.2.splits x7.2.model))))
      else
       some (.inl ((w64 (s2.1 + 1)),x7.2.limit,x7.2.splits,x7.2.model))
    else
     some (.inr (.inl (s2.2.1, s2.2.2.1, s2.2.2.2)))) n (0, limit, w64 (s + 1), mo) = some r ∧
          (match r with | .inl s2r=>some (2,(D.searcher.mk ⟨f,occ⟩ s2r.1 s2r.2.1 s2r.2.2)) | .inr v=>some v) = some (Q.1,(⟨⟨f,occ⟩,limit,Q.2.2,if Q.1 = 1 then bls Q.2.1 else mo⟩ : D.searcher)):=by
          rw [e3,e4]
          obtain ⟨k,rfl⟩ : ∃ j,n = j + 3:=⟨n - 3,by omega⟩
          generalize hR1:brn m f.Clauses limit d (stA a (-(v:Int))) (s + 1) = R1 at *
          have second:∀ s':Int,0 ≤ s' → s' ≤ limit → ∃ r:(Int × Int × (List Bool)) ⊕ (Int × D.searcher),iterN (fun (s2:Int × Int × Int × (List Bool))=>
    if (decide (s2.1 < 2)) then
     (get? ([-(v:Int),(v:Int)]:List Int) s2.1).bind fun x5=>
     (Zy (k + 3) ⟨f,occ⟩ ⟨a,q⟩ x5).bind fun x6=>
     if (!x6.2) then
      some (.inl ((w64 (s2.1 + 1)),s2.2.1,s2.2.2.1,s2.2.2.2))
     else
      (ZV (k + 3) (D.searcher.mk ⟨f,occ⟩ s2.2.1 s2.2.2.1 s2.2.2.2) x6.1).bind fun x7=>
      if (x7.1 != 2) then
       some (.inr (.inr (x7.1,(D.searcher.mk ⟨f,occ⟩ x7.2.limit x7.2.splits x7.2.model))))
      else
       some (.inl ((w64 (s2.1 + 1)),x7.2.limit,x7.2.splits,x7.2.model))
    else
     some (.inr (.inl (s2.2.1,s2.2.2.1,s2.2.2.2)))) (k + 2) (1,limit,s',mo) = some r ∧
              (match r with | .inl s2r=>some (2,(D.searcher.mk ⟨f,occ⟩ s2r.1 s2r.2.1 s2r.2.2)) | .inr v=>some v) = some ((brn m f.Clauses limit d (stA a (v:Int)) s').1,(⟨⟨f,occ⟩,limit,(brn m f.Clauses limit d (stA a (v:Int)) s').2.2,if (brn m f.Clauses limit d (stA a (v:Int)) s').1 = 1 then bls (brn m f.Clauses limit d (stA a (v:Int)) s').2.1 else mo⟩ : D.searcher)):=fun s' hs0 hs1=>by
            obtain ⟨a',b,g1,g2⟩:=one (v:Int) k1 k3 s' mo hs0 hs1
            have hw:w64 (1 + 1) = 2:=by decide
            rcases g2 with ⟨rfl,g3⟩ | ⟨rfl,g3⟩
            · refine ⟨.inl (limit, s', mo), ?_, by rw [g3]; rfl⟩
              rw [show k + 2 = (k + 1) + 1 from rfl,X7 (s':=(2,limit,s',mo)) (by
                show ((Zy (k + 3) ⟨f,occ⟩ ⟨a,q⟩ (v:Int)).bind _) = _
                rw [g1]
                simp only [Zme,Znv,Zm8,hw])]
              exact ZA rfl (by omega)
            · generalize brn m f.Clauses limit d (stA a (v : Int)) s' = R at *
              by_cases c:R.1 = 2
              · refine ⟨.inl (limit, R.2.2, mo), ?_, by rw [c, Zmj (by decide)]⟩
                rw [show k + 2 = (k + 1) + 1 from rfl,X7 (s':=(2,limit,R.2.2,mo)) (by
                  show ((Zy (k + 3) ⟨f,occ⟩ ⟨a,q⟩ (v:Int)).bind _) = _
                  rw [g1]
                  simp only [Zme,Zmw,Zmg,Zmr]
                  rw [g3]
                  simp only [Zme]
                  rw [Zmj (by rw [c]; decide),Zmj (show ¬ R.1 = 1 by omega),hw])]
                exact ZA rfl (by omega)
              · refine ⟨.inr (R.1, ⟨⟨f, occ⟩, limit, R.2.2, if R.1 = 1 then bls R.2.1 else mo⟩), ?_, rfl⟩
                refine ZA ?_ (by omega)
                show ((Zy (k + 3) ⟨f,occ⟩ ⟨a,q⟩ (v:Int)).bind _) = _
                rw [g1]
                simp only [Zme,Zmw,Zmg,Zmr]
                rw [g3]
                simp only [Zme]
                rw [Zmk (by simpa using c)]
          obtain ⟨a',b,g1,g2⟩:=one (-(v:Int)) k2 k4 (s + 1) mo (by omega) (by omega)
          rw [hR1] at g2
          have hw:w64 (0 + 1) = 1:=by decide
          rcases g2 with ⟨rfl,g3⟩ | ⟨rfl,g3⟩
          · obtain ⟨r, q1, q2⟩ := second (s + 1) (by omega) (by omega)
            refine ⟨r,?_,?_⟩
            · rw [show k + 3 = (k + 2) + 1 from rfl,X7 (s':=(1,limit,s + 1,mo)) (by
                show ((Zy (k + 3) ⟨f,occ⟩ ⟨a,q⟩ (-(v:Int))).bind _) = _
                rw [g1]
                simp only [Zme,Znv,Zm8,hw])]
              exact q1
            · rw [← hQ,g3,Zmk rfl]; exact q2
          · by_cases c : R1.1 = 2
            · obtain ⟨r, q1, q2⟩ := second R1.2.2 (by have := hb1.lo; omega) hb1.hi
              refine ⟨r,?_,?_⟩
              · rw [show k + 3 = (k + 2) + 1 from rfl,X7 (s':=(1,limit,R1.2.2,mo)) (by
                  show ((Zy (k + 3) ⟨f,occ⟩ ⟨a,q⟩ (-(v:Int))).bind _) = _
                  rw [g1]
                  simp only [Zme,Zmw,Zmg,Zmr]
                  rw [g3]
                  simp only [Zme]
                  rw [Zmj (by rw [c]; decide),Zmj (show ¬ R1.1 = 1 by omega),hw])]
                exact q1
              · rw [← hQ,Zmk c]; exact q2
            · refine ⟨.inr (R1.1, ⟨⟨f, occ⟩, limit, R1.2.2, if R1.1 = 1 then bls R1.2.1 else mo⟩), ?_, by rw [← hQ, Zmj c]⟩
              refine ZA ?_ (by omega)
              show ((Zy (k + 3) ⟨f,occ⟩ ⟨a,q⟩ (-(v:Int))).bind _) = _
              rw [g1]
              simp only [Zme,Zmw,Zmg,Zmr]
              rw [g3]
              simp only [Zme]
              rw [Zmk (by simpa using c)]
        obtain ⟨r,q1,q2⟩:=key
        refine Eq.trans ?_ q2
        exact congrArg (fun o=>Option.bind o (fun (rl2:(Int × Int × (List Bool)) ⊕ (Int × D.searcher))=>match rl2 with | .inl s2r=>some (2,(D.searcher.mk ⟨f,occ⟩ s2r.1 s2r.2.1 s2r.2.2)) | .inr v=>some v)) q1
end
section
variable {f:D.Formula} {m:Nat} {occ:List (List Int)} {limit:Int}
theorem ZjF {l:List Int} (h:l.length ≤ 1000000):app? ([]:List Int) l = some l:=by
 unfold app? room
 rw [Zmk (by simp; omega)]; rfl
theorem ZlU {a:List Int} (hA:Asg m a) {v:Nat} (h1:1 ≤ v) (h2:v ≤ m):set? a (v:Int) (-1) = some (stA a (-(v:Int))) ∧ set? a (v:Int) 1 = some (stA a (v:Int)):=by
 have:=hA.len
 have hb:0 ≤ (v:Int) ∧ (v:Int).toNat < a.length:=⟨by omega,by rw [ZmQ]; omega⟩
 unfold set? stA
 constructor
 ·rw [Zmk hb,Zmk (show -(v:Int) < 0 by omega),ZmQ,Zov]; rfl
 ·rw [Zmk hb,Zmj (show ¬ (v:Int) < 0 by omega),ZmQ]; rfl
theorem ZlM (hf:FmP f m) (hl3:limit ≤ 3000):∀ (d:Nat) (v:List Int) (s:Int) (n:Nat),Asg m v → zer v ≤ d → 4000000 + d ≤ n → 0 ≤ s → s ≤ limit →
    Zw n ⟨f,limit,s,false⟩ v = some ((brn m f.Clauses limit d v s).2.1,D.Prf.mk,(brn m f.Clauses limit d v s).1 == 1,⟨f,limit,(brn m f.Clauses limit d v s).2.2,(brn m f.Clauses limit d v s).1 == 3⟩):=by
  intro d
  induction d with
  | zero =>
    intro v s n hA hz
    have:0 < zer v:=Zo7.2 (by
      have h1:=hA.nul
      have h2:=Za4 (a:=v) (i:=0) (by have:=hA.len; omega)
      rw [h1] at h2
      exact Zmn h2)
    omega
  | succ d ih =>
    intro v s n hA hz hn h0 hs
    obtain ⟨n,rfl⟩ : ∃ k,n = k + 1:=⟨n - 1,by omega⟩
    have hm:=hf.small
    have hvl:=hA.len
    obtain ⟨b,a,e1,e2⟩:=Zi8 hf hA (n:=n) (by omega)
    rw [Zw,e1]
    simp only [Zme]
    rcases e2 with ⟨rfl,e2⟩ | ⟨rfl,e2⟩
    rotate_left
    · have hb : brn m f.Clauses limit (d + 1) v s = (2, [], s) := by unfold brn; rw [e2]
      rw [Zmk (by decide),hb]; rfl
    have hb:brn m f.Clauses limit (d + 1) v s = srch m f.Clauses limit (d + 1) a s:=by unfold brn; rw [e2]
    have hok:=ZbL e2
    have hza:=ZgL hA hok
    have hal:=hok.asg.len
    rw [Zmj (by decide),hb,Zcw]
    obtain ⟨w,hw,e3⟩:=Zlp (a:=a) (n:=n) (N:=len v) (by rw [Za]; omega) (by omega) (by omega)
    rw [e3,ZjX hw]
    simp only [Zme]
    by_cases c1:w = 0
    · rw [Zmk c1,Zmk (by simp),Zmk c1]; rfl
    rw [Zmj c1]
    obtain ⟨k1,k2,k3,k4⟩:=Zgx hok.asg hw c1
    have hwm:1 ≤ w ∧ w ≤ m:=by have:=k1.2; omega
    rw [Zmj (by rw [Za]; simp; omega),Zmj c1]
    by_cases c2:s = limit
    · rw [Zmk (by simpa using c2),Zmk c2]; rfl
    rw [Zmj (by simpa using c2),Zmj c2]
    have e4:w64 (s + 1) = s + 1:=Zb (by omega) (by omega)
    obtain ⟨t1,t2⟩:=ZlU hok.asg hwm.1 hwm.2
    have one:∀ (l:Int),isL m l → lv a l = 0 → ∀ s':Int,0 ≤ s' → s' ≤ limit → Zw n ⟨f,limit,s',false⟩ (stA a l) = some ((brn m f.Clauses limit d (stA a l) s').2.1,D.Prf.mk,(brn m f.Clauses limit d (stA a l) s').1 == 1,⟨f,limit,(brn m f.Clauses limit d (stA a l) s').2.2,(brn m f.Clauses limit d (stA a l) s').1 == 3⟩):=fun l hl hl0 s' hs0 hs1=>by
      have hz1:=Zc3 hok.asg hl hl0
      exact ih (stA a l) s' n (Zc2 hok.asg hl) (by omega) (by omega) hs0 hs1
    generalize hQ:(if (brn m f.Clauses limit d (stA a (-(w:Int))) (s + 1)).1 = 2 then brn m f.Clauses limit d (stA a (w:Int)) (brn m f.Clauses limit d (stA a (-(w:Int))) (s + 1)).2.2 else brn m f.Clauses limit d (stA a (-(w:Int))) (s + 1)) = Q
    have hb1:=ZfK m f.Clauses limit d (stA a (-(w:Int))) (s + 1) (by omega)
    have ha0:=ZjF (l:=a) (by omega)
    have key:∃ r:(Int × Int × Bool × (List D.Prf)) ⊕ ((List Int) × D.Prf × Bool × D.l03Work),iterN (fun (s2:Int × Int × Int × Bool × (List D.Prf))=>
     if (decide (s2.1 < (len ([(-1),1]:List Int)))) then
      (get? ([(-1),1]:List Int) s2.1).bind fun x3=>
      (app? ([]:List Int) a).bind fun x4=>
      (set? x4 (w:Int) x3).bind fun x5=>
      (Zw n (D.l03Work.mk f s2.2.1 s2.2.2.1 s2.2.2.2.1) x5).bind fun x6=>
      if (x6.2.2.1 || x6.2.2.2.opn) then
       some (.inr (.inr (x6.1,D.Prf.mk,x6.2.2.1,(D.l03Work.mk f x6.2.2.2.limit x6.2.2.2.made x6.2.2.2.opn))))
      else
       (app? s2.2.2.2.2 [D.Prf.mk]).bind fun x7=>
       some (.inl ((w64 (s2.1 + 1)),x6.2.2.2.limit,x6.2.2.2.made,x6.2.2.2.opn,x7))
     else
      some (.inr (.inl (s2.2.1,s2.2.2.1,s2.2.2.2.1,s2.2.2.2.2)))) n (0,limit,w64 (s + 1),false,([]:List D.Prf)) = some r ∧
        (match r with | .inl s2r=>some (([]:List Int),D.Prf.mk,false,(D.l03Work.mk f s2r.1 s2r.2.1 s2r.2.2.1)) | .inr v=>some v) = some (Q.2.1,D.Prf.mk,Q.1 == 1,(⟨f,limit,Q.2.2,Q.1 == 3⟩ : D.l03Work)):=by
      rw [e4]
      obtain ⟨k,rfl⟩ : ∃ j,n = j + 3:=⟨n - 3,by omega⟩
      generalize hR1:brn m f.Clauses limit d (stA a (-(w:Int))) (s + 1) = R1 at *
      have second:∀ s':Int,0 ≤ s' → s' ≤ limit → ∃ r:(Int × Int × Bool × (List D.Prf)) ⊕ ((List Int) × D.Prf × Bool × D.l03Work),iterN (fun (s2:Int × Int × Int × Bool × (List D.Prf))=>
     if (decide (s2.1 < (len ([(-1),1]:List Int)))) then
      (get? ([(-1),1]:List Int) s2.1).bind fun x3=>
      (app? ([]:List Int) a).bind fun x4=>
      (set? x4 (w:Int) x3).bind fun x5=>
      (Zw (k + 3) (D.l03Work.mk f s2.2.1 s2.2.2.1 s2.2.2.2.1) x5).bind fun x6=>
      if (x6.2.2.1 || x6.2.2.2.opn) then
       some (.inr (.inr (x6.1,D.Prf.mk,x6.2.2.1,(D.l03Work.mk f x6.2.2.2.limit x6.2.2.2.made x6.2.2.2.opn))))
      else
       (app? s2.2.2.2.2 [D.Prf.mk]).bind fun x7=>
       some (.inl ((w64 (s2.1 + 1)),x6.2.2.2.limit,x6.2.2.2.made,x6.2.2.2.opn,x7))
     else
      some (.inr (.inl (s2.2.1,s2.2.2.1,s2.2.2.2.1,s2.2.2.2.2)))) (k + 2) (1,limit,s',false,[D.Prf.mk]) = some r ∧
          (match r with | .inl s2r=>some (([]:List Int),D.Prf.mk,false,(D.l03Work.mk f s2r.1 s2r.2.1 s2r.2.2.1)) | .inr v=>some v) = some ((brn m f.Clauses limit d (stA a (w:Int)) s').2.1,D.Prf.mk,(brn m f.Clauses limit d (stA a (w:Int)) s').1 == 1,(⟨f,limit,(brn m f.Clauses limit d (stA a (w:Int)) s').2.2,(brn m f.Clauses limit d (stA a (w:Int)) s').1 == 3⟩ : D.l03Work)):=fun s' hs0 hs1=>by
        have g:=one (w:Int) k1 k3 s' hs0 hs1
        have hk:=ZfK m f.Clauses limit d (stA a (w:Int)) s' hs1
        generalize brn m f.Clauses limit d (stA a (w:Int)) s' = R at *
        have hw2:w64 (1 + 1) = 2:=by decide
        by_cases c:R.1 = 2
        · refine ⟨.inl (limit, R.2.2, R.1 == 3, [D.Prf.mk, D.Prf.mk]), ?_, by rw [hk.nil (by omega), c]; rfl⟩
          rw [show k + 2 = (k + 1) + 1 from rfl,X7 (s':=(2,limit,R.2.2,R.1 == 3,[D.Prf.mk,D.Prf.mk])) (by
            show ((app? ([]:List Int) a).bind fun x4=>(set? x4 (w:Int) 1).bind fun x5=>(Zw (k + 3) (D.l03Work.mk f limit s' false) x5).bind _) = _
            rw [ha0]
            simp only [Zme]
            rw [t2]
            simp only [Zme]
            rw [g]
            simp only [Zme]
            rw [Zmj (by rw [c]; decide),hw2]; rfl)]
          exact ZA rfl (by omega)
        · refine ⟨.inr (R.2.1, D.Prf.mk, R.1 == 1, ⟨f, limit, R.2.2, R.1 == 3⟩), ?_, rfl⟩
          refine ZA ?_ (by omega)
          show ((app? ([]:List Int) a).bind fun x4=>(set? x4 (w:Int) 1).bind fun x5=>(Zw (k + 3) (D.l03Work.mk f limit s' false) x5).bind _) = _
          rw [ha0]
          simp only [Zme]
          rw [t2]
          simp only [Zme]
          rw [g]
          simp only [Zme]
          rw [Zmk (by rcases hk.code with h | h | h <;> simp [h] at c ⊢)]
      have g:=one (-(w:Int)) k2 k4 (s + 1) (by omega) (by omega)
      rw [hR1] at g
      have hw1:w64 (0 + 1) = 1:=by decide
      by_cases c:R1.1 = 2
      · obtain ⟨r, q1, q2⟩ := second R1.2.2 (by have := hb1.lo; omega) hb1.hi
        refine ⟨r,?_,?_⟩
        · rw [show k + 3 = (k + 2) + 1 from rfl,X7 (s':=(1,limit,R1.2.2,false,[D.Prf.mk])) (by
            show ((app? ([]:List Int) a).bind fun x4=>(set? x4 (w:Int) (-1)).bind fun x5=>(Zw (k + 3) (D.l03Work.mk f limit (s + 1) false) x5).bind _) = _
            rw [ha0]
            simp only [Zme]
            rw [t1]
            simp only [Zme]
            rw [g]
            simp only [Zme]
            rw [Zmj (by rw [c]; decide),hw1,c]; rfl)]
          exact q1
        · rw [← hQ,Zmk c]; exact q2
      · refine ⟨.inr (R1.2.1, D.Prf.mk, R1.1 == 1, ⟨f, limit, R1.2.2, R1.1 == 3⟩), ?_, by rw [← hQ, Zmj c]⟩
        refine ZA ?_ (by omega)
        show ((app? ([]:List Int) a).bind fun x4=>(set? x4 (w:Int) (-1)).bind fun x5=>(Zw (k + 3) (D.l03Work.mk f limit (s + 1) false) x5).bind _) = _
        rw [ha0]
        simp only [Zme]
        rw [t1]
        simp only [Zme]
        rw [g]
        simp only [Zme]
        rw [Zmk (by rcases hb1.code with h | h | h <;> simp [h] at c ⊢)]
    obtain ⟨r,q1,q2⟩:=key
    refine Eq.trans ?_ q2
    exact congrArg (fun o=>Option.bind o (fun (rl2:(Int × Int × Bool × (List D.Prf)) ⊕ ((List Int) × D.Prf × Bool × D.l03Work))=>match rl2 with | .inl s2r=>some (([]:List Int),D.Prf.mk,false,(D.l03Work.mk f s2r.1 s2r.2.1 s2r.2.2.1)) | .inr v=>some v)) q1
end
section
variable {f:D.Formula} {m:Nat} {limit:Int}
theorem Zid {a:List Int} (hA:Asg m a):zer a ≤ m + 1:=by
 have:=List.count_le_length (a:=(0:Int)) (l:=a)
 have:=hA.len
 unfold zer; omega
theorem Zk3 {a:List Int} (hA:Asg m a) (hm:m ≤ 400) {n:Nat} (hn:2000 ≤ n):iterN (fun (s1:Int × (List Bool))=>
     if (decide (s1.1 < (len (a.drop 1)))) then
      (get? (a.drop 1) s1.1).bind fun x7=>
      (app? s1.2 ([(decide (x7 > 0))]:List Bool)).bind fun x8=>
      some (.inl ((w64 (s1.1 + 1)),x8))
     else
      some (.inr (s1.2))) n (0,([]:List Bool)) = some (bls a):=by
  have hlen:=hA.len
  have hd:(a.drop 1).length = m:=by rw [Zm7]; omega
  have key:∀ (d i k:Nat),i + d = m → d < k → iterN (fun (s1:Int × (List Bool))=>
     if (decide (s1.1 < (len (a.drop 1)))) then
      (get? (a.drop 1) s1.1).bind fun x7=>
      (app? s1.2 ([(decide (x7 > 0))]:List Bool)).bind fun x8=>
      some (.inl ((w64 (s1.1 + 1)),x8))
     else
      some (.inr (s1.2))) k ((i:Int),(bls a).take i) = some (bls a):=by
    intro d
    induction d with
    | zero =>
      intro i k hi hk
      have hd':decide ((i:Int) < len (a.drop 1)) = false:=by rw [Za,hd]; exact decide_eq_false (by omega)
      refine ZA ?_ (by omega)
      simp only [hd',Zmg,Zmr]
      rw [ZmZ (by rw [ZdZ hA]; omega)]
    | succ d ih =>
      intro i k hi hk
      obtain ⟨k,rfl⟩ : ∃ j,k = j + 1:=⟨k - 1,by omega⟩
      have hd':decide ((i:Int) < len (a.drop 1)) = true:=by rw [Za,hd]; exact decide_eq_true (by omega)
      have e1:w64 ((i:Int) + 1) = ((i + 1:Nat):Int):=by rw [Zb (by omega) (by omega)]; rfl
      have hil:i < (bls a).length:=by rw [ZdZ hA]; omega
      have hig:i < (a.drop 1).length:=by omega
      rw [X7 (s':=(((i + 1:Nat):Int),(bls a).take (i + 1))) (by
        simp only [hd',Zm8,e1]
        rw [get?_nat,Zmf hig]
        simp only [Zme]
        rw [Zik (by rw [Zmq]; omega)]
        simp only [Zme]
        rw [ZmA hil]
        simp only [bls,List.getElem_map])]
      exact ih (i + 1) k (by omega) (by omega)
  exact key m 0 n (by omega) (by omega)
theorem Zgn {cs:List (List Int)}:∀ (d:Nat) (a:List Int) (s:Int),Asg m a → (srch m cs limit d a s).1 = 1 → Asg m (srch m cs limit d a s).2.1
 | 0,_,_,_,h=>by simp [srch] at h
 | d + 1,a,s,hA,h=>by
  have hb:∀ (v:List Int) (s':Int),(brn m cs limit d v s').1 = 1 → Asg m (brn m cs limit d v s').2.1:=fun v s' h'=>by
   unfold brn at h' ⊢
   cases hc:clo m cs v with
   | none=>rw [hc] at h'; simp at h'
   | some b=>rw [hc] at h'; exact Zgn d b s' (ZbL hc).asg h'
  rw [Zcw] at h ⊢
  by_cases c1:lfr a = 0
  ·rw [Zmk c1]; exact hA
  rw [Zmj c1] at h ⊢
  by_cases c2:s = limit
  ·rw [Zmk c2] at h; simp at h
  rw [Zmj c2] at h ⊢
  by_cases c3:(brn m cs limit d (stA a (-(lfr a:Int))) (s + 1)).1 = 2
  ·rw [Zmk c3] at h ⊢; exact hb _ _ h
  ·rw [Zmj c3] at h ⊢; exact hb _ _ h
theorem ZkL {cs:List (List Int)} (d:Nat) (v:List Int) (s:Int) (h:(brn m cs limit d v s).1 = 1):Asg m (brn m cs limit d v s).2.1:=by
 unfold brn at h ⊢
 cases hc:clo m cs v with
 | none=>rw [hc] at h; simp at h
 | some b=>rw [hc] at h; exact Zgn d b s (ZbL hc).asg h
end
end Go.Proofs.YtgpcokpcbjloiaaGreat.Sv
end
