/- Texts of this claim put into one: library or plain laws, without the program under test. -/
import Derived.Test.YtgpcokpcbjloiaaGreatPLib2
section
namespace Go.Proofs.YtgpcokpcbjloiaaGreat
open Go.GL
open Cc (BS LS CircP Grow GoodL Good litN lines negs seqP ifP opP net RelB FOk FU)
set_option linter.unusedSimpArgs false
set_option maxRecDepth 100000
structure CircT (t:D.Term) (L:List D.Value):Prop where
 vars:YS fuel t = some L
 ivars:Zaf fuel t = some (L.map zv)
 circ:CircP (circT t).1
 len:(circT t).2.1.length = t.W.toNat
 lits:∀ x ∈ (circT t).2.1,litN (lines (circT t).1) x = true
 sum:(circT t).1.Inputs = (wsum L:Int)
 wid:∀ v ∈ L,1 ≤ v.W ∧ v.W ≤ 16
 num:L.length ≤ 1000
theorem Zk9 {t:D.Term} (h:termB t = true) (hs:msz t ≤ 1048576) (h3:(circT t).2.2 = true):∃ L,CircT t L:=by
 obtain ⟨L,e,hL,hn,hc,hw,hnm,hlen,hb0⟩:=Zc7 h hs
 unfold circT at h3
 rw [Zmk h] at h3
 simp only [e,ZmR] at h3
 have hE:circT t = (if bitsV L 0 > 30 ∨ (nP L t (⟨bitsV L 0,[]⟩,false)).2.2 = true then (c0,[],false) else ((nP L t (⟨bitsV L 0,[]⟩,false)).2.1,(nP L t (⟨bitsV L 0,[]⟩,false)).1,true)):=by
  unfold circT
  rw [Zmk h]
  simp only [e,ZmR]
 by_cases hb:bitsV L 0 > 30 ∨ (nP L t (⟨bitsV L 0,[]⟩,false)).2.2 = true
 ·rw [Zmk hb] at h3; cases h3
 ·rw [Zmj hb] at hE
  have hC:=Zdp hb0 (by omega)
  have hv:VF L (⟨bitsV L 0,[]⟩ : D.Circuit):=⟨fun v hv=>(hw v hv).1,rfl⟩
  have g:=Zcp hL.nm _ t (⟨bitsV L 0,[]⟩,false) (Zmy _) hn hL.all hC hv
  refine ⟨L,e,by rw [Zf7 h hs,← hL.eq],by rw [hE]; exact g.circ,by rw [hE]; exact g.len,by rw [hE]; exact g.lits,?_,hw,hlen⟩
  rw [hE]
  have:=g.grow.inputs
  have:=ZeW L 0 hw
  simp only at *
  omega
theorem Zec (x:Int):Cc.iab x = (x.natAbs:Int):=by unfold Cc.iab; split <;> omega
section
variable {t:D.Term} {L:List D.Value} (hT:CircT t L) (hw1:t.W = 1)
include hT hw1
end
theorem ZlJ (limit:Int):Zg limit 0 3000 = some (decide (0 ≤ limit ∧ limit ≤ 3000)):=by
 unfold Zg; congr 1; rw [Znp]; simp
theorem ZkZ (limit:Int):Zao limit = some (decide (0 ≤ limit ∧ limit ≤ 3000)):=by
 unfold Zao; congr 1; rw [Znp]; simp
theorem ZkT {t:D.Term} (h:nodeB t = true):t.Name.bytes.length ≤ 8:=by
 by_cases ho:t.Op = 22
 ·exact (Ze6 h ho).1
 ·obtain ⟨op, w, m, nm, ks⟩ := t
  obtain ⟨-,hs⟩:=YW h
  have hne:¬ op = 22:=ho
  show nm.bytes.length ≤ 8
  have:nm = ⟨[]⟩:=by
   rcases hs with ⟨_,_,e,_⟩ | ⟨e,_⟩ | ⟨_,_,e,_⟩ | ⟨_,_,_,e,_⟩ | ⟨_,_,e,_⟩ | ⟨_,_,e,_⟩ | ⟨_,e,_⟩ | ⟨_,_,e,_⟩
   ·exact e
   ·exact absurd e hne
   all_goals exact e
  rw [this]; simp
theorem ZjC:∀ (n:Nat) (t:D.Term),cnt t ≤ n → nodeB t = true → msz t + 1 ≤ 10 * cnt t:=by
 intro n
 induction n with
 | zero=>intro t h; have:=XO t; omega
 | succ n ih=>
  intro t h hb
  have hl:∀ l:List D.Term,(∀ x ∈ l,nodeB x = true) → cnts l ≤ n → l.length + mszs l ≤ 10 * cnts l:=fun l=>by
   induction l with
   | nil=>intro _ _; simp [ZeA]
   | cons x l ihl=>
    intro hx hc
    rw [Zbu] at hc ⊢
    rw [ZaT,ZmC]
    have:=ihl (fun y hy=>hx y (by simp [hy])) (by omega)
    have:=ih x (by omega) (hx x (by simp))
    omega
  have h1:=XO t
  have h2:=hl t.Kids (nodeK hb) (by omega)
  have h3:=ZkT hb
  have h4:=Zba t
  omega
end Go.Proofs.YtgpcokpcbjloiaaGreat
end
section
namespace Go.Proofs.YtgpcokpcbjloiaaGreat.Sv
open Go.GL
set_option linter.unusedSimpArgs false
set_option maxRecDepth 100000
section
variable {f:D.Formula} {m:Nat} {occ:List (List Int)} {limit:Int}
theorem ZjA (hf:FmP f m) (ho:OccP f m occ) {n:Nat} (hn:4000000 ≤ n) {v q:List Int} (hA:Asg m v) (hq:∀ y ∈ q,isL m y ∧ lv v y = 1) (hlen:q.length + zer v ≤ 1000) :
    ∃ a' b,(iterN (fun (s2:Int × (List Int) × (List Int))=>
   if (decide (s2.1 < (len f.Clauses))) then
    (get? f.Clauses s2.1).bind fun x4=>
    (Zm n (D.assignment.mk s2.2.1 s2.2.2) x4).bind fun x5=>
    if (!x5.1) then
     some (.inr (.inr ((default:D.assignment),false)))
    else
     some (.inl ((w64 (s2.1 + 1)),x5.2.val,x5.2.queue))
   else
    some (.inr (.inl (s2.2.1,s2.2.2)))) n (0,v,q)).bind (fun (rl2:((List Int) × (List Int)) ⊕ (D.assignment × Bool))=>match rl2 with
    | .inl s2r=>(ZF n ⟨f,occ⟩ (D.assignment.mk s2r.1 s2r.2)).bind fun x6=>if (!x6.1) then some (default,false) else some (x6.2,true)
    | .inr v=>some v) = some (a',b) ∧ ((b = true ∧ a'.queue = [] ∧ clo m f.Clauses v = some a'.val) ∨ (b = false ∧ clo m f.Clauses v = none)):=by
  have hm:=hf.small
  have hnum:=hf.num
  have hw:Wq m f.Clauses (Sv m v) v q:=⟨Zek hA,hq,hlen⟩
  obtain ⟨r,g1,g2⟩:=Yd (l:=f.Clauses) (n:=n) (σ:=List Int × List Int) (ρ:=((List Int) × (List Int)) ⊕ (D.assignment × Bool)) (B:=fun (s2:Int × (List Int) × (List Int))=>
   if (decide (s2.1 < (len f.Clauses))) then
    (get? f.Clauses s2.1).bind fun x4=>
    (Zm n (D.assignment.mk s2.2.1 s2.2.2) x4).bind fun x5=>
    if (!x5.1) then
     some (.inr (.inr (default,false)))
    else
     some (.inl ((w64 (s2.1 + 1)),x5.2.val,x5.2.queue))
   else
    some (.inr (.inl (s2.2.1,s2.2.2)))) (fun j z=>((j:Int),z.1,z.2))
    (fun ys z=>Wq m f.Clauses (Sv m v) z.1 z.2 ∧ ∀ d ∈ f.Clauses,d ∈ ys ∨ good z.1 d ∨ pend z.1 z.2 d)
    (fun r=>(∃ z,r = .inl z ∧ Wq m f.Clauses (Sv m v) z.1 z.2 ∧ ∀ d ∈ f.Clauses,good z.1 d ∨ pend z.1 z.2 d) ∨ r = .inr (default,false) ∧ Bad f.Clauses (Sv m v))
    (fun j c ys z hj hx hl ⟨i1,i2⟩=>by
      have hd:decide ((j:Int) < len f.Clauses) = true:=by rw [Za]; exact decide_eq_true (by omega)
      have hk1:w64 ((j:Int) + 1) = ((j + 1:Nat):Int):=by rw [Zb (by omega) (by omega)]; rfl
      simp only [hd,Zm8,get?_nat,hx,Zme]
      rcases Zfk hf ZfW i1 (Zmn hx) (fun d=>d ∈ ys ∨ d = c) (fun d hd'=>by
        rcases i2 d hd' with h | h | h
        · rcases ZmF.1 h with h | h
          · exact .inl (.inr h)
          · exact .inl (.inl h)
        · exact .inr (.inl h)
        · exact .inr (.inr h)) (n:=n) (by omega) with ⟨h1,h2⟩ | ⟨a',q',h1,h2,h3,h4,h5⟩
      · rw [h1]
        exact .inr ⟨_,rfl,.inr ⟨rfl,h2⟩⟩
      · rw [h1]
        refine .inl ⟨(a',q'),by simp only [Zme,hk1]; rfl,h2,fun d hd'=>?_⟩
        rcases h5 d hd' with (h | h) | h | h
        · exact .inl h
        · exact .inr (.inl (h ▸ h4))
        · exact .inr (.inl h)
        · exact .inr (.inr h))
    (fun z ⟨i1,i2⟩=>by
      have hd:decide ((f.Clauses.length:Int) < len f.Clauses) = false:=by rw [Za]; simp
      simp only [hd,Zmg,Zmr]
      refine ⟨_,rfl,.inl ⟨z,rfl,i1,fun d hd'=>?_⟩⟩
      rcases i2 d hd' with h | h
      · cases h
      · exact h) (a:=(v,q)) ⟨hw,fun d hd=>.inl hd⟩ (by omega)
  rw [show ((0:Nat):Int) = 0 from rfl] at g1
  have G:∀ z,r = z → (iterN (fun (s2:Int × (List Int) × (List Int))=>
   if (decide (s2.1 < (len f.Clauses))) then
    (get? f.Clauses s2.1).bind fun x4=>
    (Zm n (D.assignment.mk s2.2.1 s2.2.2) x4).bind fun x5=>
    if (!x5.1) then
     some (.inr (.inr ((default:D.assignment),false)))
    else
     some (.inl ((w64 (s2.1 + 1)),x5.2.val,x5.2.queue))
   else
    some (.inr (.inl (s2.2.1,s2.2.2)))) n (0,v,q)).bind (fun (rl2:((List Int) × (List Int)) ⊕ (D.assignment × Bool))=>match rl2 with
    | .inl s2r=>(ZF n ⟨f,occ⟩ (D.assignment.mk s2r.1 s2r.2)).bind fun x6=>if (!x6.1) then some (default,false) else some (x6.2,true)
    | .inr v=>some v) = (match z with
    | .inl s2r=>(ZF n ⟨f,occ⟩ (D.assignment.mk s2r.1 s2r.2)).bind fun x6=>if (!x6.1) then some (default,false) else some (x6.2,true)
    | .inr v=>some v):=fun z e=>by
    subst e
    exact congrArg (fun o=>Option.bind o (fun (rl2:((List Int) × (List Int)) ⊕ (D.assignment × Bool))=>match rl2 with
    | .inl s2r=>(ZF n ⟨f,occ⟩ (D.assignment.mk s2r.1 s2r.2)).bind fun x6=>if (!x6.1) then some (default,false) else some (x6.2,true)
    | .inr v=>some v)) g1
  rcases g2 with ⟨z,e,h1,h2⟩ | ⟨e,h⟩
  · obtain ⟨b, a', k1, k2⟩ := Zg8 hf ZfW ho hn h1 h2
    have G:=G _ e
    simp only at G
    rw [k1] at G
    rcases k2 with ⟨rfl,k3,k4⟩ | ⟨rfl,k3⟩
    · exact ⟨a',true,G,.inl ⟨rfl,k3,ZhI hf.cls k4⟩⟩
    · exact ⟨default,false,G,.inr ⟨rfl,ZdX hf.cls k3⟩⟩
  · exact ⟨default,false,G _ e,.inr ⟨rfl,ZdX hf.cls h⟩⟩
def setL (a:List Int):List Int → Option (List Int)
 | []=>some a
 | l :: ls=>if lv a l = -1 then none else setL (if lv a l = 1 then a else stA a l) ls
theorem Zkf {a:List Int} {l:Int} (hA:Asg m a) (hl:isL m l) (h:lv a l = 1):stA a l = a:=by
 have h1:=hA.len
 have h2:=hl.2
 have hi:l.natAbs < a.length:=by omega
 unfold stA
 have e:a[l.natAbs] = if l < 0 then -1 else 1:=by
  have h3:=Za4 hi
  rw [Zmf hi] at h3
  have h4:=Option.some.inj h3
  unfold lv at h
  rw [h4]
  split at h <;> rename_i h5
  ·rw [Zmk h5]; omega
  ·rw [Zmj h5]; omega
 rw [← e,List.set_getElem_self]
theorem Ziy (hm:m ≤ 400) {lits:List Int} (hl:∀ x ∈ lits,isL m x) (hn:lits.length ≤ 1000):∀ (rest pre a q:List Int) (n:Nat),pre ++ rest = lits → Asg m a → (∀ y ∈ q,isL m y ∧ lv a y = 1) → q.length + zer a ≤ 1000 → rest.length < n →
    ∃ r:((List Int) × (List Int)) ⊕ (D.assignment × Bool),iterN (fun (s1:Int × (List Int) × (List Int))=>
  if (decide (s1.1 < (len lits))) then
   (get? lits s1.1).bind fun x2=>
   (Zz (D.assignment.mk s1.2.1 s1.2.2) x2).bind fun x3=>
   if (!x3.1) then
    some (.inr (.inr (default,false)))
   else
    some (.inl ((w64 (s1.1 + 1)),x3.2.val,x3.2.queue))
  else
   some (.inr (.inl (s1.2.1,s1.2.2)))) n ((pre.length:Int),a,q) = some r ∧ ((∃ v q',setL a rest = some v ∧ r = .inl (v,q') ∧ Asg m v ∧ (∀ y ∈ q',isL m y ∧ lv v y = 1) ∧ q'.length + zer v ≤ 1000) ∨ (setL a rest = none ∧ r = .inr (default,false))):=by
  intro rest
  induction rest with
  | nil =>
    intro pre a q n he hA hq hlen hk
    have hd:decide ((pre.length:Int) < len lits) = false:=by rw [Za,← he,ZmO]; simp
    refine ⟨.inl (a,q),ZA (by simp only [hd,Zmg,Zmr]) (by omega),.inl ⟨a,q,rfl,rfl,hA,hq,hlen⟩⟩
  | cons l rest ih =>
    intro pre a q n he hA hq hlen hk
    simp only [ZmC] at hk
    obtain ⟨n,rfl⟩ : ∃ j,n = j + 1:=⟨n - 1,by omega⟩
    have hll:pre.length + (rest.length + 1) = lits.length:=by rw [← he]; simp
    have hd:decide ((pre.length:Int) < len lits) = true:=by rw [Za]; exact decide_eq_true (by omega)
    have hx:lits[pre.length]? = some l:=by rw [← he]; simp
    have hL:=hl l (by rw [← he]; simp)
    have e1:w64 ((pre.length:Int) + 1) = ((pre ++ [l]).length:Int):=by rw [Zb (by omega) (by omega)]; simp
    have he':(pre ++ [l]) ++ rest = lits:=by rw [Zm9]; exact he
    by_cases h0:lv a l = 0
    · have hz := Zc3 hA hL h0
      have hA1:=Zc2 hA hL
      obtain ⟨r,g1,g2⟩:=ih (pre ++ [l]) (stA a l) (q ++ [l]) n he' hA1 (fun y hy=>by
        rcases Zm0.1 hy with hy | hy
        · have h := hq y hy
          exact ⟨h.1,by rw [Zdd hA hL h0 h.1.1 (by rw [h.2]; decide)]; exact h.2⟩
        · rw [Zm5.1 hy]
          exact ⟨hL,by rw [Zbj hA.len hL hL.1,Zmk rfl]⟩) (by rw [Zmo,ZmJ]; omega) (by omega)
      refine ⟨r,?_,?_⟩
      · rw [X7 (s':=(((pre ++ [l]).length:Int),stA a l,q ++ [l])) (by
          simp only [hd,Zm8,get?_nat,hx,Zme]
          rw [ZeE hA hm hL h0 (by omega)]
          simp only [Zme,Zmw,Zmg,Zmr,e1])]
        exact g1
      · rw [setL,Zmj (by omega),Zmj (by omega)]; exact g2
    · have hs := Zje (q := q) hA hm hL h0
      rcases ZfT hA l with h1 | h1 | h1
      · refine ⟨.inr (default, false), ZA ?_ (by omega), .inr ⟨by rw [setL, Zmk h1], rfl⟩⟩
        simp only [hd,Zm8,get?_nat,hx,Zme]
        rw [hs,h1]; rfl
      · exact absurd h1 h0
      · obtain ⟨r, g1, g2⟩ := ih (pre ++ [l]) a q n he' hA hq hlen (by omega)
        refine ⟨r,?_,?_⟩
        · rw [X7 (s':=(((pre ++ [l]).length:Int),a,q)) (by
            simp only [hd,Zm8,get?_nat,hx,Zme]
            rw [hs,h1]
            simp only [Zme,e1]; rfl)]
          exact g1
        · rw [setL,Zmj (by omega),Zmk h1]; exact g2
theorem Zjq (hm:m ≤ 400) {lits:List Int} (hl:∀ x ∈ lits,isL m x) (hn:lits.length ≤ 1000):∀ (rest pre a:List Int) (n:Nat),pre ++ rest = lits → Asg m a → rest.length < n →
    ∃ r:(List Int) ⊕ ((List Int) × Bool),iterN (fun (s1:Int × (List Int))=>
  if (decide (s1.1 < (len lits))) then
   (get? lits s1.1).bind fun x2=>
   (Zo x2).bind fun x3=>
   (quo? x2 x3).bind fun x4=>
   (Zo x2).bind fun x5=>
   (get? s1.2 x5).bind fun x6=>
   if (x6 == (w64 (0 - x4))) then
    some (.inr (.inr (([]:List Int),false)))
   else
    (Zo x2).bind fun x7=>
    (set? s1.2 x7 x4).bind fun x8=>
    some (.inl ((w64 (s1.1 + 1)),x8))
  else
   some (.inr (.inl (s1.2)))) n ((pre.length:Int),a) = some r ∧ ((∃ v,setL a rest = some v ∧ r = .inl v ∧ Asg m v) ∨ (setL a rest = none ∧ r = .inr ([],false))):=by
  intro rest
  induction rest with
  | nil =>
    intro pre a n he hA hk
    have hd:decide ((pre.length:Int) < len lits) = false:=by rw [Za,← he,ZmO]; simp
    exact ⟨.inl a,ZA (by simp only [hd,Zmg,Zmr]) (by omega),.inl ⟨a,rfl,rfl,hA⟩⟩
  | cons l rest ih =>
    intro pre a n he hA hk
    simp only [ZmC] at hk
    obtain ⟨n,rfl⟩ : ∃ j,n = j + 1:=⟨n - 1,by omega⟩
    have hll:pre.length + (rest.length + 1) = lits.length:=by rw [← he]; simp
    have hd:decide ((pre.length:Int) < len lits) = true:=by rw [Za]; exact decide_eq_true (by omega)
    have hx:lits[pre.length]? = some l:=by rw [← he]; simp
    have hL:=hl l (by rw [← he]; simp)
    have e1:w64 ((pre.length:Int) + 1) = ((pre ++ [l]).length:Int):=by rw [Zb (by omega) (by omega)]; simp
    have he':(pre ++ [l]) ++ rest = lits:=by rw [Zm9]; exact he
    have hw:w64 (0 - (if l < 0 then (-1:Int) else 1)) = if l < 0 then 1 else -1:=by split <;> decide
    have hv:lv a l = -1 ↔ a.getD l.natAbs 0 = if l < 0 then 1 else -1:=by unfold lv; split <;> omega
    by_cases h1:lv a l = -1
    · refine ⟨.inr ([], false), ZA ?_ (by omega), .inr ⟨by rw [setL, Zmk h1], rfl⟩⟩
      simp only [hd,Zm8,get?_nat,hx,Zme]
      rw [YF hm hL]
      simp only [Zme]
      rw [Ze3 hm hL]
      simp only [Zme]
      rw [Zd2 hA hL]
      simp only [Zme]
      rw [hw,Zmk (by simpa using hv.1 h1)]
    · have hst:stA a l = if lv a l = 1 then a else stA a l:=by
        split
        · rename_i h; exact Zkf hA hL h
        · rfl
      obtain ⟨r,g1,g2⟩:=ih (pre ++ [l]) (stA a l) n he' (Zc2 hA hL) (by omega)
      refine ⟨r,?_,?_⟩
      · rw [X7 (s':=(((pre ++ [l]).length:Int),stA a l)) (by
          simp only [hd,Zm8,get?_nat,hx,Zme]
          rw [YF hm hL]
          simp only [Zme]
          rw [Ze3 hm hL]
          simp only [Zme]
          rw [Zd2 hA hL]
          simp only [Zme]
          rw [hw,Zmj (by simpa using fun h=>h1 (hv.2 h)),ZfR hA hL]
          simp only [Zme,e1])]
        exact g1
      · rw [setL,Zmj h1,← hst]; exact g2
noncomputable def serL (f:D.Formula) (m:Nat) (limit:Int) (lits:List Int):Int × List Bool × Int:=
 match setL (List.replicate (m + 1) 0) lits with
 | none=>(2,[],0)
 | some v=>((brn m f.Clauses limit (m + 1) v 0).1,if (brn m f.Clauses limit (m + 1) v 0).1 = 1 then bls (brn m f.Clauses limit (m + 1) v 0).2.1 else [],(brn m f.Clauses limit (m + 1) v 0).2.2)
theorem impl_searchL (hf:FmP f m) (ho:OccP f m occ) (h0:0 ≤ limit) (hl3:limit ≤ 3000) {n:Nat} (hn:4002000 ≤ n) {lits:List Int} (hl:∀ x ∈ lits,isL m x) (hll:lits.length ≤ 1000):ZZ n ⟨f,occ⟩ lits limit = some (serL f m limit lits):=by
  have hm:=hf.small
  have e0:w64 (f.Vars + 1) = ((m + 1:Nat):Int):=by rw [hf.vars,Zb (by omega) (by omega)]; rfl
  have hz:=Zfe m
  have hzl:=Zhf hz
  obtain ⟨r,g1,g2⟩:=Ziy hm hl hll lits [] (List.replicate (m + 1) 0) [] n rfl hz (fun y hy=>(by cases hy)) (by rw [Zn2]; omega) (by omega)
  have G:∀ z,r = z → Xf n ⟨f,occ⟩ lits = (match z with
     | .inl s1r=>(iterN (fun (s2:Int × (List Int) × (List Int))=>
   if (decide (s2.1 < (len f.Clauses))) then
    (get? f.Clauses s2.1).bind fun x4=>
    (Zm n (D.assignment.mk s2.2.1 s2.2.2) x4).bind fun x5=>
    if (!x5.1) then
     some (.inr (.inr ((default:D.assignment),false)))
    else
     some (.inl ((w64 (s2.1 + 1)),x5.2.val,x5.2.queue))
   else
    some (.inr (.inl (s2.2.1,s2.2.2)))) n (0,s1r.1,s1r.2)).bind (fun (rl2:((List Int) × (List Int)) ⊕ (D.assignment × Bool))=>match rl2 with
    | .inl s2r=>(ZF n ⟨f,occ⟩ (D.assignment.mk s2r.1 s2r.2)).bind fun x6=>if (!x6.1) then some (default,false) else some (x6.2,true)
    | .inr v=>some v)
     | .inr v=>some v):=fun z e=>by
    subst e
    unfold Xf
    rw [e0,ZfN (by omega)]
    simp only [Zme]
    refine (congrArg (fun o=>Option.bind o _) g1).trans ?_
    rfl
  unfold ZZ serL
  rcases g2 with ⟨v,q',s1,e,hA,hq,hlen⟩ | ⟨s1,e⟩
  · have G := G _ e
    simp only at G
    obtain ⟨a',b,k1,k2⟩:=ZjA hf ho (n:=n) (by omega) hA hq hlen
    have G2:=G.trans k1
    rw [G2,s1]
    simp only [Zme]
    unfold brn
    rcases k2 with ⟨rfl,k3,k4⟩ | ⟨rfl,k4⟩
    · have hok := ZbL k4
      rw [Zmj (by decide),k4]
      have:=ZlK hf ho hl3 (m + 1) a'.val a'.queue 0 [] n hok.asg hok.cl (Zid hok.asg) (by omega) (by omega) h0
      rw [show a' = ⟨a'.val,a'.queue⟩ from rfl,this]; rfl
    · rw [Zmk (by decide),k4]; rfl
  · have G := G _ e
    simp only at G
    rw [G,s1]; rfl
theorem spec_searchL (hf:FmP f m) (h0:0 ≤ limit) (hl3:limit ≤ 3000) {n:Nat} (hn:4002000 ≤ n) {lits:List Int} (hl:∀ x ∈ lits,isL m x) (hll:lits.length ≤ 1000) (hk:YG n f = some true) (hkl:Y8 n lits f.Vars = some true):YE n f lits limit = some (serL f m limit lits):=by
 have hm:=hf.small
 have e2:Zg limit 0 3000 = some true:=by unfold Zg; simp; omega
 have hz:=Zfe m
 unfold YE
 rw [hk]
 simp only [Zme,Zmw,Zmg,Zmr,ZmI,hkl,e2]
 obtain ⟨r,g1,g2⟩:=Zjq hm hl hll lits [] (List.replicate (m + 1) 0) n rfl hz (by omega)
 have G:∀ z,r = z → Za8 n (m:Int) lits = (match z with | .inl s1r=>some (s1r,true) | .inr v=>some v):=fun z e=>by
  subst e
  unfold Za8
  rw [Zb (by omega) (by omega),show ((m:Int) + 1) = ((m + 1:Nat):Int) from rfl,ZfN (by omega)]
  simp only [Zme]
  exact congrArg (fun o=>Option.bind o (fun (rl1:((List Int)) ⊕ ((List Int) × Bool))=>match rl1 with | .inl s1r=>some (s1r,true) | .inr v=>some v)) g1
 rw [hf.vars]
 unfold serL
 rcases g2 with ⟨v,s1,e,hA⟩ | ⟨s1,e⟩
 rotate_left
 ·have G := G _ e
  simp only at G
  rw [G,s1]; rfl
 have G:=G _ e
 simp only at G
 rw [G,s1]
 simp only [Zme,Zmw,Zmg,Zmr]
 rw [ZlM hf hl3 (m + 1) _ 0 n hA (Zid hA) (by omega) (by omega) h0]
 simp only [Zme]
 have hb:=ZfK m f.Clauses limit (m + 1) v 0 h0
 have hasg:(brn m f.Clauses limit (m + 1) v 0).1 = 1 → Asg m (brn m f.Clauses limit (m + 1) v 0).2.1:=fun h=>ZkL _ _ _ h
 generalize brn m f.Clauses limit (m + 1) v 0 = R at *
 by_cases c:R.1 = 1
 ·have hA := hasg c
  have hlen:=hA.len
  rw [Zmj (by rw [c]; decide),Zmk c,c]
  have e4:cut? R.2.1 1 (len R.2.1) = some (R.2.1.drop 1):=by
   unfold cut?
   rw [Za,Zmk (by omega),ZmQ,ZmS]; rfl
  rw [e4]
  simp only [Zme]
  rw [Zk3 hA hm (by omega)]; rfl
 ·rw [Zmk (by simpa using c), Zmj c]
  rcases hb.code with h | h | h
  ·exact absurd h c
  ·rw [Zmj (by rw [h]; decide),h]
  ·rw [Zmk (by rw [h]; decide),h]
end
end Go.Proofs.YtgpcokpcbjloiaaGreat.Sv
end
