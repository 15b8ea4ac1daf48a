/- Texts of this claim put into one: library or plain laws, without the program under test. -/
import Derived.Test.YthlolmkdppfioaaGreatPLib1
import Derived.Test.YthlolmkdppfioaaGreatLib4
set_option linter.unusedSimpArgs false
set_option linter.unusedVariables false
section
namespace Go.Proofs.YthlolmkdppfioaaGreat
open Go.GL
set_option linter.unusedSimpArgs false
set_option maxRecDepth 100000
theorem ZhO {n:Nat} {s:Str} (hl:s.bytes.length ≤ 1048576) (hn:s.bytes.length < n):Zai n s = some (nameB s):=by
 unfold Zai
 by_cases hlen:1 ≤ s.bytes.length ∧ s.bytes.length ≤ 8
 ·rw [Zl4 (by rw [Za]; simp; omega)]
  obtain ⟨r,g1,g2⟩:=Y9 (l:=s.bytes) (n:=n) (σ:=Unit) (ρ:=Unit ⊕ Bool) (B:=fun (s1:Int)=>
   if (decide (s1 < (len s.bytes))) then
    (sidx? s s1).bind fun x1=>
    (if (decide (x1 ≥ 97)) then (sidx? s s1) else some default).bind fun x2=>
    (sidx? s s1).bind fun x3=>
    (if (decide (x3 ≥ 48)) then (sidx? s s1) else some default).bind fun x4=>
    if ((!((decide (x1 ≥ 97)) && (decide (x2 ≤ 122)))) && (!(((decide (x3 ≥ 48)) && (decide (x4 ≤ 57))) && (decide (s1 > 0))))) then
     some (.inr (.inr false))
    else
     some (.inl ((w64 (s1 + 1))))
   else
    some (.inr (.inl ()))) (fun k _=>(k:Int)) (fun ys _=>okF (s.bytes.length - ys.length) ys = okF 0 s.bytes) (fun r=>r = if okF 0 s.bytes then (.inl ():Unit ⊕ Bool) else .inr false)
   (fun k x xs a hk' hx hlen hi => by
    have e1:s.bytes.length - (x :: xs).length = k:=by omega
    have e2:s.bytes.length - xs.length = k + 1:=by simp at hlen; omega
    rw [e1] at hi
    rw [e2]
    have hb:=x.toNat_lt
    rw [← hi]
    simp only [ZfG hx,Zl0]
    rw [Zl7 (by rw [Za]; simp; omega),Zd (by omega) (by omega)]
    have hd:∀ c:Bool,∃ y:Int,(if c = true then (some (x.toNat:Int)) else some default) = some y ∧ (c = true → y = x.toNat):=fun c=>by
     cases c
     ·exact ⟨_,rfl,fun h=>by cases h⟩
     ·exact ⟨_,rfl,fun _=>rfl⟩
    obtain ⟨y2,h2,i2⟩:=hd (decide ((x.toNat:Int) ≥ 97))
    obtain ⟨y4,h4,i4⟩:=hd (decide ((x.toNat:Int) ≥ 48))
    rw [h2,h4]
    simp only [Zl0]
    have j2:(decide ((x.toNat:Int) ≥ 97) && decide (y2 ≤ 122)) = decide (97 ≤ x.toNat ∧ x.toNat ≤ 122):=by
     by_cases c:(x.toNat:Int) ≥ 97
     ·rw [i2 (by simpa using c),Znp]; simp only [Zl6,ZlE]; omega
     ·rw [Znp]; simp only [Zl6,ZlE]; omega
    have j4:(decide ((x.toNat:Int) ≥ 48) && decide (y4 ≤ 57)) = decide (48 ≤ x.toNat ∧ x.toNat ≤ 57):=by
     by_cases c:(x.toNat:Int) ≥ 48
     ·rw [i4 (by simpa using c),Znp]; simp only [Zl6,ZlE]; omega
     ·rw [Znp]; simp only [Zl6,ZlE]; omega
    rw [j2,j4,ZfU]
    by_cases c1:97 ≤ x.toNat ∧ x.toNat ≤ 122
    ·exact .inl ⟨(),by simp [c1],by simp [c1]⟩
    ·by_cases c3 : 48 ≤ x.toNat ∧ x.toNat ≤ 57
     ·by_cases c2 : k = 0
      ·subst c2
       exact .inr ⟨.inr false,by simp [c1,c3],by simp [c1]⟩
      ·have : (0 : Int) < (k : Int) := by omega
       exact .inl ⟨(),by simp [c1,c3,this,c2],by simp [c1,c2,c3]⟩
     ·exact .inr ⟨.inr false,by simp [c1,c3],by simp [c1,c3]⟩)
   (fun a hi => by
    rw [Zl4 (by rw [Za]; simp)]
    refine ⟨_,rfl,?_⟩
    rw [← hi]; simp [okF]) (a:=()) (by simp) hn
  rw [show ((0:Nat):Int) = 0 from rfl] at g1
  rw [g1,g2]
  unfold nameB
  rw [decide_eq_true hlen]
  cases okF 0 s.bytes <;> rfl
 ·rw [Zl7 (by rw [Za]; simp; omega)]
  unfold nameB
  rw [decide_eq_false hlen]; simp
def kc (o:Int):Int:=(Yu o).getD 0
theorem ZkT (o:Int):Yu o = some (kc o):=by
 unfold kc
 have:∃ k,Yu o = some k:=by
  unfold Yu
  split
  ·exact ⟨_,rfl⟩
  ·split
   ·exact ⟨_,rfl⟩
   ·split
    ·exact ⟨_,rfl⟩
    ·split
     ·exact ⟨_,rfl⟩
     ·exact ⟨_,rfl⟩
 obtain ⟨k,h⟩:=this
 rw [h]; rfl
theorem Zgj (w:Int):Yy w = some (decide (1 ≤ w ∧ w ≤ 16)):=by simp [Yy]
theorem Zkv {t:D.Term} (hw:1 ≤ t.W ∧ t.W ≤ 16) (hk:∀ x ∈ t.Kids,1 ≤ x.W ∧ x.W ≤ 16) (hl:(t.Kids.length:Int) = kc t.Op) :
  ∃ f,Xq t = some f ∧ shB t.Op t.W t.N t.Name (t.Kids.map (·.W)) = (f && (t.Op != 0 || wordB t.W t.N) && (t.Op != 22 || nameB t.Name)):=by
 obtain ⟨op,w,m,nm,ks⟩:=t
 simp only at hw hk hl ⊢
 unfold Xq shB
 simp only
 have g0:∀ (x:D.Term) (l:List D.Term),get? (x :: l) 0 = some x:=fun _ _=>rfl
 have g1:∀ (x y:D.Term) (l:List D.Term),get? (x :: y :: l) 1 = some y:=fun _ _ _=>rfl
 have g2:∀ (x y z:D.Term) (l:List D.Term),get? (x :: y :: z :: l) 2 = some z:=fun _ _ _ _=>rfl
 have l0:ks.length = 0 → ks = []:=fun h=>Zn3.1 h
 have l1:ks.length = 1 → ∃ a,ks = [a]:=fun h=>Zoa.1 h
 have l2:ks.length = 2 → ∃ a b,ks = [a,b]:=fun h=>by
  rcases ks with _ | ⟨a,_ | ⟨b,_ | ⟨c,l⟩⟩⟩ <;> simp at h
  exact ⟨_,_,rfl⟩
 have l3:ks.length = 3 → ∃ a b c,ks = [a,b,c]:=fun h=>by
  rcases ks with _ | ⟨a,_ | ⟨b,_ | ⟨c,_ | ⟨d,l⟩⟩⟩⟩ <;> simp at h
  exact ⟨_,_,_,rfl⟩
 unfold kc Yu at hl
 by_cases o0:op = 0
 ·subst o0
  obtain rfl:=l0 (by simp at hl; simp [hl])
  exact ⟨true,by simp,by simp⟩
 by_cases o1:op = 22
 ·subst o1
  obtain rfl:=l0 (by simp at hl; simp [hl])
  exact ⟨true,by simp,by simp⟩
 have q0:(op != 0) = true:=by simpa using o0
 have q1:(op != 22) = true:=by simpa using o1
 by_cases o2:1 ≤ op ∧ op ≤ 2
 ·have : op = 1 ∨ op = 2 := by omega
  obtain ⟨a,rfl⟩:=l1 (by rcases this with rfl | rfl <;> simp at hl <;> omega)
  refine ⟨a.W == w,?_,?_⟩
  ·rcases this with rfl | rfl <;> simp [g0]
  ·simp [o0,o1,o2,q0,q1]
 by_cases o3:3 ≤ op ∧ op ≤ 13
 ·obtain ⟨a,b,rfl⟩:=l2 (by
   have h1:¬ (op = 1):=by omega
   have h2:¬ (op = 2):=by omega
   have h3:¬ (op = 19):=by omega
   have h4:¬ (op = 20):=by omega
   have h5:¬ (op = 21):=by omega
   have h6:3 ≤ op ∧ op ≤ 16:=by omega
   simp [o0,o1,h1,h2,h3,h4,h5,h6] at hl; omega)
  refine ⟨a.W == w && b.W == w,?_,?_⟩
  ·have h1 : ¬ (op = 1) := by omega
   have h2:¬ (op = 2):=by omega
   by_cases c:a.W = w
   ·simp [g0,g1,o0,o1,h1,h2,o3,c]
   ·have c' : (a.W == w) = false := by simpa using c
    simp [g0,g1,o0,o1,h1,h2,o3,c,c']
  ·simp [o0,o1,o2,o3,q0,q1]
 by_cases o4:14 ≤ op ∧ op ≤ 16
 ·obtain ⟨a,b,rfl⟩:=l2 (by
   have h1:¬ (op = 1):=by omega
   have h2:¬ (op = 2):=by omega
   have h3:¬ (op = 19):=by omega
   have h4:¬ (op = 20):=by omega
   have h5:¬ (op = 21):=by omega
   have h6:3 ≤ op ∧ op ≤ 16:=by omega
   simp [o0,o1,h1,h2,h3,h4,h5,h6] at hl; omega)
  refine ⟨a.W == b.W && w == 1,?_,?_⟩
  ·have h1 : ¬ (op = 1) := by omega
   have h2:¬ (op = 2):=by omega
   simp [g0,g1,o0,o1,h1,h2,o3,o4]
  ·simp [o0,o1,o2,o3,o4,q0,q1]
 by_cases o5:op = 17
 ·subst o5
  obtain ⟨a,b,c,rfl⟩:=l3 (by simp at hl; omega)
  refine ⟨a.W == 1 && b.W == w && c.W == w,?_,?_⟩
  ·by_cases c1 : a.W = 1
   ·by_cases c2 : b.W = w
    ·simp [g0,g1,g2,c1,c2]
    ·have c2' : (b.W == w) = false := by simpa using c2
     simp [g0,g1,g2,c1,c2,c2']
   ·have c1' : (a.W == 1) = false := by simpa using c1
    simp [g0,g1,g2,c1,c1']
  ·simp
 by_cases o6:op = 18
 ·subst o6
  obtain ⟨a,b,rfl⟩:=l2 (by simp at hl; omega)
  have ha:=hk a (by simp)
  have hb:=hk b (by simp)
  have e18:w64 (a.W + b.W) = a.W + b.W:=Zd (by omega) (by omega)
  exact ⟨a.W + b.W == w,by simp [g0,g1,e18],by simp⟩
 by_cases o7:op = 19
 ·subst o7
  obtain ⟨a,rfl⟩:=l1 (by simp at hl; omega)
  have ha:=hk a (by simp)
  have e19:w64 (a.W - w) = a.W - w:=Zd (by omega) (by omega)
  refine ⟨decide (0 ≤ m) && decide (m ≤ a.W - w),?_,?_⟩
  ·by_cases c : 0 ≤ m
   ·simp [g0,e19,c]
   ·simp [g0,e19,c]
  ·simp only [ZlA, Zms]
   rw [Znp]
   simp
   omega
 by_cases o8:20 ≤ op ∧ op ≤ 21
 ·have : op = 20 ∨ op = 21 := by omega
  obtain ⟨a,rfl⟩:=l1 (by rcases this with rfl | rfl <;> simp at hl <;> omega)
  refine ⟨decide (a.W ≤ w),?_,?_⟩
  ·rcases this with rfl | rfl <;> simp [g0]
  ·rcases this with rfl | rfl <;> simp
 exfalso
 have h1:¬ (op = 1):=by omega
 have h2:¬ (op = 2):=by omega
 have h4:¬ (op = 20):=by omega
 have h5:¬ (op = 21):=by omega
 have h6:¬ (3 ≤ op ∧ op ≤ 16):=by omega
 simp [o0,o1,h1,h2,o7,h4,h5,h6,o6,o5] at hl
theorem ZjK {t:D.Term} (hl:¬ (t.Kids.length:Int) = kc t.Op):shB t.Op t.W t.N t.Name (t.Kids.map (·.W)) = false:=by
 obtain ⟨op,w,m,nm,ks⟩:=t
 simp only at hl ⊢
 unfold shB
 unfold kc Yu at hl
 have hks:ks = [] ∨ (∃ a:D.Term,ks = [a]) ∨ (∃ a b:D.Term,ks = [a,b]) ∨ (∃ a b c:D.Term,ks = [a,b,c]) ∨ ∃ (a b c d:D.Term) (l:List D.Term),ks = a :: b :: c :: d :: l:=by
  rcases ks with _ | ⟨a,_ | ⟨b,_ | ⟨c,_ | ⟨d,l⟩⟩⟩⟩
  ·exact .inl rfl
  ·exact .inr (.inl ⟨a,rfl⟩)
  ·exact .inr (.inr (.inl ⟨a,b,rfl⟩))
  ·exact .inr (.inr (.inr (.inl ⟨a,b,c,rfl⟩)))
  ·exact .inr (.inr (.inr (.inr ⟨a,b,c,d,l,rfl⟩)))
 by_cases o0:op = 0
 ·subst o0
  rcases hks with rfl | ⟨a,rfl⟩ | ⟨a,b,rfl⟩ | ⟨a,b,c,rfl⟩ | ⟨a,b,c,d,l,rfl⟩ <;> simp at hl ⊢
 by_cases o1:op = 22
 ·subst o1
  rcases hks with rfl | ⟨a,rfl⟩ | ⟨a,b,rfl⟩ | ⟨a,b,c,rfl⟩ | ⟨a,b,c,d,l,rfl⟩ <;> simp at hl ⊢
 by_cases o2:1 ≤ op ∧ op ≤ 2
 ·have : op = 1 ∨ op = 2 := by omega
  rcases this with rfl | rfl <;> rcases hks with rfl | ⟨a,rfl⟩ | ⟨a,b,rfl⟩ | ⟨a,b,c,rfl⟩ | ⟨a,b,c,d,l,rfl⟩ <;> simp at hl ⊢
 have h1:¬ (op = 1):=by omega
 have h2:¬ (op = 2):=by omega
 by_cases o3:3 ≤ op ∧ op ≤ 13
 ·have h3 : ¬ (op = 19) := by omega
  have h4:¬ (op = 20):=by omega
  have h5:¬ (op = 21):=by omega
  have h6:3 ≤ op ∧ op ≤ 16:=by omega
  simp [o0,o1,h1,h2,h3,h4,h5,h6] at hl
  rcases hks with rfl | ⟨a,rfl⟩ | ⟨a,b,rfl⟩ | ⟨a,b,c,rfl⟩ | ⟨a,b,c,d,l,rfl⟩ <;> simp [o0,o1,o2,o3] at hl ⊢
 by_cases o4:14 ≤ op ∧ op ≤ 16
 ·have h3 : ¬ (op = 19) := by omega
  have h4:¬ (op = 20):=by omega
  have h5:¬ (op = 21):=by omega
  have h6:3 ≤ op ∧ op ≤ 16:=by omega
  simp [o0,o1,h1,h2,h3,h4,h5,h6] at hl
  rcases hks with rfl | ⟨a,rfl⟩ | ⟨a,b,rfl⟩ | ⟨a,b,c,rfl⟩ | ⟨a,b,c,d,l,rfl⟩ <;> simp [o0,o1,o2,o3,o4] at hl ⊢
 by_cases o5:op = 17
 ·subst o5
  rcases hks with rfl | ⟨a,rfl⟩ | ⟨a,b,rfl⟩ | ⟨a,b,c,rfl⟩ | ⟨a,b,c,d,l,rfl⟩ <;> simp at hl ⊢
 by_cases o6:op = 18
 ·subst o6
  rcases hks with rfl | ⟨a,rfl⟩ | ⟨a,b,rfl⟩ | ⟨a,b,c,rfl⟩ | ⟨a,b,c,d,l,rfl⟩ <;> simp at hl ⊢
 by_cases o7:op = 19
 ·subst o7
  rcases hks with rfl | ⟨a,rfl⟩ | ⟨a,b,rfl⟩ | ⟨a,b,c,rfl⟩ | ⟨a,b,c,d,l,rfl⟩ <;> simp at hl ⊢
 by_cases o8:20 ≤ op ∧ op ≤ 21
 ·have : op = 20 ∨ op = 21 := by omega
  rcases this with rfl | rfl <;> rcases hks with rfl | ⟨a,rfl⟩ | ⟨a,b,rfl⟩ | ⟨a,b,c,rfl⟩ | ⟨a,b,c,d,l,rfl⟩ <;> simp at hl ⊢
 simp [o0,o1,o2,o3,o4,o5,o6,o7,o8]
abbrev tab (m:Option (List (Str × Int))):List (Str × Int):=m.getD []
theorem get2 {g:List (Str × Int)} {s:Str} (hs:s.bytes.length ≤ 1048576):mget2? fitS (0:Int) g s = some ((g.lookup s).getD 0,(g.lookup s).isSome):=by
 unfold mget2?
 rw [Zl7 (by unfold fitS; simp; omega)]
theorem put1 {g:List (Str × Int)} {s:Str} {w:Int} (hs:s.bytes.length ≤ 1048576) (hw:1 ≤ w ∧ w ≤ 16) (hg:g.length ≤ 1000):mputE? fitS fitZ g s w = some ((s,w) :: g):=by
 unfold mputE?
 rw [Zl7 ⟨by unfold fitS; simp; omega,by unfold fitZ; simp [Lit.wf]; exact ⟨by show (-9223372036854775808:Int) ≤ w; omega,by omega⟩,by unfold room; omega⟩]
theorem Zag {n:Nat} {c:D.termCheck} {t:D.Term} (hs:t.Name.bytes.length ≤ 1048576) (hn:1048580 ≤ n) (hw:1 ≤ t.W ∧ t.W ≤ 16) (hg:(tab c.widths).length ≤ 1000) :
  ∃ b m,Yf n c t = some (b,⟨c.count,m⟩) ∧ (b = true → nameB t.Name = true ∧ stp (tab c.widths) (t.Name,t.W) = some (tab m)) ∧ (b = false → nameB t.Name = false ∨ stp (tab c.widths) (t.Name,t.W) = none):=by
 obtain ⟨cc,ww⟩:=c
 unfold Yf
 rw [ZhO hs (by omega)]
 simp only [Zl0]
 cases hb:nameB t.Name
 ·exact ⟨false,ww,rfl,fun h=>(by cases h),fun _=>.inl rfl⟩
 ·simp only [ZlZ, Zl2, ZlC]
  cases ww with
  | none=>
   simp only [Option.isNone_none,ZlU]
   rw [get2 hs]
   simp only [Zl0,List.lookup_nil,ZnV,Zl2,ZlC]
   rw [put1 hs hw (by simp)]
   exact ⟨true,_,rfl,fun _=>⟨trivial,rfl⟩,fun h=>(by cases h)⟩
  | some g=>
   simp only [Option.isNone_some,Zl2,ZlC,Zmm]
   rw [get2 hs]
   simp only [Zl0]
   unfold stp
   simp only [tab,Zmm] at hg ⊢
   cases hl:g.lookup t.Name with
   | some w=>
    simp only [Option.isSome_some,ZlU,Zmm]
    refine ⟨_,_,rfl,fun h=>⟨trivial,?_⟩,fun h=>.inr ?_⟩
    ·rw [Zl7 (by simpa using h)]; rfl
    ·rw [Zl4 (by simpa using h)]
   | none=>
    simp only [ZnV,Zl2,ZlC]
    rw [put1 hs hw hg]
    exact ⟨true,_,rfl,fun _=>⟨trivial,rfl⟩,fun h=>(by cases h)⟩
theorem Zeu {n:Nat} {ks:List D.Term} {c0:Int} {w0:Option (List (Str × Int))} (hn:1048580 ≤ n) (hks:ks.length ≤ 1048576) (hc:0 ≤ c0) (hc':c0 ≤ 240) (hg:(tab w0).length ≤ c0)
    (ih:∀ x ∈ ks,∀ c:D.termCheck,c0 ≤ c.count → c.count ≤ 240 → (tab c.widths).length ≤ c.count → ∃ b c',Zx n c x = some (b,c') ∧
      (b = true → c.count + cnt x ≤ 240 ∧ nodeB x = true ∧ c'.count = c.count + cnt x ∧ runV (tab c.widths) (vrs x) = some (tab c'.widths)) ∧ (b = false → ¬ (c.count + cnt x ≤ 240 ∧ nodeB x = true ∧ (runV (tab c.widths) (vrs x)).isSome = true))) :
    ∃ r,iterN (fun (s2:Int × Int × (Option (List (Str × Int))))=>
        if (decide (s2.1 < (len ks))) then
          (get? ks s2.1).bind fun x7=>
          (Zx n (D.termCheck.mk s2.2.1 s2.2.2) x7).bind fun x8=>
          if (!x8.1) then
            some (.inr (.inr (false,x8.2)))
          else
            some (.inl ((w64 (s2.1 + 1)),x8.2.count,x8.2.widths))
        else
          some (.inr (.inl (s2.2.1,s2.2.2)))
      ) n (0,c0,w0) = some (r:(Int × (Option (List (Str × Int)))) ⊕ (Bool × D.termCheck)) ∧
      ((∃ cc ww, r = .inl (cc, ww) ∧ cc = c0 + cnts ks ∧ cc ≤ 240 ∧ nodesB ks = true ∧ runV (tab w0) (vrss ks) = some (tab ww)) ∨
       ∃ c',r = .inr (false,c') ∧ ¬ (c0 + cnts ks ≤ 240 ∧ nodesB ks = true ∧ (runV (tab w0) (vrss ks)).isSome = true)):=by
  have hrl:=ZdY
  exact Y9 (l := ks) (n := n) (σ := Int × (Option (List (Str × Int)))) (ρ := (Int × (Option (List (Str × Int)))) ⊕ (Bool × D.termCheck)) (B := fun (s2 : Int × Int × (Option (List (Str × Int)))) =>
        if (decide (s2.1 < (len ks))) then
          (get? ks s2.1).bind fun x7=>
          (Zx n (D.termCheck.mk s2.2.1 s2.2.2) x7).bind fun x8=>
          if (!x8.1) then
            some (.inr (.inr (false,x8.2)))
          else
            some (.inl ((w64 (s2.1 + 1)),x8.2.count,x8.2.widths))
        else
          some (.inr (.inl (s2.2.1,s2.2.2)))) (fun k a=>((k:Int),a.1,a.2))
      (fun ys a=>c0 ≤ a.1 ∧ a.1 ≤ 240 ∧ (tab a.2).length ≤ a.1 ∧ a.1 + cnts ys = c0 + cnts ks ∧ nodesB ys = nodesB ks ∧ runV (tab a.2) (vrss ys) = runV (tab w0) (vrss ks) ∧ ∀ x ∈ ys,x ∈ ks) _
      (fun k x xs a hk' hx hlen ⟨i0,i1,i2,i3,i4,i5,i6⟩=>by
        obtain ⟨ac,aw⟩:=a
        simp only at i0 i1 i2 i3 i5
        rw [ZbW] at i3
        rw [Yb,ZnU,← Yb] at i4
        rw [Xl,ZfF] at i5
        have hd:decide ((k:Int) < len ks) = true:=by rw [Za]; simp; omega
        obtain ⟨b,c',e1,e2,e3⟩:=ih x (i6 x (by simp)) ⟨ac,aw⟩ i0 i1 i2
        simp only [hd,ZlU,get?_nat,hx,Zl0,e1]
        cases b with
        | false =>
          refine .inr ⟨_,rfl,.inr ⟨c',rfl,fun ⟨h1,h2,h3⟩=>e3 rfl ⟨?_,?_,?_⟩⟩⟩
          · simp only; omega
          · rw [← i4,Zl6] at h2; exact h2.1
          · rw [← i5] at h3
            simp only
            cases hq:runV (tab aw) (vrs x) with
            | none=>rw [hq] at h3; cases h3
            | some _=>rfl
        | true =>
          obtain ⟨h1,h2,h3,h4⟩:=e2 rfl
          simp only at h1 h3 h4
          refine .inl ⟨(c'.count,c'.widths),by simp only [ZlZ,Zl2,ZlC]; rw [Zd (by omega) (by omega)]; rfl,by simp only; omega,by simp only; omega,?_,by simp only; omega,by rw [← i4,h2,Zm7],?_,fun y hy=>i6 y (by simp [hy])⟩
          · have := Zd5 h4
            have:=hrl x
            simp only; omega
          · rw [h4] at i5; exact i5)
      (fun a ⟨i0,i1,i2,i3,i4,i5,i6⟩=>by
        obtain ⟨ac,aw⟩:=a
        have hd:decide ((ks.length:Int) < len ks) = false:=by rw [Za]; simp
        simp only [hd,Zl2,ZlC]
        rw [Zby] at i3
        rw [Za4] at i5
        refine ⟨_,rfl,.inl ⟨ac,aw,rfl,by simp only at i3; omega,i1,?_,i5.symm⟩⟩
        rw [← i4,Yb]; rfl) (a:=(c0,w0)) ⟨by simp only; omega,hc',hg,rfl,rfl,rfl,fun x hx=>hx⟩ (by omega)
def wsB (ks:List D.Term):Bool:=ks.all fun x=>decide (1 ≤ x.W ∧ x.W ≤ 16)
theorem ZkJ {ks:List D.Term} (h:nodesB ks = true):wsB ks = true:=by
 rw [Yb,ZlO] at h
 unfold wsB
 rw [ZlO]
 exact fun x hx=>decide_eq_true (ZK (h x hx))
theorem ZgJ {n:Nat} {ks:List D.Term} {v:Bool × D.termCheck} (hn:ks.length < n) (hk:ks.length ≤ 1048576):iterN (fun (s1:Int)=>
   if (decide (s1 < (len ks))) then
    (get? ks s1).bind fun x3=>
    (Yy x3.W).bind fun x4=>
    if (!x4) then
     some (.inr (.inr v))
    else
     some (.inl ((w64 (s1 + 1))))
   else
    some (.inr (.inl ()))
  ) n (0) = some (if wsB ks = true then (.inl ():Unit ⊕ (Bool × D.termCheck)) else .inr v):=by
 obtain ⟨r,g1,g2⟩:=Y9 (l:=ks) (n:=n) (σ:=Unit) (ρ:=Unit ⊕ (Bool × D.termCheck)) (B:=fun (s1:Int)=>
   if (decide (s1 < (len ks))) then
    (get? ks s1).bind fun x3=>
    (Yy x3.W).bind fun x4=>
    if (!x4) then
     some (.inr (.inr v))
    else
     some (.inl ((w64 (s1 + 1))))
   else
    some (.inr (.inl ()))) (fun k _=>(k:Int)) (fun ys _=>wsB ys = wsB ks) (fun r=>r = if wsB ks = true then (.inl ():Unit ⊕ (Bool × D.termCheck)) else .inr v)
  (fun k x xs a hk' hx hlen hi => by
   have hd:decide ((k:Int) < len ks) = true:=by rw [Za]; simp; omega
   simp only [hd,ZlU,get?_nat,hx,Zl0,Zgj]
   have e:wsB (x :: xs) = (decide (1 ≤ x.W ∧ x.W ≤ 16) && wsB xs):=rfl
   rw [e] at hi
   by_cases c:1 ≤ x.W ∧ x.W ≤ 16
   ·rw [decide_eq_true c, Zm7] at hi
    exact .inl ⟨(),by rw [decide_eq_true c,Zl4 (by decide),Zd (by omega) (by omega)]; rfl,hi⟩
   ·rw [decide_eq_false c, Zof] at hi
    exact .inr ⟨_,by rw [decide_eq_false c,Zl7 (by decide)],by rw [← hi]; rfl⟩)
  (fun a hi => by
   have hd:decide ((ks.length:Int) < len ks) = false:=by rw [Za]; simp
   simp only [hd,Zl2,ZlC]
   exact ⟨_,rfl,by rw [← hi]; rfl⟩) (a:=()) rfl hn
 rw [show ((0:Nat):Int) = 0 from rfl] at g1
 rw [g1,g2]
theorem ZhE:∀ (n:Nat) (t:D.Term) (c:D.termCheck),msz t ≤ 1048576 → 0 ≤ c.count → c.count ≤ 240 → (tab c.widths).length ≤ c.count → 1048580 + (241 - c.count) ≤ (n:Int) → ∃ b c',Zx n c t = some (b,c') ∧
   (b = true → c.count + cnt t ≤ 240 ∧ nodeB t = true ∧ c'.count = c.count + cnt t ∧ runV (tab c.widths) (vrs t) = some (tab c'.widths)) ∧ (b = false → ¬ (c.count + cnt t ≤ 240 ∧ nodeB t = true ∧ (runV (tab c.widths) (vrs t)).isSome = true)):=by
 intro n
 induction n with
 | zero=>intro t c _ _ _ _ _; omega
 | succ n ih=>
  intro t c hs h0 h1 hg hn
  have hz:=Zbj t
  have hc:=Xm t
  have hb:=Zam t
  have bad:nodeB t = false → ¬ (c.count + cnt t ≤ 240 ∧ nodeB t = true ∧ (runV (tab c.widths) (vrs t)).isSome = true):=fun h ⟨_,h2,_⟩=>by rw [h] at h2; cases h2
  unfold Zx
  rw [Zd (by omega) (by omega)]
  by_cases hC:c.count + 1 > 240
  ·simp only [hC, decide_true, ZlU, Zl0, Zog]
   exact ⟨false,_,rfl,fun h=>(by cases h),fun _ ⟨h,_,_⟩=>by omega⟩
  simp only [hC,decide_false,Zl2,ZlC,Zgj t.W,Zl0,Zmz]
  by_cases hw:1 ≤ t.W ∧ t.W ≤ 16
  rotate_left
  ·simp only [hw, decide_false, ZnD, ZlU, Zl0, Zog]
   exact ⟨false,_,rfl,fun h=>(by cases h),fun _=>bad (by rw [hb]; unfold locB; rw [decide_eq_false hw]; simp)⟩
  simp only [hw,decide_true,ZlZ,Zl2,ZlC,Zl0,Zmz,and_self,ZkT]
  by_cases hl:(t.Kids.length:Int) = kc t.Op
  rotate_left
  ·have : (len t.Kids != kc t.Op) = true := by rw [Za]; simpa using hl
   rw [Zl7 this]
   exact ⟨false,_,rfl,fun h=>(by cases h),fun _=>bad (by rw [hb]; unfold locB; rw [ZjK hl]; simp)⟩
  have hl':¬ (len t.Kids != kc t.Op) = true:=by rw [Za]; simpa using hl
  rw [Zl4 hl',ZgJ (by omega) (by omega)]
  simp only [Zl0]
  by_cases hk:wsB t.Kids = true
  rotate_left
  ·rw [Zl4 hk]
   refine ⟨false,_,rfl,fun h=>(by cases h),fun _=>bad ?_⟩
   rw [hb]
   cases h:nodesB t.Kids
   ·simp
   ·exact absurd (ZkJ h) hk
  rw [Zl7 hk]
  have hkw:∀ x ∈ t.Kids,1 ≤ x.W ∧ x.W ≤ 16:=fun x hx=>by
   unfold wsB at hk
   rw [ZlO] at hk
   exact of_decide_eq_true (hk x hx)
  obtain ⟨f,hf1,hf2⟩:=Zkv hw hkw hl
  have hloc:locB t = ((Str.eqb t.Name ⟨[]⟩ || t.Op == 22) && (t.N == 0 || t.Op == 0 || t.Op == 19) && (f && (t.Op != 0 || wordB t.W t.N) && (t.Op != 22 || nameB t.Name))):=by
   unfold locB; rw [hf2,decide_eq_true hw,Zm7]
  simp only [hf1,Zl0]
  cases f with
  | false=>
   exact ⟨false,_,rfl,fun h=>(by cases h),fun _=>bad (by rw [hb,hloc]; simp)⟩
  | true=>
  simp only [ZlZ,Zl2,ZlC,Zii]
  have hx6:∃ x6,(if (t.Op == 0) = true then some (wordB t.W t.N) else some default) = some x6 ∧ (t.Op = 0 → x6 = wordB t.W t.N):=by
   by_cases o:t.Op = 0
   ·exact ⟨_,Zl7 (by simpa using o),fun _=>rfl⟩
   ·exact ⟨_,Zl4 (by simpa using o),fun h=>absurd h o⟩
  obtain ⟨x6,h6,h6'⟩:=hx6
  rw [h6]
  simp only [Zl0]
  by_cases c6:(t.Op == 0 && !x6) = true
  ·rw [Zl7 c6]
   simp only [Zl6,ZmE,ZmA] at c6
   refine ⟨false,_,rfl,fun h=>(by cases h),fun _=>bad ?_⟩
   rw [hb,hloc,← h6' c6.1,c6.2,c6.1]; simp
  rw [Zl4 c6]
  have d6:(t.Op != 0 || wordB t.W t.N) = true:=by
   by_cases o:t.Op = 0
   ·rw [← h6' o,o]; simp [o] at c6; simp [c6]
   ·simp [o]
  by_cases c7:(t.Op != 0 && t.Op != 19 && t.N != 0) = true
  ·rw [Zl7 c7]
   simp only [Zl6,bne_iff_ne,ne_eq] at c7
   refine ⟨false,_,rfl,fun h=>(by cases h),fun _=>bad ?_⟩
   rw [hb,hloc]
   have:(t.N == 0 || t.Op == 0 || t.Op == 19) = false:=by simp [c7]
   rw [this]; simp
  rw [Zl4 c7]
  have d7:(t.N == 0 || t.Op == 0 || t.Op == 19) = true:=by
   simp only [Zl6,bne_iff_ne,ne_eq] at c7
   by_cases a1:t.N = 0 <;> by_cases a2:t.Op = 0 <;> by_cases a3:t.Op = 19 <;> simp [a1,a2,a3] at c7 ⊢
  rw [d6,d7] at hloc
  simp only [Zm7,ZnN] at hloc
  have ih':∀ x ∈ t.Kids,∀ c1:D.termCheck,c.count + 1 ≤ c1.count → c1.count ≤ 240 → (tab c1.widths).length ≤ c1.count → ∃ b c',Zx n c1 x = some (b,c') ∧
   (b = true → c1.count + cnt x ≤ 240 ∧ nodeB x = true ∧ c'.count = c1.count + cnt x ∧ runV (tab c1.widths) (vrs x) = some (tab c'.widths)) ∧ (b = false → ¬ (c1.count + cnt x ≤ 240 ∧ nodeB x = true ∧ (runV (tab c1.widths) (vrs x)).isSome = true)):=fun x hx c1 k1 k2 k3=>by
   have:=ZaS hx
   exact ih x c1 (by omega) (by omega) k2 k3 (by omega)
  by_cases ho:t.Op = 22
  ·rw [Zl4 (by simp [ho])]
   have hv:vrs t = [(t.Name,t.W)]:=by rw [XM,Zl7 ho]
   have hrun:runV (tab c.widths) (vrs t) = stp (tab c.widths) (t.Name,t.W):=by
    rw [hv]; simp only [runV]; cases stp (tab c.widths) (t.Name,t.W) <;> rfl
   have hks:t.Kids = []:=by
    rw [ho] at hl
    exact Zn3.1 (by have:kc 22 = 0:=rfl; omega)
   obtain ⟨b,m,e1,e2,e3⟩:=Zag (n:=n) (c:=⟨c.count + 1,c.widths⟩) (t:=t) (by omega) (by omega) hw (by simp only; omega)
   rw [e1]
   simp only [Zl0]
   rw [ho] at hloc
   cases b with
   | false=>
    refine ⟨false,_,rfl,fun h=>(by cases h),fun _=>?_⟩
    rcases e3 rfl with e3 | e3
    ·exact bad (by rw [hb,hloc,e3]; simp)
    ·rw [hrun]
     simp only at e3
     rw [e3]
     exact fun ⟨_,_,h⟩=>by cases h
   | true=>
    obtain ⟨e4,e5⟩:=e2 rfl
    simp only at e5
    have hml:(tab m).length ≤ c.count + 1:=by have:=ZgS e5; omega
    obtain ⟨r,g1,g2⟩:=Zeu (n:=n) (ks:=t.Kids) (c0:=c.count + 1) (w0:=m) (by omega) (by omega) (by omega) (by omega) hml ih'
    rw [hks,Zby,Za4] at g2
    have hcn:cnts t.Kids = 0:=by rw [hks,Zby]
    have hnb:nodesB t.Kids = true:=by rw [hks,Yb]; rfl
    simp only [ZlZ,Zl2,ZlC]
    rw [g1]
    rcases g2 with ⟨cc,ww,rfl,k1,k2,k3,k4⟩ | ⟨c',rfl,k1⟩
    ·refine ⟨true, ⟨cc, ww⟩, rfl, fun _ => ⟨by omega, ?_, by simp only; omega, ?_⟩, fun h => (by cases h)⟩
     ·rw [hb,hloc,e4,hnb]; simp
     ·rw [hrun, e5]
      simp only [runV,Option.some.injEq] at k4
      rw [k4]
    ·exfalso
     apply k1
     refine ⟨by omega,by rw [Yb]; rfl,rfl⟩
  ·rw [Zl7 (by simp [ho])]
   have hv:vrs t = vrss t.Kids:=by rw [XM,Zl4 ho]
   by_cases c8:Str.eqb t.Name ⟨[]⟩ = true
   rotate_left
   ·rw [Zl7 (by simpa using c8)]
    refine ⟨false,_,rfl,fun h=>(by cases h),fun _=>bad ?_⟩
    rw [hb,hloc]
    simp [c8,ho]
   rw [Zl4 (by simp [c8])]
   have hloc':locB t = true:=by rw [hloc,c8]; simp [ho]
   obtain ⟨r,g1,g2⟩:=Zeu (n:=n) (ks:=t.Kids) (c0:=c.count + 1) (w0:=c.widths) (by omega) (by omega) (by omega) (by omega) (by omega) ih'
   rw [g1,hv,hb,hloc']
   simp only [Zm7]
   rcases g2 with ⟨cc,ww,rfl,k1,k2,k3,k4⟩ | ⟨c',rfl,k1⟩
   ·exact ⟨true,⟨cc,ww⟩,rfl,fun _=>⟨by omega,k3,by simp only; omega,k4⟩,fun h=>(by cases h)⟩
   ·exact ⟨false,c',rfl,fun h=>(by cases h),fun _ ⟨h1,h2,h3⟩=>k1 ⟨by omega,h2,h3⟩⟩
theorem Zer {t:D.Term} (h:msz t ≤ 1048576):XI fuel t = some (termB t):=by
 unfold XI
 obtain ⟨b,c',e1,e2,e3⟩:=ZhE fuel t ⟨0,none⟩ h (by simp) (by simp) (by simp [tab]) (by unfold fuel; simp)
 rw [e1]
 simp only [Zl0,Option.some.injEq]
 unfold termB
 simp only [tab,Option.getD_none] at e2 e3
 cases b with
 | true=>
  obtain ⟨h1,h2,-,h3⟩:=e2 rfl
  rw [h2,h3,decide_eq_true (by omega)]; rfl
 | false=>
  have:=e3 rfl
  cases hb:nodeB t
  ·simp
  ·cases hr : (runV [] (vrs t)).isSome
   ·simp
   ·have : ¬ cnt t ≤ 240 := fun hc => this ⟨by omega, hb, hr⟩
    simp [this]
theorem Zgl {w:Int} (h1:1 ≤ w) (h2:w ≤ 16):w = 1 ∨ w = 2 ∨ w = 3 ∨ w = 4 ∨ w = 5 ∨ w = 6 ∨ w = 7 ∨ w = 8 ∨ w = 9 ∨ w = 10 ∨ w = 11 ∨ w = 12 ∨ w = 13 ∨ w = 14 ∨ w = 15 ∨ w = 16:=by omega
theorem ZbO {w:Int} (h1:1 ≤ w) (h2:w ≤ 16):shl? 1 w = some (2 ^ w.toNat) ∧ shl? 1 (IntKind.u64.wrap w) = some (2 ^ w.toNat) ∧ w64 ((2:Int) ^ w.toNat - 1) = 2 ^ w.toNat - 1 ∧ (2:Int) ≤ 2 ^ w.toNat ∧ (2:Int) ^ w.toNat ≤ 65536:=by
 rcases Zgl h1 h2 with rfl | rfl | rfl | rfl | rfl | rfl | rfl | rfl | rfl | rfl | rfl | rfl | rfl | rfl | rfl | rfl <;> exact ⟨rfl,rfl,by decide,by decide,by decide⟩
theorem ZdW {w:Int} (h1:1 ≤ w) (h2:w ≤ 16) (v:Int):wordB w v = true ↔ 0 ≤ v ∧ v < 2 ^ w.toNat:=by
 obtain ⟨a1,a2,a3,a4,a5⟩:=ZbO h1 h2
 have hs:=ZbT w v
 unfold Z8 Zi at hs
 have e:(decide (w ≥ 1) && decide (w ≤ 16)) = true:=by simp; omega
 simp only [e,Zl0] at hs
 by_cases hv:0 ≤ v
 ·simp only [hv, decide_true, ZlU, a1, Zl0] at hs
  rw [a3] at hs
  simp at hs
  rw [← hs]; simp [hv]; omega
 ·simp [hv, a1] at hs
  rw [hs]; simp; omega
theorem ZdL (x:Int) {y:Int} (h:0 ≤ y):shr? x y = some (x.fdiv (2 ^ min y.toNat 64)):=by unfold shr?; rw [Zl4 (by omega)]
theorem Zjr (x:Int) {y:Int} (h:0 ≤ y):shl? x y = some (w64 (x * 2 ^ min y.toNat 64)):=by unfold shl?; rw [Zl4 (by omega)]
def fnd (v:List D.Value) (s:Str):Option D.Value:=v.find? fun x=>decide (x.Name = s)
theorem ZhN {n:Nat} {v:List D.Value} {s:Str} (hn:v.length < n) (hv:v.length ≤ 1048576):(fnd v s = none ∧ X5 n v s = some (-1)) ∨ ∃ (k:Nat) (x:D.Value),fnd v s = some x ∧ v[k]? = some x ∧ X5 n v s = some (k:Int):=by
 unfold X5
 obtain ⟨r,g1,g2⟩:=Y9 (l:=v) (n:=n) (σ:=Unit) (ρ:=Unit ⊕ Int) (B:=fun (s1:Int)=>
  if (decide (s1 < (len v))) then
   (get? v s1).bind fun x1=>
   if (Str.eqb x1.Name s) then
    some (.inr (.inr s1))
   else
    some (.inl ((w64 (s1 + 1))))
  else
   some (.inr (.inl ()))) (fun k _=>(k:Int)) (fun ys _=>fnd ys s = fnd v s) (fun r=>(fnd v s = none ∧ r = .inl ()) ∨ ∃ (k:Nat) (x:D.Value),fnd v s = some x ∧ v[k]? = some x ∧ r = .inr (k:Int))
  (fun k x xs a hk' hx hlen hi => by
   have hd:decide ((k:Int) < len v) = true:=by rw [Za]; simp; omega
   simp only [hd,ZlU,get?_nat,hx,Zl0,Zbh]
   have hf:fnd (x :: xs) s = if x.Name = s then some x else fnd xs s:=by
    unfold fnd
    by_cases e:x.Name = s <;> simp [ZnA,e]
   rw [hf] at hi
   by_cases e:x.Name = s
   ·rw [Zl7 e] at hi
    exact .inr ⟨_,by rw [Zl7 (by simpa using e)],.inr ⟨k,x,hi.symm,hx,rfl⟩⟩
   ·rw [Zl4 e] at hi
    exact .inl ⟨(),by rw [Zl4 (by simpa using e),Zd (by omega) (by omega)]; rfl,hi⟩)
  (fun a hi => by
   have hd:decide ((v.length:Int) < len v) = false:=by rw [Za]; simp
   simp only [hd,Zl2,ZlC]
   exact ⟨_,rfl,.inl ⟨by rw [← hi]; rfl,rfl⟩⟩) (a:=()) rfl hn
 rw [show ((0:Nat):Int) = 0 from rfl] at g1
 rw [g1]
 rcases g2 with ⟨h1,rfl⟩ | ⟨k,x,h1,h2,rfl⟩
 ·exact .inl ⟨h1,rfl⟩
 ·exact .inr ⟨k,x,h1,h2,rfl⟩
theorem Zfl {α:Type} {l m:List α} (h:l.length + m.length ≤ 1048576):app? l m = some (l ++ m):=by
 unfold app?; rw [Zl7 (by unfold room; omega)]
theorem get0 (x:D.Term) (l:List D.Term):get? (x :: l) 0 = some x:=rfl
theorem get1 (x y:D.Term) (l:List D.Term):get? (x :: y :: l) 1 = some y:=rfl
theorem geti0 (x:Int) (l:List Int):get? (x :: l) 0 = some x:=rfl
theorem geti1 (x y:Int) (l:List Int):get? (x :: y :: l) 1 = some y:=rfl
theorem geti2 (x y z:Int) (l:List Int):get? (x :: y :: z :: l) 2 = some z:=rfl
theorem Zih {ks:List D.Term} {f:D.Term → Option (Int × Bool)} {g:D.Term → Int × Bool} {n:Nat} (hf:∀ x ∈ ks,f x = some (g x)) (hn:ks.length < n) (hk:ks.length ≤ 1000000) :
  iterN (fun (s1:Int × (List Int))=>
    if (decide (s1.1 < (len ks))) then
     (get? ks s1.1).bind fun x4=>
     (f x4).bind fun x5=>
     if (!x5.2) then
      some (.inr (.inr ((0:Int),false)))
     else
      (app? s1.2 ([x5.1]:List Int)).bind fun x6=>
      some (.inl ((w64 (s1.1 + 1)),x6))
    else
     some (.inr (.inl (s1.2)))
   ) n (0,([]:List Int)) = some (if ks.all (fun x=>(g x).2) = true then (.inl (ks.map fun x=>(g x).1):List Int ⊕ (Int × Bool)) else .inr ((0:Int),false)):=by
 obtain ⟨r,g1,g2⟩:=Y9 (l:=ks) (n:=n) (σ:=List Int) (ρ:=List Int ⊕ (Int × Bool)) (B:=fun (s1:Int × (List Int))=>
    if (decide (s1.1 < (len ks))) then
     (get? ks s1.1).bind fun x4=>
     (f x4).bind fun x5=>
     if (!x5.2) then
      some (.inr (.inr ((0:Int),false)))
     else
      (app? s1.2 ([x5.1]:List Int)).bind fun x6=>
      some (.inl ((w64 (s1.1 + 1)),x6))
    else
     some (.inr (.inl (s1.2)))) (fun k a=>((k:Int),a)) (fun ys a=>∃ pre,pre ++ ys = ks ∧ a = pre.map (fun x=>(g x).1) ∧ pre.all (fun x=>(g x).2) = true)
   (fun r=>r = if ks.all (fun x=>(g x).2) = true then (.inl (ks.map fun x=>(g x).1):List Int ⊕ (Int × Bool)) else .inr ((0:Int),false))
   (fun k x xs a hk' hx hlen ⟨pre, h1, h2, h3⟩ => by
    have hd:decide ((k:Int) < len ks) = true:=by rw [Za]; simp; omega
    have hpl:pre.length ≤ ks.length:=by rw [← h1]; simp
    simp only [hd,ZlU,get?_nat,hx,Zl0,hf x (ZlH hx)]
    cases hb:(g x).2
    ·refine .inr ⟨_, rfl, ?_⟩
     have:ks.all (fun x=>(g x).2) = false:=by rw [← h1,List.all_append,ZnU,hb]; simp
     rw [this]; rfl
    ·refine .inl ⟨a ++ [(g x).1], ?_, pre ++ [x], by rw [Zmq]; exact h1, by rw [h2]; simp, by rw [List.all_append, h3]; simp [hb]⟩
     simp only [ZlZ,Zl2,ZlC]
     rw [Zfl (by rw [h2]; simp; omega),Zd (by omega) (by omega)]; rfl)
   (fun a ⟨pre, h1, h2, h3⟩ => by
    have hd:decide ((ks.length:Int) < len ks) = false:=by rw [Za]; simp
    simp only [hd,Zl2,ZlC]
    rw [ZmK] at h1
    subst h1
    exact ⟨_,rfl,by rw [h3,Zl7 rfl,h2]⟩) (a:=[]) ⟨[],rfl,rfl,rfl⟩ hn
 rw [show ((0:Nat):Int) = 0 from rfl] at g1
 rw [g1,g2]
theorem Yi {op w m:Int} {nm:Str} {ks:List D.Term} (h:nodeB ⟨op,w,m,nm,ks⟩ = true):(1 ≤ w ∧ w ≤ 16) ∧ (
  (op = 0 ∧ ks = [] ∧ nm = ⟨[]⟩ ∧ wordB w m = true) ∨
  (op = 22 ∧ ks = [] ∧ m = 0) ∨
  ((op = 1 ∨ op = 2) ∧ m = 0 ∧ nm = ⟨[]⟩ ∧ ∃ a,ks = [a] ∧ nodeB a = true ∧ a.W = w) ∨
  (3 ≤ op ∧ op ≤ 16 ∧ m = 0 ∧ nm = ⟨[]⟩ ∧ ∃ a b,ks = [a,b] ∧ nodeB a = true ∧ nodeB b = true ∧ a.W = b.W ∧ (op ≤ 13 → a.W = w) ∧ (14 ≤ op → w = 1)) ∨
  (op = 17 ∧ m = 0 ∧ nm = ⟨[]⟩ ∧ ∃ a b c,ks = [a,b,c] ∧ nodeB a = true ∧ nodeB b = true ∧ nodeB c = true ∧ a.W = 1 ∧ b.W = w ∧ c.W = w) ∨
  (op = 18 ∧ m = 0 ∧ nm = ⟨[]⟩ ∧ ∃ a b,ks = [a,b] ∧ nodeB a = true ∧ nodeB b = true ∧ a.W + b.W = w) ∨
  (op = 19 ∧ nm = ⟨[]⟩ ∧ 0 ≤ m ∧ m ≤ 16 ∧ ∃ a,ks = [a] ∧ nodeB a = true ∧ m + w ≤ a.W) ∨
  ((op = 20 ∨ op = 21) ∧ m = 0 ∧ nm = ⟨[]⟩ ∧ ∃ a,ks = [a] ∧ nodeB a = true ∧ a.W ≤ w)):=by
 rw [Zam,Zl6] at h
 obtain ⟨h,hk⟩:=h
 unfold locB at h
 simp only [Zl6,ZlE,Zmx,ZmE,Zbh] at h
 obtain ⟨⟨⟨hw,hn⟩,hm⟩,h⟩:=h
 refine ⟨hw,?_⟩
 simp only at hk
 unfold shB at h
 by_cases o0:op = 0
 ·rw [Zl7 o0] at h
  simp only [Zl6,List.isEmpty_iff,List.map_eq_nil_iff] at h
  exact .inl ⟨o0,h.1,by rcases hn with hn | hn; exact hn; omega,h.2⟩
 rw [Zl4 o0] at h
 by_cases o1:op = 22
 ·rw [Zl7 o1] at h
  simp only [Zl6,List.isEmpty_iff,List.map_eq_nil_iff] at h
  exact .inr (.inl ⟨o1,h.1,by omega⟩)
 rw [Zl4 o1] at h
 have hn:nm = ⟨[]⟩:=by rcases hn with hn | hn; exact hn; exact absurd hn o1
 have hm:op ≠ 19 → m = 0:=fun o=>by omega
 clear o0 o1
 have k1:∀ f:Int → Bool,(match ks.map (·.W) with | [a]=>f a | _=>false) = true → ∃ a,ks = [a] ∧ nodeB a = true ∧ f a.W = true:=fun f h=>by
  rcases ks with _ | ⟨a,_ | ⟨b,l⟩⟩ <;> simp at h
  rw [Yb] at hk; simp at hk
  exact ⟨a,rfl,hk,h⟩
 have k2:∀ f:Int → Int → Bool,(match ks.map (·.W) with | [a,b]=>f a b | _=>false) = true → ∃ a b,ks = [a,b] ∧ nodeB a = true ∧ nodeB b = true ∧ f a.W b.W = true:=fun f h=>by
  rcases ks with _ | ⟨a,_ | ⟨b,_ | ⟨c,l⟩⟩⟩ <;> simp at h
  rw [Yb] at hk; simp at hk
  exact ⟨a,b,rfl,hk.1,hk.2,h⟩
 have k3:∀ f:Int → Int → Int → Bool,(match ks.map (·.W) with | [a,b,c]=>f a b c | _=>false) = true → ∃ a b c,ks = [a,b,c] ∧ nodeB a = true ∧ nodeB b = true ∧ nodeB c = true ∧ f a.W b.W c.W = true:=fun f h=>by
  rcases ks with _ | ⟨a,_ | ⟨b,_ | ⟨c,_ | ⟨d,l⟩⟩⟩⟩ <;> simp at h
  rw [Yb] at hk; simp at hk
  exact ⟨a,b,c,rfl,hk.1,hk.2.1,hk.2.2,h⟩
 by_cases o2:1 ≤ op ∧ op ≤ 2
 ·rw [Zl7 o2] at h
  obtain ⟨a,ha,hb,hf⟩:=k1 (fun a=>a == w) h
  exact .inr (.inr (.inl ⟨by omega,hm (by omega),hn,a,ha,hb,by simpa using hf⟩))
 rw [Zl4 o2] at h
 by_cases o3:3 ≤ op ∧ op ≤ 13
 ·rw [Zl7 o3] at h
  obtain ⟨a,b,ha,hb,hc,hf⟩:=k2 (fun a b=>a == w && b == w) h
  simp only [Zl6,ZmE] at hf
  exact .inr (.inr (.inr (.inl ⟨by omega,by omega,hm (by omega),hn,a,b,ha,hb,hc,by omega,by omega,by omega⟩)))
 rw [Zl4 o3] at h
 by_cases o4:14 ≤ op ∧ op ≤ 16
 ·rw [Zl7 o4] at h
  obtain ⟨a,b,ha,hb,hc,hf⟩:=k2 (fun a b=>a == b && w == 1) h
  simp only [Zl6,ZmE] at hf
  exact .inr (.inr (.inr (.inl ⟨by omega,by omega,hm (by omega),hn,a,b,ha,hb,hc,hf.1,by omega,by omega⟩)))
 rw [Zl4 o4] at h
 by_cases o5:op = 17
 ·rw [Zl7 o5] at h
  obtain ⟨a,b,c,ha,hb,hc,hd,hf⟩:=k3 (fun a b c=>a == 1 && b == w && c == w) h
  simp only [Zl6,ZmE] at hf
  exact .inr (.inr (.inr (.inr (.inl ⟨o5,hm (by omega),hn,a,b,c,ha,hb,hc,hd,hf.1.1,hf.1.2,hf.2⟩))))
 rw [Zl4 o5] at h
 by_cases o6:op = 18
 ·rw [Zl7 o6] at h
  obtain ⟨a,b,ha,hb,hc,hf⟩:=k2 (fun a b=>a + b == w) h
  exact .inr (.inr (.inr (.inr (.inr (.inl ⟨o6,hm (by omega),hn,a,b,ha,hb,hc,by simpa using hf⟩)))))
 rw [Zl4 o6] at h
 by_cases o7:op = 19
 ·rw [Zl7 o7] at h
  obtain ⟨a,ha,hb,hf⟩:=k1 (fun a=>decide (0 ≤ m ∧ m ≤ 16) && decide (m + w ≤ a)) h
  simp only [Zl6,ZlE] at hf
  exact .inr (.inr (.inr (.inr (.inr (.inr (.inl ⟨o7,hn,hf.1.1,hf.1.2,a,ha,hb,hf.2⟩))))))
 rw [Zl4 o7] at h
 by_cases o8:20 ≤ op ∧ op ≤ 21
 ·rw [Zl7 o8] at h
  obtain ⟨a,ha,hb,hf⟩:=k1 (fun a=>decide (a ≤ w)) h
  exact .inr (.inr (.inr (.inr (.inr (.inr (.inr ⟨by omega,hm (by omega),hn,a,ha,hb,by simpa using hf⟩))))))
 rw [Zl4 o8] at h; cases h
open Cc (BS LS CircP Grow GoodL Good litN lines negs seqP ifP opP net RelB FOk)
def bitI (v:Int) (k:Nat):Bool:=match shr? v (k:Int) with | some x=>band x 1 == 1 | none=>false
def wordL (w:Nat) (v:Int):List Int:=(List.range w).map fun k=>if bitI v k then 1 else -1
theorem XY (w:Nat) (v:Int):(wordL w v).length = w:=by simp [wordL]
def atV:List D.Value → Int → Str → Int
 | [],a,_=>a
 | v :: l,a,s=>if Str.eqb v.Name s then a + v.W else atV l (a + v.W) s
def varL (vs:List D.Value) (s:Str) (w:Nat):List Int:=(List.range w).map fun k:Nat=>atV vs 1 s - (k:Int)
theorem ZdS (vs:List D.Value) (s:Str) (w:Nat):(varL vs s w).length = w:=by simp [varL]
def fin (op:Int) (w m:Nat) (ks:List (List Int)) (s:BS):LS:=
 if op = 1 then (negs (ks.getD 0 []),s)
 else if op = 2 then if w = 16 then (List.replicate w (-1),(s.1,true)) else opP s 4 (List.replicate w (-1)) (ks.getD 0 [])
 else if op = 17 then seqP (fun s p=>ifP s ((ks.getD 0 []).getD 0 0) p.1 p.2) s ((ks.getD 1 []).zip (ks.getD 2 []))
 else if op = 18 then (ks.getD 1 [] ++ ks.getD 0 [],s)
 else if op = 19 then (((ks.getD 0 []).drop m).take w,s)
 else if op = 20 then (ks.getD 0 [] ++ List.replicate (w - (ks.getD 0 []).length) (-1),s)
 else if op = 21 then (ks.getD 0 [] ++ List.replicate (w - (ks.getD 0 []).length) ((ks.getD 0 []).getD ((ks.getD 0 []).length - 1) 0),s)
 else if (ks.getD 0 []).length = 16 then (List.replicate w (-1),(s.1,true)) else opP s op (ks.getD 0 []) (ks.getD 1 [])
mutual
def nP (vs:List D.Value):D.Term → BS → LS
 | ⟨op,w,m,nm,ks⟩,s=>if op = 0 then (wordL w.toNat m,s) else if op = 22 then (varL vs nm w.toNat,s) else let r:=nPs vs ks s; fin op w.toNat m.toNat r.1 r.2
def nPs (vs:List D.Value):List D.Term → BS → List (List Int) × BS
 | [],s=>([],s)
 | t :: l,s=>let r:=nP vs t s; let q:=nPs vs l r.2; (r.1 :: q.1,q.2)
end
theorem Zgb (vs:List D.Value) (t:D.Term) (s:BS):nP vs t s = if t.Op = 0 then (wordL t.W.toNat t.N,s) else if t.Op = 22 then (varL vs t.Name t.W.toNat,s) else fin t.Op t.W.toNat t.N.toNat (nPs vs t.Kids s).1 (nPs vs t.Kids s).2:=by cases t; rw [nP]
theorem Zdp (vs:List D.Value) (s:BS):nPs vs [] s = ([],s):=by rw [nPs]
theorem ZbH (vs:List D.Value) (t:D.Term) (l:List D.Term) (s:BS):nPs vs (t :: l) s = ((nP vs t s).1 :: (nPs vs l (nP vs t s).2).1,(nPs vs l (nP vs t s).2).2):=by rw [nPs]
structure VF (vs:List D.Value) (c:D.Circuit):Prop where
 w1:∀ v ∈ vs,1 ≤ v.W
 sum:(vs.map (·.W)).foldl (· + ·) 0 = c.Inputs
def TV (vs:List D.Value) (t:D.Term):Prop:=∀ p ∈ vrs t,∃ v ∈ vs,v.Name = p.1 ∧ v.W = p.2
open Cc (BS LS CircP Grow GoodL Good litN lines negs seqP ifP opP net RelB FOk Xj ZT ZE litN_mono Zz)
theorem Zjb {vs:List D.Value} {s:Str} (h1:∀ v ∈ vs,1 ≤ v.W):∀ {a:Int},a ≤ atV vs a s ∧ atV vs a s ≤ (vs.map (·.W)).foldl (· + ·) a:=by
 induction vs with
 | nil=>intro a; simp [atV]
 | cons v l ih=>
  intro a
  have hv:=h1 v (by simp)
  have hf:∀ (l:List D.Value) (a:Int),(∀ v ∈ l,1 ≤ v.W) → a ≤ (l.map (·.W)).foldl (· + ·) a:=fun l=>by
   induction l with
   | nil=>intro a _; simp
   | cons x l ih=>intro a hx; have:=ih (a + x.W) (fun v hv=>hx v (by simp [hv])); have:=hx x (by simp); simp only [ZlA,Zmy]; omega
  unfold atV
  simp only [ZlA,Zmy]
  split
  ·have:=hf l (a + v.W) (fun v hv=>h1 v (by simp [hv])); omega
  ·have:=ih (fun v hv=>h1 v (by simp [hv])) (a:=a + v.W); omega
theorem Zj7 {s:Str} {w:Int}:∀ {vs:List D.Value} {a:Int},(∀ v ∈ vs,1 ≤ v.W) → vs.Pairwise (fun x y=>x.Name ≠ y.Name) → (∃ v ∈ vs,v.Name = s ∧ v.W = w) → a + w ≤ atV vs a s
 | [],a,_,_,⟨v,hv,_⟩=>by cases hv
 | v :: l,a,h1,hp,⟨x,hx,hn,hw⟩=>by
  unfold atV
  rw [Znj] at hp
  by_cases c:v.Name = s
  ·have e : Str.eqb v.Name s = true := by rw [c]; exact Zeh s
   rw [Zl7 e]
   rcases Zmd.1 hx with rfl | hx
   ·omega
   ·exact absurd (c.trans hn.symm) (hp.1 x hx)
  ·have e : Str.eqb v.Name s = false := by rw [Zbh]; simpa using c
   rw [e]
   simp only [Zl2,ZlC]
   rcases Zmd.1 hx with rfl | hx
   ·exact absurd hn c
   ·have := Zj7 (a := a + v.W) (fun v hv => h1 v (by simp [hv])) hp.2 ⟨x, hx, hn, hw⟩
    have:=h1 v (by simp)
    omega
theorem ZbX:∀ (l:List Int) (a b:Int),l.foldl (· + ·) (a + b) = a + l.foldl (· + ·) b
 | [],a,b=>rfl
 | x :: l,a,b=>by simp only [Zmy]; rw [Int.add_assoc]; exact ZbX l a (b + x)
theorem ZiI {vs:List D.Value} {s:BS} {nm:Str} {w:Int} (hs:CircP s.1) (hv:VF vs s.1) (hp:vs.Pairwise fun x y=>x.Name ≠ y.Name) (h:∃ v ∈ vs,v.Name = nm ∧ v.W = w) (hw:1 ≤ w):GoodL s w.toNat (varL vs nm w.toNat,s):=by
 refine ⟨hs,Grow.refl _,ZdS _ _ _,fun x hx=>?_⟩
 unfold varL at hx
 obtain ⟨k,hk,rfl⟩:=Zm6.1 hx
 have hk:=ZlR.1 hk
 have h1:=Zj7 (a:=1) hv.w1 hp h
 have h2:=(Zjb (s:=nm) hv.w1 (a:=1)).2
 have h3:=ZbX (vs.map (·.W)) 1 0
 rw [show (1:Int) + 0 = 1 from rfl,hv.sum] at h3
 rw [h3] at h2
 rw [ZE]
 show 1 ≤ Cc.iab (atV vs 1 nm - (k:Int)) ∧ Cc.iab (atV vs 1 nm - (k:Int)) ≤ s.1.Inputs + 1 + (s.1.Gates.length:Int)
 unfold Cc.iab
 have:=hs.i0
 constructor <;> split <;> omega
theorem ZhC {s:BS} {w:Nat} {v:Int} (hs:CircP s.1):GoodL s w (wordL w v,s):=by
 refine ⟨hs,Grow.refl _,XY _ _,fun x hx=>?_⟩
 unfold wordL at hx
 obtain ⟨k,hk,rfl⟩:=Zm6.1 hx
 split
 ·exact Xj hs
 ·exact ZT hs
def K2 (s:BS) (t:D.Term) (l:List Int):Prop:=l.length = t.W.toNat ∧ ∀ x ∈ l,litN (lines s.1) x = true
def KK (s:BS):List D.Term → List (List Int) → Prop
 | [],[]=>True
 | t :: ts,l :: ls=>K2 s t l ∧ KK s ts ls
 | _,_=>False
theorem KK1 {s:BS} {t:D.Term} {ts:List D.Term} {ls:List (List Int)} (h:KK s (t :: ts) ls):∃ l l',K2 s t l ∧ KK s ts l' ∧ ls = l :: l':=by
 cases ls with
 | nil=>exact h.elim
 | cons l l'=>exact ⟨l,l',h.1,h.2,rfl⟩
theorem KK0 {s:BS} {ls:List (List Int)} (h:KK s [] ls):ls = []:=by
 cases ls with
 | nil=>rfl
 | cons l l'=>exact h.elim
theorem K2.mono {s s':BS} {t:D.Term} {l:List Int} (h:K2 s t l) (g:Grow s.1 s'.1):K2 s' t l:=⟨h.1,fun x hx=>litN_mono (h.2 x hx) g.lines⟩
theorem Zf3 {s:BS} {w:Nat} (hs:CircP s.1) (f:Bool):GoodL s w (List.replicate w (-1),(s.1,f)):=⟨hs,Grow.refl _,by simp,fun x hx=>by rw [(ZnP.1 hx).2]; exact ZT hs⟩
theorem Zb0 {s:BS} {w:Nat} (hs:CircP s.1):∀ x ∈ List.replicate w (-1:Int),litN (lines s.1) x = true:=fun x hx=>by rw [(ZnP.1 hx).2]; exact ZT hs
theorem Zhf {s:BS} {c:Int} {a b:List Int} (hs:CircP s.1) (hc:litN (lines s.1) c = true) (ha:∀ x ∈ a,litN (lines s.1) x = true) (hb:∀ x ∈ b,litN (lines s.1) x = true):FOk (fun s p=>ifP s c p.1 p.2) s (a.zip b):=fun s' p hc' hg hp=>by
 have h1:=ZnW hp
 exact Cc.if_good hc' (litN_mono hc hg.lines) (litN_mono (ha _ h1.1) hg.lines) (litN_mono (hb _ h1.2) hg.lines)
theorem fin_good {s:BS} {t:D.Term} {ls:List (List Int)} (hb:nodeB t = true) (hs:CircP s.1) (h0:t.Op ≠ 0) (h22:t.Op ≠ 22) (hk:KK s t.Kids ls):GoodL s t.W.toNat (fin t.Op t.W.toNat t.N.toNat ls s):=by
 obtain ⟨op,w,m,nm,ks⟩:=t
 obtain ⟨hw,hsh⟩:=Yi hb
 simp only at h0 h22 hk ⊢
 rcases hsh with ⟨rfl,-⟩ | ⟨rfl,-⟩ | ⟨ho,-,-,a,rfl,ha,haw⟩ | ⟨h3,h16,-,-,a,b,rfl,ha,hb',hab,h13,h14⟩ | ⟨rfl,-,-,a,b,c,rfl,ha,hb',hc,ha1,hbw,hcw⟩ | ⟨rfl,-,-,a,b,rfl,ha,hb',habw⟩ | ⟨rfl,-,hm0,hm1,a,rfl,ha,haw⟩ | ⟨ho,-,-,a,rfl,ha,haw⟩
 ·exact absurd rfl h0
 ·exact absurd rfl h22
 ·obtain ⟨la, r1, k1, hn1, rfl⟩ := KK1 hk
  obtain rfl:=KK0 hn1
  have hl:la.length = w.toNat:=by rw [k1.1,haw]
  unfold fin
  simp only [ZlJ]
  rcases ho with rfl | rfl
  ·simp only [ZlU]
   exact ⟨hs,Grow.refl _,by rw [Cc.negs_len,hl],Cc.negs_lits k1.2⟩
  ·simp only [show ¬ ((2 : Int) = 1) by decide, ZlC, ZlU]
   split
   ·exact Zf3 hs true
   ·rename_i h16
    have:=Cc.op_good hs (op:=4) (a:=List.replicate w.toNat (-1)) (b:=la) (by omega) (by simp [hl]) (by simp; omega) (by simp; omega) (Zb0 hs) k1.2
    simpa [Cc.opW] using this
 ·obtain ⟨la, r1, k1, hn1, rfl⟩ := KK1 hk
  obtain ⟨lb,r2,k2,hn2,rfl⟩:=KK1 hn1
  obtain rfl:=KK0 hn2
  have hA:=ZK ha
  unfold fin
  simp only [ZlJ,Zma]
  rw [Zl4 (by omega),Zl4 (by omega),Zl4 (by omega),Zl4 (by omega),Zl4 (by omega),Zl4 (by omega),Zl4 (by omega)]
  split
  ·exact Zf3 hs true
  ·rename_i h16'
   have:=Cc.op_good hs (op:=op) (a:=la) (b:=lb) ⟨h3,h16⟩ (by rw [k1.1,k2.1,hab]) (by have:=k1.1; omega) (by have:=k1.1; omega) k1.2 k2.2
   have e:Cc.opW op la.length = w.toNat:=by
    unfold Cc.opW; split
    ·rw [h14 (by omega)]; rfl
    ·rw [k1.1,h13 (by omega)]
   rw [e] at this; exact this
 ·obtain ⟨la, r1, k1, hn1, rfl⟩ := KK1 hk
  obtain ⟨lb,r2,k2,hn2,rfl⟩:=KK1 hn1
  obtain ⟨lc,r3,k3,hn3,rfl⟩:=KK1 hn2
  obtain rfl:=KK0 hn3
  unfold fin
  simp only [ZlJ,Zma]
  rw [Zl4 (by omega),Zl4 (by omega),Zl7 (by trivial)]
  have hc0:litN (lines s.1) (la.getD 0 0) = true:=k1.2 _ (Cc.getD_mem (by have:=k1.1; rw [ha1] at this; simp at this; omega))
  have g:=Cc.seq_good hs (Zhf hs hc0 k2.2 k3.2)
  rw [Zmk,k2.1,k3.1,hbw,hcw,Znt] at g
  exact g
 ·obtain ⟨la, r1, k1, hn1, rfl⟩ := KK1 hk
  obtain ⟨lb,r2,k2,hn2,rfl⟩:=KK1 hn1
  obtain rfl:=KK0 hn2
  have hA:=ZK ha
  have hB:=ZK hb'
  unfold fin
  simp only [ZlJ,Zma]
  rw [Zl4 (by omega),Zl4 (by omega),Zl4 (by omega),Zl7 (by trivial)]
  exact ⟨hs,Grow.refl _,by rw [ZlF,k1.1,k2.1]; omega,fun x hx=>(ZlY.1 hx).elim (k2.2 x) (k1.2 x)⟩
 ·obtain ⟨la, r1, k1, hn1, rfl⟩ := KK1 hk
  obtain rfl:=KK0 hn1
  unfold fin
  simp only [ZlJ]
  rw [Zl4 (by omega),Zl4 (by omega),Zl4 (by omega),Zl4 (by omega),Zl7 (by trivial)]
  exact ⟨hs,Grow.refl _,by rw [Zl8,ZlV,k1.1]; omega,fun x hx=>k1.2 x (ZmH (Zna hx))⟩
 ·obtain ⟨la, r1, k1, hn1, rfl⟩ := KK1 hk
  obtain rfl:=KK0 hn1
  have hA:=ZK ha
  unfold fin
  simp only [ZlJ]
  rcases ho with rfl | rfl
  ·rw [Zl4 (by omega), Zl4 (by omega), Zl4 (by omega), Zl4 (by omega), Zl4 (by omega), Zl7 (by trivial)]
   exact ⟨hs,Grow.refl _,by rw [ZlF,Zmp,k1.1]; omega,fun x hx=>(ZlY.1 hx).elim (k1.2 x) (Zb0 hs x)⟩
  ·rw [Zl4 (by omega), Zl4 (by omega), Zl4 (by omega), Zl4 (by omega), Zl4 (by omega), Zl4 (by omega), Zl7 (by trivial)]
   refine ⟨hs,Grow.refl _,by rw [ZlF,Zmp,k1.1]; omega,fun x hx=>(ZlY.1 hx).elim (k1.2 x) fun h=>?_⟩
   rw [(ZnP.1 h).2]
   exact k1.2 _ (Cc.getD_mem (by have:=k1.1; omega))
theorem KK.mono {s s':BS} (g:Grow s.1 s'.1):∀ {ts:List D.Term} {ls:List (List Int)},KK s ts ls → KK s' ts ls
 | [],[],_=>trivial
 | [],_ :: _,h=>h.elim
 | _ :: _,[],h=>h.elim
 | _ :: _,_ :: _,h=>⟨h.1.mono g,KK.mono g h.2⟩
theorem VF.mono {vs:List D.Value} {c c':D.Circuit} (h:VF vs c) (g:Grow c c'):VF vs c':=⟨h.w1,h.sum.trans g.inputs.symm⟩
theorem Zbk {vs:List D.Value} {t x:D.Term} (h:TV vs t) (ho:t.Op ≠ 22) (hx:x ∈ t.Kids):TV vs x:=fun p hp=>by
 refine h p ?_
 rw [XM,Zl4 ho]
 have:∀ {l:List D.Term},x ∈ l → p ∈ vrss l:=fun {l}=>by
  induction l with
  | nil=>intro h; cases h
  | cons y l ih=>
   intro hy
   rw [Xl,ZlY]
   rcases Zmd.1 hy with rfl | hy
   ·exact .inl hp
   ·exact .inr (ih hy)
 exact this hx
theorem Za2 {vs:List D.Value}:∀ (l:List D.Term) (s:BS),(∀ t ∈ l,∀ s:BS,CircP s.1 → VF vs s.1 → GoodL s t.W.toNat (nP vs t s)) → CircP s.1 → VF vs s.1 → CircP (nPs vs l s).2.1 ∧ Grow s.1 (nPs vs l s).2.1 ∧ KK (nPs vs l s).2 l (nPs vs l s).1
 | [],s,_,hs,_=>by rw [Zdp]; exact ⟨hs,Grow.refl _,trivial⟩
 | t :: l,s,h,hs,hv=>by
  rw [ZbH]
  have g:=h t (by simp) s hs hv
  obtain ⟨q1,q2,q3⟩:=Za2 l (nP vs t s).2 (fun x hx=>h x (by simp [hx])) g.circ (hv.mono g.grow)
  exact ⟨q1,g.grow.trans q2,⟨g.len,fun x hx=>litN_mono (g.lits x hx) q2.lines⟩,q3⟩
theorem nodeK {t:D.Term} (hb:nodeB t = true):∀ x ∈ t.Kids,nodeB x = true:=fun x hx=>by
 rw [Zam,Zl6,Yb,ZlO] at hb
 exact hb.2 x hx
theorem Zbd {vs:List D.Value} (hp:vs.Pairwise fun x y=>x.Name ≠ y.Name):∀ (n:Nat) (t:D.Term) (s:BS),cnt t ≤ n → nodeB t = true → TV vs t → CircP s.1 → VF vs s.1 → GoodL s t.W.toNat (nP vs t s):=by
 intro n
 induction n with
 | zero=>intro t s h; have:=Xm t; omega
 | succ n ih=>
  intro t s hc hb ht hs hv
  have hw:=ZK hb
  rw [Zgb]
  by_cases h0:t.Op = 0
  ·rw [Zl7 h0]; exact ZhC hs
  rw [Zl4 h0]
  by_cases h22:t.Op = 22
  ·rw [Zl7 h22]
   refine ZiI hs hv hp (ht (t.Name,t.W) ?_) hw.1
   rw [XM,Zl7 h22]; simp
  rw [Zl4 h22]
  have hcn:=Xm t
  obtain ⟨q1,q2,q3⟩:=Za2 t.Kids s (fun x hx s' hs' hv'=>ih x s' (by have:=Xe hx; omega) (nodeK hb x hx) (Zbk ht h22 hx) hs' hv') hs hv
  have g:=fin_good hb q1 h0 h22 q3
  exact ⟨g.circ,q2.trans g.grow,g.len,g.lits⟩
open Cc (BS LS CircP Grow GoodL Good litN lines negs seqP ifP opP net RelB FOk FU)
theorem Zd9 (v:Int) (k:Nat):∃ x,shr? v (k:Int) = some x ∧ bitI v k = (band x 1 == 1):=by
 have:∃ x,shr? v (k:Int) = some x:=by unfold shr?; rw [Zl4 (by omega)]; exact ⟨_,rfl⟩
 obtain ⟨x,hx⟩:=this
 exact ⟨x,hx,by unfold bitI; rw [hx]⟩
theorem Zee (k:Nat) (v:Int):wordL (k + 1) v = wordL k v ++ [if bitI v k then 1 else -1]:=by unfold wordL; rw [ZmL,Zmh]; rfl
theorem ZdM (w:Nat):wordL w 0 = List.replicate w (-1):=by
 have:∀ k,bitI 0 k = false:=fun k=>by
  have h:shr? 0 (k:Int) = some 0:=by unfold shr?; rw [Zl4 (by omega)]; simp
  unfold bitI; rw [h]; exact Cc.band01
 unfold wordL
 simp only [this,Zl2,ZlC]
 rw [List.map_const']; simp
section
variable {fu:Nat} [FU fu]
theorem ZdC {w:Nat} (hw:w ≤ 1000) (v:Int):Xa fu (w:Int) v = some (wordL w v):=by
 unfold Xa
 rw [ZV (I:=fun k t=>t = ((k:Int),wordL k v)) (m:=w) (r:=wordL w v) (fun k t hk ht=>?_) (fun t ht=>?_) w 0 _ (by omega) (by simp [wordL]) fu (Cc.lt_fuel (by omega))]
 ·rfl
 all_goals subst ht
 ·refine ⟨_, ?_, rfl⟩
  obtain ⟨x,hx,hb⟩:=Zd9 v k
  have ha:∀ y:Int,app? (wordL k v) [y] = some (wordL k v ++ [y]):=fun y=>by
   unfold app?
   rw [Zl7 (by rw [XY]; simp; unfold room; omega)]
  simp only
  rw [Zl7 (by simp; omega),hx]
  simp only [Zl0]
  rw [Zee,hb]
  by_cases c:(band x 1 == 1) = true
  ·rw [Zl7 c,Zl7 c,ha,Zd (by omega) (by omega)]; rfl
  ·rw [Zl4 c,Zl4 c,ha,Zd (by omega) (by omega)]; rfl
 ·simp only
  rw [Zl4 (by simp)]
theorem ZdF {w:Nat} (hw:w ≤ 900) (v:Int):ZX fu (w:Int) v = some (wordL w v):=by
 unfold ZX
 have hmk:mk? (w:Int) (0:Int) = some (List.replicate w 0):=by
  unfold mk?; rw [Zl7 ⟨by omega,by unfold room; omega⟩]; rfl
 rw [hmk]
 simp only [Zl0]
 rw [ZV (I:=fun k t=>t = ((k:Int),wordL k v ++ List.replicate (w - k) 0)) (m:=w) (r:=wordL w v) (fun k t hk ht=>?_) (fun t ht=>?_) w 0 _ (by omega) (by simp [wordL]) fu (Cc.lt_fuel (by omega))]
 ·rfl
 all_goals subst ht
 ·refine ⟨_, ?_, rfl⟩
  obtain ⟨x,hx,hb⟩:=Zd9 v k
  have e:∀ y:Int,(wordL k v ++ List.replicate (w - k) 0).set k y = (wordL k v ++ [y]) ++ List.replicate (w - (k + 1)) 0:=fun y=>by
   have:=Cc.set_fill (l:=wordL k v) (n:=w - (k + 1)) (x:=y)
   rw [XY,show w - (k + 1) + 1 = w - k by omega] at this
   exact this
  have e2:∀ y z:Int,((wordL k v ++ [y]) ++ List.replicate (w - (k + 1)) 0).set k z = (wordL k v ++ [z]) ++ List.replicate (w - (k + 1)) 0:=fun y z=>by
   rw [Zmq,ZmY _ _ (by rw [XY]; omega),XY,Zne,Zmt,Zni,Zmq,Zmt]
  simp only
  rw [Zl7 (by rw [Za]; simp; omega),set?_nat (by simp [XY]; omega)]
  simp only [Zl0]
  rw [Cc.u64k (by omega),hx]
  simp only [Zl0]
  rw [e,Zee,hb]
  by_cases c:(band x 1 == 1) = true
  ·rw [Zl7 c, Zl7 c, set?_nat (by simp [XY] <;> omega), e2]
   simp only [Zl0]
   rw [Zd (by omega) (by omega)]; rfl
  ·rw [Zl4 c,Zl4 c,Zd (by omega) (by omega)]; rfl
 ·simp only
  rw [Zl4 (by rw [Za]; simp)]
  simp
theorem at_loop {vs:List D.Value} {s:Str} (hl:vs.length ≤ 1000) (hw:∀ v ∈ vs,1 ≤ v.W ∧ v.W ≤ 16):iterN (fun (s1:Int × Int)=>
    if (decide (s1.2 < (len vs))) then
     (get? vs s1.2).bind fun x2=>
     if (Str.eqb x2.Name s) then
      some (.inr ((w64 (s1.1 + x2.W))))
     else
      some (.inl ((w64 (s1.1 + x2.W)),(w64 (s1.2 + 1))))
    else
     some (.inr (s1.1))
   ) fu (1,0) = some (atV vs 1 s):=by
  obtain ⟨r,g1,g2⟩:=Y9 (l:=vs) (n:=fu) (σ:=Int) (ρ:=Int) (B:=fun (s1:Int × Int)=>
    if (decide (s1.2 < (len vs))) then
     (get? vs s1.2).bind fun x2=>
     if (Str.eqb x2.Name s) then
      some (.inr ((w64 (s1.1 + x2.W))))
     else
      some (.inl ((w64 (s1.1 + x2.W)),(w64 (s1.2 + 1))))
    else
     some (.inr (s1.1))) (fun k a=>(a,(k:Int))) (fun ys a=>atV ys a s = atV vs 1 s ∧ 1 ≤ a ∧ a ≤ 1 + 16 * (vs.length - ys.length:Int) ∧ ∀ y ∈ ys,y ∈ vs) (fun r=>r = atV vs 1 s)
    (fun k x xs a hk hx hlen ⟨h1,h2,h3,h4⟩=>by
      have hd:decide ((k:Int) < len vs) = true:=by rw [Za]; simp; omega
      have hxw:=hw x (h4 x (by simp))
      simp only [ZlP] at hlen h3
      simp only [hd,ZlU,get?_nat,hx,Zl0]
      have e1:w64 (a + x.W) = a + x.W:=Zd (by omega) (by omega)
      rw [e1]
      have h1:(if Str.eqb x.Name s = true then a + x.W else atV xs (a + x.W) s) = atV vs 1 s:=h1
      cases c:Str.eqb x.Name s
      · rw [c] at h1
        simp only [Zl2,ZlC] at h1 ⊢
        exact .inl ⟨a + x.W,by rw [Zd (by omega) (by omega)]; rfl,h1,by omega,by omega,fun y hy=>h4 y (by simp [hy])⟩
      · rw [c] at h1
        simp only [ZlU] at h1 ⊢
        exact .inr ⟨_,rfl,h1⟩)
    (fun a ⟨h1,_⟩=>by
      have hd:decide ((vs.length:Int) < len vs) = false:=by rw [Za]; simp
      simp only [hd,Zl2,ZlC]
      exact ⟨_,rfl,h1⟩) (a:=1) ⟨rfl,by omega,by omega,fun y h=>h⟩ (Cc.lt_fuel (by omega))
  rw [show ((0:Nat):Int) = 0 from rfl] at g1
  rw [g1,g2]
theorem ZhP {a:Int} {w:Nat} (hw:w ≤ 16) (h1:1 ≤ a) (h2:a ≤ 100000):iterN (fun (s2:Int × (List Int))=>
    if (decide (s2.1 < (w:Int))) then
     (app? s2.2 ([(w64 (a - s2.1))]:List Int)).bind fun x3=>
     some (.inl ((w64 (s2.1 + 1)),x3))
    else
     some (.inr (s2.2))
   ) fu (0,([]:List Int)) = some ((List.range w).map fun k:Nat=>a - (k:Int)):=by
  rw [ZV (I:=fun k t=>t = ((k:Int),(List.range k).map fun k:Nat=>a - (k:Int))) (m:=w) (r:=(List.range w).map fun k:Nat=>a - (k:Int)) (fun k t hk ht=>?_) (fun t ht=>?_) w 0 _ (by omega) (by simp) fu (Cc.lt_fuel (by omega))]
  all_goals subst ht
  · refine ⟨_, ?_, rfl⟩
    simp only
    have ha:∀ y:Int,app? ((List.range k).map fun k:Nat=>a - (k:Int)) [y] = some (((List.range k).map fun k:Nat=>a - (k:Int)) ++ [y]):=fun y=>by
      unfold app?
      rw [Zl7 (by simp; unfold room; omega)]
    rw [Zl7 (by simp; omega),Zd (x:=a - (k:Int)) (by omega) (by omega),ha]
    simp only [Zl0]
    rw [Zd (by omega) (by omega),ZmL,Zmh]; rfl
  · simp only
    rw [Zl4 (by simp)]
end
theorem Zfv:∀ {l:List D.Value} {a:Int},(∀ v ∈ l,1 ≤ v.W) → a + l.length ≤ (l.map (·.W)).foldl (· + ·) a
 | [],a,_=>by simp
 | v :: l,a,h=>by
  have:=Zfv (l:=l) (a:=a + v.W) fun x hx=>h x (by simp [hx])
  have:=h v (by simp)
  simp only [ZlA,Zmy,ZlP]; omega
theorem Zaa {c c':D.Circuit} {x:Int} (h:litN (lines c) x = true) (g:Grow c c'):litN (lines c') x = true:=Cc.litN_mono h g.lines
section
variable {n:Nat} [FU n] {s:BS}
def sfin (n:Nat) (p1:D.Term) (ls:List (List Int)) (s:BS):Option ((List Int) × D.l04Net):=
   (get? ls 0).bind fun x7=>
   if (p1.Op == 1) then
    (YK n x7).bind fun x8=>
    some (x8,(D.l04Net.mk (D.Circuit.mk s.1.Inputs s.1.Gates) s.2))
   else
    if (p1.Op == 2) then
     (Xa n p1.W 0).bind fun x9=>
     (get? ([x9,x7]:List (List Int)) 0).bind fun x10=>
     if ((len x10) == 16) then
      (ZN n p1.W (-1)).bind fun x11=>
      some (x11,(D.l04Net.mk (D.Circuit.mk s.1.Inputs s.1.Gates) true))
     else
      (get? ([x9,x7]:List (List Int)) 0).bind fun x12=>
      (get? ([x9,x7]:List (List Int)) 1).bind fun x13=>
      (ZJ n (D.l04Net.mk (D.Circuit.mk s.1.Inputs s.1.Gates) s.2) (cond (p1.Op == 2) 4 p1.Op) x12 x13).bind fun x14=>
      some (x14.1,x14.2)
    else
     if (p1.Op == 17) then
      (iterN (fun (s4 : Int × (List Int) × Int × Bool × (List D.Gate)) =>
       if (decide (s4.1 < p1.W)) then
        (get? x7 0).bind fun x15=>
        (get? ls 1).bind fun x16=>
        (get? x16 s4.1).bind fun x17=>
        (get? ls 2).bind fun x18=>
        (get? x18 s4.1).bind fun x19=>
        (Zh n (D.l04Net.mk (D.Circuit.mk s4.2.2.1 s4.2.2.2.2) s4.2.2.2.1) x15 x17 x19).bind fun x20=>
        (app? s4.2.1 ([x20.1]:List Int)).bind fun x21=>
        some (.inl ((w64 (s4.1 + 1)),x21,x20.2.c.Inputs,x20.2.full,x20.2.c.Gates))
       else
        some (.inr (s4.2.1,s4.2.2.1,s4.2.2.2.1,s4.2.2.2.2))
      ) n (0,([]:List Int),s.1.Inputs,s.2,s.1.Gates)).bind fun (rl4:(List Int) × Int × Bool × (List D.Gate))=>
      some (rl4.1,(D.l04Net.mk (D.Circuit.mk rl4.2.1 rl4.2.2.2) rl4.2.2.1))
     else
      if (p1.Op == 18) then
       (get? ls 1).bind fun x22=>
       (app? ([]:List Int) x22).bind fun x23=>
       (app? x23 x7).bind fun x24=>
       some (x24,(D.l04Net.mk (D.Circuit.mk s.1.Inputs s.1.Gates) s.2))
      else
       if (p1.Op == 19) then
        (cut? x7 p1.N (w64 (p1.N + p1.W))).bind fun x25=>
        some (x25,(D.l04Net.mk (D.Circuit.mk s.1.Inputs s.1.Gates) s.2))
       else
        if (p1.Op == 20) then
         (app? ([]:List Int) x7).bind fun x26=>
         (ZN n (w64 (p1.W - (len x7))) (-1)).bind fun x27=>
         (app? x26 x27).bind fun x28=>
         some (x28,(D.l04Net.mk (D.Circuit.mk s.1.Inputs s.1.Gates) s.2))
        else
         if (p1.Op == 21) then
          (app? ([]:List Int) x7).bind fun x29=>
          (get? x7 (w64 ((len x7) - 1))).bind fun x30=>
          (ZN n (w64 (p1.W - (len x7))) x30).bind fun x31=>
          (app? x29 x31).bind fun x32=>
          some (x32,(D.l04Net.mk (D.Circuit.mk s.1.Inputs s.1.Gates) s.2))
         else
          (get? ls 0).bind fun x33=>
          if ((len x33) == 16) then
           (ZN n p1.W (-1)).bind fun x34=>
           some (x34,(D.l04Net.mk (D.Circuit.mk s.1.Inputs s.1.Gates) true))
          else
           (get? ls 0).bind fun x35=>
           (get? ls 1).bind fun x36=>
           (ZJ n (D.l04Net.mk (D.Circuit.mk s.1.Inputs s.1.Gates) s.2) (cond (p1.Op == 2) 4 p1.Op) x35 x36).bind fun x37=>
           some (x37.1,x37.2)
theorem Zhp {l:List Int} {m w:Nat} (h:m + w ≤ l.length) (hl:l.length ≤ 1000):cut? l (m:Int) (w64 ((m:Int) + (w:Int))) = some ((l.drop m).take w):=by
 rw [Zd (by omega) (by omega)]
 unfold cut?
 rw [Zl7 ⟨by omega,by omega,by omega⟩]
 have e1:((m:Int) + (w:Int)).toNat = m + w:=by omega
 rw [e1,Zmf,Zov,Nat.add_sub_cancel_left]
theorem Zbp {l m:List Int} (h:l.length + m.length ≤ 1000):app? l m = some (l ++ m):=by unfold app?; rw [Zl7 (by unfold room; omega)]
theorem g0 {α:Type} {a:α} {l:List α}:get? (a :: l) 0 = some a:=rfl
theorem g1 {α:Type} {a b:α} {l:List α}:get? (a :: b :: l) 1 = some b:=rfl
theorem g2 {α:Type} {a b c:α} {l:List α}:get? (a :: b :: c :: l) 2 = some c:=rfl
theorem ZiC {l:List Int} (h:1 ≤ l.length) (h2:l.length ≤ 1000):get? l (w64 (len l - 1)) = some (l.getD (l.length - 1) 0):=by
 rw [Za,Zd (by omega) (by omega),show (l.length:Int) - 1 = ((l.length - 1:Nat):Int) by omega,get?_nat,Cc.getD_get (by omega)]
theorem ZiZ {t:D.Term} {ls:List (List Int)} (hb:nodeB t = true) (hs:CircP s.1) (h0:t.Op ≠ 0) (h22:t.Op ≠ 22) (hk:KK s t.Kids ls):sfin n t ls s = some ((fin t.Op t.W.toNat t.N.toNat ls s).1,net (fin t.Op t.W.toNat t.N.toNat ls s).2):=by
 obtain ⟨op,w,m,nm,ks⟩:=t
 obtain ⟨hw,hsh⟩:=Yi hb
 simp only at h0 h22 hk ⊢
 have eW:((w.toNat:Nat):Int) = w:=by omega
 unfold sfin
 simp only
 rcases hsh with ⟨rfl,-⟩ | ⟨rfl,-⟩ | ⟨ho,-,-,a,rfl,ha,haw⟩ | ⟨h3,h16,-,-,a,b,rfl,ha,hb',hab,h13,h14⟩ | ⟨rfl,-,-,a,b,c,rfl,ha,hb',hc,ha1,hbw,hcw⟩ | ⟨rfl,-,-,a,b,rfl,ha,hb',habw⟩ | ⟨rfl,-,hm0,hm1,a,rfl,ha,haw⟩ | ⟨ho,-,-,a,rfl,ha,haw⟩
 ·exact absurd rfl h0
 ·exact absurd rfl h22
 ·obtain ⟨la, r1, k1, hn1, rfl⟩ := KK1 hk
  obtain rfl:=KK0 hn1
  have hl:la.length = w.toNat:=by rw [k1.1,haw]
  rw [g0]
  simp only [Zl0]
  unfold fin
  simp only [ZlJ]
  rcases ho with rfl | rfl
  ·rw [Zl7 (by rfl), Zl7 (by trivial), Cc.spec_not hs.lines1 (by omega) k1.2]
   rfl
  ·rw [Zl4 (by decide), Zl7 (by rfl), Zl4 (by decide), Zl7 (by trivial), ← eW, ZdC (by omega), ZdM]
   simp only [Zl0,g0,g1,Zmf,Za,Zmp]
   by_cases c:w.toNat = 16
   ·rw [Zl7 (by simp; omega), Zl7 c, Cc.spec_fill (by omega)]
    rfl
   ·rw [Zl4 (by simp; omega), Zl4 c]
    have:=Cc.spec_op (fuel:=n) hs (op:=4) (a:=List.replicate w.toNat (-1)) (b:=la) (by omega) (by simp [hl]) (by simp; omega) (by simp; omega) (Zb0 hs) k1.2
    have this':ZJ n (D.l04Net.mk (D.Circuit.mk s.1.Inputs s.1.Gates) s.2) (cond ((2:Int) == 2) 4 2) (List.replicate w.toNat (-1)) la = _:=this
    rw [this']
    rfl
 ·obtain ⟨la, r1, k1, hn1, rfl⟩ := KK1 hk
  obtain ⟨lb,r2,k2,hn2,rfl⟩:=KK1 hn1
  obtain rfl:=KK0 hn2
  have hA:=ZK ha
  unfold fin
  simp only [ZlJ,Zma,g0,g1,Zl0]
  have bb:∀ k:Int,k ≤ 2 ∨ 17 ≤ k → (op == k) = false:=fun k hk=>by simp; omega
  have cc:∀ k:Int,k ≤ 2 ∨ 17 ≤ k → ¬ op = k:=fun k hk=>by omega
  simp only [bb 1 (by omega),bb 2 (by omega),bb 17 (by omega),bb 18 (by omega),bb 19 (by omega),bb 20 (by omega),bb 21 (by omega),cc 1 (by omega),cc 2 (by omega),cc 17 (by omega),cc 18 (by omega),cc 19 (by omega),cc 20 (by omega),cc 21 (by omega),Zl2,ZlC,cond_false]
  have hla:=k1.1
  by_cases c:la.length = 16
  ·rw [Zl7 (by rw [Za]; simp; omega), Zl7 c, ← eW, Cc.spec_fill (by omega)]
   simp only [Zmf]
   rfl
  ·rw [Zl4 (by rw [Za]; simp; omega), Zl4 c]
   have:=Cc.spec_op (fuel:=n) hs (op:=op) (a:=la) (b:=lb) ⟨h3,h16⟩ (by rw [k1.1,k2.1,hab]) (by omega) (by omega) k1.2 k2.2
   have this':ZJ n (D.l04Net.mk (D.Circuit.mk s.1.Inputs s.1.Gates) s.2) op la lb = _:=this
   rw [this']
   rfl
 ·obtain ⟨la, r1, k1, hn1, rfl⟩ := KK1 hk
  obtain ⟨lb,r2,k2,hn2,rfl⟩:=KK1 hn1
  obtain ⟨lc,r3,k3,hn3,rfl⟩:=KK1 hn2
  obtain rfl:=KK0 hn3
  unfold fin
  simp only [ZlJ,Zma,g0,g1,g2,Zl0]
  rw [Zl4 (by decide),Zl4 (by decide),Zl7 (by rfl)]
  rw [Zl4 (by omega),Zl4 (by omega),Zl7 (by trivial)]
  have hla:=k1.1
  have hlb:=k2.1
  have hlc:=k3.1
  rw [ha1] at hla
  rw [hbw] at hlb
  rw [hcw] at hlc
  have hl1:la.length = 1:=by simpa using hla
  have hg0:get? la 0 = some (la.getD 0 0):=by
   obtain ⟨z,hz⟩:=Zoa.1 hl1
   rw [hz]; rfl
  have hc0:litN (lines s.1) (la.getD 0 0) = true:=k1.2 _ (Cc.getD_mem (by omega))
  have hz:(lb.zip lc).length = w.toNat:=by rw [Zmk,hlb,hlc,Znt]
  rw [Cc.spec_seq (fuel:=n) hs (by omega) (Zhf hs hc0 k2.2 k3.2) (fun j out s' x hx hc' hg hout=>?_) (fun out s'=>?_)]
  ·rfl
  ·have hj : j < w.toNat := by have := (Zl5.1 hx).1; omega
   have hz2:=Cc.zip_mem hx
   have e:=Cc.spec_if (fuel:=n) hc' (Zaa hc0 hg) (Zaa (k2.2 _ (ZlH hz2.1)) hg) (Zaa (k3.2 _ (ZlH hz2.2)) hg)
   have e':Zh n (D.l04Net.mk (D.Circuit.mk s'.1.Inputs s'.1.Gates) s'.2) (la.getD 0 0) x.1 x.2 = _:=e
   simp only
   rw [Zl7 (by simp; omega),hg0]
   simp only [Zl0]
   rw [get?_nat,get?_nat,hz2.1,hz2.2]
   simp only [Zl0,e']
   rw [Zbp (by simp; omega)]
   simp only [Zl0]
   rw [Zd (by omega) (by omega)]
   rfl
  ·simp only
   rw [Zl4 (by simp; omega)]
 ·obtain ⟨la, r1, k1, hn1, rfl⟩ := KK1 hk
  obtain ⟨lb,r2,k2,hn2,rfl⟩:=KK1 hn1
  obtain rfl:=KK0 hn2
  have hA:=ZK ha
  have hB:=ZK hb'
  have hla:=k1.1
  have hlb:=k2.1
  unfold fin
  simp only [ZlJ,Zma,g0,g1,Zl0]
  rw [Zl4 (by decide),Zl4 (by decide),Zl4 (by decide),Zl7 (by rfl)]
  rw [Zl4 (by omega),Zl4 (by omega),Zl4 (by omega),Zl7 (by trivial)]
  rw [Zbp (by simp; omega)]
  simp only [Zl0,Zn7]
  rw [Zbp (by omega)]
  rfl
 ·obtain ⟨la, r1, k1, hn1, rfl⟩ := KK1 hk
  obtain rfl:=KK0 hn1
  have hA:=ZK ha
  have hla:=k1.1
  unfold fin
  simp only [ZlJ,g0,Zl0]
  rw [Zl4 (by decide),Zl4 (by decide),Zl4 (by decide),Zl4 (by decide),Zl7 (by rfl)]
  rw [Zl4 (by omega),Zl4 (by omega),Zl4 (by omega),Zl4 (by omega),Zl7 (by trivial)]
  have:=Zhp (l:=la) (m:=m.toNat) (w:=w.toNat) (by omega) (by omega)
  rw [show ((m.toNat:Nat):Int) = m by omega,eW] at this
  rw [this]
  rfl
 ·obtain ⟨la, r1, k1, hn1, rfl⟩ := KK1 hk
  obtain rfl:=KK0 hn1
  have hA:=ZK ha
  have hla:=k1.1
  have e:w64 (w - len la) = ((w.toNat - la.length:Nat):Int):=by rw [Za,Zd (by omega) (by omega)]; omega
  unfold fin
  simp only [ZlJ,g0,Zl0]
  rcases ho with rfl | rfl
  ·rw [Zl4 (by decide), Zl4 (by decide), Zl4 (by decide), Zl4 (by decide), Zl4 (by decide), Zl7 (by rfl)]
   rw [Zl4 (by omega),Zl4 (by omega),Zl4 (by omega),Zl4 (by omega),Zl4 (by omega),Zl7 (by trivial)]
   rw [Zbp (by simp; omega),e,Cc.spec_fill (by omega)]
   simp only [Zl0,Zn7]
   rw [Zbp (by simp; omega)]
   rfl
  ·rw [Zl4 (by decide), Zl4 (by decide), Zl4 (by decide), Zl4 (by decide), Zl4 (by decide), Zl4 (by decide), Zl7 (by rfl)]
   rw [Zl4 (by omega),Zl4 (by omega),Zl4 (by omega),Zl4 (by omega),Zl4 (by omega),Zl4 (by omega),Zl7 (by trivial)]
   rw [Zbp (by simp; omega),ZiC (by omega) (by omega)]
   simp only [Zl0,Zn7]
   rw [e,Cc.spec_fill (by omega)]
   simp only [Zl0]
   rw [Zbp (by simp; omega)]
   rfl
end
section
variable {vs:List D.Value} (hp:vs.Pairwise fun x y=>x.Name ≠ y.Name) (hw16:∀ v ∈ vs,v.W ≤ 16)
include hp hw16
theorem ZjF:∀ (n:Nat) (t:D.Term) (s:BS),1048600 + cnt t ≤ n → nodeB t = true → TV vs t → CircP s.1 → VF vs s.1 → ZG n (net s) t vs = some ((nP vs t s).1,net (nP vs t s).2):=by
  intro n
  induction n with
  | zero=>intro t s h; omega
  | succ n ih =>
    intro t s hn hb ht hs hv
    haveI:FU n:=⟨by omega⟩
    have hw:=ZK hb
    have hcn:=Xm t
    have hlen:vs.length ≤ 30:=by have:=Zfv (l:=vs) (a:=0) hv.w1; have:=hv.sum; have:=hs.i1; omega
    have eW:((t.W.toNat:Nat):Int) = t.W:=by omega
    rw [ZG,Zgb]
    by_cases h0:t.Op = 0
    · rw [Zl7 (by simpa using h0), Zl7 h0, ← eW, ZdC (by omega)]
      simp only [Zl0,Zmf]
    rw [Zl4 (by simpa using h0),Zl4 h0]
    by_cases h22:t.Op = 22
    · rw [Zl7 (by simpa using h22), Zl7 h22, at_loop (by omega) (fun v hv' => ⟨hv.w1 v hv', hw16 v hv'⟩)]
      simp only [Zl0]
      have h1:=(Zjb (s:=t.Name) hv.w1 (a:=1))
      have h2:=ZbX (vs.map (·.W)) 1 0
      rw [show (1:Int) + 0 = 1 from rfl,hv.sum] at h2
      rw [h2] at h1
      have:=hs.i1
      rw [← eW,ZhP (by omega) h1.1 (by omega)]
      simp only [Zl0,Zmf]
      rfl
    rw [Zl4 (by simpa using h22),Zl4 h22]
    have hkg:∀ x ∈ t.Kids,∀ s:BS,CircP s.1 → VF vs s.1 → GoodL s x.W.toNat (nP vs x s):=fun x hx s' hs' hv'=>Zbd hp _ x s' (ZlG _) (nodeK hb x hx) (Zbk ht h22 hx) hs' hv'
    obtain ⟨q1,q2,q3⟩:=Za2 t.Kids s hkg hs hv
    have hkl:t.Kids.length ≤ 3:=by
      obtain ⟨op,w,m,nm,ks⟩:=t
      obtain ⟨-,hsh⟩:=Yi hb
      rcases hsh with ⟨-,rfl,-⟩ | ⟨-,rfl,-⟩ | ⟨-,-,-,a,rfl,-⟩ | ⟨-,-,-,-,a,b,rfl,-⟩ | ⟨-,-,-,a,b,c,rfl,-⟩ | ⟨-,-,-,a,b,rfl,-⟩ | ⟨-,-,-,-,a,rfl,-⟩ | ⟨-,-,-,a,rfl,-⟩ <;> simp
    obtain ⟨r,g1,g2⟩:=Y9 (l:=t.Kids) (n:=n) (σ:=List (List Int) × BS) (ρ:=(List (List Int)) × Int × Bool × (List D.Gate)) (B:=fun (s3:Int × (List (List Int)) × Int × Bool × (List D.Gate))=>
      if (decide (s3.1 < (len t.Kids))) then
       (get? t.Kids s3.1).bind fun x4=>
       (ZG n (D.l04Net.mk (D.Circuit.mk s3.2.2.1 s3.2.2.2.2) s3.2.2.2.1) x4 vs).bind fun x5=>
       (app? s3.2.1 ([x5.1]:List (List Int))).bind fun x6=>
       some (.inl ((w64 (s3.1 + 1)),x6,x5.2.c.Inputs,x5.2.full,x5.2.c.Gates))
      else
       some (.inr (s3.2.1,s3.2.2.1,s3.2.2.2.1,s3.2.2.2.2))) (fun k a=>((k:Int),a.1,a.2.1.Inputs,a.2.2,a.2.1.Gates))
      (fun ys a=>a.1 ++ (nPs vs ys a.2).1 = (nPs vs t.Kids s).1 ∧ (nPs vs ys a.2).2 = (nPs vs t.Kids s).2 ∧ CircP a.2.1 ∧ VF vs a.2.1 ∧ a.1.length + ys.length = t.Kids.length ∧ ∀ y ∈ ys,y ∈ t.Kids)
      (fun r=>r = ((nPs vs t.Kids s).1,(nPs vs t.Kids s).2.1.Inputs,(nPs vs t.Kids s).2.2,(nPs vs t.Kids s).2.1.Gates))
      (fun k x xs a hk hx hlen' ⟨h1,h2,h3,h4,h5,h6⟩=>by
        have hd:decide ((k:Int) < len t.Kids) = true:=by rw [Za]; simp; omega
        have hxk:=h6 x (by simp)
        have hc:=Xe hxk
        have e:=ih x a.2 (by omega) (nodeK hb x hxk) (Zbk ht h22 hxk) h3 h4
        have e':ZG n (D.l04Net.mk (D.Circuit.mk a.2.1.Inputs a.2.1.Gates) a.2.2) x vs = _:=e
        have g:=hkg x hxk a.2 h3 h4
        simp only [ZlP] at h5
        simp only [hd,ZlU,get?_nat,hx,Zl0,e']
        rw [show app? a.1 [(nP vs x a.2).1] = some (a.1 ++ [(nP vs x a.2).1]) from by unfold app?; rw [Zl7 (by simp; unfold room; omega)]]
        simp only [Zl0]
        rw [Zd (by omega) (by omega)]
        rw [ZbH] at h1 h2
        exact .inl ⟨(a.1 ++ [(nP vs x a.2).1],(nP vs x a.2).2),rfl,by rw [← h1]; simp,h2,g.circ,h4.mono g.grow,by simp; omega,fun y hy=>h6 y (by simp [hy])⟩)
      (fun a ⟨h1,h2,h3,h4,h5,h6⟩=>by
        have hd:decide ((t.Kids.length:Int) < len t.Kids) = false:=by rw [Za]; simp
        simp only [hd,Zl2,ZlC]
        rw [Zdp] at h1 h2
        simp only [ZmK] at h1
        exact ⟨_,rfl,by rw [← h1,← h2]⟩) (a:=([],s)) ⟨by simp,rfl,hs,hv,by simp,fun _ h=>h⟩ (by omega)
    rw [show ((0:Nat):Int) = 0 from rfl] at g1
    have g1':=g1
    rw [show ((([]:List (List Int)),s).1) = [] from rfl] at g1'
    rw [show (net s).c.Inputs = s.1.Inputs from rfl,show (net s).full = s.2 from rfl,show (net s).c.Gates = s.1.Gates from rfl,g1',g2]
    simp only [Zl0]
    exact ZiZ hb q1 h0 h22 q3
end
def wide1 (t:D.Term):Bool:=(t.Op == 2 || decide (3 ≤ t.Op ∧ t.Op ≤ 16)) && (match t.Kids with | a :: _=>a.W == 16 | []=>false)
mutual
def wideB:D.Term → Bool
 | ⟨op,w,m,nm,ks⟩=>wide1 ⟨op,w,m,nm,ks⟩ || wideBs ks
def wideBs:List D.Term → Bool
 | []=>false
 | t :: l=>wideB t || wideBs l
end
theorem Za0 (t:D.Term):wideB t = (wide1 t || wideBs t.Kids):=by cases t; rw [wideB]
theorem Zb8 (t:D.Term) (l:List D.Term):wideBs (t :: l) = (wideB t || wideBs l):=by rw [wideBs]
theorem Zbf:wideBs [] = false:=by rw [wideBs]
theorem Zcj {x:D.Term}:∀ {l:List D.Term},wideBs l = false → x ∈ l → wideB x = false
 | y :: l,h,hx=>by
  rw [Zb8,Znm] at h
  rcases Zmd.1 hx with rfl | hx
  ·exact h.1
  ·exact Zcj h.2 hx
theorem Zie:∀ (n:Nat) (t:D.Term),1048600 + cnt t ≤ n → nodeB t = true → YN n t = some (wideB t):=by
  intro n
  induction n with
  | zero=>intro t h; omega
  | succ n ih =>
    intro t hn hb
    have hcn:=Xm t
    have hkl:t.Kids.length ≤ 3:=by
      obtain ⟨op,w,m,nm,ks⟩:=t
      obtain ⟨-,hsh⟩:=Yi hb
      rcases hsh with ⟨-,rfl,-⟩ | ⟨-,rfl,-⟩ | ⟨-,-,-,a,rfl,-⟩ | ⟨-,-,-,-,a,b,rfl,-⟩ | ⟨-,-,-,a,b,c,rfl,-⟩ | ⟨-,-,-,a,b,rfl,-⟩ | ⟨-,-,-,-,a,rfl,-⟩ | ⟨-,-,-,a,rfl,-⟩ <;> simp
    have hone:((if (t.Op == 2) then some default else (Xg t.Op)).bind fun x1=>(if ((t.Op == 2) || x1) then (get? t.Kids 0) else some default).bind fun x2=>some (((t.Op == 2) || x1) && (x2.W == 16))) = some (wide1 t):=by
      have hk:(t.Op = 2 ∨ 3 ≤ t.Op ∧ t.Op ≤ 16) → ∃ a l,t.Kids = a :: l:=fun ho=>by
        obtain ⟨op,w,m,nm,ks⟩:=t
        obtain ⟨-,hsh⟩:=Yi hb
        simp only at ho
        rcases hsh with ⟨rfl,-⟩ | ⟨rfl,-⟩ | ⟨-,-,-,a,rfl,-⟩ | ⟨-,-,-,-,a,b,rfl,-⟩ | ⟨rfl,-⟩ | ⟨rfl,-⟩ | ⟨rfl,-⟩ | ⟨h1,-⟩
        · omega
        · omega
        · exact ⟨_,_,rfl⟩
        · exact ⟨_,_,rfl⟩
        · omega
        · omega
        · omega
        · omega
      unfold wide1 Xg
      by_cases h2:t.Op = 2
      · obtain ⟨a, l, hl⟩ := hk (.inl h2)
        simp [h2,hl,g0]
      · have b2 : (t.Op == 2) = false := by simpa using h2
        by_cases h3:3 ≤ t.Op ∧ t.Op ≤ 16
        · obtain ⟨a, l, hl⟩ := hk (.inr h3)
          simp [b2,hl,g0,h3]
        · have : ¬ (t.Op ≥ 3 ∧ t.Op ≤ 16) := h3
          have e:(decide (t.Op ≥ 3) && decide (t.Op ≤ 16)) = false:=by simp; omega
          simp [b2,e,h3]
    rw [YN,Za0]
    obtain ⟨y1,hy1,hone⟩:=ZmF.1 hone
    obtain ⟨y2,hy2,hone⟩:=ZmF.1 hone
    rw [hy1]
    simp only [Zl0]
    rw [hy2]
    simp only [Zl0]
    rw [Option.some.inj hone]
    cases hw1:wide1 t
    · simp only [Zl2, ZlC, Zmz]
      obtain ⟨r,g1,g2⟩:=Y9 (l:=t.Kids) (n:=n) (σ:=Unit) (ρ:=Unit ⊕ Bool) (B:=fun (s1:Int)=>
        if (decide (s1 < (len t.Kids))) then
         (get? t.Kids s1).bind fun x3=>
         (YN n x3).bind fun x4=>
         if x4 then
          some (.inr (.inr true))
         else
          some (.inl ((w64 (s1 + 1))))
        else
         some (.inr (.inl ()))) (fun k _=>(k:Int)) (fun ys _=>wideBs ys = wideBs t.Kids ∧ ∀ y ∈ ys,y ∈ t.Kids) (fun r=>r = if wideBs t.Kids = true then (.inr true:Unit ⊕ Bool) else .inl ())
        (fun k x xs a hk hx hlen ⟨h1,h2⟩=>by
          have hd:decide ((k:Int) < len t.Kids) = true:=by rw [Za]; simp; omega
          have hxk:=h2 x (by simp)
          have hc:=Xe hxk
          simp only [hd,ZlU,get?_nat,hx,Zl0,ih x (by omega) (nodeK hb x hxk)]
          rw [Zb8] at h1
          cases hx':wideB x
          · rw [hx'] at h1
            simp only [Zmz] at h1
            simp only [Zl2,ZlC]
            exact .inl ⟨(),by rw [Zd (by omega) (by omega)]; rfl,h1,fun y hy=>h2 y (by simp [hy])⟩
          · rw [hx'] at h1
            simp only [Zog] at h1
            exact .inr ⟨_,rfl,by rw [← h1]; rfl⟩)
        (fun a ⟨h1,_⟩=>by
          have hd:decide ((t.Kids.length:Int) < len t.Kids) = false:=by rw [Za]; simp
          simp only [hd,Zl2,ZlC]
          rw [Zbf] at h1
          exact ⟨_,rfl,by rw [← h1]; rfl⟩) (a:=()) ⟨rfl,fun _ h=>h⟩ (by omega)
      rw [show ((0:Nat):Int) = 0 from rfl] at g1
      rw [g1,g2]
      cases wideBs t.Kids <;> rfl
    · rfl
theorem Zf2 {n:Nat} {x:Int} {w:Nat} (hw:w ≤ 16):∀ (d:Nat) (l:List Int),l.length + d = w → d < n → iterN (fun (s3:(List Int))=>
           if (decide ((len s3) < (w:Int))) then
            (app? s3 ([x]:List Int)).bind fun x24=>
            some (.inl (x24))
           else
            some (.inr (s3))
          ) n l = some (l ++ List.replicate d x)
  | 0, l, h, hn => by
    obtain ⟨n,rfl⟩ : ∃ j,n = j + 1:=⟨n - 1,by omega⟩
    rw [iterN]
    rw [Zl4 (by rw [Za]; simp; omega)]
    simp
  | d + 1, l, h, hn => by
    obtain ⟨n,rfl⟩ : ∃ j,n = j + 1:=⟨n - 1,by omega⟩
    rw [iterN]
    rw [Zl7 (by rw [Za]; simp; omega),Zbp (by simp; omega)]
    simp only [Zl0]
    rw [Zf2 hw d (l ++ [x]) (by simp; omega) (by omega)]
    rw [Zmq,Zmt,← Zn4]
section
variable {n:Nat} [FU n] {s:BS}
def ifin (n:Nat) (p1:D.Term) (ls:List (List Int)) (m:D.builder):Option ((List Int) × D.builder):=
   (get? ls 0).bind fun x8=>
   if (p1.Op == 1) then
    (Yg n x8).bind fun x9=>
    some (x9,(D.builder.mk (D.Circuit.mk m.c.Inputs m.c.Gates) m.line m.full))
   else
    if (p1.Op == 2) then
     (ZX n p1.W 0).bind fun x10=>
     (Z5 n (D.builder.mk (D.Circuit.mk m.c.Inputs m.c.Gates) m.line m.full) 4 x10 x8).bind fun x11=>
     some (x11.1,x11.2)
    else
     if (p1.Op == 17) then
      (mk? p1.W (0:Int)).bind fun x12 =>
      (iterN (fun (s2 : Int × (List Int) × Int × Bool × (List D.Gate) × (List (D.Gate × Int))) =>
       if (decide (s2.1 < (len x12))) then
        (get? x8 0).bind fun x13=>
        (get? ls 1).bind fun x14=>
        (get? x14 s2.1).bind fun x15=>
        (get? ls 2).bind fun x16=>
        (get? x16 s2.1).bind fun x17=>
        (Zb (D.builder.mk (D.Circuit.mk s2.2.2.1 s2.2.2.2.2.1) s2.2.2.2.2.2 s2.2.2.2.1) x13 x15 x17).bind fun x18=>
        (set? s2.2.1 s2.1 x18.1).bind fun x19=>
        some (.inl ((w64 (s2.1 + 1)),x19,x18.2.c.Inputs,x18.2.full,x18.2.c.Gates,x18.2.line))
       else
        some (.inr (s2.2.1,s2.2.2.1,s2.2.2.2.1,s2.2.2.2.2.1,s2.2.2.2.2.2))
      ) n (0,x12,m.c.Inputs,m.full,m.c.Gates,m.line)).bind fun (rl2:(List Int) × Int × Bool × (List D.Gate) × (List (D.Gate × Int)))=>
      some (rl2.1,(D.builder.mk (D.Circuit.mk rl2.2.1 rl2.2.2.2.1) rl2.2.2.2.2 rl2.2.2.1))
     else
      if (p1.Op == 18) then
       (get? ls 1).bind fun x20=>
       (app? x20 x8).bind fun x21=>
       some (x21,(D.builder.mk (D.Circuit.mk m.c.Inputs m.c.Gates) m.line m.full))
      else
       if (p1.Op == 19) then
        (cut? x8 p1.N (w64 (p1.N + p1.W))).bind fun x22=>
        some (x22,(D.builder.mk (D.Circuit.mk m.c.Inputs m.c.Gates) m.line m.full))
       else
        if ((p1.Op == 20) || (p1.Op == 21)) then
         if (p1.Op == 21) then
          (get? x8 (w64 ((len x8) - 1))).bind fun x23 =>
          (iterN (fun (s3 : (List Int)) =>
           if (decide ((len s3) < p1.W)) then
            (app? s3 ([x23]:List Int)).bind fun x24=>
            some (.inl (x24))
           else
            some (.inr (s3))
          ) n (x8)).bind fun (rl3:(List Int))=>
          some (rl3,(D.builder.mk (D.Circuit.mk m.c.Inputs m.c.Gates) m.line m.full))
         else
          (iterN (fun (s4 : (List Int)) =>
           if (decide ((len s4) < p1.W)) then
            (app? s4 ([(-1)]:List Int)).bind fun x25=>
            some (.inl (x25))
           else
            some (.inr (s4))
          ) n (x8)).bind fun (rl4:(List Int))=>
          some (rl4,(D.builder.mk (D.Circuit.mk m.c.Inputs m.c.Gates) m.line m.full))
        else
         (get? ls 1).bind fun x26=>
         (Z5 n (D.builder.mk (D.Circuit.mk m.c.Inputs m.c.Gates) m.line m.full) p1.Op x8 x26).bind fun x27=>
         some (x27.1,x27.2)
theorem ZiH {t:D.Term} {ls:List (List Int)} {m:D.builder} (hb:nodeB t = true) (hwd:wide1 t = false) (hs:CircP s.1) (hm:RelB m s) (h0:t.Op ≠ 0) (h22:t.Op ≠ 22) (hk:KK s t.Kids ls):∃ m',ifin n t ls m = some ((fin t.Op t.W.toNat t.N.toNat ls s).1,m') ∧ RelB m' (fin t.Op t.W.toNat t.N.toNat ls s).2:=by
  obtain ⟨op,w,mm,nm,ks⟩:=t
  obtain ⟨hw,hsh⟩:=Yi hb
  simp only at h0 h22 hk ⊢
  have eW:((w.toNat:Nat):Int) = w:=by omega
  unfold ifin
  simp only
  rcases hsh with ⟨rfl,-⟩ | ⟨rfl,-⟩ | ⟨ho,-,-,a,rfl,ha,haw⟩ | ⟨h3,h16,-,-,a,b,rfl,ha,hb',hab,h13,h14⟩ | ⟨rfl,-,-,a,b,c,rfl,ha,hb',hc,ha1,hbw,hcw⟩ | ⟨rfl,-,-,a,b,rfl,ha,hb',habw⟩ | ⟨rfl,-,hm0,hm1,a,rfl,ha,haw⟩ | ⟨ho,-,-,a,rfl,ha,haw⟩
  · exact absurd rfl h0
  · exact absurd rfl h22
  · obtain ⟨la, r1, k1, hn1, rfl⟩ := KK1 hk
    obtain rfl:=KK0 hn1
    have hl:la.length = w.toNat:=by rw [k1.1,haw]
    rw [g0]
    simp only [Zl0]
    unfold fin
    simp only [ZlJ]
    rcases ho with rfl | rfl
    · rw [Zl7 (by rfl), Zl7 (by trivial), Cc.impl_opp hs.lines1 (by omega) k1.2]
      exact ⟨m,rfl,hm⟩
    · have hne:¬ w.toNat = 16:=fun e=>by
        have:a.W = 16:=by omega
        simp [wide1,this] at hwd
      rw [Zl4 (by decide),Zl7 (by rfl),Zl4 (by decide),Zl7 (by trivial),← eW,ZdF (by omega),ZdM]
      simp only [Zl0,Zmf]
      rw [Zl4 hne]
      obtain ⟨m',e,r⟩:=Cc.impl_op (fuel:=n) hs (op:=4) (a:=List.replicate w.toNat (-1)) (b:=la) (by omega) (by simp [hl]) (by simp; omega) (by simp; omega) (Zb0 hs) k1.2 hm
      have e':Z5 n (D.builder.mk (D.Circuit.mk m.c.Inputs m.c.Gates) m.line m.full) 4 (List.replicate w.toNat (-1)) la = _:=e
      rw [e']
      exact ⟨m',rfl,r⟩
  · obtain ⟨la, r1, k1, hn1, rfl⟩ := KK1 hk
    obtain ⟨lb,r2,k2,hn2,rfl⟩:=KK1 hn1
    obtain rfl:=KK0 hn2
    have hA:=ZK ha
    have hla:=k1.1
    have hne:¬ la.length = 16:=fun e=>by
      have:a.W = 16:=by omega
      simp [wide1,this] at hwd
      omega
    unfold fin
    simp only [ZlJ,Zma,g0,g1,Zl0]
    have bb:∀ k:Int,k ≤ 2 ∨ 17 ≤ k → (op == k) = false:=fun k hk=>by simp; omega
    have cc:∀ k:Int,k ≤ 2 ∨ 17 ≤ k → ¬ op = k:=fun k hk=>by omega
    simp only [bb 1 (by omega),bb 2 (by omega),bb 17 (by omega),bb 18 (by omega),bb 19 (by omega),bb 20 (by omega),bb 21 (by omega),cc 1 (by omega),cc 2 (by omega),cc 17 (by omega),cc 18 (by omega),cc 19 (by omega),cc 20 (by omega),cc 21 (by omega),Zl2,ZlC,Znn]
    rw [Zl4 hne]
    obtain ⟨m',e,r⟩:=Cc.impl_op (fuel:=n) hs (op:=op) (a:=la) (b:=lb) ⟨h3,h16⟩ (by rw [k1.1,k2.1,hab]) (by omega) (by omega) k1.2 k2.2 hm
    have e':Z5 n (D.builder.mk (D.Circuit.mk m.c.Inputs m.c.Gates) m.line m.full) op la lb = _:=e
    rw [e']
    exact ⟨m',rfl,r⟩
  · obtain ⟨la, r1, k1, hn1, rfl⟩ := KK1 hk
    obtain ⟨lb,r2,k2,hn2,rfl⟩:=KK1 hn1
    obtain ⟨lc,r3,k3,hn3,rfl⟩:=KK1 hn2
    obtain rfl:=KK0 hn3
    unfold fin
    simp only [ZlJ,Zma,g0,g1,g2,Zl0]
    rw [Zl4 (by decide),Zl4 (by decide),Zl7 (by rfl)]
    rw [Zl4 (by omega),Zl4 (by omega),Zl7 (by trivial)]
    have hla:=k1.1
    have hlb:=k2.1
    have hlc:=k3.1
    rw [ha1] at hla
    rw [hbw] at hlb
    rw [hcw] at hlc
    have hl1:la.length = 1:=by simpa using hla
    have hg0:get? la 0 = some (la.getD 0 0):=by
      obtain ⟨z,hz⟩:=Zoa.1 hl1
      rw [hz]; rfl
    have hc0:litN (lines s.1) (la.getD 0 0) = true:=k1.2 _ (Cc.getD_mem (by omega))
    have hz:(lb.zip lc).length = w.toNat:=by rw [Zmk,hlb,hlc,Znt]
    rw [show mk? w (0:Int) = some (List.replicate w.toNat 0) from by unfold mk?; rw [Zl7 ⟨by omega,by unfold room; omega⟩]]
    simp only [Zl0]
    obtain ⟨m',e,r⟩:=Cc.impl_seq (fuel:=n) (B:=(fun (s2:Int × (List Int) × Int × Bool × (List D.Gate) × (List (D.Gate × Int)))=>
       if (decide (s2.1 < (len (List.replicate w.toNat (0:Int))))) then
        (get? la 0).bind fun x13=>
        (get? lb s2.1).bind fun x15=>
        (get? lc s2.1).bind fun x17=>
        (Zb (D.builder.mk (D.Circuit.mk s2.2.2.1 s2.2.2.2.2.1) s2.2.2.2.2.2 s2.2.2.2.1) x13 x15 x17).bind fun x18=>
        (set? s2.2.1 s2.1 x18.1).bind fun x19=>
        some (.inl ((w64 (s2.1 + 1)),x19,x18.2.c.Inputs,x18.2.full,x18.2.c.Gates,x18.2.line))
       else
        some (.inr (s2.2.1,s2.2.2.1,s2.2.2.2.1,s2.2.2.2.2.1,s2.2.2.2.2.2)))) hs (by omega) (Zhf hs hc0 k2.2 k3.2) (L0:=List.replicate w.toNat 0) (by rw [hz,Zmp]) (fun j L m1 s' x hx hc' hg hr hL _=>by
          have hj:j < w.toNat:=by have:=(Zl5.1 hx).1; omega
          have hz2:=Cc.zip_mem hx
          obtain ⟨m4,e4,r4⟩:=Cc.impl_if hc' (Zaa hc0 hg) (Zaa (k2.2 _ (ZlH hz2.1)) hg) (Zaa (k3.2 _ (ZlH hz2.2)) hg) m1 hr
          have e4':Zb (D.builder.mk (D.Circuit.mk m1.c.Inputs m1.c.Gates) m1.line m1.full) (la.getD 0 0) x.1 x.2 = _:=e4
          refine ⟨m4,?_,r4⟩
          simp only
          rw [Zl7 (by rw [Za]; simp; omega),hg0]
          simp only [Zl0]
          rw [get?_nat,get?_nat,hz2.1,hz2.2]
          simp only [Zl0,e4']
          rw [set?_nat (by omega)]
          simp only [Zl0]
          rw [Zd (by omega) (by omega)]
          rfl) (fun L m1=>by
          simp only
          rw [Zl4 (by rw [Za]; simp; omega)]) hm
    rw [e]
    exact ⟨m',rfl,r⟩
  · obtain ⟨la, r1, k1, hn1, rfl⟩ := KK1 hk
    obtain ⟨lb,r2,k2,hn2,rfl⟩:=KK1 hn1
    obtain rfl:=KK0 hn2
    have hA:=ZK ha
    have hB:=ZK hb'
    have hla:=k1.1
    have hlb:=k2.1
    unfold fin
    simp only [ZlJ,Zma,g0,g1,Zl0]
    rw [Zl4 (by decide),Zl4 (by decide),Zl4 (by decide),Zl7 (by rfl)]
    rw [Zl4 (by omega),Zl4 (by omega),Zl4 (by omega),Zl7 (by trivial)]
    rw [Zbp (by omega)]
    exact ⟨m,rfl,hm⟩
  · obtain ⟨la, r1, k1, hn1, rfl⟩ := KK1 hk
    obtain rfl:=KK0 hn1
    have hA:=ZK ha
    have hla:=k1.1
    unfold fin
    simp only [ZlJ,g0,Zl0]
    rw [Zl4 (by decide),Zl4 (by decide),Zl4 (by decide),Zl4 (by decide),Zl7 (by rfl)]
    rw [Zl4 (by omega),Zl4 (by omega),Zl4 (by omega),Zl4 (by omega),Zl7 (by trivial)]
    have:=Zhp (l:=la) (m:=mm.toNat) (w:=w.toNat) (by omega) (by omega)
    rw [show ((mm.toNat:Nat):Int) = mm by omega,eW] at this
    rw [this]
    exact ⟨m,rfl,hm⟩
  · obtain ⟨la, r1, k1, hn1, rfl⟩ := KK1 hk
    obtain rfl:=KK0 hn1
    have hA:=ZK ha
    have hla:=k1.1
    have hpad:∀ x:Int,_:=fun x=>Zf2 (n:=n) (x:=x) (w:=w.toNat) (by omega) (w.toNat - la.length) la (by omega) (by have:=FU.le (n:=n); omega)
    rw [eW] at hpad
    unfold fin
    simp only [ZlJ,g0,Zl0]
    rcases ho with rfl | rfl
    · rw [Zl4 (by decide), Zl4 (by decide), Zl4 (by decide), Zl4 (by decide), Zl4 (by decide), Zl7 (by rfl), Zl4 (by decide)]
      rw [Zl4 (by omega),Zl4 (by omega),Zl4 (by omega),Zl4 (by omega),Zl4 (by omega),Zl7 (by trivial)]
      rw [hpad]
      exact ⟨m,rfl,hm⟩
    · rw [Zl4 (by decide), Zl4 (by decide), Zl4 (by decide), Zl4 (by decide), Zl4 (by decide), Zl7 (by rfl), Zl7 (by rfl)]
      rw [Zl4 (by omega),Zl4 (by omega),Zl4 (by omega),Zl4 (by omega),Zl4 (by omega),Zl4 (by omega),Zl7 (by trivial)]
      rw [ZiC (by omega) (by omega)]
      simp only [Zl0]
      rw [hpad]
      exact ⟨m,rfl,hm⟩
end
def MapOk (vs:List D.Value) (mp:List (Str × List Int)):Prop:=∀ v ∈ vs,v.Name.bytes.length ≤ 1000 ∧ (mp.lookup v.Name).getD [] = varL vs v.Name v.W.toNat
section
variable {vs:List D.Value} (hp:vs.Pairwise fun x y=>x.Name ≠ y.Name) {mp:List (Str × List Int)} (hmp:MapOk vs mp)
include hp hmp
theorem Zi2:∀ (n:Nat) (t:D.Term) (s:BS) (m:D.builder),1048600 + cnt t ≤ n → nodeB t = true → wideB t = false → TV vs t → CircP s.1 → VF vs s.1 → RelB m s → ∃ m',ZH n m t (some mp) = some ((nP vs t s).1,m') ∧ RelB m' (nP vs t s).2:=by
  intro n
  induction n with
  | zero=>intro t s m h; omega
  | succ n ih =>
    intro t s m hn hb hwd ht hs hv hm
    haveI:FU n:=⟨by omega⟩
    have hw:=ZK hb
    have hcn:=Xm t
    have eW:((t.W.toNat:Nat):Int) = t.W:=by omega
    rw [Za0,Znm] at hwd
    rw [ZH,Zgb]
    by_cases h0:t.Op = 0
    · rw [Zl7 (by simpa using h0), Zl7 h0, ← eW, ZdF (by omega)]
      simp only [Zl0,Zmf]
      exact ⟨m,rfl,hm⟩
    rw [Zl4 (by simpa using h0),Zl4 h0]
    by_cases h22:t.Op = 22
    · rw [Zl7 (by simpa using h22), Zl7 h22]
      obtain ⟨v,hv1,hv2,hv3⟩:=ht (t.Name,t.W) (by rw [XM,Zl7 h22]; simp)
      simp only at hv2 hv3
      obtain ⟨q1,q2⟩:=hmp v hv1
      rw [hv2] at q1 q2
      rw [hv3] at q2
      have e:mgeto? fitS ([]:List Int) (some mp) t.Name = some (varL vs t.Name t.W.toNat):=by
        unfold mgeto? mget?
        rw [Zl7 (by unfold fitS; simp; omega)]
        exact congrArg some q2
      rw [e]
      simp only [Zl0]
      rw [show Ze (varL vs t.Name t.W.toNat) = some (varL vs t.Name t.W.toNat) from by unfold Ze; rw [Zbp (by rw [ZdS]; simp; omega)]; rfl]
      exact ⟨m,rfl,hm⟩
    rw [Zl4 (by simpa using h22),Zl4 h22]
    have hkg:∀ x ∈ t.Kids,∀ s:BS,CircP s.1 → VF vs s.1 → GoodL s x.W.toNat (nP vs x s):=fun x hx s' hs' hv'=>Zbd hp _ x s' (ZlG _) (nodeK hb x hx) (Zbk ht h22 hx) hs' hv'
    obtain ⟨q1,q2,q3⟩:=Za2 t.Kids s hkg hs hv
    have hkl:t.Kids.length ≤ 3:=by
      obtain ⟨op,w,m,nm,ks⟩:=t
      obtain ⟨-,hsh⟩:=Yi hb
      rcases hsh with ⟨-,rfl,-⟩ | ⟨-,rfl,-⟩ | ⟨-,-,-,a,rfl,-⟩ | ⟨-,-,-,-,a,b,rfl,-⟩ | ⟨-,-,-,a,b,c,rfl,-⟩ | ⟨-,-,-,a,b,rfl,-⟩ | ⟨-,-,-,-,a,rfl,-⟩ | ⟨-,-,-,a,rfl,-⟩ <;> simp
    rw [show mk? (len t.Kids) (([]:List Int):List Int) = some (List.replicate t.Kids.length []) from by rw [Za]; unfold mk?; rw [Zl7 ⟨by omega,by unfold room; omega⟩]; simp]
    simp only [Zl0]
    obtain ⟨r,g1,m',rfl,g2⟩:=Y9 (l:=t.Kids) (n:=n) (σ:=List (List Int) × D.builder) (ρ:=Int × Bool × (List D.Gate) × (List (D.Gate × Int)) × (List (List Int))) (B:=fun (s1:Int × Int × Bool × (List D.Gate) × (List (D.Gate × Int)) × (List (List Int)))=>
      if (decide (s1.1 < (len t.Kids))) then
       (get? t.Kids s1.1).bind fun x5=>
       (ZH n (D.builder.mk (D.Circuit.mk s1.2.1 s1.2.2.2.1) s1.2.2.2.2.1 s1.2.2.1) x5 (some mp)).bind fun x6=>
       (set? s1.2.2.2.2.2 s1.1 x6.1).bind fun x7=>
       some (.inl ((w64 (s1.1 + 1)),x6.2.c.Inputs,x6.2.full,x6.2.c.Gates,x6.2.line,x7))
      else
       some (.inr (s1.2.1,s1.2.2.1,s1.2.2.2.1,s1.2.2.2.2.1,s1.2.2.2.2.2))) (fun k a=>((k:Int),a.2.c.Inputs,a.2.full,a.2.c.Gates,a.2.line,a.1))
      (fun ys a=>∃ (pre:List (List Int)) (s':BS),a.1 = pre ++ List.replicate ys.length [] ∧ pre ++ (nPs vs ys s').1 = (nPs vs t.Kids s).1 ∧ (nPs vs ys s').2 = (nPs vs t.Kids s).2 ∧ RelB a.2 s' ∧ CircP s'.1 ∧ VF vs s'.1 ∧ pre.length + ys.length = t.Kids.length ∧ ∀ y ∈ ys,y ∈ t.Kids)
      (fun r=>∃ m':D.builder,r = (m'.c.Inputs,m'.full,m'.c.Gates,m'.line,(nPs vs t.Kids s).1) ∧ RelB m' (nPs vs t.Kids s).2)
      (fun k x xs a hk hx hlen' ⟨pre,s',h0,h1,h2,hr,h3,h4,h5,h6⟩=>by
        have hd:decide ((k:Int) < len t.Kids) = true:=by rw [Za]; simp; omega
        have hxk:=h6 x (by simp)
        have hc:=Xe hxk
        obtain ⟨m1,e,r1⟩:=ih x s' a.2 (by omega) (nodeK hb x hxk) (Zcj hwd.2 hxk) (Zbk ht h22 hxk) h3 h4 hr
        have e':ZH n (D.builder.mk (D.Circuit.mk a.2.c.Inputs a.2.c.Gates) a.2.line a.2.full) x (some mp) = _:=e
        have g:=hkg x hxk s' h3 h4
        simp only [ZlP] at h5 hlen'
        have hpk:pre.length = k:=by omega
        have hset:set? a.1 (k:Int) (nP vs x s').1 = some ((pre ++ [(nP vs x s').1]) ++ List.replicate xs.length []):=by
          rw [h0,set?_nat (by simp; omega),ZmY _ _ (by omega),hpk,Zne,ZlP,Zn4,Zni,Zmq,Zmt]
        simp only [hd,ZlU,get?_nat,hx,Zl0,e',hset]
        rw [Zd (by omega) (by omega)]
        rw [ZbH] at h1 h2
        exact .inl ⟨((pre ++ [(nP vs x s').1]) ++ List.replicate xs.length [],m1),rfl,pre ++ [(nP vs x s').1],(nP vs x s').2,rfl,by rw [← h1]; simp,h2,r1,g.circ,h4.mono g.grow,by simp; omega,fun y hy=>h6 y (by simp [hy])⟩)
      (fun a ⟨pre,s',h0,h1,h2,hr,h3,h4,h5,h6⟩=>by
        have hd:decide ((t.Kids.length:Int) < len t.Kids) = false:=by rw [Za]; simp
        simp only [hd,Zl2,ZlC]
        rw [Zdp] at h1 h2
        simp only [ZmK,Zmu,List.replicate_zero] at h1 h0
        exact ⟨_,rfl,a.2,by rw [h0,h1],by rw [← h2]; exact hr⟩) (a:=(List.replicate t.Kids.length [],m)) ⟨[],s,by simp,by simp,rfl,hm,hs,hv,by simp,fun _ h=>h⟩ (by omega)
    rw [show ((0:Nat):Int) = 0 from rfl] at g1
    rw [show ((List.replicate t.Kids.length ([]:List Int),m).2) = m from rfl,show ((List.replicate t.Kids.length ([]:List Int),m).1) = List.replicate t.Kids.length [] from rfl] at g1
    rw [g1]
    simp only [Zl0]
    exact ZiH hb hwd.1 q1 g2 h0 h22 q3
end
open Cc (BS LS CircP Grow GoodL Good litN lines negs seqP ifP opP net RelB FOk FU andP orP xorP addP accP mulK divK shP shK)
theorem ZaJ {s:BS} {a b:Int} (h:s.2 = true):(andP s a b).2.2 = true:=by
 unfold andP
 split
 ·exact h
 split
 ·exact h
 split
 ·exact h
 split
 ·exact h
 split
 ·rfl
 ·exact h
theorem Zf8 {s:BS} {a b:Int} (h:s.2 = true):(orP s a b).2.2 = true:=ZaJ h
theorem Zfj {s:BS} {a b:Int} (h:s.2 = true):(xorP s a b).2.2 = true:=Zf8 (ZaJ (ZaJ h))
theorem ZgW {s:BS} {c a b:Int} (h:s.2 = true):(ifP s c a b).2.2 = true:=Zf8 (ZaJ (ZaJ h))
theorem Zi4 {α:Type} {f:BS → α → Int × BS} (hf:∀ s x,s.2 = true → (f s x).2.2 = true):∀ {l:List α} {t:LS},t.2.2 = true → (l.foldl (fun t x=>(t.1 ++ [(f t.2 x).1],(f t.2 x).2)) t).2.2 = true
 | [],t,h=>h
 | x :: l,t,h=>Zi4 hf (l:=l) (t:=(t.1 ++ [(f t.2 x).1],(f t.2 x).2)) (hf _ _ h)
theorem ZaB {α:Type} {f:BS → α → Int × BS} (hf:∀ s x,s.2 = true → (f s x).2.2 = true) {l:List α} {s:BS} (h:s.2 = true):(seqP f s l).2.2 = true:=Zi4 hf (t:=([],s)) h
theorem Zhy {α:Type} {f:BS → Int → α → Int × BS} (hf:∀ s c x,s.2 = true → (f s c x).2.2 = true):∀ {l:List α} {s:BS} {c:Int},s.2 = true → (accP f s c l).2.2 = true:=by
 have:∀ {l:List α} {t:Int × BS},t.2.2 = true → (l.foldl (fun t x=>f t.2 t.1 x) t).2.2 = true:=fun {l}=>by
  induction l with
  | nil=>intro t h; exact h
  | cons x l ih=>intro t h; exact ih (hf _ _ _ h)
 exact fun {l s c} h=>this (t:=(c,s)) h
theorem ZcO {s:BS} {a b:List Int} {c:Int} (h:s.2 = true):(addP s a b c).2.2.2 = true:=by
 have:∀ {l:List (Int × Int)} {t:Cc.AS},t.2.2.2 = true → (l.foldl Cc.addStep t).2.2.2 = true:=fun {l}=>by
  induction l with
  | nil=>intro t h; exact h
  | cons x l ih=>intro t h; exact ih (Zf8 (ZaJ (ZaJ (Zfj (Zfj h)))))
 exact this (t:=([],c,s)) h
theorem Zjq {s:BS} {a b:List Int} (h:s.2 = true):∀ k,(mulK s a b k).2.2 = true
 | 0=>h
 | k + 1=>by rw [Cc.mulK_succ]; exact ZcO (ZaB (fun s x h=>ZaJ h) (Zjq h k))
theorem ZgE {s:BS} {a b:List Int} (h:s.2 = true):∀ k,(divK s a b k).2.2.2 = true
 | 0=>h
 | k + 1=>by rw [Cc.divK_succ]; exact ZaB (fun s x h=>ZgW h) (ZcO (ZgE h k))
theorem Zj2 {s:BS} {a b:List Int} {L:Bool} {fill:Int} (h:s.2 = true):∀ k,(shK s a b L fill k).2.2 = true
 | 0=>h
 | k + 1=>by rw [Cc.shK_succ]; exact ZaB (fun s x h=>ZgW h) (Zj2 h k)
theorem Zjg {s:BS} {a b:List Int} {L:Bool} {fill:Int} (h:s.2 = true):(shP s a b L fill).2.2 = true:=ZaB (fun s x h=>ZgW h) (Zhy (fun s c x h=>Zf8 h) (Zj2 h _))
theorem YU {c:Prop} [Decidable c] {x y:LS} (h1:x.2.2 = true) (h2:y.2.2 = true):(if c then x else y).2.2 = true:=by split <;> assumption
theorem Zlm {s:BS} {op:Int} {a b:List Int} (h:s.2 = true):(opP s op a b).2.2 = true:=by
 unfold opP
 exact YU (ZcO h) (YU (ZcO h) (YU (Zjq h _) (YU (ZgE h _) (YU (ZgE h _) (YU (ZaB (fun s x h=>ZaJ h) h) (YU (ZaB (fun s x h=>Zf8 h) h) (YU (ZaB (fun s x h=>Zfj h) h) (YU (Zjg h) (YU (Zjg h) (YU (Zjg h) (YU (Zhy (fun s c x h=>ZaJ (Zfj h)) h) (YU (ZcO h) (ZcO h)))))))))))))
theorem ZiF {op:Int} {w m:Nat} {ls:List (List Int)} {s:BS} (h:s.2 = true):(fin op w m ls s).2.2 = true:=by
 unfold fin
 repeat' split
 all_goals first | exact h | rfl | exact Zlm h | exact ZaB (fun s x h=>ZgW h) h
mutual
theorem Zls (vs:List D.Value):∀ (t:D.Term) (s:BS),s.2 = true → (nP vs t s).2.2 = true
 | ⟨op,w,m,nm,ks⟩,s,h=>by
  rw [nP]
  split
  ·exact h
  split
  ·exact h
  ·exact ZiF (ZgK vs ks s h)
theorem ZgK (vs:List D.Value):∀ (l:List D.Term) (s:BS),s.2 = true → (nPs vs l s).2.2 = true
 | [],s,h=>by rw [nPs]; exact h
 | t :: l,s,h=>by rw [nPs]; exact ZgK vs l _ (Zls vs t s h)
end
theorem Ze8 {vs:List D.Value} (hp:vs.Pairwise fun x y=>x.Name ≠ y.Name):∀ (n:Nat) (t:D.Term) (s:BS),cnt t ≤ n → nodeB t = true → wideB t = true → TV vs t → CircP s.1 → VF vs s.1 → (nP vs t s).2.2 = true:=by
 intro n
 induction n with
 | zero=>intro t s h; have:=Xm t; omega
 | succ n ih=>
  intro t s hc hb hwd ht hs hv
  have hcn:=Xm t
  rw [Zgb]
  by_cases h0:t.Op = 0
  ·exfalso
   obtain ⟨op,w,m,nm,ks⟩:=t
   obtain ⟨-,hsh⟩:=Yi hb
   simp only at h0
   subst h0
   rcases hsh with ⟨-,rfl,-⟩ | ⟨h,-⟩ | ⟨h,-⟩ | ⟨h,-⟩ | ⟨h,-⟩ | ⟨h,-⟩ | ⟨h,-⟩ | ⟨h,-⟩
   ·rw [Za0] at hwd; simp [wide1,Zbf] at hwd
   all_goals omega
  rw [Zl4 h0]
  by_cases h22:t.Op = 22
  ·exfalso
   obtain ⟨op,w,m,nm,ks⟩:=t
   obtain ⟨-,hsh⟩:=Yi hb
   simp only at h22
   subst h22
   rcases hsh with ⟨h,-⟩ | ⟨-,rfl,-⟩ | ⟨h,-⟩ | ⟨-,h,-⟩ | ⟨h,-⟩ | ⟨h,-⟩ | ⟨h,-⟩ | ⟨h,-⟩
   ·omega
   ·rw [Za0] at hwd; simp [wide1,Zbf] at hwd
   all_goals omega
  rw [Zl4 h22]
  have hkg:∀ x ∈ t.Kids,∀ s:BS,CircP s.1 → VF vs s.1 → GoodL s x.W.toNat (nP vs x s):=fun x hx s' hs' hv'=>Zbd hp _ x s' (ZlG _) (nodeK hb x hx) (Zbk ht h22 hx) hs' hv'
  obtain ⟨q1,q2,q3⟩:=Za2 t.Kids s hkg hs hv
  rw [Za0,Zmx] at hwd
  rcases hwd with hwd | hwd
  ·
   obtain ⟨op,w,m,nm,ks⟩:=t
   obtain ⟨hw,hsh⟩:=Yi hb
   unfold wide1 at hwd
   simp only [Zl6,Zmx,ZmE,ZlE] at hwd
   obtain ⟨ho,hk⟩:=hwd
   simp only at h0 h22 q1 q2 q3 ⊢
   rcases hsh with ⟨rfl,-⟩ | ⟨rfl,-⟩ | ⟨ho',-,-,a,rfl,ha,haw⟩ | ⟨h3,h16,-,-,a,b,rfl,ha,hb',hab,h13,h14⟩ | ⟨rfl,-⟩ | ⟨rfl,-⟩ | ⟨rfl,-⟩ | ⟨ho',-⟩
   ·omega
   ·omega
   ·have h2 : op = 2 := by omega
    subst h2
    simp only [ZmE] at hk
    unfold fin
    rw [Zl4 (by omega),Zl7 rfl,Zl7 (by omega)]
   ·simp only [ZmE] at hk
    obtain ⟨la,r1,k1,hn1,e⟩:=KK1 q3
    have hl:((nPs vs [a,b] s).1.getD 0 []).length = 16:=by rw [e,ZlJ,k1.1,hk]; rfl
    unfold fin
    rw [Zl4 (by omega),Zl4 (by omega),Zl4 (by omega),Zl4 (by omega),Zl4 (by omega),Zl4 (by omega),Zl4 (by omega),Zl7 hl]
   all_goals omega
  ·refine ZiF ?_
   have:∀ (l:List D.Term) (s:BS),(∀ x ∈ l,x ∈ t.Kids) → wideBs l = true → CircP s.1 → VF vs s.1 → (nPs vs l s).2.2 = true:=fun l=>by
    induction l with
    | nil=>intro s _ h; rw [Zbf] at h; cases h
    | cons x l ihl=>
     intro s hm h hs' hv'
     rw [Zb8,Zmx] at h
     rw [ZbH]
     have hx:=hm x (by simp)
     have g:=hkg x hx s hs' hv'
     rcases h with h | h
     ·exact ZgK vs l _ (ih x s (by have:=Xe hx; omega) (nodeK hb x hx) h (Zbk ht h22 hx) hs' hv')
     ·exact ihl _ (fun y hy=>hm y (by simp [hy])) h g.circ (hv'.mono g.grow)
   exact this t.Kids s (fun _ h=>h) hwd hs hv
theorem ZfX {t:D.Term} (h:nodeB t = true) (ho:t.Op = 22):t.Name.bytes.length ≤ 8 ∧ t.Kids = []:=by
 rw [Zam,Zl6] at h
 have h:=h.1
 unfold locB shB at h
 simp only [ho,Zl6] at h
 have h:=h.2
 simp [nameB] at h
 exact ⟨by omega,by simpa using h.1⟩
theorem collect:∀ (n:Nat) (t:D.Term) (g:List (Str × Int)),nodeB t = true → msz t ≤ 1048576 → g.length + (vrs t).length ≤ 1000 → 1048580 + cnt t ≤ n → ZR n t (some g) = some (some ((vrs t).reverse ++ g)):=by
 intro n
 induction n with
 | zero=>intro t g _ _ _ _; omega
 | succ n ih=>
  intro t g hb hs hg hn
  have hz:=Zbj t
  have hcn:=Xm t
  rw [ZR]
  by_cases o1:t.Op = 22
  ·obtain ⟨h1, h2⟩ := ZfX hb o1
   have hv:vrs t = [(t.Name,t.W)]:=by rw [XM,Zl7 o1]
   have c1:(t.Op == 22) = true:=by simpa using o1
   have hw:=ZK hb
   rw [hv] at hg
   simp only [c1,ZlU,Zl0,put1 (g:=g) (s:=t.Name) (by omega) hw (by simp at hg; omega)]
   obtain ⟨m,rfl⟩ : ∃ m,n = m + 1:=⟨n - 1,by omega⟩
   rw [h2,hv]
   rfl
  ·have c1 : (t.Op == 22) = false := by simpa using o1
   have hv:vrs t = vrss t.Kids:=by rw [XM,Zl4 o1]
   simp only [c1,Zl2,ZlC]
   rw [Zam,Zl6,Yb,ZlO] at hb
   rw [hv] at hg ⊢
   obtain ⟨r,g1,g2⟩:=Y9 (l:=t.Kids) (n:=n) (σ:=Option (List (Str × Int))) (ρ:=Option (List (Str × Int))) (B:=fun (s2:Int × (Option (List (Str × Int))))=>
     if (decide (s2.1 < (len t.Kids))) then
      (get? t.Kids s2.1).bind fun x5=>
      (ZR n x5 s2.2).bind fun x6=>
      some (.inl ((w64 (s2.1 + 1)),x6))
     else
      some (.inr (s2.2))) (fun k a=>((k:Int),a)) (fun ys a=>∃ ga,a = some ga ∧ (vrss ys).reverse ++ ga = (vrss t.Kids).reverse ++ g ∧ ga.length + (vrss ys).length ≤ 1000 ∧ ∀ x ∈ ys,x ∈ t.Kids)
     (fun r=>r = some ((vrss t.Kids).reverse ++ g))
     (fun k x xs a hk' hx hlen ⟨ga, i0, i1, i2, i3⟩ => by
      have hxk:=i3 x (by simp)
      have:=ZaS hxk
      have:=Xe hxk
      have hd:decide ((k:Int) < len t.Kids) = true:=by rw [Za]; simp; omega
      rw [Xl,ZlF] at i2
      rw [Xl,List.reverse_append] at i1
      subst i0
      simp only [hd,ZlU,get?_nat,hx,Zl0]
      rw [ih x ga (hb.2 x hxk) (by omega) (by omega) (by omega)]
      refine .inl ⟨some ((vrs x).reverse ++ ga),by simp only [Zl0]; rw [Zd (by omega) (by omega)]; rfl,_,rfl,by rw [← i1,Zmq],by simp; omega,fun y hy=>i3 y (by simp [hy])⟩)
     (fun a ⟨ga, i0, i1, i2, i3⟩ => by
      have hd:decide ((t.Kids.length:Int) < len t.Kids) = false:=by rw [Za]; simp
      simp only [hd,Zl2,ZlC]
      rw [Za4] at i1
      exact ⟨_,rfl,by rw [i0,← i1]; rfl⟩) (a:=some g) ⟨g,rfl,rfl,hg,fun x hx=>hx⟩ (by omega)
   rw [show ((0:Nat):Int) = 0 from rfl] at g1
   rw [g1,g2]; rfl
theorem Zel:∀ {l g g':List (Str × Int)},runV g l = some g' → (∀ p:Str × Int,g.lookup p.1 = some p.2 → g'.lookup p.1 = some p.2) ∧ ∀ p ∈ l,g'.lookup p.1 = some p.2
 | [],g,g',h=>by simp only [runV,Option.some.injEq] at h; subst h; exact ⟨fun p hp=>hp,fun p hp=>by cases hp⟩
 | v :: l,g,g',h=>by
  simp only [runV,ZmF] at h
  obtain ⟨g1,h1,h2⟩:=h
  obtain ⟨i1,i2⟩:=Zel h2
  have hv:g1.lookup v.1 = some v.2:=by
   unfold stp at h1
   split at h1
   ·rename_i w hw
    split at h1
    ·rename_i e; cases h1; rw [hw,e]
    ·cases h1
   ·cases h1; rw [Zmb]; simp
  have hk:∀ p:Str × Int,g.lookup p.1 = some p.2 → g1.lookup p.1 = some p.2:=fun p hp=>by
   unfold stp at h1
   split at h1
   ·split at h1
    ·cases h1; exact hp
    ·cases h1
   ·rename_i hn
    cases h1
    have:p.1 ≠ v.1:=fun e=>by rw [e,hn] at hp; cases hp
    rw [Zmb]
    have:(p.1 == v.1) = false:=by simpa using this
    rw [this]; exact hp
  refine ⟨fun p hp=>i1 p (hk p hp),fun p hp=>?_⟩
  rcases Zmd.1 hp with rfl | hp
  ·exact i1 p hv
  ·exact i2 p hp
theorem ZdI {κ β:Type} [BEq κ] [LawfulBEq κ] {x:κ} {y:β}:∀ {m:List (κ × β)},m.lookup x = some y → (x,y) ∈ m
 | [],h=>by cases h
 | (u,z) :: m,h=>by
  rw [Zmb] at h
  by_cases e:x == u
  ·rw [e] at h
   simp only [Option.some.injEq] at h
   rw [eq_of_beq e,h]; exact ZlK
  ·simp only [e] at h
   exact ZlQ _ (ZdI h)
theorem ZeH {κ β:Type} [BEq κ] [LawfulBEq κ] {x:κ} {y:β}:∀ {m:List (κ × β)},(x,y) ∈ m → ∃ z,m.lookup x = some z
 | (u,z) :: m,h=>by
  rw [Zmb]
  by_cases e:x == u
  ·rw [e]; exact ⟨z,rfl⟩
  ·simp only [e]
   rcases Zmd.1 h with h | h
   ·simp only [Prod.mk.injEq] at h
    rw [h.1] at e; simp at e
   ·exact ZeH h
theorem ZhT {t:D.Term} (h:termB t = true) (hs:msz t ≤ 1048576):Zah fuel t = some (vtab (vrs t).reverse):=by
 unfold Zah
 rw [Zer hs,h]
 unfold termB at h
 simp only [Zl6,ZlE] at h
 have hv:=ZdY t
 simp only [Zl0,ZlZ,Zl2,ZlC]
 rw [collect fuel t [] h.1.2 hs (by simp; omega) (by unfold fuel; omega)]
 simp only [Zl0,ZmK]
 rw [Zl7 (by simp; omega)]
end Go.Proofs.YthlolmkdppfioaaGreat
end
section
namespace Go.Proofs.YthlolmkdppfioaaGreat.Cc
open Go.GL
set_option linter.unusedSimpArgs false
theorem bi_le (b:Bool):bi b ≤ 1:=by cases b <;> decide
theorem vB_app (b:List Bool):∀ a:List Bool,vB (a ++ b) = vB a + 2 ^ a.length * vB b
 | []=>by simp [vB]
 | x :: a=>by rw [Zoh,vB,vB_app b a,vB,ZlP,Zng,ZnI,Zmv (2 ^ a.length) 2,Zm2]; omega
theorem vB_split (l:List Bool) {k:Nat} (hk:k ≤ l.length):vB l = vB (l.take k) + 2 ^ k * vB (l.drop k):=by
 have:=vB_app (l.drop k) (l.take k)
 rw [ZmJ,Zl8,Zmg hk] at this
 exact this
theorem ZkG (b:Bool) (l:List Bool):vB (l.map fun x=>b && x) = bi b * vB l:=by
 induction l with
 | nil=>simp [vB]
 | cons x l ih=>
  rw [ZlA,vB,vB,ih,ZnI]
  have:bi (b && x) = bi b * bi x:=by cases b <;> cases x <;> rfl
  rw [this,← Zm2,Zmv 2,Zm2]
theorem vB_rep (n:Nat):vB (List.replicate n false) = 0:=by
 induction n with
 | zero=>rfl
 | succ n ih=>rw [Zn4,vB,ih]; rfl
theorem vB_ones (n:Nat):vB (List.replicate n true) + 1 = 2 ^ n:=by
 induction n with
 | zero=>rfl
 | succ n ih=>rw [Zn4,vB,Zng,← ih]; simp only [bi,ZlU]; omega
theorem vB_not (l:List Bool):vB (l.map fun x=>!x) + vB l + 1 = 2 ^ l.length:=by
 induction l with
 | nil=>rfl
 | cons x l ih=>
  rw [ZlA,vB,vB,ZlP,Zng,← ih]
  have:bi (!x) + bi x = 1:=by cases x <;> rfl
  omega
theorem ZjQ {a b:List Bool} (h:a.length = b.length) (k:Nat) (hk:k ≤ a.length):(mulB a b k).length = a.length ∧ ∃ q,vB a * vB (b.take k) = vB (mulB a b k) + 2 ^ a.length * q:=by
 induction k with
 | zero=>exact ⟨by simp [mulB],0,by simp [mulB,vB_rep,vB]⟩
 | succ k ih=>
  obtain ⟨h1,q,h2⟩:=ih (by omega)
  have e:mulB a b (k + 1) = mulB1 a b (mulB a b k) k:=by unfold mulB; rw [ZmL,Zme]; rfl
  rw [e]
  generalize mulB a b k = t at h1 h2 ⊢
  unfold mulB1
  have hP:((a.take (a.length - k)).map fun x=>b.getD k false && x).length = a.length - k:=by rw [ZlW,Zl8]; omega
  have hd:(t.drop k).length = a.length - k:=by rw [ZlV,h1]
  obtain ⟨g1,g2⟩:=addB_val (hd.trans hP.symm) false
  have ht:(t.take k).length = k:=by rw [Zl8]; omega
  refine ⟨by rw [ZlF,ht,g1,hd]; omega,?_⟩
  rw [vB_app,ht]
  rw [hd,ZkG] at g2
  generalize addB (t.drop k) ((a.take (a.length - k)).map fun x=>b.getD k false && x) false = S at g1 g2 ⊢
  have hb:vB (b.take (k + 1)) = vB (b.take k) + bi (b.getD k false) * 2 ^ k:=by
   rw [ZlB (by omega:k < b.length),vB_snoc,Zl8,Zmg (by omega),Zl9,Zl1 (by omega)]
   rfl
  have ha:=vB_split a (k:=a.length - k) (by omega)
  have htt:=vB_split t (k:=k) (by omega)
  have hp:2 ^ a.length = 2 ^ k * 2 ^ (a.length - k):=by rw [← Zob]; congr 1; omega
  refine ⟨bi S.2 + bi (b.getD k false) * vB (a.drop (a.length - k)) + q,?_⟩
  rw [hb,ZnI,h2,htt]
  simp only [bi,Zl2,ZlC,ZmQ] at g2 ⊢
  generalize vB (a.take (a.length - k)) = A1 at *
  generalize vB (a.drop (a.length - k)) = A2 at *
  generalize (if b.getD k false = true then 1 else 0) = B at *
  generalize (if S.2 = true then 1 else 0) = C at *
  generalize vB (t.take k) = T1 at *
  generalize vB (t.drop k) = T2 at *
  generalize vB S.1 = V at *
  rw [ha,hp]
  generalize 2 ^ (a.length - k) = X at *
  generalize 2 ^ k = Y at *
  have e1:Y * (V + C * X) = Y * (T2 + B * A1):=by rw [g2]
  simp only [ZnI,Znk] at e1 ⊢
  have r1:A1 * (B * Y) = Y * (B * A1):=by rw [Zmv B Y,← Zm2,Zmv A1 Y,Zm2,Zmv A1 B]
  have r2:X * A2 * (B * Y) = Y * X * (B * A2):=by
   rw [Zmv B Y,← Zm2,Zmv (X * A2) Y,← Zm2,Zm2 (Y * X),Zmv A2 B]
  have r3:Y * (C * X) = Y * X * C:=by rw [Zmv C X,Zm2]
  rw [r1,r2]; rw [r3] at e1
  omega
theorem mul_num {a b:List Bool} (h:a.length = b.length):(mulB a b a.length).length = a.length ∧ vB (mulB a b a.length) = (vB a * vB b) % 2 ^ a.length:=by
 obtain ⟨h1,q,h2⟩:=ZjQ h a.length (ZlG _)
 refine ⟨h1,?_⟩
 rw [Zmr (by omega)] at h2
 have:=Yl (mulB a b a.length)
 rw [h1] at this
 rw [h2,Znv,Znb this]
theorem Zko {a b:List Bool} (h:a.length = b.length) (k:Nat) (hk:k ≤ a.length):(divB a b k).1.length = a.length ∧ (divB a b k).2.length = k ∧ (vB b ≠ 0 → vB (a.drop (a.length - k)) = vB b * vB (divB a b k).2 + vB (divB a b k).1 ∧ vB (divB a b k).1 < vB b) ∧
  (vB b = 0 → vB (divB a b k).1 = vB (a.drop (a.length - k)) ∧ (divB a b k).2 = List.replicate k true):=by
 induction k with
 | zero=>exact ⟨by simp [divB],rfl,fun hb=>⟨by simp [divB,vB_rep,vB],by simp only [divB,Zom,ZmO,vB_rep]; omega⟩,fun _=>⟨by simp [divB,vB_rep,vB],rfl⟩⟩
 | succ k ih=>
  obtain ⟨h1,h2,h3,h4⟩:=ih (by omega)
  have e:divB a b (k + 1) = divB1 a (lessB b) (divB a b k) (a.length - 1 - k):=by unfold divB; rw [ZmL,Zme]; rfl
  rw [e]
  generalize divB a b k = t at h1 h2 h3 h4 ⊢
  have hi:a.length - 1 - k < a.length:=by omega
  have hdrop:vB (a.drop (a.length - (k + 1))) = bi (a.getD (a.length - 1 - k) false) + 2 * vB (a.drop (a.length - k)):=by
   rw [show a.length - (k + 1) = a.length - 1 - k by omega,Zmw hi,vB,Zl9,Zl1 hi,show a.length - 1 - k + 1 = a.length - k by omega]
   rfl
  have hlt:=Yl (a.drop (a.length - (k + 1)))
  rw [ZlV] at hlt
  have hbl:=Yl b
  rw [← h] at hbl
  have hll:(lessB b).length = a.length + 1:=by simp [lessB,h]
  have hxl:(a.getD (a.length - 1 - k) false :: t.1).length = a.length + 1:=by simp [h1]
  obtain ⟨g1,g2⟩:=addB_val (a:=a.getD (a.length - 1 - k) false :: t.1) (b:=lessB b) (by rw [hxl,hll]) true
  have hless:vB (lessB b) + vB b + 1 = 2 ^ (a.length + 1):=by
   unfold lessB
   rw [vB_snoc,ZlW,Zng,h]
   have:=vB_not b
   simp only [bi,ZlU,ZnH]
   omega
  have hX:vB (a.getD (a.length - 1 - k) false :: t.1) = bi (a.getD (a.length - 1 - k) false) + 2 * vB t.1:=rfl
  unfold divB1
  rw [hxl] at g1 g2
  generalize addB (a.getD (a.length - 1 - k) false :: t.1) (lessB b) true = d at g1 g2 ⊢
  simp only
  have hres:(((d.1.zip (a.getD (a.length - 1 - k) false :: t.1)).take a.length).map fun p=>cond d.2 p.1 p.2) = if d.2 then d.1.take a.length else (a.getD (a.length - 1 - k) false :: t.1).take a.length:=by
   rw [Zns]
   cases hd2:d.2
   ·have := List.map_snd_zip (l₁ := d.1) (l₂ := a.getD (a.length - 1 - k) false :: t.1) (by rw [g1, hxl]; exact ZlG _)
    simp only [cond_false,Zl2,ZlC]
    exact congrArg (List.take a.length) this
   ·have := List.map_fst_zip (l₁ := d.1) (l₂ := a.getD (a.length - 1 - k) false :: t.1) (by rw [g1, hxl]; exact ZlG _)
    simp only [cond_true,ZlU]
    exact congrArg (List.take a.length) this
  rw [hres]
  have hlen:(if d.2 then d.1.take a.length else (a.getD (a.length - 1 - k) false :: t.1).take a.length).length = a.length:=by
   split <;> (rw [Zl8]; omega)
  refine ⟨hlen,by simp [h2],?_⟩
  have hs1:=vB_split d.1 (k:=a.length) (by omega)
  have hs2:=vB_split (a.getD (a.length - 1 - k) false :: t.1) (k:=a.length) (by omega)
  have hpw:(2:Nat) ^ (a.length + 1) = 2 * 2 ^ a.length:=by rw [Zng,Zmv]
  have small:∀ (x y z:Nat),x = y + 2 ^ a.length * z → x < 2 ^ a.length → y = x:=fun x y z e hx=>by
   cases z with
   | zero=>simpa using e.symm
   | succ z=>
    have hpos:2 ^ a.length ≤ 2 ^ a.length * (z + 1):=ZnX _ (by omega)
    omega
  have hdr:(2:Nat) ^ (a.length - (a.length - (k + 1))) ≤ 2 ^ a.length:=Zm3 (by omega) (by omega)
  rw [hdrop]
  rw [hX] at g2 hs2
  rw [hdrop] at hlt
  constructor
  ·intro hb
   obtain ⟨r1,r2⟩:=h3 hb
   rw [r1]
   cases hd2:d.2
   ·simp only [Zl2, ZlC]
    rw [hd2] at g2
    simp only [bi,Zl2,ZlC,ZlU,ZnK,ZmQ] at g2 hs2 ⊢
    have hdl:=Yl d.1
    rw [g1] at hdl
    have hx:=small _ _ _ hs2 (by omega)
    rw [hx,vB]
    simp only [bi,Zl2,ZlC,ZmW]
    rw [show vB b * (2 * vB t.2) = 2 * (vB b * vB t.2) by rw [← Zm2,Zmv (vB b) 2,Zm2]]
    omega
   ·simp only [ZlU]
    rw [hd2] at g2
    simp only [bi,Zl2,ZlC,ZlU,ZnH] at g2 hs2 ⊢
    have hb1:(if a.getD (a.length - 1 - k) false = true then 1 else 0) ≤ 1:=by split <;> omega
    have hx:=small _ _ _ hs1 (by omega)
    rw [hx,vB]
    simp only [bi,ZlU]
    rw [show vB b * (1 + 2 * vB t.2) = vB b + 2 * (vB b * vB t.2) by rw [ZnI,← Zm2 (vB b),Zmv (vB b) 2,Zm2,Zn2]]
    omega
  ·intro hb
   obtain ⟨r1,r2⟩:=h4 hb
   cases hd2:d.2
   ·rw [hd2] at g2
    have hdl:=Yl d.1
    rw [g1] at hdl
    simp only [bi,Zl2,ZlC,ZlU,ZnK,ZmQ] at g2
    omega
   ·simp only [ZlU]
    rw [hd2] at g2
    simp only [bi,Zl2,ZlC,ZlU,ZnH] at g2 hlt hs1 ⊢
    refine ⟨?_,by rw [r2]; rfl⟩
    have hx:=small _ _ _ hs1 (by rw [r1] at g2; omega)
    rw [hx,← r1]
    omega
theorem div_num {a b:List Bool} (h:a.length = b.length):(divB a b a.length).1.length = a.length ∧ (divB a b a.length).2.length = a.length ∧ vB (divB a b a.length).1 = (if vB b = 0 then vB a else vB a % vB b) ∧ vB (divB a b a.length).2 = (if vB b = 0 then 2 ^ a.length - 1 else vB a / vB b):=by
 obtain ⟨h1,h2,h3,h4⟩:=Zko h a.length (ZlG _)
 rw [Zne,Zn5] at h3 h4
 refine ⟨h1,h2,?_⟩
 split
 ·rename_i hb
  obtain ⟨r1,r2⟩:=h4 hb
  have:=vB_ones a.length
  exact ⟨r1,by rw [r2]; omega⟩
 ·rename_i hb
  obtain ⟨r1,r2⟩:=h3 hb
  have hp:0 < vB b:=by omega
  constructor
  ·rw [r1,Nat.mul_add_mod,Znb r2]
  ·rw [r1,ZoH hp,ZmN r2,ZmQ]
theorem ZkU {a b:List Bool} {L fill:Bool} (k:Nat) (hk:k ≤ b.length):shB a b L fill k = (List.range a.length).map (pickB L (vB (b.take k)) fill a):=by
 induction k with
 | zero=>
  simp only [shB,Zom,ZmO,Zoy,vB]
  refine Zo6 (by simp) fun i h1 h2=>?_
  simp only [Zo7,Zot]
  unfold pickB
  cases L
  ·simp only [Zl2, ZlC, ZmQ]
   rw [Zl7 h1,Zl9,Zl1 h1]; rfl
  ·simp only [ZlU, ZmI, Nat.sub_zero]
   rw [Zl9,Zl1 h1]; rfl
 | succ k ih=>
  have e:shB a b L fill (k + 1) = shB1 L fill b (shB a b L fill k) k:=by unfold shB; rw [ZmL,Zme]; rfl
  rw [e,ih (by omega)]
  have hb:vB (b.take (k + 1)) = vB (b.take k) + bi (b.getD k false) * 2 ^ k:=by
   rw [ZlB (by omega:k < b.length),vB_snoc,Zl8,Zmg (by omega),Zl9,Zl1 (by omega)]
   rfl
  rw [hb]
  unfold shB1
  rw [ZlW,Zoc]
  refine ZmM fun j hj=>?_
  have hj:=ZlR.1 hj
  have hget:∀ i,i < a.length → ((List.range a.length).map (pickB L (vB (b.take k)) fill a)).getD i false = pickB L (vB (b.take k)) fill a i:=fun i hi=>by
   rw [Zl9,ZlS,Zno hi]; rfl
  rw [hget j hj]
  cases b.getD k false
  ·simp only [cond_false,bi,Zl2,ZlC,ZnK,ZmQ]
  ·simp only [cond_true, bi, ZlU, ZnH]
   generalize vB (b.take k) = s at hget ⊢
   generalize 2 ^ k = d
   unfold pickB at hget ⊢
   rw [ZlW,Zoc]
   cases L
   ·simp only [Zl2, ZlC] at hget ⊢
    split
    ·rename_i h1
     rw [hget _ h1,show j + d + s = j + (s + d) by omega]
    ·rw [Zl4 (by omega)]
   ·simp only [ZlU] at hget ⊢
    split
    ·rename_i h1
     rw [hget _ (by omega)]
     by_cases h2:s ≤ j - d
     ·rw [Zl7 h2,Zl7 (by omega),show j - d - s = j - (s + d) by omega]
     ·rw [Zl4 h2,Zl4 (by omega)]
    ·rw [Zl4 (by omega)]
theorem Zhz (l:List Bool) (c:Bool):l.foldl (fun c y=>c || y) c = true ↔ c = true ∨ vB l ≠ 0:=by
 induction l generalizing c with
 | nil=>simp [vB]
 | cons x l ih=>
  rw [Zmy,ih,vB]
  cases c <;> cases x <;> simp [bi] <;> omega
theorem shP_val {a b:List Bool} {L fill:Bool} (h:a.length = b.length) (hlg:lg a.length ≤ a.length) (hp:a.length ≤ 2 ^ lg a.length):shPB a b L fill = (List.range a.length).map (pickB L (vB b) fill a):=by
 unfold shPB
 rw [ZkU _ (by omega),ZmD]
 refine ZmM fun j hj=>?_
 have hj:=ZlR.1 hj
 simp only [Function.comp]
 have hs:=vB_split b (k:=lg a.length) (by omega)
 cases hc:(b.drop (lg a.length)).foldl (fun c y=>c || y) false
 ·have:¬ (vB (b.drop (lg a.length)) ≠ 0):=fun hne=>by
   rw [(Zhz _ _).2 (.inr hne)] at hc; cases hc
  rw [cond_false,hs,show vB (b.drop (lg a.length)) = 0 by omega]
  rfl
 ·have hne : vB (b.drop (lg a.length)) ≠ 0 := ((Zhz _ _).1 hc).resolve_left (by decide)
  have:2 ^ lg a.length ≤ 2 ^ lg a.length * vB (b.drop (lg a.length)):=ZnX _ (by omega)
  rw [cond_true]
  unfold pickB
  cases L
  ·simp only [Zl2,ZlC]; rw [Zl4 (by omega)]
  ·simp only [ZlU]; rw [Zl4 (by omega)]
theorem shl_num {a:List Bool} (s:Nat):vB ((List.range a.length).map (pickB true s false a)) = (vB a * 2 ^ s) % 2 ^ a.length:=by
 have e:(List.range a.length).map (pickB true s false a) = List.replicate (min s a.length) false ++ a.take (a.length - s):=by
  refine Zo6 (by simp; omega) fun i h1 h2=>?_
  simp only [Zo7,Zot]
  have hi:i < a.length:=by simpa using h1
  rw [List.getElem_append]
  unfold pickB
  simp only [ZlU,Zmp]
  by_cases c:s ≤ i
  ·rw [Zl7 c, dif_neg (by omega), Zl9, Zl1 (by omega), List.getElem_take]
   simp only [Zmm,Zmp,show i - min s a.length = i - s by omega]
  ·rw [Zl4 c,dif_pos (by omega),List.getElem_replicate]
 rw [e,vB_app,vB_rep,Zmp]
 by_cases c:s ≤ a.length
 ·have hs := vB_split a (k := a.length - s) (by omega)
  have hl:=Yl (a.take (a.length - s))
  rw [Zl8,Zmg (by omega)] at hl
  have hp:2 ^ a.length = 2 ^ s * 2 ^ (a.length - s):=by rw [← Zob]; congr 1; omega
  rw [Zmg c,ZmW,hp,Zmv (vB a),Nat.mul_mod_mul_left,hs,Znv,Znb hl]
 ·have hp : 2 ^ s = 2 ^ a.length * 2 ^ (s - a.length) := by rw [← Zob]; congr 1; omega
  rw [show a.length - s = 0 by omega,Zoy,hp,Zmv (vB a),Zm2,Nat.mul_mod_right]
  simp [vB]
theorem ZfV {a:List Bool} (s:Nat) (fill:Bool):(List.range a.length).map (pickB false s fill a) = a.drop s ++ List.replicate (min s a.length) fill:=by
 refine Zo6 (by simp; omega) fun i h1 h2=>?_
 simp only [Zo7,Zot]
 have hi:i < a.length:=by simpa using h1
 rw [List.getElem_append]
 unfold pickB
 simp only [Zl2,ZlC,ZlV]
 by_cases c:i + s < a.length
 ·rw [Zl7 c, dif_pos (by omega), Zl9, Zl1 c, List.getElem_drop]
  simp only [Zmm,Nat.add_comm s i]
 ·rw [Zl4 c,dif_neg (by omega),List.getElem_replicate]
theorem vB_drop (a:List Bool) (s:Nat):vB (a.drop s) = vB a / 2 ^ s:=by
 by_cases c:s ≤ a.length
 ·have hs := vB_split a c
  have hl:=Yl (a.take s)
  rw [Zl8,Zmg c] at hl
  rw [hs,Nat.add_mul_div_left _ _ (Znz s),ZmN hl,ZmW]
 ·have hl := Yl a
  have hp:2 ^ a.length ≤ 2 ^ s:=Zm3 (by omega) (by omega)
  rw [List.drop_eq_nil_of_le (by omega),ZmN (by omega)]
  rfl
theorem shr_num {a:List Bool} (s:Nat):vB ((List.range a.length).map (pickB false s false a)) = vB a / 2 ^ s:=by
 rw [ZfV,vB_app,vB_rep,vB_drop]; simp
theorem sar_num {a:List Bool} (s:Nat):vB ((List.range a.length).map (pickB false s true a)) = vB a / 2 ^ s + (2 ^ a.length - 2 ^ (a.length - s)):=by
 rw [ZfV,vB_app,vB_drop,ZlV]
 have h1:=vB_ones (min s a.length)
 have hp:2 ^ a.length = 2 ^ (a.length - s) * 2 ^ min s a.length:=by rw [← Zob]; congr 1; omega
 rw [hp,← h1,ZnI,Zn2]
 omega
end Go.Proofs.YthlolmkdppfioaaGreat.Cc
end
section
namespace Go.Proofs.YthlolmkdppfioaaGreat
open Go.GL
open Cc (vB Yl opB bi)
set_option linter.unusedSimpArgs false
theorem Xw {a:Int} (h0 : -9223372036854775808 ≤ a) (h1:a ≤ 9223372036854775807):w64 a = a:=Zd (by omega) (by omega)
theorem Zcm {x:Nat} (h:x < 65536):(BitVec.ofInt 64 (x:Int)).toNat = x:=by
 rw [BitVec.toNat_ofInt]
 have:((x:Int) % ((2 ^ 64:Nat):Int)) = x:=Zod (by omega) (by simp; omega)
 rw [this]; rfl
theorem ZkN {x y:Nat} (h:x < 65536):x &&& y < 65536:=Nat.lt_of_le_of_lt Nat.and_le_left h
theorem Zgf {x y:Nat} (hx:x < 65536) (hy:y < 65536):band (x:Int) (y:Int) = ((x &&& y:Nat):Int):=by
 unfold band
 rw [BitVec.toNat_and,Zcm hx,Zcm hy]
 have:=ZkN (y:=y) hx
 exact Xw (by omega) (by omega)
theorem ZjZ {x y:Nat} (hx:x < 65536) (hy:y < 65536):bor (x:Int) (y:Int) = ((x ||| y:Nat):Int):=by
 unfold bor
 rw [BitVec.toNat_or,Zcm hx,Zcm hy]
 have:x ||| y < 2 ^ 16:=Nat.or_lt_two_pow (by simpa using hx) (by simpa using hy)
 exact Xw (by omega) (by omega)
theorem Zj6 {x y:Nat} (hx:x < 65536) (hy:y < 65536):bxor (x:Int) (y:Int) = ((x ^^^ y:Nat):Int):=by
 unfold bxor
 rw [BitVec.toNat_xor,Zcm hx,Zcm hy]
 have:x ^^^ y < 2 ^ 16:=Nat.xor_lt_two_pow (by simpa using hx) (by simpa using hy)
 exact Xw (by omega) (by omega)
theorem p16 {w:Nat} (hw:w ≤ 16):(2:Nat) ^ w ≤ 65536 ∧ 0 < (2:Nat) ^ w:=⟨Zm3 (by omega) hw,Znz w⟩
theorem Ze0 (x:Int) {w:Nat} (hw:w ≤ 16):band x (2 ^ w - 1) = x % 2 ^ w:=by
 unfold band
 obtain ⟨p1,p2⟩:=p16 hw
 have e:((2:Int) ^ w - 1) = ((2 ^ w - 1:Nat):Int):=by rw [Int.natCast_sub p2]; simp
 rw [BitVec.toNat_and,e,Zcm (by omega),Nat.and_two_pow_sub_one_eq_mod,BitVec.toNat_ofInt]
 have hm:((x % ((2 ^ 64:Nat):Int)).toNat % 2 ^ w:Nat) = (x % (2 ^ w:Nat)).toNat:=by
  have h0:0 ≤ x % ((2 ^ 64:Nat):Int):=ZoI _ (by simp)
  have hd:((2 ^ w:Nat):Int) ∣ ((2 ^ 64:Nat):Int):=Int.natCast_dvd_natCast.2 (Nat.pow_dvd_pow 2 (by omega))
  have h1:=Int.emod_emod_of_dvd x hd
  have h2:(((x % ((2 ^ 64:Nat):Int)).toNat % 2 ^ w:Nat):Int) = x % (2 ^ w:Nat):=by
   rw [Zo8,ZnJ h0,h1]
  omega
 rw [hm]
 have h3:0 ≤ x % ((2 ^ w:Nat):Int):=ZoI _ (by omega)
 have h4:x % ((2 ^ w:Nat):Int) < ((2 ^ w:Nat):Int):=Int.emod_lt_of_pos _ (by omega)
 rw [ZnJ h3,Xw (by omega) (by omega)]
 simp
theorem X3 {w:Nat} (h1:1 ≤ w) (h2:w ≤ 16) (x:Int):ZP (w:Int) x = some (x % 2 ^ w):=by
 obtain ⟨a1,_,a3,_,_⟩:=ZbO (w:=(w:Int)) (by omega) (by omega)
 unfold ZP Zi
 have e:(decide ((w:Int) ≥ 1) && decide ((w:Int) ≤ 16)) = true:=by simp; omega
 simp only [e,Zl0,ZlZ,Zl2,ZlC,a1]
 rw [a3,Zmf,Ze0 x h2]
theorem ZaI {l:List Bool} {w:Nat} (h:l.length = w) (h1:1 ≤ w) (h2:w ≤ 16):Z8 (w:Int) (vB l:Int) = some true:=by
 rw [ZbT,(ZdW (by omega) (by omega) _).2]
 have:=Yl l
 rw [h] at this
 refine ⟨by omega,?_⟩
 rw [Zmf]
 have e:((2 ^ w:Nat):Int) = 2 ^ w:=by simp
 omega
theorem Za5:∀ (l:List Bool) (i:Nat),(vB l).testBit i = l.getD i false
 | [],i=>by simp [vB]
 | b :: l,0=>by
  rw [vB,Nat.testBit_zero]
  cases b <;> simp [bi] <;> omega
 | b :: l,i + 1=>by
  have e:(bi b + 2 * vB l) / 2 = vB l:=by have:=Cc.bi_le b; omega
  rw [vB,Nat.testBit_succ,e,Za5 l i]
  simp
theorem ZeT {a b:List Bool} (h:a.length = b.length) {f:Bool → Bool → Bool} (hf:f false false = false) (i:Nat):((a.zip b).map fun p=>f p.1 p.2).getD i false = f (a.getD i false) (b.getD i false):=by
 simp only [Zl9,ZlS]
 by_cases c:i < a.length
 ·rw [Zl1 (by rw [Zmk]; omega), Zl1 c, Zl1 (by omega)]
  simp
 ·rw [ZlT (by rw [Zmk]; omega), ZlT (by omega), ZlT (by omega)]
  simp [hf]
theorem Zkq {a b:List Bool} (h:a.length = b.length):vB ((a.zip b).map fun p=>p.1 && p.2) = vB a &&& vB b:=ZnC fun i=>by
 rw [Nat.testBit_and,Za5,Za5,Za5,ZeT (f:=fun p q=>p && q) h rfl]
theorem ZkW {a b:List Bool} (h:a.length = b.length):vB ((a.zip b).map fun p=>p.1 || p.2) = vB a ||| vB b:=ZnC fun i=>by
 rw [Nat.testBit_or,Za5,Za5,Za5,ZeT (f:=fun p q=>p || q) h rfl]
theorem Zkc {a b:List Bool} (h:a.length = b.length):vB ((a.zip b).map fun p=>xor p.1 p.2) = vB a ^^^ vB b:=ZnC fun i=>by
 rw [Nat.testBit_xor,Za5,Za5,Za5,ZeT (f:=fun p q=>xor p q) h rfl]
theorem Zhb:∀ {a b:List Bool} (c:Bool),a.length = b.length → (a.zip b).foldl (fun c p=>c && !(xor p.1 p.2)) c = (c && decide (a = b))
 | [],[],c,_=>by simp
 | x :: a,y :: b,c,h=>by
  rw [ZnR,Zmy,Zhb _ (by simpa using h)]
  cases c <;> cases x <;> cases y <;> simp
theorem ZgC (b:Bool):vB [b] = bi b:=by simp [vB]
theorem Zc3 {a b:List Bool} (h:a.length = b.length):Cc.lessB' a b = [decide (vB a < vB b)]:=by
 unfold Cc.lessB'
 obtain ⟨g1,g2⟩:=Cc.addB_val (a:=a) (b:=b.map fun x=>!x) (by rw [ZlW]; exact h) true
 have hn:=Cc.vB_not b
 have hl:=Yl (Cc.addB a (b.map fun x=>!x) true).1
 have ha:=Yl a
 have hb:=Yl b
 rw [g1] at hl
 rw [← h] at hb hn
 congr 1
 cases hc:(Cc.addB a (b.map fun x=>!x) true).2
 ·rw [hc] at g2
  simp only [bi,Zl2,ZlC,ZlU,ZnK] at g2
  simp only [ZnD]
  exact (decide_eq_true (by omega)).symm
 ·rw [hc] at g2
  simp only [bi,Zl2,ZlC,ZlU,ZnH] at g2
  simp only [ZlZ]
  exact (decide_eq_false (by omega)).symm
theorem Zcq {l:List Bool} (h1:1 ≤ l.length):(Cc.flipB l).length = l.length ∧ vB (Cc.flipB l) + (if l.getD (l.length - 1) false then 2 ^ (l.length - 1) else 0) = vB l + (if l.getD (l.length - 1) false then 0 else 2 ^ (l.length - 1)):=by
 unfold Cc.flipB
 refine ⟨by simp,?_⟩
 obtain ⟨m,b,rfl⟩ : ∃ m b,l = m ++ [b]:=⟨l.dropLast,l.getLast (by intro h; rw [h] at h1; simp at h1),(Zok _).symm⟩
 simp only [ZlF,ZlP,Zmu,Zor]
 rw [ZmY _ _ (by omega),Zne]
 have hg:(m ++ [b]).getD m.length false = b:=by rw [Zl9,ZlD (by omega)]; simp
 rw [hg]
 simp only [Zni,Cc.vB_snoc]
 cases b <;> simp [bi]
theorem Zdx {l:List Bool} (h1:1 ≤ l.length):l.getD (l.length - 1) false = decide (2 ^ (l.length - 1) ≤ vB l):=by
 obtain ⟨m,b,rfl⟩ : ∃ m b,l = m ++ [b]:=⟨l.dropLast,l.getLast (by intro h; rw [h] at h1; simp at h1),(Zok _).symm⟩
 simp only [ZlF,ZlP,Zmu,Zor]
 have hg:(m ++ [b]).getD m.length false = b:=by rw [Zl9,ZlD (by omega)]; simp
 rw [hg,Cc.vB_snoc]
 have:=Yl m
 cases b <;> simp [bi] <;> omega
theorem Zbl {l:List Bool} {w:Nat} (h:l.length = w) (h1:1 ≤ w) (h2:w ≤ 16):Yw (w:Int) (vB l:Int) = some (if l.getD (w - 1) false then (vB l:Int) - 2 ^ w else vB l):=by
 obtain ⟨a1,_,a3,_,a5⟩:=ZbO (w:=(w:Int)) (by omega) (by omega)
 unfold Yw
 rw [ZaI h h1 h2]
 have hv:=Yl l
 rw [h] at hv
 have hp:=p16 h2
 have ew:w64 ((w:Int) - 1) = ((w - 1:Nat):Int):=by rw [Xw (by omega) (by omega)]; omega
 simp only [Zl0,ZlZ,Zl2,ZlC]
 rw [ew,ZdL _ (by omega),Zmf,Zmg (by omega)]
 simp only [Zl0]
 have hpw:2 ^ w = 2 * 2 ^ (w - 1):=by rw [show w = w - 1 + 1 by omega,Zng,Zmv]; rfl
 have ht:=Zdx (l:=l) (by omega)
 rw [h] at ht
 have hd:((vB l:Int)).fdiv (2 ^ (w - 1)) = ((vB l / 2 ^ (w - 1):Nat):Int):=by
  have:((2:Int) ^ (w - 1)) = ((2 ^ (w - 1):Nat):Int):=by simp
  rw [this,Znc _ (by omega),Znq]
 rw [hd,ht]
 have hw2:((2:Int) ^ w) = ((2 ^ w:Nat):Int):=by simp
 by_cases c:2 ^ (w - 1) ≤ vB l
 ·have e:vB l / 2 ^ (w - 1) = 1:=by
   have:vB l = 2 ^ (w - 1) * 1 + (vB l - 2 ^ (w - 1)):=by omega
   rw [this,ZoH (Znz _),ZmN (by omega)]
  rw [e]
  simp only [c,decide_true,ZlU,Int.natCast_one,ZmU,a1,Zl0,Zmf]
  rw [Xw (by omega) (by omega)]
 ·have e : vB l / 2 ^ (w - 1) = 0 := ZmN (by omega)
  rw [e]
  simp [c]
theorem cpow (w:Nat):((2:Int) ^ w) = ((2 ^ w:Nat):Int):=by simp
theorem Zk3:∀ w:Nat,w < 16 → 1 ≤ w → Cc.lg w ≤ w ∧ w ≤ 2 ^ Cc.lg w:=by decide
theorem ZaV (x:Nat) (w:Nat):(x:Int) % 2 ^ w = ((x % 2 ^ w:Nat):Int):=by rw [cpow,Zo8]
theorem Zh5 {q S W:Nat} (h1:q < S) (h2:S ≤ W):((q:Int) - (S:Int)) % (W:Int) = ((q + (W - S):Nat):Int):=by
 rw [show ((q:Int) - S) = ((q + (W - S):Nat):Int) + (W:Int) * (-1) by omega,Zoo,Zod (by omega) (by omega)]
section
variable {w:Nat} {a b:List Bool} (h1:1 ≤ w) (h2:w ≤ 15) (ha:a.length = w) (hb:b.length = w)
include h1 h2 ha hb
theorem Zlg:ZP (w:Int) (w64 ((vB a:Int) + vB b)) = some (vB (Cc.addB a b false).1:Int):=by
 have va:=Yl a; have vb:=Yl b
 obtain ⟨g1,g2⟩:=Cc.addB_val (ha.trans hb.symm) false
 have gl:=Yl (Cc.addB a b false).1
 rw [g1] at gl
 rw [ha] at va gl g2; rw [hb] at vb
 have hp:=p16 (w:=w) (by omega)
 rw [Xw (by omega) (by omega),X3 h1 (by omega),show ((vB a:Int) + vB b) = ((vB a + vB b:Nat):Int) by omega,ZaV]
 have e:(vB a + vB b) % 2 ^ w = vB (Cc.addB a b false).1:=by
  have:vB a + vB b = vB (Cc.addB a b false).1 + 2 ^ w * bi (Cc.addB a b false).2:=by
   rw [Zmv]; simp only [bi,Zl2,ZlC] at g2 ⊢; omega
  rw [this,Znv,Znb gl]
 rw [e]
theorem Zk5:ZP (w:Int) (w64 ((vB a:Int) - vB b)) = some (vB (Cc.addB a (b.map fun x=>!x) true).1:Int):=by
 have va:=Yl a; have vb:=Yl b
 obtain ⟨g1,g2⟩:=Cc.addB_val (a:=a) (b:=b.map fun x=>!x) (by rw [ZlW]; exact ha.trans hb.symm) true
 have gl:=Yl (Cc.addB a (b.map fun x=>!x) true).1
 have hn:=Cc.vB_not b
 rw [g1] at gl
 rw [ha] at va gl g2; rw [hb] at vb hn
 have hp:=p16 (w:=w) (by omega)
 rw [Xw (by omega) (by omega),X3 h1 (by omega)]
 generalize Cc.addB a (b.map fun x=>!x) true = S at *
 have hb1:=Cc.bi_le S.2
 have e:((vB a:Int) - vB b) % 2 ^ w = (vB S.1:Int):=by
  rw [cpow]
  rcases Znr (bi S.2) 1 with c | c
  ·have c0 : bi S.2 = 0 := by omega
   rw [c0] at g2
   simp only [bi,ZlU,ZnK,ZmQ] at g2
   rw [show ((vB a:Int) - vB b) = (vB S.1:Int) + ((2 ^ w:Nat):Int) * (-1) by omega,Zoo,Zod (by omega) (by omega)]
  ·have c0 : bi S.2 = 1 := by omega
   rw [c0] at g2
   simp only [bi,ZlU,ZnH] at g2
   rw [show ((vB a:Int) - vB b) = (vB S.1:Int) by omega,Zod (by omega) (by omega)]
 rw [e]
theorem Zlx:ZP (w:Int) (w64 ((vB a:Int) * vB b)) = some (vB (Cc.mulB a b a.length):Int):=by
 have va:=Yl a; have vb:=Yl b
 obtain ⟨-,g2⟩:=Cc.mul_num (ha.trans hb.symm)
 rw [ha] at va; rw [hb] at vb
 have hp:=p16 (w:=w) (by omega)
 have hm:vB a * vB b < 65536 * 65536:=Zop (by omega) (by omega)
 rw [← Zon,Xw (by omega) (by omega),X3 h1 (by omega),ZaV,g2,ha]
theorem Zlz:Yw (w:Int) (vB a:Int) = some (if a.getD (w - 1) false then (vB a:Int) - 2 ^ w else vB a):=Zbl ha h1 (by omega)
theorem Zkg {op:Int} (ho:3 ≤ op ∧ op ≤ 16):YS op (w:Int) (vB a) (vB b) = some (vB (opB op a b):Int):=by
 have va:=Yl a; have vb:=Yl b
 rw [ha] at va; rw [hb] at vb
 have hp:=p16 (w:=w) (by omega)
 have hab:=ha.trans hb.symm
 obtain ⟨lg1,lg2⟩:=Zk3 a.length (by omega) (by omega)
 unfold YS
 rw [ZaI ha h1 (by omega),ZaI hb h1 (by omega)]
 simp only [Zl0,ZlZ,Zl2,ZlC,Znn]
 unfold opB
 rcases Cc.op_cases ho with rfl | rfl | rfl | rfl | rfl | rfl | rfl | rfl | rfl | rfl | rfl | rfl | rfl | rfl
 all_goals simp only [Int.reduceBEq,Int.reduceEq,Zl2,ZlU,ZlC]
 ·rw [Zlg h1 h2 ha hb]; rfl
 ·rw [Zk5 h1 h2 ha hb]; rfl
 ·rw [Zlx h1 h2 ha hb]; rfl
 ·obtain ⟨-, -, -, g⟩ := Cc.div_num hab
  rw [g]
  by_cases c:vB b = 0
  ·rw [c]
   obtain ⟨a1,_,a3,_,_⟩:=ZbO (w:=(w:Int)) (by omega) (by omega)
   simp only [ZnF,ZmU,ZlU,a1,Zl0]
   rw [a3,Zmf,ha,cpow]
   congr 1; omega
  ·have : ((vB b : Int) == 0) = false := by simpa using c
   rw [this]
   simp only [Zl2,ZlC,Zl4 c]
   unfold quo?
   rw [Zl4 (by omega)]
   simp only [Zl0]
   have hd:vB a / vB b ≤ vB a:=Nat.div_le_self _ _
   rw [Zoq (by omega),← Znq]
   generalize vB a / vB b = q at hd ⊢
   rw [Xw (by omega) (by omega)]
 ·obtain ⟨-, -, g, -⟩ := Cc.div_num hab
  rw [g]
  by_cases c:vB b = 0
  ·rw [c]; simp
  ·have : ((vB b : Int) == 0) = false := by simpa using c
   rw [this]
   simp only [Zl2,ZlC,Zl4 c]
   unfold rem?
   rw [Zl4 (by omega)]
   simp only [Zl0]
   have hd:vB a % vB b ≤ vB a:=Nat.mod_le _ _
   rw [Int.tmod_eq_emod_of_nonneg (by omega),← Zo8]
 ·rw [Zgf (by omega) (by omega),Zkq hab]
 ·rw [ZjZ (by omega) (by omega),ZkW hab]
 ·rw [Zj6 (by omega) (by omega),Zkc hab]
 ·rw [Cc.shP_val hab lg1 lg2, Cc.shl_num, ha]
  by_cases c:w ≤ vB b
  ·have : decide ((vB b : Int) ≥ w) = true := decide_eq_true (by omega)
   rw [this]
   have hq:2 ^ vB b = 2 ^ w * 2 ^ (vB b - w):=by rw [← Zob]; congr 1; omega
   rw [hq,Zmv (vB a),Zm2,Nat.mul_mod_right]
   rfl
  ·have : decide ((vB b : Int) ≥ w) = false := decide_eq_false (by omega)
   rw [this]
   simp only [Zl2,ZlC]
   rw [Zjr _ (by omega),Zmf,Zmg (by omega)]
   have hm:vB a * 2 ^ vB b < 65536 * 65536:=Zop (by omega) (ZlM (Nat.pow_lt_pow_right (by omega) (by omega)) (p16 (w:=w) (by omega)).1)
   simp only [Zl0]
   rw [cpow,← Zon,Xw (by omega) (by omega),X3 h1 (by omega),ZaV]
   rfl
 ·rw [Cc.shP_val hab lg1 lg2, Cc.shr_num]
  by_cases c:w ≤ vB b
  ·have : decide ((vB b : Int) ≥ w) = true := decide_eq_true (by omega)
   rw [this,ZmN (ZlM va (Zm3 (by omega) c))]
   rfl
  ·have : decide ((vB b : Int) ≥ w) = false := decide_eq_false (by omega)
   rw [this]
   simp only [Zl2,ZlC]
   rw [ZdL _ (by omega),Zmf,Zmg (by omega)]
   simp only [Zl0]
   rw [cpow,Znc _ (ZnY _),← Znq]
 ·rw [Cc.shP_val hab lg1 lg2, Zlz h1 h2 ha hb]
  simp only [Zl0]
  obtain ⟨s,hs1,hs2,hs3⟩ : ∃ s:Nat,cond (decide ((vB b:Int) ≥ w)) (w64 ((w:Int) - 1)) (vB b:Int) = s ∧ s ≤ w - 1 ∧ (s = vB b ∨ s = w - 1 ∧ w ≤ vB b):=by
   by_cases c:w ≤ vB b
   ·refine ⟨w - 1, ?_, ZlG _, .inr ⟨rfl, c⟩⟩
    rw [decide_eq_true (show (vB b:Int) ≥ w by omega),cond_true,Xw (by omega) (by omega)]; omega
   ·refine ⟨vB b, ?_, by omega, .inl rfl⟩
    rw [decide_eq_false (show ¬ (vB b:Int) ≥ w by omega),cond_false]
  rw [hs1,ZdL _ (by omega),Zmf,Zmg (by omega)]
  simp only [Zl0]
  have ht:=Zdx (l:=a) (by omega)
  rw [ha] at ht ⊢
  have hfd:∀ x:Int,x.fdiv (2 ^ s) = x / 2 ^ s:=fun x=>Znc _ (by rw [cpow]; exact ZnY _)
  have hps:0 < 2 ^ s:=Znz s
  have hpw:2 ^ w = 2 ^ (w - s) * 2 ^ s:=by rw [← Zob]; congr 1; omega
  have hpu:2 ^ (w - s) ≤ 2 ^ w:=Zm3 (by omega) (by omega)
  have hdl:vB a / 2 ^ s < 2 ^ (w - s):=Nat.div_lt_of_lt_mul (by rw [Zmv,← hpw]; exact va)
  have hw1:2 ^ w = 2 * 2 ^ (w - 1):=by rw [show w = w - 1 + 1 by omega,Zng,Zmv]; rfl
  rw [hfd]
  cases hf:a.getD (w - 1) false
  ·simp only [Zl2, ZlC]
   have e0:(vB a:Int) / 2 ^ s = ((vB a / 2 ^ s:Nat):Int):=by rw [cpow,Znq]
   rw [e0,X3 h1 (by omega),ZaV]
   have hl:=Cc.shr_num (a:=a) (vB b)
   rw [ha] at hl
   rw [hl,Znb (by omega)]
   rcases hs3 with rfl | ⟨rfl,hs4⟩
   ·rfl
   ·rw [hf] at ht
    have hlt:¬ 2 ^ (w - 1) ≤ vB a:=fun h=>by rw [decide_eq_true h] at ht; cases ht
    rw [ZmN (by omega),ZmN (ZlM va (Zm3 (by omega) hs4))]
    rfl
  ·simp only [ZlU]
   rw [hf] at ht
   have hle:2 ^ (w - 1) ≤ vB a:=of_decide_eq_true ht.symm
   have e0:((vB a:Int) - 2 ^ w) / 2 ^ s = ((vB a / 2 ^ s:Nat):Int) - ((2 ^ (w - s):Nat):Int):=by
    rw [cpow,cpow,hpw,show ((vB a:Int) - ((2 ^ (w - s) * 2 ^ s:Nat):Int)) = (vB a:Int) + ((2 ^ s:Nat):Int) * (-((2 ^ (w - s):Nat):Int)) by rw [Zon,Int.mul_neg,Int.mul_comm]; omega,Int.add_mul_ediv_left _ _ (by omega),Znq]
    omega
   rw [e0,X3 h1 (by omega)]
   have hl:=Cc.sar_num (a:=a) (vB b)
   rw [ha] at hl
   rw [hl]
   have e1:(((vB a / 2 ^ s:Nat):Int) - ((2 ^ (w - s):Nat):Int)) % 2 ^ w = ((vB a / 2 ^ s + (2 ^ w - 2 ^ (w - s)):Nat):Int):=by
    rw [cpow]; exact Zh5 hdl hpu
   rw [e1]
   rcases hs3 with rfl | ⟨rfl,hs4⟩
   ·rfl
   ·have d1:vB a / 2 ^ (w - 1) = 1:=by
     have:vB a = 2 ^ (w - 1) * 1 + (vB a - 2 ^ (w - 1)):=by omega
     rw [this,ZoH (Znz _),ZmN (by omega)]
    have d2:vB a / 2 ^ vB b = 0:=ZmN (ZlM va (Zm3 (by omega) hs4))
    have:=Znz (w - 1)
    rw [d1,d2,show w - (w - 1) = 1 by omega,show w - vB b = 0 by omega,Nat.pow_one,Nat.pow_zero]
    exact congrArg (fun n:Nat=>some (n:Int)) (by omega)
 ·rw [Zhb _ hab]
  unfold YB
  rw [ZgC,Zm7]
  by_cases c:a = b
  ·subst c; simp [bi]
  ·have:((vB a:Int) == vB b) = false:=by
    simp only [beq_eq_false_iff_ne,ne_eq]
    exact fun h=>c (Cc.vB_inj hab (by omega))
   rw [this]; simp [c,bi]
 ·rw [Zc3 hab, ZgC]
  unfold YB
  by_cases c:vB a < vB b
  ·rw [decide_eq_true (show (vB a:Int) < vB b by omega),decide_eq_true c]; rfl
  ·rw [decide_eq_false (show ¬ (vB a:Int) < vB b by omega),decide_eq_false c]; rfl
 ·obtain ⟨fa1, fa2⟩ := Zcq (l := a) (by omega)
  obtain ⟨fb1,fb2⟩:=Zcq (l:=b) (by omega)
  have ta:=Zdx (l:=a) (by omega)
  have tb:=Zdx (l:=b) (by omega)
  rw [ha] at fa2 ta; rw [hb] at fb2 tb
  rw [Zc3 (fa1.trans (hab.trans fb1.symm)),ZgC,Zbl ha h1 (by omega),Zbl hb h1 (by omega)]
  simp only [Zl0]
  unfold YB
  have hw1:2 ^ w = 2 * 2 ^ (w - 1):=by rw [show w = w - 1 + 1 by omega,Zng,Zmv]; rfl
  have key:decide ((if a.getD (w - 1) false then (vB a:Int) - 2 ^ w else vB a) < (if b.getD (w - 1) false then (vB b:Int) - 2 ^ w else vB b)) = decide (vB (Cc.flipB a) < vB (Cc.flipB b)):=by
   rw [cpow]
   cases xa:a.getD (w - 1) false <;> cases xb:b.getD (w - 1) false <;> simp only [xa,xb,Zl2,ZlC,ZlU] at fa2 fb2 ⊢ <;> rw [xa] at ta <;> rw [xb] at tb <;> refine decide_eq_decide.2 ?_ <;> simp only [eq_comm (a:=false),eq_comm (a:=true),decide_eq_false_iff_not,ZlE] at ta tb <;> omega
  rw [key]
  cases decide (vB (Cc.flipB a) < vB (Cc.flipB b)) <;> rfl
end
open Cc (BS LS CircP Grow GoodL Good litN lines negs seqP ifP opP net RelB FOk Xj ZT ZE litN_mono Zz litV ev LstF SemL vB Yl opB bi)
set_option maxRecDepth 100000
def finB (op:Int) (w m:Nat) (ks:List (List Bool)):List Bool:=
 if op = 1 then (ks.getD 0 []).map (fun b=>!b)
 else if op = 2 then opB 4 (List.replicate w false) (ks.getD 0 [])
 else if op = 17 then ((ks.getD 1 []).zip (ks.getD 2 [])).map fun p=>cond ((ks.getD 0 []).getD 0 false) p.1 p.2
 else if op = 18 then ks.getD 1 [] ++ ks.getD 0 []
 else if op = 19 then ((ks.getD 0 []).drop m).take w
 else if op = 20 then ks.getD 0 [] ++ List.replicate (w - (ks.getD 0 []).length) false
 else if op = 21 then ks.getD 0 [] ++ List.replicate (w - (ks.getD 0 []).length) ((ks.getD 0 []).getD ((ks.getD 0 []).length - 1) false)
 else opB op (ks.getD 0 []) (ks.getD 1 [])
mutual
def tB (vs:List D.Value) (E:List Bool):D.Term → List Bool
 | ⟨op,w,m,nm,ks⟩=>if op = 0 then (List.range w.toNat).map (bitI m) else if op = 22 then (varL vs nm w.toNat).map (litV E) else finB op w.toNat m.toNat (tBs vs E ks)
def tBs (vs:List D.Value) (E:List Bool):List D.Term → List (List Bool)
 | []=>[]
 | t :: l=>tB vs E t :: tBs vs E l
end
theorem Zk6 (vs:List D.Value) (E:List Bool) (t:D.Term):tB vs E t = if t.Op = 0 then (List.range t.W.toNat).map (bitI t.N) else if t.Op = 22 then (varL vs t.Name t.W.toNat).map (litV E) else finB t.Op t.W.toNat t.N.toNat (tBs vs E t.Kids):=by cases t; rw [tB]
theorem Zht (vs:List D.Value) (E:List Bool):tBs vs E [] = []:=by rw [tBs]
theorem ZfN (vs:List D.Value) (E:List Bool) (t:D.Term) (l:List D.Term):tBs vs E (t :: l) = tB vs E t :: tBs vs E l:=by rw [tBs]
theorem ZfD {c:D.Circuit} {v:List Bool} (n:Nat):(List.replicate n (-1:Int)).map (litV (ev c v)) = List.replicate n false:=by rw [ZnQ,Cc.ev_m1]
theorem fin_nf {s:BS} {t:D.Term} {ls:List (List Int)} (hb:nodeB t = true) (hs:CircP s.1) (h0:t.Op ≠ 0) (h22:t.Op ≠ 22) (hk:KK s t.Kids ls):LstF s (fin t.Op t.W.toNat t.N.toNat ls s) (fun E=>finB t.Op t.W.toNat t.N.toNat (ls.map fun l=>l.map (litV E))):=by
 obtain ⟨op,w,m,nm,ks⟩:=t
 obtain ⟨hw,hsh⟩:=Yi hb
 simp only at h0 h22 hk ⊢
 rcases hsh with ⟨rfl,-⟩ | ⟨rfl,-⟩ | ⟨ho,-,-,a,rfl,ha,haw⟩ | ⟨h3,h16,-,-,a,b,rfl,ha,hb',hab,h13,h14⟩ | ⟨rfl,-,-,a,b,c,rfl,ha,hb',hc,ha1,hbw,hcw⟩ | ⟨rfl,-,-,a,b,rfl,ha,hb',habw⟩ | ⟨rfl,-,hm0,hm1,a,rfl,ha,haw⟩ | ⟨ho,-,-,a,rfl,ha,haw⟩
 ·exact absurd rfl h0
 ·exact absurd rfl h22
 ·obtain ⟨la, r1, k1, hn1, rfl⟩ := KK1 hk
  obtain rfl:=KK0 hn1
  have hl:la.length = w.toNat:=by rw [k1.1,haw]
  unfold fin finB
  simp only [ZlA,Zms,ZlJ]
  rcases ho with rfl | rfl
  ·simp only [ZlU]
   exact ⟨fun h=>h,fun _ c' _ _ v _=>Cc.negs_bits k1.2⟩
  ·simp only [show ¬ ((2 : Int) = 1) by decide, ZlC, ZlU]
   split
   ·exact ⟨fun h=>(by cases h),fun h=>(by cases h)⟩
   ·rename_i h16
    have q:=(Cc.op_nf (s:=s) (a:=List.replicate w.toNat (-1)) (b:=la) (by simp [hl]) (by simp; omega) (by simp; omega) (Zb0 hs) k1.2 hs (op:=4) (by omega)).2
    exact q.cong fun c' v=>by rw [ZfD]
 ·obtain ⟨la, r1, k1, hn1, rfl⟩ := KK1 hk
  obtain ⟨lb,r2,k2,hn2,rfl⟩:=KK1 hn1
  obtain rfl:=KK0 hn2
  have hA:=ZK ha
  unfold fin finB
  simp only [ZlA,Zms,ZlJ,Zma]
  rw [Zl4 (by omega),Zl4 (by omega),Zl4 (by omega),Zl4 (by omega),Zl4 (by omega),Zl4 (by omega),Zl4 (by omega)]
  have e:∀ E:List Bool,(if op = 1 then (la.map (litV E)).map (fun b=>!b) else if op = 2 then opB 4 (List.replicate w.toNat false) (la.map (litV E)) else if op = 17 then ((lb.map (litV E)).zip ([]:List Bool)).map (fun p=>cond ((la.map (litV E)).getD 0 false) p.1 p.2) else if op = 18 then lb.map (litV E) ++ la.map (litV E) else if op = 19 then ((la.map (litV E)).drop m.toNat).take w.toNat
    else if op = 20 then la.map (litV E) ++ List.replicate (w.toNat - (la.map (litV E)).length) false else if op = 21 then la.map (litV E) ++ List.replicate (w.toNat - (la.map (litV E)).length) ((la.map (litV E)).getD ((la.map (litV E)).length - 1) false) else opB op (la.map (litV E)) (lb.map (litV E))) = opB op (la.map (litV E)) (lb.map (litV E)):=fun E=>by
   rw [Zl4 (by omega),Zl4 (by omega),Zl4 (by omega),Zl4 (by omega),Zl4 (by omega),Zl4 (by omega),Zl4 (by omega)]
  split
  ·exact ⟨fun h=>(by cases h),fun h=>(by cases h)⟩
  ·rename_i h16'
   have q:=(Cc.op_nf (s:=s) (a:=la) (b:=lb) (by rw [k1.1,k2.1,hab]) (by have:=k1.1; omega) (by have:=k1.1; omega) k1.2 k2.2 hs (op:=op) ⟨h3,h16⟩).2
   exact q.cong fun c' v=>(e _).symm
 ·obtain ⟨la, r1, k1, hn1, rfl⟩ := KK1 hk
  obtain ⟨lb,r2,k2,hn2,rfl⟩:=KK1 hn1
  obtain ⟨lc,r3,k3,hn3,rfl⟩:=KK1 hn2
  obtain rfl:=KK0 hn3
  unfold fin finB
  simp only [ZlA,Zms,ZlJ,Zma,show ¬ ((17:Int) = 1) by decide,show ¬ ((17:Int) = 2) by decide,ZlC,ZlU]
  have hla:0 < la.length:=by rw [k1.1,ha1]; decide
  have hc0:litN (lines s.1) (la.getD 0 0) = true:=k1.2 _ (Cc.getD_mem hla)
  have q:=Cc.seq_nf (s:=s) (l:=lb.zip lc) (g:=fun p e=>cond (litV e (la.getD 0 0)) (litV e p.1) (litV e p.2)) hs (Zhf hs hc0 k2.2 k3.2) (fun s' p hc' hgr hp=>by
   have hp':=ZnW hp
   exact Cc.if_nf hc' (litN_mono (k2.2 _ hp'.1) hgr.lines) (litN_mono (k3.2 _ hp'.2) hgr.lines) (litN_mono hc0 hgr.lines))
  exact q.cong fun c' v=>by rw [← Cc.getD_bits hla,Zos,ZmD]; rfl
 ·obtain ⟨la, r1, k1, hn1, rfl⟩ := KK1 hk
  obtain ⟨lb,r2,k2,hn2,rfl⟩:=KK1 hn1
  obtain rfl:=KK0 hn2
  unfold fin finB
  simp only [ZlA,Zms,ZlJ,Zma,show ¬ ((18:Int) = 1) by decide,show ¬ ((18:Int) = 2) by decide,show ¬ ((18:Int) = 17) by decide,ZlC,ZlU]
  exact ⟨fun h=>h,fun _ c' _ _ v _=>Zmh⟩
 ·obtain ⟨la, r1, k1, hn1, rfl⟩ := KK1 hk
  obtain rfl:=KK0 hn1
  unfold fin finB
  simp only [ZlA,Zms,ZlJ,Zma,show ¬ ((19:Int) = 1) by decide,show ¬ ((19:Int) = 2) by decide,show ¬ ((19:Int) = 17) by decide,show ¬ ((19:Int) = 18) by decide,ZlC,ZlU]
  exact ⟨fun h=>h,fun _ c' _ _ v _=>by rw [Zns,Zo3]⟩
 ·obtain ⟨la, r1, k1, hn1, rfl⟩ := KK1 hk
  obtain rfl:=KK0 hn1
  have hA:=ZK ha
  have hla:0 < la.length:=by rw [k1.1]; omega
  unfold fin finB
  rcases ho with rfl | rfl
  ·simp only [ZlA, Zms, ZlJ, Zma, show ¬ ((20 : Int) = 1) by decide, show ¬ ((20 : Int) = 2) by decide, show ¬ ((20 : Int) = 17) by decide, show ¬ ((20 : Int) = 18) by decide, show ¬ ((20 : Int) = 19) by decide, ZlC, ZlU]
   exact ⟨fun h=>h,fun _ c' _ _ v _=>by rw [Zmh,ZfD,ZlW]⟩
  ·simp only [ZlA, Zms, ZlJ, Zma, show ¬ ((21 : Int) = 1) by decide, show ¬ ((21 : Int) = 2) by decide, show ¬ ((21 : Int) = 17) by decide, show ¬ ((21 : Int) = 18) by decide, show ¬ ((21 : Int) = 19) by decide, show ¬ ((21 : Int) = 20) by decide, ZlC, ZlU]
   exact ⟨fun h=>h,fun _ c' _ _ v _=>by rw [Zmh,ZnQ,ZlW,← Cc.getD_bits (by omega)]⟩
theorem Zkl {s:BS} (w:Nat) (v:Int):LstF s (wordL w v,s) (fun _=>(List.range w).map (bitI v)):=⟨fun h=>h,fun _ c' _ _ x _=>by
 unfold wordL
 rw [ZmD]
 refine ZmM fun k _=>?_
 simp only [Function.comp]
 cases bitI v k
 ·exact Cc.ev_m1
 ·exact Cc.ev_one⟩
theorem ZjD {vs:List D.Value}:∀ (l:List D.Term) (s:BS),(∀ t ∈ l,∀ s:BS,CircP s.1 → VF vs s.1 → GoodL s t.W.toNat (nP vs t s) ∧ LstF s (nP vs t s) (fun E=>tB vs E t)) → CircP s.1 → VF vs s.1 →
  ((nPs vs l s).2.2 = false → s.2 = false ∧ ∀ c',CircP c' → Grow (nPs vs l s).2.1 c' → ∀ v:List Bool,(v.length:Int) = c'.Inputs → (nPs vs l s).1.map (fun x=>x.map (litV (ev c' v))) = tBs vs (ev c' v) l)
 | [],s,_,hs,_=>by rw [Zdp]; exact fun h=>⟨h,fun c' _ _ v _=>by rw [Zht]; rfl⟩
 | t :: l,s,h,hs,hv=>by
  rw [ZbH]
  obtain ⟨g,f⟩:=h t (by simp) s hs hv
  have q:=ZjD l (nP vs t s).2 (fun x hx=>h x (by simp [hx])) g.circ (hv.mono g.grow)
  obtain ⟨-,qg,-⟩:=Za2 l (nP vs t s).2 (fun x hx s hs hv=>(h x (by simp [hx]) s hs hv).1) g.circ (hv.mono g.grow)
  intro hn
  obtain ⟨q1,q2⟩:=q hn
  refine ⟨f.full q1,fun c' hc hg v hv'=>?_⟩
  simp only [ZlA]
  rw [q2 c' hc hg v hv',f.sem q1 c' hc (qg.trans hg) v hv',ZfN]
theorem Zlk {vs:List D.Value} (hp:vs.Pairwise fun x y=>x.Name ≠ y.Name):∀ (n:Nat) (t:D.Term) (s:BS),cnt t ≤ n → nodeB t = true → TV vs t → CircP s.1 → VF vs s.1 → LstF s (nP vs t s) (fun E=>tB vs E t):=by
 intro n
 induction n with
 | zero=>intro t s h; have:=Xm t; omega
 | succ n ih=>
  intro t s hc hb ht hs hv
  have e:(fun E=>tB vs E t) = fun E=>if t.Op = 0 then (List.range t.W.toNat).map (bitI t.N) else if t.Op = 22 then (varL vs t.Name t.W.toNat).map (litV E) else finB t.Op t.W.toNat t.N.toNat (tBs vs E t.Kids):=funext fun E=>Zk6 vs E t
  rw [Zgb,e]
  by_cases h0:t.Op = 0
  ·simp only [Zl7 h0]; exact Zkl _ _
  simp only [Zl4 h0]
  by_cases h22:t.Op = 22
  ·simp only [Zl7 h22]
   exact ⟨fun h=>h,fun _ c' _ _ v _=>rfl⟩
  simp only [Zl4 h22]
  have hcn:=Xm t
  have hkid:∀ x ∈ t.Kids,∀ s':BS,CircP s'.1 → VF vs s'.1 → GoodL s' x.W.toNat (nP vs x s') ∧ LstF s' (nP vs x s') (fun E=>tB vs E x):=fun x hx s' hs' hv'=>⟨Zbd hp _ x s' (ZlG _) (nodeK hb x hx) (Zbk ht h22 hx) hs' hv',ih x s' (by have:=Xe hx; omega) (nodeK hb x hx) (Zbk ht h22 hx) hs' hv'⟩
  obtain ⟨q1,q2,q3⟩:=Za2 t.Kids s (fun x hx s' hs' hv'=>(hkid x hx s' hs' hv').1) hs hv
  have g:=fin_good hb q1 h0 h22 q3
  have f:=fin_nf hb q1 h0 h22 q3
  have k:=ZjD t.Kids s hkid hs hv
  refine ⟨fun hn=>(k (f.full hn)).1,fun hn c' hc' hg v hv'=>?_⟩
  exact (f.sem hn c' hc' hg v hv').trans (congrArg (finB t.Op t.W.toNat t.N.toNat) ((k (f.full hn)).2 c' hc' (g.grow.trans hg) v hv'))
open Cc (BS LS CircP Grow litV ev vB Yl opB bi)
theorem ZiG {m:Nat} (hm:m < 65536) (k:Nat) (hk:k ≤ 60):bitI (m:Int) k = m.testBit k:=by
 unfold bitI
 rw [ZdL _ (by omega),Zmf,Zmg (by omega),cpow,Znc _ (ZnY _),← Znq]
 have hd:m / 2 ^ k ≤ m:=Nat.div_le_self _ _
 simp only
 rw [show (1:Int) = ((1:Nat):Int) from rfl,Zgf (by omega) (by omega),Nat.and_one_is_mod,Nat.testBit_eq_decide_div_mod_eq]
 rcases Nat.mod_two_eq_zero_or_one (m / 2 ^ k) with h | h <;> rw [h] <;> rfl
theorem Zfx {w:Nat} (hw:w ≤ 16) {v:Int} (h0:0 ≤ v) (h1:v < 2 ^ w):(vB ((List.range w).map (bitI v)):Int) = v:=by
 obtain ⟨m,rfl⟩:=ZnZ h0
 have hp:=p16 hw
 rw [cpow] at h1
 have hm:m < 2 ^ w:=by exact Int.ofNat_lt.1 h1
 have:vB ((List.range w).map (bitI (m:Int))) = m:=ZnC fun i=>by
  rw [Za5,Zl9,ZlS]
  by_cases c:i < w
  ·rw [Zno c]
   exact ZiG (by omega) i (by omega)
  ·rw [ZlT (by simp; omega)]
   exact (Nat.testBit_lt_two_pow (ZlM hm (Zm3 (by omega) (by omega)))).symm
 rw [this]
theorem ZiX:∀ {a b:List Bool} (c:Bool),a.length = b.length → ((a.zip b).map fun p=>cond c p.1 p.2) = cond c a b
 | a,b,true,h=>by simp only [cond_true]; exact List.map_fst_zip (by omega)
 | a,b,false,h=>by simp only [cond_false]; exact List.map_snd_zip (by omega)
theorem Zks (l:List Bool) (k:Nat):vB (l.take k) = vB l % 2 ^ k:=by
 by_cases c:k ≤ l.length
 ·have h := Cc.vB_split l c
  have hl:=Yl (l.take k)
  rw [Zl8,Zmg c] at hl
  rw [h,Znv,Znb hl]
 ·have hl := Yl l
  rw [Zmr (by omega),Znb (ZlM hl (Zm3 (by omega) (by omega)))]
section
variable {w:Nat} (h1:1 ≤ w) (h2:w ≤ 16)
include h1 h2
theorem Zlv {a:List Bool} (ha:a.length = w):Y4 1 (w:Int) (vB a) = some (vB (a.map fun b=>!b):Int):=by
 obtain ⟨a1,_,a3,_,_⟩:=ZbO (w:=(w:Int)) (by omega) (by omega)
 unfold Y4
 rw [ZaI ha h1 h2]
 simp only [Zl0,ZlZ,Zl2,ZlC,ZmU,ZlU,a1]
 rw [a3,Zmf,cpow]
 have hn:=Cc.vB_not a
 have hp:=p16 h2
 rw [ha] at hn
 rw [Xw (by omega) (by omega)]
 congr 1; omega
theorem Zlw {a:List Bool} (ha:a.length = w) (h15:w ≤ 15):Y4 2 (w:Int) (vB a) = some (vB (opB 4 (List.replicate w false) a):Int):=by
 unfold Y4
 rw [ZaI ha h1 h2]
 simp only [Zl0,ZlZ,Zl2,ZlC,Int.reduceBEq,ZlU]
 have q:=Zk5 h1 h15 (a:=List.replicate w false) (b:=a) (by simp) ha
 rw [Cc.vB_rep] at q
 rw [show (0:Int) - (vB a:Int) = ((0:Nat):Int) - vB a from rfl,q]
 unfold opB
 simp only [Int.reduceEq,ZlC,ZlU]
 rfl
theorem ZkY {a:List Bool} {n:Nat} (ha:a.length = n) (hn1:1 ≤ n) (hn:n ≤ w):YF (n:Int) (vB a) (w:Int) false = some (vB (a ++ List.replicate (w - n) false):Int):=by
 unfold YF
 rw [ZaI ha hn1 (by omega)]
 simp only [Zl0,ZlZ,Zmz]
 rw [decide_eq_false (show ¬ (w:Int) < n by omega),decide_eq_false (show ¬ (w:Int) > 16 by omega),Cc.vB_app,Cc.vB_rep]
 simp
theorem ZhH {a:List Bool} {n:Nat} (ha:a.length = n) (hn1:1 ≤ n) (hn:n ≤ w):YF (n:Int) (vB a) (w:Int) true = some (vB (a ++ List.replicate (w - n) (a.getD (n - 1) false)):Int):=by
 unfold YF
 rw [ZaI ha hn1 (by omega)]
 simp only [Zl0,ZlZ,Zmz]
 rw [decide_eq_false (show ¬ (w:Int) < n by omega),decide_eq_false (show ¬ (w:Int) > 16 by omega),Zbl ha hn1 (by omega)]
 simp only [Znn,Zl2,ZlC,ZlU,Zl0]
 have va:=Yl a
 rw [ha] at va
 have hpn:2 ^ n ≤ 2 ^ w:=Zm3 (by omega) hn
 rw [Cc.vB_app,ha]
 cases hf:a.getD (n - 1) false
 ·simp only [Zl2, ZlC]
  rw [X3 h1 h2,ZaV,Znb (by omega),Cc.vB_rep]
  simp
 ·simp only [ZlU]
  rw [cpow,X3 h1 h2,cpow,Zh5 va hpn]
  have ho:=Cc.vB_ones (w - n)
  have hpw:2 ^ w = 2 ^ n * 2 ^ (w - n):=by rw [← Zob]; congr 1; omega
  simp only [Zl0]
  have e:2 ^ w - 2 ^ n = 2 ^ n * vB (List.replicate (w - n) true):=by rw [hpw,← ho,ZnI,Zn2]; omega
  rw [e]
theorem Zlh {a:List Bool} {n m:Nat} (ha:a.length = n) (hn1:1 ≤ n) (hn2:n ≤ 16) (hm:m + w ≤ n):XU (n:Int) (vB a) (m:Int) (w:Int) = some (vB ((a.drop m).take w):Int):=by
 unfold XU
 rw [ZaI ha hn1 hn2]
 simp only [Zl0,ZlZ,Zmz]
 rw [decide_eq_false (show ¬ (m:Int) < 0 by omega),decide_eq_false (show ¬ (w:Int) < 1 by omega),decide_eq_false (show ¬ (w:Int) > n by omega),Xw (by omega) (by omega),decide_eq_false (show ¬ (m:Int) > (n:Int) - w by omega)]
 simp only [Znn,Zl2,ZlC]
 rw [ZdL _ (by omega),Zmf,Zmg (by omega),cpow,Znc _ (ZnY _),← Znq]
 simp only [Zl0]
 rw [X3 h1 h2,ZaV,Zks,Cc.vB_drop]
 rfl
end
theorem ZkI {a b:List Bool} {n m:Nat} (ha:a.length = n) (hb:b.length = m) (hn:1 ≤ n) (hm:1 ≤ m) (h:n + m ≤ 16):Xu (n:Int) (vB a) (m:Int) (vB b) = some (vB (b ++ a):Int):=by
 unfold Xu
 rw [ZaI ha hn (by omega),ZaI hb hm (by omega)]
 simp only [Zl0,ZlZ,Zl2,ZlC,Zmz]
 rw [Xw (a:=(n:Int) + m) (by omega) (by omega),decide_eq_false (show ¬ (n:Int) + m > 16 by omega)]
 simp only [Zl2,ZlC]
 have va:=Yl a; have vb:=Yl b
 rw [ha] at va; rw [hb] at vb
 have hpn:=p16 (w:=n) (by omega)
 have hpm:=p16 (w:=m) (by omega)
 have hm1:vB a * 2 ^ m < 65536 * 65537:=Nat.mul_lt_mul_of_lt_of_le (by omega) (by omega) (by omega)
 rw [Zjr _ (by omega),Zmf,Zmg (by omega),cpow,← Zon,Xw (by omega) (by omega)]
 simp only [Zl0]
 rw [Cc.vB_app,hb,Zmv (2 ^ m)]
 generalize vB a * 2 ^ m = q at hm1 ⊢
 rw [Xw (by omega) (by omega)]
 congr 1; omega
theorem ZjO {op:Int} {a b:List Bool} (h1:1 ≤ a.length) (h2:a.length ≤ 15) (hab:a.length = b.length) (ho:3 ≤ op ∧ op ≤ 16):(opB op a b).length = if op ≤ 13 then a.length else 1:=by
 obtain ⟨lg1,lg2⟩:=Zk3 a.length (by omega) h1
 unfold opB
 rcases Cc.op_cases ho with rfl | rfl | rfl | rfl | rfl | rfl | rfl | rfl | rfl | rfl | rfl | rfl | rfl | rfl
 all_goals simp only [Int.reduceEq,Int.reduceLE,ZlU,ZlC]
 ·exact (Cc.addB_val hab false).1
 ·exact (Cc.addB_val (by rw [ZlW]; exact hab) true).1
 ·exact (Cc.mul_num hab).1
 ·exact (Cc.div_num hab).2.1
 ·exact (Cc.div_num hab).1
 ·rw [ZlW,Zmk,← hab,Znt]
 ·rw [ZlW,Zmk,← hab,Znt]
 ·rw [ZlW,Zmk,← hab,Znt]
 ·rw [Cc.shP_val hab lg1 lg2]; simp
 ·rw [Cc.shP_val hab lg1 lg2]; simp
 ·rw [Cc.shP_val hab lg1 lg2]; simp
 ·rfl
 ·rw [Zc3 hab]; rfl
 ·rw [Zc3 (by rw [(Zcq (l:=a) (by omega)).1,(Zcq (l:=b) (by omega)).1]; exact hab)]; rfl
open Cc (litV vB Yl opB bi)
def EV (vs l:List D.Value) (E:List Bool) (p:Str × Int):Prop:=∃ x,fnd l p.1 = some x ∧ x.W = p.2 ∧ 0 ≤ x.N ∧ x.N < 2 ^ x.W.toNat ∧ (varL vs p.1 p.2.toNat).map (litV E) = (List.range p.2.toNat).map (bitI x.N)
theorem ZfT {op w m:Int} {nm:Str} {a:D.Term} {ks:List D.Term} (h:wideB ⟨op,w,m,nm,a :: ks⟩ = false) (ho:op = 2 ∨ 3 ≤ op ∧ op ≤ 16):a.W ≠ 16:=fun hw=>by
 rw [Za0,Znm] at h
 have h1:=h.1
 unfold wide1 at h1
 have:(op == 2 || decide (3 ≤ op ∧ op ≤ 16)) = true:=by rcases ho with rfl | ho; rfl; simp [ho]
 simp only at h1
 rw [this,hw] at h1
 simp at h1
theorem ZdJ {x:Int} (h:1 ≤ x):((x.toNat:Nat):Int) = x:=ZnJ (by omega)
theorem bs1 {bs:List (List Bool)} {n:Nat} (h:bs.map List.length = [n]):∃ x,bs = [x] ∧ x.length = n:=by
 cases bs with
 | nil=>simp at h
 | cons x l=>simp at h; exact ⟨x,by rw [h.2],h.1⟩
theorem bs2 {bs:List (List Bool)} {n m:Nat} (h:bs.map List.length = [n,m]):∃ x y,bs = [x,y] ∧ x.length = n ∧ y.length = m:=by
 cases bs with
 | nil=>simp at h
 | cons x l=>
  simp only [ZlA,List.cons.injEq] at h
  obtain ⟨y,rfl,hy⟩:=bs1 h.2
  exact ⟨x,y,rfl,h.1,hy⟩
theorem bs3 {bs:List (List Bool)} {n m k:Nat} (h:bs.map List.length = [n,m,k]):∃ x y z,bs = [x,y,z] ∧ x.length = n ∧ y.length = m ∧ z.length = k:=by
 cases bs with
 | nil=>simp at h
 | cons x l=>
  simp only [ZlA,List.cons.injEq] at h
  obtain ⟨y,z,rfl,hy,hz⟩:=bs2 h.2
  exact ⟨x,y,z,rfl,h.1,hy,hz⟩
theorem Zjm {t:D.Term} {bs:List (List Bool)} (hb:nodeB t = true) (hw:wideB t = false) (h0:t.Op ≠ 0) (h22:t.Op ≠ 22) (hl:bs.map List.length = t.Kids.map fun x=>x.W.toNat) :
  XC t (bs.map fun b=>(vB b:Int)) = some (vB (finB t.Op t.W.toNat t.N.toNat bs):Int) ∧ (finB t.Op t.W.toNat t.N.toNat bs).length = t.W.toNat:=by
 obtain ⟨op,w,m,nm,ks⟩:=t
 obtain ⟨hw16,hsh⟩:=Yi hb
 have hwn:=ZdJ hw16.1
 simp only at h0 h22 hl ⊢
 unfold XC Zi
 simp only
 rcases hsh with ⟨rfl,-⟩ | ⟨rfl,-⟩ | ⟨ho,-,-,a,rfl,ha,haw⟩ | ⟨h3,h16,-,-,a,b,rfl,ha,hb',hab,h13,h14⟩ | ⟨rfl,-,-,a,b,c,rfl,ha,hb',hc,ha1,hbw,hcw⟩ | ⟨rfl,-,-,a,b,rfl,ha,hb',habw⟩ | ⟨rfl,-,hm0,hm1,a,rfl,ha,haw⟩ | ⟨ho,-,-,a,rfl,ha,haw⟩
 ·exact absurd rfl h0
 ·exact absurd rfl h22
 ·obtain ⟨x, rfl, hx⟩ := bs1 (n := a.W.toNat) hl
  rw [haw] at hx
  have e:(decide (op ≥ 1) && decide (op ≤ 2)) = true:=by simp; omega
  simp only [e,Zl0,ZlU,ZlA,Zms,geti0]
  unfold finB
  simp only [ZlJ]
  rcases ho with rfl | rfl
  ·simp only [ZlU]
   have q:=Zlv (w:=w.toNat) (by omega) (by omega) hx
   rw [hwn] at q
   rw [q]
   exact ⟨rfl,by simp [hx]⟩
  ·have h15 := ZfT hw (.inl rfl)
   simp only [show ¬ ((2:Int) = 1) by decide,ZlC,ZlU]
   have q:=Zlw (w:=w.toNat) (by omega) (by omega) hx (by omega)
   rw [hwn] at q
   rw [q]
   refine ⟨rfl,?_⟩
   have ga:=Cc.addB_val (a:=List.replicate w.toNat false) (b:=x.map fun b=>!b) (by simp [hx]) true
   have:opB 4 (List.replicate w.toNat false) x = (Cc.addB (List.replicate w.toNat false) (x.map fun b=>!b) true).1:=by unfold opB; simp
   rw [this,ga.1]; simp
 ·obtain ⟨x, y, rfl, hx, hy⟩ := bs2 (n := a.W.toNat) (m := b.W.toNat) hl
  have hA:=ZK ha
  have h15:=ZfT hw (.inr ⟨h3,h16⟩)
  have e1:(decide (op ≥ 1) && decide (op ≤ 2)) = false:=by simp; omega
  have e2:(decide (op ≥ 3) && decide (op ≤ 16)) = true:=by simp; omega
  rw [e1,e2]
  simp only [Zl0,ZlU,Zl2,ZlC]
  simp only [ZlA,Zms]
  rw [get0,geti0]
  rw [geti1]
  simp only [Zl0]
  have z1:1 ≤ a.W.toNat:=by omega
  have z2:a.W.toNat ≤ 15:=by omega
  have z3:y.length = a.W.toNat:=by rw [hy,hab]
  have q:=Zkg z1 z2 hx z3 (op:=op) ⟨h3,h16⟩
  rw [ZdJ hA.1] at q
  rw [q]
  unfold finB
  simp only [ZlJ,Zma]
  rw [Zl4 (by omega),Zl4 (by omega),Zl4 (by omega),Zl4 (by omega),Zl4 (by omega),Zl4 (by omega),Zl4 (by omega)]
  refine ⟨rfl,?_⟩
  rw [ZjO (by omega) (by omega) (by rw [hx,hy,hab]) ⟨h3,h16⟩]
  split
  ·rename_i h; rw [hx,h13 h]
  ·rename_i h; rw [h14 (by omega)]; rfl
 ·obtain ⟨x, y, z, rfl, hx, hy, hz⟩ := bs3 (n := a.W.toNat) (m := b.W.toNat) (k := c.W.toNat) hl
  rw [ha1] at hx; rw [hbw] at hy; rw [hcw] at hz
  simp only [show (decide ((17:Int) ≥ 1) && decide ((17:Int) ≤ 2)) = false by decide,show (decide ((17:Int) ≥ 3) && decide ((17:Int) ≤ 16)) = false by decide,Zl0,ZlU,Zl2,ZlC,ZlA,Zms,geti0,geti1,geti2,ZmU]
  unfold finB
  simp only [ZlJ,Zma,show ¬ ((17:Int) = 1) by decide,show ¬ ((17:Int) = 2) by decide,ZlC,ZlU]
  rw [ZiX _ (hy.trans hz.symm)]
  match x,hx with
  | [true],_=>
   rw [show vB [true] = 1 from rfl,show ((((1:Nat):Int) == 1) = true) from rfl,Zl7 rfl]
   exact ⟨rfl,hy⟩
  | [false],_=>
   rw [show vB [false] = 0 from rfl,show ((((0:Nat):Int) == 1) = false) from rfl,Zl4 (by decide)]
   exact ⟨rfl,hz⟩
 ·obtain ⟨x, y, rfl, hx, hy⟩ := bs2 (n := a.W.toNat) (m := b.W.toNat) hl
  have hA:=ZK ha
  have hB:=ZK hb'
  simp only [show (decide ((18:Int) ≥ 1) && decide ((18:Int) ≤ 2)) = false by decide,show (decide ((18:Int) ≥ 3) && decide ((18:Int) ≤ 16)) = false by decide,show ((18:Int) == 17) = false by decide,Zl0,ZlU,Zl2,ZlC,ZlA,Zms,geti0,geti1,get0,get1,ZmU]
  have q:=ZkI hx hy (by omega) (by omega) (by omega)
  rw [ZdJ hA.1,ZdJ hB.1] at q
  rw [q]
  unfold finB
  simp only [ZlJ,Zma,show ¬ ((18:Int) = 1) by decide,show ¬ ((18:Int) = 2) by decide,show ¬ ((18:Int) = 17) by decide,ZlC,ZlU]
  exact ⟨rfl,by rw [ZlF,hx,hy]; omega⟩
 ·obtain ⟨x, rfl, hx⟩ := bs1 (n := a.W.toNat) hl
  have hA:=ZK ha
  simp only [show (decide ((19:Int) ≥ 1) && decide ((19:Int) ≤ 2)) = false by decide,show (decide ((19:Int) ≥ 3) && decide ((19:Int) ≤ 16)) = false by decide,show ((19:Int) == 17) = false by decide,show ((19:Int) == 18) = false by decide,Zl0,ZlU,Zl2,ZlC,ZlA,Zms,geti0,get0,ZmU]
  have q:=Zlh (w:=w.toNat) (m:=m.toNat) (by omega) (by omega) hx (by omega) (by omega) (by omega)
  rw [ZdJ hA.1,hwn,ZnJ hm0] at q
  rw [q]
  unfold finB
  simp only [ZlJ,Zma,show ¬ ((19:Int) = 1) by decide,show ¬ ((19:Int) = 2) by decide,show ¬ ((19:Int) = 17) by decide,show ¬ ((19:Int) = 18) by decide,ZlC,ZlU]
  exact ⟨rfl,by rw [Zl8,ZlV,hx]; omega⟩
 ·obtain ⟨x, rfl, hx⟩ := bs1 (n := a.W.toNat) hl
  have hA:=ZK ha
  rcases ho with rfl | rfl
  ·simp only [show (decide ((20 : Int) ≥ 1) && decide ((20 : Int) ≤ 2)) = false by decide, show (decide ((20 : Int) ≥ 3) && decide ((20 : Int) ≤ 16)) = false by decide, show ((20 : Int) == 17) = false by decide, show ((20 : Int) == 18) = false by decide, show ((20 : Int) == 19) = false by decide, show ((20 : Int) == 21) = false by decide, Zl0, ZlU, Zl2, ZlC, ZlA, Zms, geti0, get0]
   have q:=ZkY (w:=w.toNat) (by omega) (by omega) hx (by omega) (by omega)
   rw [ZdJ hA.1,hwn] at q
   rw [q]
   unfold finB
   simp only [ZlJ,Zma,show ¬ ((20:Int) = 1) by decide,show ¬ ((20:Int) = 2) by decide,show ¬ ((20:Int) = 17) by decide,show ¬ ((20:Int) = 18) by decide,show ¬ ((20:Int) = 19) by decide,ZlC,ZlU,hx]
   exact ⟨rfl,by rw [ZlF,Zmp,hx]; omega⟩
  ·simp only [show (decide ((21 : Int) ≥ 1) && decide ((21 : Int) ≤ 2)) = false by decide, show (decide ((21 : Int) ≥ 3) && decide ((21 : Int) ≤ 16)) = false by decide, show ((21 : Int) == 17) = false by decide, show ((21 : Int) == 18) = false by decide, show ((21 : Int) == 19) = false by decide, ZmU, Zl0, ZlU, Zl2, ZlC, ZlA, Zms, geti0, get0]
   have q:=ZhH (w:=w.toNat) (by omega) (by omega) hx (by omega) (by omega)
   rw [ZdJ hA.1,hwn] at q
   rw [q]
   unfold finB
   simp only [ZlJ,Zma,show ¬ ((21:Int) = 1) by decide,show ¬ ((21:Int) = 2) by decide,show ¬ ((21:Int) = 17) by decide,show ¬ ((21:Int) = 18) by decide,show ¬ ((21:Int) = 19) by decide,show ¬ ((21:Int) = 20) by decide,ZlC,ZlU,hx]
   exact ⟨rfl,by rw [ZlF,Zmp,hx]; omega⟩
theorem Zfa (vs:List D.Value) (E:List Bool):∀ l:List D.Term,tBs vs E l = l.map (tB vs E)
 | []=>by rw [Zht]; rfl
 | t :: l=>by rw [ZfN,Zfa vs E l]; rfl
theorem ZjJ {t x:D.Term} (h22:t.Op ≠ 22) (hx:x ∈ t.Kids):∀ p ∈ vrs x,p ∈ vrs t:=fun p hp=>by
 rw [XM,Zl4 h22]
 have:∀ l:List D.Term,x ∈ l → p ∈ vrss l:=fun l=>by
  induction l with
  | nil=>intro h; cases h
  | cons y l ih=>
   intro hy
   rw [Xl,ZlY]
   rcases Zmd.1 hy with rfl | hy
   ·exact .inl hp
   ·exact .inr (ih hy)
 exact this _ hx
theorem Zka {vs l:List D.Value} {E:List Bool} (hl:l.length ≤ 30):∀ (d:Nat) (t:D.Term),cnt t ≤ d → nodeB t = true → wideB t = false → (∀ p ∈ vrs t,EV vs l E p) → ∀ n:Nat,d + 1048590 ≤ n → Yx n t l = some ((vB (tB vs E t):Int),true) ∧ (tB vs E t).length = t.W.toNat:=by
 intro d
 induction d with
 | zero=>intro t h; have:=Xm t; omega
 | succ d ih=>
  intro t hc hb hw hv n hn
  obtain ⟨n,rfl⟩ : ∃ j,n = j + 1:=⟨n - 1,by omega⟩
  have hcn:=Xm t
  have hW:=ZK hb
  rw [Yx,Zk6]
  by_cases o0:t.Op = 0
  ·have c0 : (t.Op == 0) = true := by simpa using o0
   rw [Zl7 c0,Zl7 o0]
   refine ⟨?_,by simp⟩
   have hword:wordB t.W t.N = true:=by
    obtain ⟨op,w,m,nm,ks⟩:=t
    obtain ⟨-,hsh⟩:=Yi hb
    simp only at o0
    rcases hsh with ⟨-,-,-,h⟩ | ⟨h,-⟩ | ⟨h,-⟩ | ⟨h,-⟩ | ⟨h,-⟩ | ⟨h,-⟩ | ⟨h,-⟩ | ⟨h,-⟩
    ·exact h
    all_goals omega
   have hb2:=(ZdW hW.1 hW.2 t.N).1 hword
   rw [Zfx (by omega) hb2.1 hb2.2]
  ·have c0 : (t.Op == 0) = false := by simpa using o0
   rw [Zl4 (by rw [c0]; decide),Zl4 o0]
   by_cases o22:t.Op = 22
   ·have c22 : (t.Op == 22) = true := by simpa using o22
    rw [Zl7 c22,Zl7 o22]
    obtain ⟨x,x1,x2,x3,x4,x5⟩:=hv (t.Name,t.W) (by rw [XM,Zl7 o22]; simp)
    simp only at x1 x2 x5
    refine ⟨?_,by simp [ZdS]⟩
    rcases ZhN (n:=n) (v:=l) (s:=t.Name) (by omega) (by omega) with ⟨f1,-⟩ | ⟨k,y,f1,f2,f3⟩
    ·rw [x1] at f1; cases f1
    ·rw [x1, Option.some.injEq] at f1
     subst f1
     rw [f3]
     have hd:decide ((k:Int) < 0) = false:=decide_eq_false (by omega)
     have hne:(x.W != t.W) = false:=by rw [x2]; simp
     simp only [Zl0,hd,Zl2,ZlC,get?_nat,f2,Zmz,hne]
     rw [x5,← x2,Zfx (by omega) x3 x4]
   ·have c22 : (t.Op == 22) = false := by simpa using o22
    rw [Zl4 (by rw [c22]; decide),Zl4 o22]
    have hwk:=fun (x:D.Term) (hx:x ∈ t.Kids)=>ih x (by have:=Xe hx; omega) (nodeK hb x hx) (by rw [Za0,Znm] at hw; exact Zcj hw.2 hx) (fun p hp=>hv p (ZjJ o22 hx p hp)) n (by omega)
    have hkl:t.Kids.length ≤ 3:=by
     obtain ⟨op,w,m,nm,ks⟩:=t
     obtain ⟨-,hsh⟩:=Yi hb
     rcases hsh with ⟨-,rfl,-⟩ | ⟨-,rfl,-⟩ | ⟨-,-,-,a,rfl,-⟩ | ⟨-,-,-,-,a,b,rfl,-⟩ | ⟨-,-,-,a,b,c,rfl,-⟩ | ⟨-,-,-,a,b,rfl,-⟩ | ⟨-,-,-,-,a,rfl,-⟩ | ⟨-,-,-,a,rfl,-⟩ <;> simp
    have hek:=Zih (ks:=t.Kids) (f:=fun x=>Yx n x l) (g:=fun x=>((vB (tB vs E x):Int),true)) (n:=n) (fun x hx=>(hwk x hx).1) (by omega) (by omega)
    rw [hek,Zl7 (by simp)]
    simp only [Zl0]
    have q:=Zjm (bs:=tBs vs E t.Kids) hb hw o0 o22 (by
     rw [Zfa,ZmD]
     exact ZmM fun x hx=>(hwk x hx).2)
    have e:(t.Kids.map fun x=>((fun x=>((vB (tB vs E x):Int),true)) x).1) = (tBs vs E t.Kids).map fun b=>(vB b:Int):=by rw [Zfa,ZmD]; rfl
    rw [e,q.1]
    exact ⟨rfl,q.2⟩
open Cc (BS LS CircP Grow GoodL Good litN lines negs seqP ifP opP net RelB FOk FU)
instance:FU fuel:=⟨by unfold fuel; omega⟩
theorem Zfz:∀ {l g g':List (Str × Int)},runV g l = some g' → ∀ p:Str × Int,g'.lookup p.1 = some p.2 → g.lookup p.1 = some p.2 ∨ p ∈ l
 | [],g,g',h,p,hp=>by simp only [runV,Option.some.injEq] at h; subst h; exact .inl hp
 | v :: l,g,g',h,p,hp=>by
  simp only [runV,ZmF] at h
  obtain ⟨g1,h1,h2⟩:=h
  rcases Zfz h2 p hp with h3 | h3
  ·unfold stp at h1
   split at h1
   ·split at h1
    ·cases h1; exact .inl h3
    ·cases h1
   ·cases h1
    obtain ⟨s,w⟩:=p
    obtain ⟨s',w'⟩:=v
    simp only [List.lookup] at h3
    split at h3
    ·rename_i e
     have e:s = s':=by simpa using e
     cases h3
     exact .inr (by rw [e]; simp)
    ·exact .inl h3
  ·exact .inr (ZlQ _ h3)
def zv (v:D.Value):D.Value:=⟨v.Name,v.W,0⟩
structure VL (t:D.Term) (L:List D.Value):Prop where
 eq:L.map zv = vtab (vrs t).reverse
 nm:L.Pairwise fun x y=>x.Name ≠ y.Name
 mem:∀ v ∈ L,(v.Name,v.W) ∈ vrs t
 all:TV L t
theorem Zlc {a b:Str} (h:Str.ltb a b = true):a ≠ b:=fun e=>by
 subst e
 have:=Zbg a
 rw [this] at h; cases h
theorem ZgB {t:D.Term} (h:termB t = true) (hs:msz t ≤ 1048576):∃ L,Y0 fuel t = some L ∧ VL t L:=by
 have hb:=h
 unfold termB at hb
 simp only [Zl6,ZlE] at hb
 obtain ⟨⟨hc,hn⟩,hr⟩:=hb
 have hv:=ZdY t
 obtain ⟨l',b,e,hT,hF⟩:=ZeG fuel t [] [] hs ⟨List.Pairwise.nil,rfl,fun v hv=>(by cases hv),fun s w h=>(by simp at h)⟩ (by simp; omega) (by unfold fuel; omega)
 cases b with
 | false=>rw [hF rfl] at hr; cases hr
 | true=>
  obtain ⟨g',hg,hR⟩:=hT rfl
  obtain ⟨r1,r2,r3,r4⟩:=hR
  have hlk:=(Zel hg).2
  have hmem:∀ s w,g'.lookup s = some w → (s,w) ∈ vrs t:=fun s w h=>by
   rcases Zfz hg (s,w) h with h | h
   ·simp at h
   ·exact h
  have hrev:∀ s w,(vrs t).reverse.lookup s = some w ↔ g'.lookup s = some w:=fun s w=>by
   constructor
   ·intro h
    exact hlk (s,w) (Zo9.1 (ZdI h))
   ·intro h
    obtain ⟨z,hz⟩:=ZeH (Zo9.2 (hmem s w h))
    have:=hlk (s,z) (Zo9.1 (ZdI hz))
    rw [h] at this
    rw [hz,Option.some.inj this]
  refine ⟨l',?_,?_,?_,?_,?_⟩
  ·unfold Y0
   rw [ZaN hs,h]
   simp only [Zl0,ZlZ,Zl2,ZlC]
   rw [e]; rfl
  ·refine ZiL (Zoe.2 r1) (ZaD _) fun v => ?_
   rw [ZbA,Zm6]
   constructor
   ·rintro ⟨x, hx, rfl⟩
    exact ⟨(hrev _ _).2 (r3 x hx),rfl⟩
   ·rintro ⟨h1, h2⟩
    have h1':=(hrev _ _).1 h1
    obtain ⟨x,hx,hxn⟩:=r4 _ _ h1'
    have:=r3 x hx
    rw [hxn,h1'] at this
    refine ⟨x,hx,?_⟩
    cases v
    simp only [zv] at *
    rw [hxn,← Option.some.inj this,h2]
  ·exact r1.imp fun h=>Zlc h
  ·exact fun v hv=>hmem _ _ (r3 v hv)
  ·intro p hp
   have:=hlk p hp
   obtain ⟨x,hx,hxn⟩:=r4 _ _ this
   have h2:=r3 x hx
   rw [hxn,this] at h2
   exact ⟨x,hx,hxn,(Option.some.inj h2).symm⟩
def bitsV (l:List D.Value) (a:Int):Int:=(l.map (·.W)).foldl (· + ·) a
theorem ZdR (v:D.Value) (l:List D.Value) (a:Int):bitsV (v :: l) a = bitsV l (a + v.W):=rfl
theorem ZhF {L:List D.Value} (hl:L.length ≤ 1000) (hw:∀ v ∈ L,1 ≤ v.W ∧ v.W ≤ 16):Xz fuel L = some (bitsV L 0):=by
  unfold Xz
  obtain ⟨r,g1,g2⟩:=Y9 (l:=L) (n:=fuel) (σ:=Int) (ρ:=Int) (B:=fun (s1:Int × Int)=>
    if (decide (s1.2 < (len L))) then
     (get? L s1.2).bind fun x1=>
     some (.inl ((w64 (s1.1 + x1.W)),(w64 (s1.2 + 1))))
    else
     some (.inr (s1.1))) (fun k a=>(a,(k:Int))) (fun ys a=>bitsV ys a = bitsV L 0 ∧ 0 ≤ a ∧ a ≤ 16 * (L.length - ys.length:Int) ∧ ∀ y ∈ ys,y ∈ L) (fun r=>r = bitsV L 0)
    (fun k x xs a hk hx hlen ⟨h1,h2,h3,h4⟩=>by
      have hd:decide ((k:Int) < len L) = true:=by rw [Za]; simp; omega
      have hxw:=hw x (h4 x (by simp))
      simp only [ZlP] at hlen h3
      simp only [hd,ZlU,get?_nat,hx,Zl0]
      exact .inl ⟨a + x.W,by rw [Zd (by omega) (by omega),Zd (by omega) (by omega)]; rfl,h1,by omega,by omega,fun y hy=>h4 y (by simp [hy])⟩)
    (fun a ⟨h1,_⟩=>by
      have hd:decide ((L.length:Int) < len L) = false:=by rw [Za]; simp
      simp only [hd,Zl2,ZlC]
      exact ⟨_,rfl,h1⟩) (a:=0) ⟨rfl,by omega,by omega,fun y h=>h⟩ (lt_fuel (by omega))
  rw [show ((0:Nat):Int) = 0 from rfl] at g1
  rw [g1,g2]; rfl
theorem ZhB {a:Int} {w:Nat} (hw:w ≤ 16) (h0:0 ≤ a) (h1:a ≤ 100000):iterN (fun (s2:Int × Int × (List Int))=>
     if (decide (s2.2.1 ≥ 0)) then
      (set? s2.2.2 s2.2.1 (w64 (2 + s2.1))).bind fun x6=>
      some (.inl ((w64 (s2.1 + 1)),(w64 (s2.2.1 - 1)),x6))
     else
      some (.inr (s2.1,s2.2.2))
    ) fuel (a,(w:Int) - 1,List.replicate w 0) = some (a + w,(List.range w).map fun k:Nat=>1 + a + (w:Int) - (k:Int)):=by
  rw [ZV (I:=fun k t=>t = (a + (k:Int),(w:Int) - 1 - (k:Int),List.replicate (w - k) 0 ++ (List.range k).map fun i:Nat=>1 + a + (k:Int) - (i:Int))) (m:=w) (r:=(a + (w:Int),(List.range w).map fun k:Nat=>1 + a + (w:Int) - (k:Int))) (fun k t hk ht=>?_) (fun t ht=>?_) w 0 _ (by omega) (by simp) fuel (lt_fuel (by omega))]
  all_goals subst ht
  · refine ⟨_, ?_, rfl⟩
    simp only
    rw [Zl7 (by simp; omega),show (w:Int) - 1 - (k:Int) = ((w - 1 - k:Nat):Int) by omega,set?_nat (by simp; omega),Zd (x:=2 + (a + (k:Int))) (by omega) (by omega)]
    simp only [Zl0]
    rw [Zd (by omega) (by omega),Zd (by omega) (by omega)]
    have e:(List.replicate (w - k) (0:Int) ++ (List.range k).map fun i:Nat=>1 + a + (k:Int) - (i:Int)).set (w - 1 - k) (2 + (a + (k:Int))) = List.replicate (w - (k + 1)) 0 ++ (List.range (k + 1)).map fun i:Nat=>1 + a + ((k + 1:Nat):Int) - (i:Int):=by
      rw [List.set_append_left _ _ (by simp; omega),show w - k = (w - (k + 1)) + 1 by omega,Zoj,ZmY _ _ (by simp; omega),Zmp,show w - 1 - k - (w - (k + 1)) = 0 by omega,Zni,Zmq,Zmt,List.range_succ_eq_map,ZlA,ZmD]
      congr 2
      · omega
      · apply ZmM
        intro i _
        simp only [Function.comp]
        omega
    rw [e]
    simp only [Option.some.injEq,Sum.inl.injEq,Prod.mk.injEq]
    exact ⟨by omega,by omega,trivial⟩
  · simp only
    rw [Zl4 (by simp; omega),Zne]
    rfl
theorem Zhx {x:D.Value} {ys:List D.Value}:∀ {pre:List D.Value} {a:Int},(∀ v ∈ pre,v.Name ≠ x.Name) → atV (pre ++ x :: ys) a x.Name = bitsV pre a + x.W
 | [],a,_=>by
  show (if Str.eqb x.Name x.Name = true then a + x.W else _) = _
  rw [Zl7 (Zeh _)]; rfl
 | v :: pre,a,h=>by
  show (if Str.eqb v.Name x.Name = true then a + v.W else atV (pre ++ x :: ys) (a + v.W) x.Name) = _
  rw [Zl4 (by rw [Zbh]; simpa using h v (by simp))]
  exact Zhx fun u hu=>h u (by simp [hu])
theorem Zjf {L:List D.Value} (hl:L.length ≤ 1000) (hw:∀ v ∈ L,1 ≤ v.W ∧ v.W ≤ 16) (hn:∀ v ∈ L,v.Name.bytes.length ≤ 1000) (hp:L.Pairwise fun x y=>x.Name ≠ y.Name):∃ mp,iterN (fun (s1:Int × Int × (List (Str × List Int)))=>
   if (decide (s1.2.1 < (len (L.map zv)))) then
    (get? (L.map zv) s1.2.1).bind fun x4=>
    (mk? x4.W (0:Int)).bind fun x5 =>
    (iterN (fun (s2 : Int × Int × (List Int)) =>
     if (decide (s2.2.1 ≥ 0)) then
      (set? s2.2.2 s2.2.1 (w64 (2 + s2.1))).bind fun x6=>
      some (.inl ((w64 (s2.1 + 1)),(w64 (s2.2.1 - 1)),x6))
     else
      some (.inr (s2.1,s2.2.2))
    ) fuel (s1.1,(w64 (x4.W - 1)),x5)).bind fun (rl2:Int × (List Int))=>
    (mput? fitS s1.2.2 x4.Name rl2.2).bind fun x7=>
    some (.inl (rl2.1,(w64 (s1.2.1 + 1)),x7))
   else
    some (.inr (s1.1,s1.2.2))
  ) fuel (0,0,([]:List (Str × List Int))) = some (bitsV L 0,mp) ∧ MapOk L mp:=by
  obtain ⟨r,g1,mp,rfl,g2⟩:=Y9 (l:=L) (n:=fuel) (σ:=Int × List (Str × List Int)) (ρ:=Int × List (Str × List Int)) (B:=fun (s1:Int × Int × (List (Str × List Int)))=>
   if (decide (s1.2.1 < (len (L.map zv)))) then
    (get? (L.map zv) s1.2.1).bind fun x4=>
    (mk? x4.W (0:Int)).bind fun x5 =>
    (iterN (fun (s2 : Int × Int × (List Int)) =>
     if (decide (s2.2.1 ≥ 0)) then
      (set? s2.2.2 s2.2.1 (w64 (2 + s2.1))).bind fun x6=>
      some (.inl ((w64 (s2.1 + 1)),(w64 (s2.2.1 - 1)),x6))
     else
      some (.inr (s2.1,s2.2.2))
    ) fuel (s1.1,(w64 (x4.W - 1)),x5)).bind fun (rl2:Int × (List Int))=>
    (mput? fitS s1.2.2 x4.Name rl2.2).bind fun x7=>
    some (.inl (rl2.1,(w64 (s1.2.1 + 1)),x7))
   else
    some (.inr (s1.1,s1.2.2))) (fun k a=>(a.1,(k:Int),a.2))
    (fun ys a=>∃ pre,pre ++ ys = L ∧ a.1 = bitsV pre 0 ∧ 0 ≤ a.1 ∧ a.1 ≤ 16 * pre.length ∧ a.2.length = pre.length ∧ ∀ v ∈ pre,a.2.lookup v.Name = some (varL L v.Name v.W.toNat))
    (fun r=>∃ mp,r = (bitsV L 0,mp) ∧ MapOk L mp)
    (fun k x xs a hk hx hlen ⟨pre,h1,h2,h3,h4,h5,h6⟩=>by
      have hxL:x ∈ L:=by rw [← h1]; simp
      have hxw:=hw x hxL
      have hpl:pre.length ≤ L.length:=by rw [← h1]; simp
      have hd:decide ((k:Int) < len (L.map zv)) = true:=by rw [Za]; simp; omega
      have eW:((x.W.toNat:Nat):Int) = x.W:=by omega
      have hz:(L.map zv)[k]? = some (zv x):=by rw [ZlS,hx]; rfl
      have hne:∀ v ∈ pre,v.Name ≠ x.Name:=fun v hv=>by
        rw [← h1] at hp
        exact (Zny.1 hp).2.2 v hv x (by simp)
      have hat:atV L 1 x.Name = 1 + a.1 + x.W:=by
        rw [← h1,Zhx hne,h2]
        have:=ZbX (pre.map (·.W)) 1 0
        unfold bitsV
        rw [show (1:Int) + 0 = 1 from rfl] at this
        rw [this]
      simp only [hd,ZlU,get?_nat,hz,Zl0]
      rw [show (zv x).W = x.W from rfl,show (zv x).Name = x.Name from rfl,show mk? x.W (0:Int) = some (List.replicate x.W.toNat 0) from by unfold mk?; rw [Zl7 ⟨by omega,by unfold room; omega⟩]]
      simp only [Zl0]
      rw [Zd (x:=x.W - 1) (by omega) (by omega)]
      have:=ZhB (a:=a.1) (w:=x.W.toNat) (by omega) h3 (by omega)
      rw [eW] at this
      rw [this]
      simp only [Zl0]
      rw [show mput? fitS a.2 x.Name ((List.range x.W.toNat).map fun k:Nat=>1 + a.1 + x.W - (k:Int)) = some ((x.Name,varL L x.Name x.W.toNat) :: a.2) from by
        unfold mput?
        rw [Zl7 ⟨by have:=hn x hxL; unfold fitS; simp; omega,by unfold room; omega⟩]
        unfold varL; rw [hat]]
      simp only [Zl0]
      rw [Zd (by omega) (by omega)]
      refine .inl ⟨(a.1 + x.W,(x.Name,varL L x.Name x.W.toNat) :: a.2),rfl,pre ++ [x],by rw [Zmq]; exact h1,?_,by show 0 ≤ a.1 + x.W; omega,by simp; omega,by simp [h5],fun v hv=>?_⟩
      · show a.1 + x.W = bitsV (pre ++ [x]) 0
        unfold bitsV
        rw [Zmh,Zme,h2]; rfl
      · rcases ZlY.1 hv with hv | hv
        · have hn := hne v hv
          rw [Zmb,show (v.Name == x.Name) = false by simpa using hn]
          exact h6 v hv
        · rw [Zmo] at hv
          subst hv
          rw [Zmb]; simp)
    (fun a ⟨pre,h1,h2,h3,h4,h5,h6⟩=>by
      have hd:decide ((L.length:Int) < len (L.map zv)) = false:=by rw [Za]; simp
      simp only [hd,Zl2,ZlC]
      rw [ZmK] at h1
      subst h1
      exact ⟨_,rfl,a.2,by rw [h2],fun v hv=>⟨hn v hv,by rw [h6 v hv]; rfl⟩⟩) (a:=(0,[])) ⟨[],rfl,rfl,by omega,by simp,rfl,fun v hv=>by cases hv⟩ (lt_fuel (by omega))
  rw [show ((0:Nat):Int) = 0 from rfl] at g1
  exact ⟨mp,g1,g2⟩
theorem Zlr:∀ n:Nat,(∀ t:D.Term,cnt t < n → nodeB t = true → ∀ p ∈ vrs t,1 ≤ p.2 ∧ p.2 ≤ 16 ∧ p.1.bytes.length ≤ 8):=by
 intro n
 induction n with
 | zero=>intro t h; omega
 | succ n ih=>
  intro t h hb p hp
  have hc:=Xm t
  rw [XM] at hp
  by_cases h22:t.Op = 22
  ·rw [Zl7 h22, Zmo] at hp
   subst hp
   have:=ZK hb
   exact ⟨this.1,this.2,(ZfX hb h22).1⟩
  ·rw [Zl4 h22] at hp
   have:∀ l:List D.Term,(∀ x ∈ l,x ∈ t.Kids) → p ∈ vrss l → ∃ x ∈ t.Kids,p ∈ vrs x:=fun l=>by
    induction l with
    | nil=>intro _ h; rw [Za4] at h; cases h
    | cons y l ihl=>
     intro hm h
     rw [Xl,ZlY] at h
     rcases h with h | h
     ·exact ⟨y,hm y (by simp),h⟩
     ·exact ihl (fun z hz=>hm z (by simp [hz])) h
   obtain ⟨x,hx,hpx⟩:=this t.Kids (fun _ h=>h) hp
   exact ih x (by have:=Xe hx; omega) (nodeK hb x hx) p hpx
def c0:D.Circuit:=⟨0,[]⟩
def circT (t:D.Term):D.Circuit × List Int × Bool:=
 if termB t = true then
  let L:=(Y0 fuel t).getD []
  let r:=nP L t (⟨bitsV L 0,[]⟩,false)
  if bitsV L 0 > 30 ∨ r.2.2 = true then (c0,[],false) else (r.2.1,r.1,true)
 else (c0,[],false)
theorem Zcu {b:Int} (h0:0 ≤ b) (h1:b ≤ 30):CircP ⟨b,[]⟩:=⟨h0,h1,by simp,fun k g hg=>by simp at hg⟩
section
variable {t:D.Term} (h:termB t = true) (hs:msz t ≤ 1048576)
include h hs
theorem Zcg:∃ L,Y0 fuel t = some L ∧ VL t L ∧ nodeB t = true ∧ cnt t ≤ 240 ∧ (∀ v ∈ L,1 ≤ v.W ∧ v.W ≤ 16) ∧ (∀ v ∈ L,v.Name.bytes.length ≤ 1000) ∧ L.length ≤ 1000 ∧ 0 ≤ bitsV L 0:=by
 obtain ⟨L,e,hL⟩:=ZgB h hs
 have hb:=h
 unfold termB at hb
 simp only [Zl6,ZlE] at hb
 obtain ⟨⟨hc,hn⟩,-⟩:=hb
 have hw:∀ v ∈ L,1 ≤ v.W ∧ v.W ≤ 16 ∧ v.Name.bytes.length ≤ 8:=fun v hv=>Zlr _ t (Nat.lt_succ_self _) hn _ (hL.mem v hv)
 have hlen:L.length ≤ 1000:=by
  have h1:=congrArg List.length hL.eq
  rw [ZlW] at h1
  have h2:=ZcF (vrs t).reverse
  rw [List.length_reverse] at h2
  have:=ZdY t
  omega
 have hb0:=Zfv (l:=L) (a:=0) fun v hv=>(hw v hv).1
 exact ⟨L,e,hL,hn,hc,fun v hv=>⟨(hw v hv).1,(hw v hv).2.1⟩,fun v hv=>by have:=(hw v hv).2.2; omega,hlen,by unfold bitsV; omega⟩
end
theorem ZgG {t:D.Term} (hs:msz t ≤ 1048576):Xo fuel t = some (circT t):=by
 unfold Xo circT
 by_cases h:termB t = true
 ·obtain ⟨L, e, hL, hn, hc, hw, hnm, hlen, hb0⟩ := Zcg h hs
  rw [e,ZaN hs,h]
  simp only [Zl0,ZlZ,Zl2,ZlC,Zmz,ZlU,Zmm]
  rw [ZhF hlen hw]
  simp only [Zl0]
  by_cases hb:bitsV L 0 > 30
  ·rw [Zl7 (by simpa using hb),Zl7 (.inl hb)]; rfl
  ·rw [Zl4 (by simpa using hb)]
   have hC:=Zcu hb0 (by omega)
   rw [Cc.spec_new hC]
   simp only [Zl0]
   have hv:VF L (⟨bitsV L 0,[]⟩ : D.Circuit):=⟨fun v hv=>(hw v hv).1,rfl⟩
   rw [ZjF hL.nm (fun v hv=>(hw v hv).2) fuel t (⟨bitsV L 0,[]⟩,false) (by unfold fuel; omega) hn hL.all hC hv]
   simp only [Zl0]
   have g:=Zbd hL.nm _ t (⟨bitsV L 0,[]⟩,false) (ZlG _) hn hL.all hC hv
   generalize nP L t (⟨bitsV L 0,[]⟩,false) = r at g ⊢
   have hw16:=ZK hn
   have hl:=g.len
   cases hf:r.2.2
   ·rw [Zl4 (by decide), Zl4 (by rintro (h | h); exact hb h; cases h)]
    rw [Zbp (by simp; omega)]; rfl
   ·rw [Zl7 rfl,Zl7 (.inr rfl)]; rfl
 ·have h' : termB t = false := by simpa using h
  have e:Y0 fuel t = some []:=by
   unfold Y0
   rw [ZaN hs,h']; rfl
  rw [e,ZaN hs,h',Zl4 (by decide)]
  rfl
theorem ZgA {t:D.Term} (hs:msz t ≤ 1048576):Xv fuel t = some (circT t):=by
 unfold Xv circT
 rw [Zer hs]
 simp only [Zl0]
 by_cases h:termB t = true
 ·obtain ⟨L, e, hL, hn, hc, hw, hnm, hlen, hb0⟩ := Zcg h hs
  rw [h]
  simp only [ZlZ,Zl2,ZlC,Zmz,ZlU]
  rw [Zie fuel t (by unfold fuel; omega) hn]
  simp only [Zl0,e,Zmm]
  have hv:VF L (⟨bitsV L 0,[]⟩ : D.Circuit):=⟨fun v hv=>(hw v hv).1,rfl⟩
  cases hwd:wideB t
  ·simp only [Zl2, ZlC]
   rw [ZhT h hs,← hL.eq]
   simp only [Zl0]
   obtain ⟨mp,hl1,hmp⟩:=Zjf hlen hw hnm hL.nm
   rw [hl1]
   simp only [Zl0]
   by_cases hb:bitsV L 0 > 30
   ·rw [Zl7 (by simpa using hb),Zl7 (.inl hb)]; rfl
   ·rw [Zl4 (by simpa using hb)]
    have hC:=Zcu hb0 (by omega)
    obtain ⟨m0,e0,r0⟩:=Cc.impl_new (fuel:=fuel) hC
    rw [e0]
    simp only [Zl0]
    obtain ⟨m1,e1,r1⟩:=Zi2 hL.nm hmp fuel t (⟨bitsV L 0,[]⟩,false) m0 (by unfold fuel; omega) hn hwd hL.all hC hv r0
    rw [e1]
    simp only [Zl0]
    have g:=Zbd hL.nm _ t (⟨bitsV L 0,[]⟩,false) (ZlG _) hn hL.all hC hv
    generalize nP L t (⟨bitsV L 0,[]⟩,false) = r at g r1 ⊢
    have hw16:=ZK hn
    have hl:=g.len
    rw [r1.full]
    cases hf:r.2.2
    ·rw [Zl4 (by decide), Zl4 (by rintro (h | h); exact hb h; cases h)]
     rw [show Ze r.1 = some r.1 from by unfold Ze; rw [Zbp (by simp; omega)]; rfl]
     simp only [Zl0]
     rw [r1.c]
    ·rw [Zl7 rfl,Zl7 (.inr rfl)]; rfl
  ·simp only [ZlU]
   by_cases hb:bitsV L 0 > 30
   ·rw [Zl7 (.inl hb)]; rfl
   ·have hC := Zcu hb0 (by omega)
    rw [Zl7 (.inr (Ze8 hL.nm _ t (⟨bitsV L 0,[]⟩,false) (ZlG _) hn hwd hL.all hC hv))]; rfl
 ·have h' : termB t = false := by simpa using h
  rw [h']
  simp only [ZnD,ZlU,Zl0,Zog,Zl2,ZlC]
  rfl
end Go.Proofs.YthlolmkdppfioaaGreat
end
section
namespace Go.Proofs.YthlolmkdppfioaaGreat.Cc
open Go.GL
variable {fuel:Nat} [FU fuel]
theorem iterN_upE0 {σt ρt:Type} {B:σt → Option (σt ⊕ ρt)} {I:Nat → σt → Prop} {m:Nat} {R:ρt → Prop} (hs:∀ k s,k < m → I k s → ∃ s',B s = some (.inl s') ∧ I (k + 1) s') (hf:∀ s,I m s → ∃ r,B s = some (.inr r) ∧ R r) :
  ∀ (d k:Nat) (s:σt),k + d = m → I k s → ∀ n,d < n → ∃ r,iterN B n s = some r ∧ R r
 | 0,k,s,hk,hi,n,hn=>by
  obtain ⟨n,rfl⟩ : ∃ j,n = j + 1:=⟨n - 1,by omega⟩
  obtain rfl:k = m:=by omega
  obtain ⟨r,h1,h2⟩:=hf s hi
  exact ⟨r,by unfold iterN; rw [h1],h2⟩
 | d + 1,k,s,hk,hi,n,hn=>by
  obtain ⟨n,rfl⟩ : ∃ j,n = j + 1:=⟨n - 1,by omega⟩
  obtain ⟨s',h1,h2⟩:=hs k s (by omega) hi
  obtain ⟨r,h3,h4⟩:=iterN_upE0 hs hf d (k + 1) s' (by omega) h2 n (by omega)
  exact ⟨r,by unfold iterN; rw [h1]; exact h3,h4⟩
structure CurOk (c:D.l01Cur):Prop where
 i0:0 ≤ c.i
 len:c.b.length ≤ 1048576
theorem band255 (x:Int):0 ≤ band x 255 ∧ band x 255 ≤ 255:=by
 unfold band
 have h:(BitVec.ofInt 64 x &&& BitVec.ofInt 64 255).toNat ≤ 255:=by
  rw [BitVec.toNat_and]; exact Nat.and_le_right
 rw [Zd (by omega) (by omega)]; omega
theorem Zd1 {c:D.l01Cur} (h:CurOk c):∃ x i h',YZ c = some (x,⟨c.b,i,h'⟩) ∧ 0 ≤ x ∧ x ≤ 255 ∧ CurOk ⟨c.b,i,h'⟩:=by
 unfold YZ
 have hs:∀ (z:Int) (k:Nat),shr? z (k:Int) = some (z.fdiv (2 ^ min k 64)):=fun z k=>by unfold shr?; rw [Zl4 (by omega)]; simp
 have h33:∀ z:Int,∃ y,shr? z 33 = some y:=fun z=>⟨_,hs z 33⟩
 have h45:∀ z:Int,∃ y,shr? z 45 = some y:=fun z=>⟨_,hs z 45⟩
 obtain ⟨y1,e1⟩:=h33 (w64 ((w64 (c.h * 6364136223846793005)) + 1442695040888963407))
 obtain ⟨y2,e2⟩:=h45 (w64 ((w64 (c.h * 6364136223846793005)) + 1442695040888963407))
 rw [e1,e2]
 simp only [Zl0]
 have h0:=h.i0
 have hl:=h.len
 by_cases hlt:c.i < (c.b.length:Int)
 ·rw [Zl7 (by rw [Za]; simpa using hlt)]
  have hi:get? c.b c.i = some (c.b[c.i.toNat]'(by omega)):=by
   unfold get?; rw [Zl7 h0,Zl1]
  rw [hi]
  exact ⟨_,_,_,rfl,(band255 _).1,(band255 _).2,⟨by simp only; rw [Zd (by omega) (by omega)]; omega,hl⟩⟩
 ·rw [Zl4 (by rw [Za]; simpa using hlt)]
  exact ⟨_,_,_,rfl,(band255 _).1,(band255 _).2,⟨h0,hl⟩⟩
theorem YP {c:D.l01Cur} (h:CurOk c) {n:Int} (hn:0 < n):∃ x i h',Zn c n = some (x,⟨c.b,i,h'⟩) ∧ 0 ≤ x ∧ x < n ∧ CurOk ⟨c.b,i,h'⟩:=by
 unfold Zn
 obtain ⟨x,i,h',e,x0,x1,ok⟩:=Zd1 h
 rw [Zl4 (by simp; omega),e]
 simp only [Zl0]
 have hr:rem? x n = some (x.tmod n):=by unfold rem?; rw [Zl4 (by omega)]
 rw [hr]
 exact ⟨_,_,_,rfl,Int.tmod_nonneg _ x0,Int.tmod_lt_of_pos _ hn,ok⟩
theorem Zgr {code:List Byt} (hl:code.length ≤ 1048576) {n:Int} (h0:0 ≤ n):∃ i h,XF fuel code n = some ⟨code,i,h⟩ ∧ CurOk ⟨code,i,h⟩:=by
 have hnew:∃ h,Zak fuel code = some ⟨code,0,h⟩:=by
  unfold Zak
  have key:∃ r,iterN (fun (s1:Int × Int)=>
    if ((decide (s1.2 < (Go.GL.len code))) && (decide (s1.2 < 4000))) then
     (get? code s1.2).bind fun x1=>
     some (.inl ((band (w64 ((w64 ((w64 (s1.1 * 131)) + (w64 x1.n))) + 7)) 1073741823),(w64 (s1.2 + 1))))
    else
     some (.inr (s1.1))) fuel ((w64 (55127 + (Go.GL.len code))),0) = some r ∧ True:=by
   refine iterN_upE0 (I:=fun k s=>s.2 = (k:Int)) (m:=min code.length 4000) (fun k s hk hs=>?_) (fun s hs=>?_) (min code.length 4000) 0 _ (by omega) rfl fuel (lt_fuel (by omega))
   ·obtain ⟨z, y⟩ := s
    simp only at hs
    subst hs
    simp only
    rw [Zl7 (by rw [Za]; simp; omega),get?_nat,Zl1 (by omega)]
    exact ⟨_,rfl,by simp only; rw [Zd (by omega) (by omega)]; omega⟩
   ·obtain ⟨z, y⟩ := s
    simp only at hs
    subst hs
    simp only
    rw [Zl4 (by rw [Za]; simp; omega)]
    exact ⟨_,rfl,trivial⟩
  obtain ⟨r,e,-⟩:=key
  rw [e]
  exact ⟨r,rfl⟩
 obtain ⟨h,e⟩:=hnew
 unfold XF
 rw [e]
 refine ⟨_,_,rfl,?_,hl⟩
 simp only
 unfold imin
 rw [Za]
 split <;> omega
end Go.Proofs.YthlolmkdppfioaaGreat.Cc
end
section
namespace Go.Proofs.YthlolmkdppfioaaGreat
open Go.GL
open Cc (CurOk YP Zd1 Zgr FU)
set_option linter.unusedSimpArgs false
set_option maxRecDepth 100000
theorem itS5 {σt ρt:Type} {B:σt → Option (σt ⊕ ρt)} {s s':σt} {n:Nat} (h:B s = some (.inl s')):iterN B (n + 1) s = iterN B n s':=by
 rw [iterN,h]
theorem itE5 {σt ρt:Type} {B:σt → Option (σt ⊕ ρt)} {s:σt} {r:ρt} {n:Nat} (h:B s = some (.inr r)) (hn:0 < n):iterN B n s = some r:=by
 obtain ⟨n,rfl⟩ : ∃ k,n = k + 1:=⟨n - 1,by omega⟩
 rw [iterN,h]
theorem ZaO (b:Byt):(strOf [b]).bytes.length = 1:=by simp [strOf]
theorem Zds {a b:Str} (h:a.bytes.length + b.bytes.length ≤ 1000):cat? a b = some ⟨a.bytes ++ b.bytes⟩:=by unfold cat?; rw [Zl7 (by omega)]
theorem ZkX {w:Int} (h0:0 ≤ w) (h1:w ≤ 99) {n:Nat} (hn:4 ≤ n):∃ s,YE n w = some s ∧ s.bytes.length ≤ 2:=by
 obtain ⟨n,rfl⟩ : ∃ j,n = j + 3:=⟨n - 3,by omega⟩
 rw [YE,Zl4 (by simp; omega)]
 by_cases c:w ≤ 9
 ·rw [itE5 (r := (w, ⟨[]⟩)) (by simp only; rw [Zl4 (by simp; omega)]) (by omega)]
  simp only [Zl0]
  rw [Zds (by rw [ZaO]; simp)]
  exact ⟨_,rfl,by simp [ZaO]⟩
 ·have hr : rem? w 10 = some (w.tmod 10) := by unfold rem?; rw [Zl4 (by decide)]
  have hq:quo? w 10 = some (w / 10):=by unfold quo?; rw [Zl4 (by decide),Zoq h0,Zd (by omega) (by omega)]
  rw [itS5 (s':=(w / 10,⟨(strOf [Byt.mk (IntKind.u8.wrap (w64 (48 + w.tmod 10)))]).bytes ++ []⟩)) (by
   simp only
   rw [Zl7 (by simp; omega),hr]
   simp only [Zl0]
   rw [Zds (by rw [ZaO]; simp)]
   simp only [Zl0]
   rw [hq]; rfl)]
  rw [itE5 (r:=(w / 10,⟨(strOf [Byt.mk (IntKind.u8.wrap (w64 (48 + w.tmod 10)))]).bytes ++ []⟩)) (by simp only; rw [Zl4 (by simp; omega)]) (by omega)]
  simp only [Zl0]
  rw [Zds (by simp [ZaO])]
  exact ⟨_,rfl,by simp [ZaO]⟩
def Drw (c:D.l01Cur) (B:Nat) (r:Option (D.Term × D.l01Cur)):Prop:=∃ t i h,r = some (t,⟨c.b,i,h⟩) ∧ CurOk ⟨c.b,i,h⟩ ∧ msz t ≤ B
theorem once6 {c:D.l01Cur} (h:CurOk c) {n:Int} (hn:0 < n):∃ x i h',ZZ c n = some (x,⟨c.b,i,h'⟩) ∧ CurOk ⟨c.b,i,h'⟩:=by
 unfold ZZ
 obtain ⟨x,i,h',e,-,-,ok⟩:=YP h hn
 rw [e]
 exact ⟨_,_,_,rfl,ok⟩
theorem Zgm {c:D.l01Cur} (h:CurOk c) {w:Int} (h1:1 ≤ w) (h2:w ≤ 16) {n:Nat} (hn:4 ≤ n):Drw c 10 (YM n c w):=by
 unfold YM Za8
 obtain ⟨x,i,h',e,x0,x1,ok⟩:=YP h (n:=3) (by decide)
 rw [show len ([⟨[97]⟩,⟨[98]⟩,⟨[120]⟩]:List Str) = 3 from rfl,e]
 obtain ⟨k,rfl⟩:=ZnZ x0
 have hk:k < 3:=by omega
 obtain ⟨s,hs,hl⟩ : ∃ s:Str,get? ([⟨[97]⟩,⟨[98]⟩,⟨[120]⟩]:List Str) (k:Int) = some s ∧ s.bytes.length = 1:=by
  have:k = 0 ∨ k = 1 ∨ k = 2:=by omega
  rcases this with rfl | rfl | rfl <;> exact ⟨_,rfl,rfl⟩
 obtain ⟨f,hf,hfl⟩:=ZkX (w:=w) (by omega) (by omega) hn
 simp only [Zl0,hs,hf]
 rw [Zds (by omega)]
 exact ⟨_,_,_,rfl,ok,by rw [Zbj]; simp [YT]; omega⟩
theorem ZgM {c:D.l01Cur} (h:CurOk c) {w:Int} (h1:1 ≤ w) (h2:w ≤ 16):Drw c 10 ((shl? 1 w).bind fun x2=>
  (Zn c x2).bind fun x3=>
  (Xc (D.l01Cur.mk c.b x3.2.i x3.2.h) ([0,1,(w64 ((x2) - 1)),x3.1]:List Int)).bind fun x4=>
  (YO w (band x4.1 (w64 ((x2) - 1)))).bind fun x5=>
  some ((D.Term.mk x5.Op x5.W x5.N x5.Name ([]:List D.Term)),(D.l01Cur.mk c.b x4.2.i x4.2.h))):=by
 obtain ⟨m,hm,-,-⟩:=Zhe h1 h2
 have hm0:0 < m:=by
  unfold shl? at hm
  rw [Zl4 (by omega),Option.some.injEq] at hm
  have:w = 1 ∨ w = 2 ∨ w = 3 ∨ w = 4 ∨ w = 5 ∨ w = 6 ∨ w = 7 ∨ w = 8 ∨ w = 9 ∨ w = 10 ∨ w = 11 ∨ w = 12 ∨ w = 13 ∨ w = 14 ∨ w = 15 ∨ w = 16:=by omega
  rcases this with rfl | rfl | rfl | rfl | rfl | rfl | rfl | rfl | rfl | rfl | rfl | rfl | rfl | rfl | rfl | rfl <;> (rw [← hm]; decide)
 rw [hm]
 simp only [Zl0]
 obtain ⟨x,i,h',e,x0,x1,ok⟩:=YP h hm0
 rw [e]
 unfold Xc
 simp only [Zl0]
 obtain ⟨y,j,h2',e2,y0,y1,ok2⟩:=YP ok (n:=4) (by decide)
 rw [show ∀ a b c d:Int,len ([a,b,c,d]:List Int) = 4 from fun _ _ _ _=>rfl,e2]
 obtain ⟨k,rfl⟩:=ZnZ y0
 obtain ⟨z,hz⟩ : ∃ z,get? ([0,1,w64 (m - 1),x]:List Int) (k:Int) = some z:=by
  have:k = 0 ∨ k = 1 ∨ k = 2 ∨ k = 3:=by omega
  rcases this with rfl | rfl | rfl | rfl <;> exact ⟨_,rfl⟩
 simp only [Zl0,hz,YO]
 exact ⟨_,_,_,rfl,ok2,by rw [Zbj]; simp [YT]⟩
theorem Drw.le {c:D.l01Cur} {B B':Nat} {r:Option (D.Term × D.l01Cur)} (h:Drw c B r) (hB:B ≤ B'):Drw c B' r:=by
 obtain ⟨t,i,h',e,ok,hs⟩:=h
 exact ⟨t,i,h',e,ok,by omega⟩
theorem Xy {op w m:Int} {ks:List D.Term}:msz ⟨op,w,m,⟨[]⟩,ks⟩ = ks.length + mszs ks:=by rw [msz]; simp
theorem ZcQ {c:D.l01Cur} (h:CurOk c) {w:Int} (h1:1 ≤ w) (h2:w ≤ 16) {n:Nat} (hn:4 ≤ n):Drw c 10 ((ZZ c 3).bind fun x1=>
   if x1.1 then
    (shl? 1 w).bind fun x2=>
    (Zn (D.l01Cur.mk c.b x1.2.i x1.2.h) x2).bind fun x3=>
    (Xc (D.l01Cur.mk c.b x3.2.i x3.2.h) ([0,1,(w64 ((x2) - 1)),x3.1]:List Int)).bind fun x4=>
    (YO w (band x4.1 (w64 ((x2) - 1)))).bind fun x5=>
    some ((D.Term.mk x5.Op x5.W x5.N x5.Name ([]:List D.Term)),(D.l01Cur.mk c.b x4.2.i x4.2.h))
   else
    (YM n (D.l01Cur.mk c.b x1.2.i x1.2.h) w).bind fun x6=>
    some (x6.1,(D.l01Cur.mk c.b x6.2.i x6.2.h))):=by
  obtain ⟨x,i,h',e,ok⟩:=once6 h (n:=3) (by decide)
  rw [e]
  simp only [Zl0]
  cases x
  · rw [Zl4 (by decide)]
    obtain ⟨t,j,hh,e2,ok2,hs⟩:=Zgm ok h1 h2 hn
    rw [e2]
    exact ⟨t,j,hh,rfl,ok2,hs⟩
  · rw [Zl7 rfl]
    exact ZgM ok h1 h2
theorem Zio:∀ (d:Nat) (n:Nat) (c:D.l01Cur) (w most:Int),d + 10 ≤ n → CurOk c → 1 ≤ w → w + 2 * d ≤ 16 → most ≤ d → Drw c (100 * 4 ^ d) (Zk n c w most):=by
 intro d
 induction d with
 | zero=>
  intro n c w most hn h h1 h2 hm
  obtain ⟨n,rfl⟩ : ∃ j,n = j + 1:=⟨n - 1,by omega⟩
  rw [Zk,Zl7 (by simp; omega),Zl7 rfl]
  exact (ZcQ h h1 (by omega) (by omega)).le (by omega)
 | succ d ih=>
  intro n c w most hn h h1 h2 hm
  obtain ⟨n,rfl⟩ : ∃ j,n = j + 1:=⟨n - 1,by omega⟩
  have hB:100 * 4 ^ (d + 1) = 4 * (100 * 4 ^ d):=by rw [Zng]; omega
  have hB1:100 ≤ 100 * 4 ^ d:=ZnX _ (Nat.pow_pos (by decide))
  rw [hB]
  generalize 100 * 4 ^ d = B at ih hB1 ⊢
  rw [Zk]
  by_cases c0:most < 1
  ·rw [Zl7 (by simpa using c0), Zl7 rfl]
   exact (ZcQ h h1 (by omega) (by omega)).le (by omega)
  rw [Zl4 (by simpa using c0)]
  obtain ⟨x,i,h',e,ok⟩:=once6 h (n:=6) (by decide)
  rw [e]
  simp only [Zl0]
  cases x
  ·rw [Zl4 (by decide)]
   obtain ⟨x,i2,h2',e2,x0,x1,ok2⟩:=YP ok (n:=21) (by decide)
   rw [e2]
   simp only [Zl0,Zb1]
   have hx:w64 (1 + x) = 1 + x:=Zd (by omega) (by omega)
   have hmo:w64 (most - 1) = most - 1 ∨ True:=.inr trivial
   have hm1:w64 (most - 1) ≤ d:=by
    by_cases q:most ≤ 9223372036854775807
    ·rw [Zd (by omega) (by omega)]; omega
    ·omega
   rw [hx]
   by_cases c1:14 ≤ 1 + x ∧ 1 + x ≤ 16
   ·rw [Zl7 (by simpa using c1)]
    obtain ⟨v,i3,h3',e3,v0,v1,ok3⟩:=YP ok2 (n:=4) (by decide)
    rw [e3]
    have hv:w64 (1 + v) = 1 + v:=Zd (by omega) (by omega)
    simp only [Zl0,hv]
    obtain ⟨t1,i4,h4',e4,ok4,s4⟩:=ih n ⟨c.b,i3,h3'⟩ (1 + v) (w64 (most - 1)) (by omega) ok3 (by omega) (by omega) hm1
    rw [e4]
    simp only [Zl0]
    obtain ⟨t2,i5,h5',e5,ok5,s5⟩:=ih n ⟨c.b,i4,h4'⟩ (1 + v) (w64 (most - 1)) (by omega) ok4 (by omega) (by omega) hm1
    rw [e5]
    simp only [Zl0]
    obtain ⟨y,i6,h6',e6,ok6⟩:=once6 ok5 (n:=6) (by decide)
    rw [e6]
    simp only [Zl0]
    cases y
    ·rw [Zl4 (by decide)]
     split
     ·exact ⟨_,_,_,rfl,ok6,by simp only [Xy,Y3,YT,ZlP,Zmu]; omega⟩
     ·exact ⟨_,_,_,rfl,ok6,by simp only [Xy,Y3,YT,ZlP,Zmu]; omega⟩
    ·rw [Zl7 rfl, show get? ([t1, t2] : List D.Term) 0 = some t1 from rfl]
     simp only [Zl0]
     rw [show set? ([t1,t2]:List D.Term) 1 t1 = some [t1,t1] from rfl]
     simp only [Zl0]
     split
     ·exact ⟨_,_,_,rfl,ok6,by simp only [Xy,Y3,YT,ZlP,Zmu]; omega⟩
     ·exact ⟨_,_,_,rfl,ok6,by simp only [Xy,Y3,YT,ZlP,Zmu]; omega⟩
   rw [Zl4 (by simpa using c1)]
   by_cases c2:3 ≤ 1 + x ∧ 1 + x ≤ 13
   ·rw [Zl7 (by simpa using c2)]
    obtain ⟨t1,i4,h4',e4,ok4,s4⟩:=ih n ⟨c.b,i2,h2'⟩ w (w64 (most - 1)) (by omega) ok2 h1 (by omega) hm1
    rw [e4]
    simp only [Zl0]
    obtain ⟨t2,i5,h5',e5,ok5,s5⟩:=ih n ⟨c.b,i4,h4'⟩ w (w64 (most - 1)) (by omega) ok4 h1 (by omega) hm1
    rw [e5]
    simp only [Zl0]
    obtain ⟨y,i6,h6',e6,ok6⟩:=once6 ok5 (n:=8) (by decide)
    rw [e6]
    simp only [Zl0]
    cases y
    ·rw [Zl4 (by decide)]
     exact ⟨_,_,_,rfl,ok6,by simp only [Xy,Y3,YT,ZlP,Zmu]; omega⟩
    ·rw [Zl7 rfl, show get? ([t1, t2] : List D.Term) 0 = some t1 from rfl]
     simp only [Zl0]
     rw [show set? ([t1,t2]:List D.Term) 1 t1 = some [t1,t1] from rfl]
     exact ⟨_,_,_,rfl,ok6,by simp only [Xy,Y3,YT,ZlP,Zmu]; omega⟩
   rw [Zl4 (by simpa using c2)]
   by_cases c3:1 + x ≤ 2
   ·rw [Zl7 (by simpa using c3)]
    obtain ⟨t1,i4,h4',e4,ok4,s4⟩:=ih n ⟨c.b,i2,h2'⟩ w (w64 (most - 1)) (by omega) ok2 h1 (by omega) hm1
    rw [e4]
    exact ⟨_,_,_,rfl,ok4,by simp only [Xy,Y3,YT,ZlP,Zmu]; omega⟩
   rw [Zl4 (by simpa using c3)]
   by_cases c4:1 + x = 17
   ·rw [Zl7 (by simpa using c4)]
    obtain ⟨t1,i4,h4',e4,ok4,s4⟩:=ih n ⟨c.b,i2,h2'⟩ 1 (w64 (most - 1)) (by omega) ok2 (by omega) (by omega) hm1
    rw [e4]
    simp only [Zl0]
    obtain ⟨t2,i5,h5',e5,ok5,s5⟩:=ih n ⟨c.b,i4,h4'⟩ w (w64 (most - 1)) (by omega) ok4 h1 (by omega) hm1
    rw [e5]
    simp only [Zl0]
    obtain ⟨t3,i6,h6',e6,ok6,s6⟩:=ih n ⟨c.b,i5,h5'⟩ w (w64 (most - 1)) (by omega) ok5 h1 (by omega) hm1
    rw [e6]
    exact ⟨_,_,_,rfl,ok6,by simp only [Xy,Y3,YT,ZlP,Zmu]; omega⟩
   rw [Zl4 (by simpa using c4)]
   by_cases c5:1 + x = 18 ∧ w > 1
   ·rw [Zl7 (by simpa using c5)]
    have hw1:w64 (w - 1) = w - 1:=Zd (by omega) (by omega)
    rw [hw1]
    obtain ⟨v,i3,h3',e3,v0,v1,ok3⟩:=YP ok2 (n:=w - 1) (by omega)
    rw [e3]
    have hv:w64 (1 + v) = 1 + v:=Zd (by omega) (by omega)
    have hv2:w64 (w - (1 + v)) = w - (1 + v):=Zd (by omega) (by omega)
    simp only [Zl0,hv,hv2]
    obtain ⟨t1,i4,h4',e4,ok4,s4⟩:=ih n ⟨c.b,i3,h3'⟩ (w - (1 + v)) (w64 (most - 1)) (by omega) ok3 (by omega) (by omega) hm1
    rw [e4]
    simp only [Zl0]
    obtain ⟨t2,i5,h5',e5,ok5,s5⟩:=ih n ⟨c.b,i4,h4'⟩ (1 + v) (w64 (most - 1)) (by omega) ok4 (by omega) (by omega) hm1
    rw [e5]
    exact ⟨_,_,_,rfl,ok5,by simp only [Xy,Y3,YT,ZlP,Zmu]; omega⟩
   rw [Zl4 (by simpa using c5)]
   by_cases c6:1 + x = 19
   ·rw [Zl7 (by simpa using c6)]
    obtain ⟨v,i3,h3',e3,v0,v1,ok3⟩:=YP ok2 (n:=3) (by decide)
    rw [e3]
    have hv:w64 (w + v) = w + v:=Zd (by omega) (by omega)
    have hv2:w64 (w + v - w) = v:=by rw [Zd (by omega) (by omega)]; omega
    have hv3:w64 (v + 1) = v + 1:=Zd (by omega) (by omega)
    simp only [Zl0,hv,hv2,hv3]
    obtain ⟨u,i4,h4',e4,u0,u1,ok4⟩:=YP ok3 (n:=v + 1) (by omega)
    rw [e4]
    simp only [Zl0]
    obtain ⟨t1,i5,h5',e5,ok5,s5⟩:=ih n ⟨c.b,i4,h4'⟩ (w + v) (w64 (most - 1)) (by omega) ok4 (by omega) (by omega) hm1
    rw [e5]
    exact ⟨_,_,_,rfl,ok5,by simp only [Xy,Y3,YT,ZlP,Zmu]; omega⟩
   rw [Zl4 (by simpa using c6)]
   by_cases c7:20 ≤ 1 + x ∧ 1 + x ≤ 21
   ·rw [Zl7 (by simpa using c7)]
    obtain ⟨v,i3,h3',e3,v0,v1,ok3⟩:=YP ok2 (n:=w) (by omega)
    rw [e3]
    have hv:w64 (1 + v) = 1 + v:=Zd (by omega) (by omega)
    simp only [Zl0,hv]
    obtain ⟨t1,i5,h5',e5,ok5,s5⟩:=ih n ⟨c.b,i3,h3'⟩ (1 + v) (w64 (most - 1)) (by omega) ok3 (by omega) (by omega) hm1
    rw [e5]
    exact ⟨_,_,_,rfl,ok5,by simp only [Xy,Y3,YT,ZlP,Zmu]; omega⟩
   rw [Zl4 (by simpa using c7)]
   obtain ⟨t,j,hh,e4,ok4,hs⟩:=Zgm ok2 (w:=w) h1 (by omega) (n:=n) (by omega)
   rw [e4]
   exact ⟨t,j,hh,rfl,ok4,by omega⟩
  ·rw [Zl7 rfl]
   exact (ZcQ ok h1 (by omega) (by omega)).le (by omega)
theorem Ziw {fuel:Nat} [FU fuel] {code:List Byt} (hl:code.length ≤ 1048576) {m w:Int} (h0:0 ≤ m) (h1:1 ≤ w) (d:Nat) (h2:w + 2 * d ≤ 16):∃ t,XB fuel code m w (d:Int) = some t ∧ msz t ≤ 100 * 4 ^ d:=by
 unfold XB
 obtain ⟨i,h,e,ok⟩:=Zgr (fuel:=fuel) hl h0
 rw [e]
 have hf:d + 10 ≤ fuel:=by have:=(inferInstance:FU fuel).le; omega
 obtain ⟨t,j,hh,e2,-,hs⟩:=Zio d fuel ⟨code,i,h⟩ w d hf ok h1 h2 (Int.le_refl _)
 simp only [Zl0]
 rw [e2]
 exact ⟨t,rfl,hs⟩
theorem ZhX {fuel:Nat} [FU fuel] {code:List Byt} (hl:code.length ≤ 1048576) {m lo hi:Int} (h0:0 ≤ m) (h1:0 ≤ lo) (h2:lo ≤ hi) (h3:hi ≤ 1000):∃ r,X7 fuel code m lo hi = some r ∧ lo ≤ r ∧ r ≤ hi:=by
 unfold X7 Zau
 obtain ⟨i,h,e,ok⟩:=Zgr (fuel:=fuel) hl h0
 rw [e]
 simp only [Zl0]
 obtain ⟨x,i2,h2',e2,x0,x1,ok2⟩:=Zd1 ok
 rw [e2]
 simp only [Zl0]
 obtain ⟨y,i3,h3',e3,y0,y1,ok3⟩:=Zd1 ok2
 rw [e3]
 simp only [Zl0]
 rw [Zd (x:=256 * x) (by omega) (by omega),Zd (x:=256 * x + y) (by omega) (by omega),Zd (x:=hi - lo) (by omega) (by omega),Zd (x:=hi - lo + 1) (by omega) (by omega)]
 have hr:rem? (256 * x + y) (hi - lo + 1) = some ((256 * x + y).tmod (hi - lo + 1)):=by unfold rem?; rw [Zl4 (by omega)]
 rw [hr]
 have hn0:0 ≤ (256 * x + y).tmod (hi - lo + 1):=Int.tmod_nonneg _ (by omega)
 have hn1:(256 * x + y).tmod (hi - lo + 1) < hi - lo + 1:=Int.tmod_lt_of_pos _ (by omega)
 simp only [Zl0]
 rw [Zd (by omega) (by omega)]
 exact ⟨_,rfl,by omega,by omega⟩
theorem ZhM {s:Str} (h:nameB s = true):s.bytes.length ≤ 8:=by
 unfold nameB at h
 simp at h; omega
theorem Zjl (x:D.Value) (xs:List D.Value) (s:Str):fnd (x :: xs) s = if x.Name = s then some x else fnd xs s:=by
 unfold fnd
 by_cases e:x.Name = s <;> simp [ZnA,e]
theorem Zji:∀ n:Nat,(∀ t:D.Term,msz t < n → nodeB t = true → ∀ p ∈ vrs t,nameB p.1 = true) ∧ ∀ l:List D.Term,l.length + mszs l < n → nodesB l = true → ∀ p ∈ vrss l,nameB p.1 = true:=by
 intro n
 induction n with
 | zero=>exact ⟨fun _ h=>by omega,fun _ h=>by omega⟩
 | succ n ih=>
  have hL:∀ l:List D.Term,l.length + mszs l < n + 1 → nodesB l = true → ∀ p ∈ vrss l,nameB p.1 = true:=fun l h hb p hp=>by
   cases l with
   | nil=>rw [Za4] at hp; cases hp
   | cons x l=>
    rw [Y3] at h
    simp only [ZlP] at h
    rw [Yb,ZnU,Zl6,← Yb] at hb
    rw [Xl] at hp
    rcases ZlY.1 hp with hp | hp
    ·exact ih.1 x (by omega) hb.1 p hp
    ·exact ih.2 l (by omega) hb.2 p hp
  refine ⟨fun t h hb p hp=>?_,hL⟩
  have hz:=Zbj t
  rw [XM] at hp
  rw [Zam,Zl6] at hb
  split at hp
  ·rename_i o
   rw [Zmo] at hp
   subst hp
   have h:=hb.1
   unfold locB shB at h
   simp only [o,Zl6] at h
   have h:=h.2
   simp at h
   exact h.2
  ·exact hL t.Kids (by omega) hb.2 p hp
theorem Zia {t:D.Term} (h:nodeB t = true):∀ p ∈ vrs t,nameB p.1 = true:=(Zji (msz t + 1)).1 t (by omega) h
end Go.Proofs.YthlolmkdppfioaaGreat
end
