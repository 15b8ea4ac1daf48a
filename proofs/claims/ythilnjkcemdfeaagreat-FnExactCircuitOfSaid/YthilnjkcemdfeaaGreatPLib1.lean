/- Texts of this claim put into one: library or plain laws, without the program under test. -/
import Derived.Test.YthilnjkcemdfeaaGreatLib3
import Derived.Test.YthilnjkcemdfeaaGreatDefs
import Derived.Lib.Strings
section
namespace Go.Proofs.YthilnjkcemdfeaaGreat.Cc
open Go.GL
class FU (n:Nat):Prop where
 le:1048577 ≤ n
theorem lt_fuel {n fuel:Nat} [q:FU fuel] (h:n ≤ 1048576):n < fuel:=by have:=q.le; omega
variable {fuel:Nat} [FU fuel]
theorem ZgA (x y:D.Gate):XB x y = some (decide (x = y)):=by
 unfold XB
 cases x; cases y
 simp only [D.Gate.mk.injEq]
 grind
theorem ZfD {p q:List D.Gate} (h:p.length ≤ 1048576):Xt fuel p q = some (decide (p = q)):=by
 unfold Xt
 simp only [ZgA,Zjv]
 exact Zc0 (by omega) (lt_fuel h)
theorem eqCircuit_eq {x y:D.Circuit} (h:x.Gates.length ≤ 1048576):Yv fuel x y = some (decide (x = y)):=by
 unfold Yv
 rw [ZfD h]
 cases x; cases y
 simp only [D.Circuit.mk.injEq]
 grind
theorem Zei {p:List D.Gate} {k:Int} (hk:0 ≤ k) (hb:k ≤ 4000000000000) (hp:p.length ≤ 1048576):∃ r,YU fuel p k = some (k + 2 * p.length,r) ∧ r = (List.range p.length).map fun (j:Nat)=>⟨k + 2 * (j:Int),k + 2 * (j:Int) + 1⟩:=by
 refine ⟨(List.range p.length).map fun (j:Nat)=>⟨k + 2 * (j:Int),k + 2 * (j:Int) + 1⟩,?_,rfl⟩
 unfold YU
 rw [ZL (I:=fun i s=>s = (k + 2 * (i:Int),(i:Int),pre (fun (j:Nat)=>(⟨k + 2 * (j:Int),k + 2 * (j:Int) + 1⟩ : D.Gate)) p i)) (m:=p.length) (r:=(k + 2 * (p.length:Int),(List.range p.length).map fun (j:Nat)=>(⟨k + 2 * (j:Int),k + 2 * (j:Int) + 1⟩ : D.Gate))) (fun i s hi hs=>?_) (fun s hs=>?_) p.length 0 _ (by omega) (by simp [Zdc]) fuel (lt_fuel hp)]
 ·rfl
 ·subst hs
  refine ⟨_,?_,rfl⟩
  have hl:=ZdX (f:=fun (j:Nat)=>(⟨k + 2 * (j:Int),k + 2 * (j:Int) + 1⟩ : D.Gate)) (p:=p) (i:=i) (by omega)
  simp only
  rw [Zj2 (by rw [Za]; simp; omega),get?_nat,Ziy hi,Zjw hi]
  simp only [Zjv]
  rw [set?_nat (by rw [hl]; exact hi)]
  simp only [Zjv]
  rw [get?_nat,List.getElem?_set_self (by rw [hl]; exact hi)]
  simp only [Zjv]
  rw [set?_nat (by simp [hl]; exact hi),List.set_set]
  simp only [Zjv]
  rw [Zd (x:=k + 2 * (i:Int) + 1) (by omega) (by omega),Zd (x:=k + 2 * (i:Int) + 1 + 1) (by omega) (by omega),Zd (x:=(i:Int) + 1) (by omega) (by omega),← Zeb hi]
  simp only [Option.some.injEq,Sum.inl.injEq,Prod.mk.injEq]
  exact ⟨by omega,by omega,trivial⟩
 ·subst hs
  simp only
  rw [Zjz (by rw [Za]; simp),Zej]
def iab (x:Int):Int:=if x < 0 then -x else x
def gateB (n:Int) (seen:List D.Gate) (g:D.Gate):Bool:=
 decide (-(n + 1 + (seen.length:Int)) ≤ g.A ∧ g.A ≤ n + 1 + seen.length) && decide (-(n + 1 + (seen.length:Int)) ≤ g.B ∧ g.B ≤ n + 1 + seen.length) && decide (2 ≤ iab g.A) && decide (iab g.A < iab g.B) && !(seen.contains g)
theorem Ze1 {a:Int} (h:fitInt a) (h' : -1000 ≤ a):Xj a = some (iab a):=by
 unfold Xj iab
 unfold fitInt at h
 by_cases c:a < 0
 ·rw [Zj2 (by simpa using c),Zj2 c,Zd (by omega) (by omega)]; simp
 ·rw [Zjz (by simpa using c),Zjz c]
theorem ZbO {a:Int} (h:fitInt a) (h' : -1000 ≤ a):X0 a = some (iab a):=by
 unfold X0 iab
 unfold fitInt at h
 by_cases c:a < 0
 ·rw [Zj2 (by simpa using c),Zj2 c,Zd (by omega) (by omega)]; simp
 ·rw [Zjz (by simpa using c),Zjz c]
theorem fitK {g:D.Gate} (h:Zb4 g):ZH g = true:=by
 obtain ⟨h1,h2⟩:=h
 unfold fitInt at h1 h2
 simp only [ZH,fitZ,Lit.wf,IntKind.min,IntKind.max,Zj0]
 simp [IntKind.bits,IntKind.signed] at *
 omega
end Go.Proofs.YthilnjkcemdfeaaGreat.Cc
end
section
namespace Go.Proofs.YthilnjkcemdfeaaGreat.Cc
open Go.GL
variable {fuel:Nat} [FU fuel]
theorem ZcP {σt ρt:Type} {B:σt → Option (σt ⊕ ρt)} {I:Nat → σt → Prop} {m:Nat} {ok:Nat → Bool} {r:ρt} {r':Nat → ρt} (hs:∀ k s,k < m → I k s → ok k = false → ∃ s',B s = some (.inl s') ∧ I (k + 1) s') (hn:∀ k s,k < m → I k s → ok k = true → B s = some (.inr (r' k)))
  (hf:∀ s,I m s → B s = some (.inr r)):∀ (d k:Nat) (s:σt),k + d = m → I k s → ∀ n,d < n → iterN B n s = some (match (List.range' k d).find? ok with | some i=>r' i | none=>r)
 | 0,k,s,hk,hi,n,hn'=>by
  obtain ⟨n,rfl⟩ : ∃ j,n = j + 1:=⟨n - 1,by omega⟩
  obtain rfl:k = m:=by omega
  unfold iterN; rw [hf s hi]
  simp
 | d + 1,k,s,hk,hi,n,hn'=>by
  obtain ⟨n,rfl⟩ : ∃ j,n = j + 1:=⟨n - 1,by omega⟩
  unfold iterN
  rw [Zl1]
  cases hok:ok k with
  | false=>
   obtain ⟨s',h1,h2⟩:=hs k s (by omega) hi hok
   rw [h1]
   simp only
   rw [ZcP hs hn hf d (k + 1) s' (by omega) h2 n (by omega),Zl7,hok]
  | true=>
   rw [hn k s (by omega) hi hok,Zl7,hok]
def find (l:List D.Gate) (g:D.Gate):Option Nat:=(List.range' 0 l.length).find? fun i=>decide (l[i]? = some g)
theorem Zgx {l:List D.Gate} {g:D.Gate} {i:Nat} (h:find l g = some i):i < l.length ∧ l[i]? = some g:=by
 have:=List.find?_some h
 simp only [Zj5] at this
 exact ⟨(Zjy.1 this).1,this⟩
theorem ZdA {l:List D.Gate} {g:D.Gate}:find l g = none ↔ g ∉ l:=by
 unfold find
 rw [List.find?_eq_none]
 simp only [List.mem_range'_1,ZkN,Zk5,Zmy,Zj5]
 constructor
 ·intro h hm
  obtain ⟨i,hi⟩:=ZkH.1 hm
  exact h i (Zjy.1 hi).1 hi
 ·intro h i _ hi
  exact h (Zj9 hi)
theorem Zgt {l:List D.Gate} {g h:D.Gate}:find (l ++ [h]) g = (find l g).or (if g = h then some l.length else none):=by
 unfold find
 rw [ZjC,Zlf,List.range'_concat,List.find?_append]
 congr 1
 ·have:∀ n,n ≤ l.length → ∀ k,k + n ≤ l.length → (List.range' k n).find? (fun i=>decide ((l ++ [h])[i]? = some g)) = (List.range' k n).find? (fun i=>decide (l[i]? = some g)):=by
   intro n
   induction n with
   | zero=>intro _ k _; rfl
   | succ n ih=>
    intro hn k hk
    rw [Zl1,Zl7,Zl7,ih (by omega) (k + 1) (by omega),ZjD (by omega)]
  exact this _ (ZjF _) 0 (by omega)
 ·simp only [ZkN, Nat.one_mul, List.find?_singleton]
  rw [Zj4 (ZjF _)]
  simp only [ZkG,Zke,Option.some.injEq,Zj5]
  by_cases e:g = h
  ·rw [Zj2 e,Zj2 e.symm]
  ·rw [Zjz e,Zjz (fun h=>e h.symm)]
def lines (c:D.Circuit):Int:=c.Inputs + 1 + c.Gates.length
def litN (n x:Int):Bool:=decide (1 ≤ iab x) && decide (iab x ≤ n)
theorem Y1 {n x:Int}:litN n x = true ↔ 1 ≤ iab x ∧ iab x ≤ n:=by unfold litN; simp
theorem Zio (x:Int):iab (-x) = iab x:=by unfold iab; split <;> split <;> omega
theorem ZG {n x:Int}:litN n (-x) = litN n x:=by unfold litN; rw [Zio]
theorem litN_mono {n n' x:Int} (h:litN n x = true) (hn:n ≤ n'):litN n' x = true:=by rw [Y1] at *; omega
structure CircP (c:D.Circuit):Prop where
 i0:0 ≤ c.Inputs
 i1:c.Inputs ≤ 30
 len:c.Gates.length ≤ 360
 gate:∀ k g,c.Gates[k]? = some g → gateB c.Inputs (c.Gates.take k) g = true
theorem CircP.lines0 {c:D.Circuit} (h:CircP c):1 ≤ lines c:=by have:=h.i0; unfold lines; omega
theorem CircP.lines1 {c:D.Circuit} (h:CircP c):lines c ≤ 391:=by have:=h.i1; have:=h.len; unfold lines; omega
theorem Zcg {n:Int} {l:List D.Gate} {g:D.Gate}:gateB n l g = true ↔ (-(n + 1 + (l.length:Int)) ≤ g.A ∧ g.A ≤ n + 1 + l.length) ∧ (-(n + 1 + (l.length:Int)) ≤ g.B ∧ g.B ≤ n + 1 + l.length) ∧ 2 ≤ iab g.A ∧ iab g.A < iab g.B ∧ g ∉ l:=by
 unfold gateB
 simp only [Zj0,Zj5,Zku,List.contains_eq_mem,decide_eq_false_iff_not,and_assoc]
theorem CircP.fit {c:D.Circuit} (h:CircP c):Zfc c:=by
 refine ⟨by have:=h.i0; have:=h.i1; unfold fitInt; omega,by have:=h.len; omega,fun g hg=>?_⟩
 obtain ⟨k,hk⟩:=ZkH.1 hg
 have h1:=Zcg.1 (h.gate k g hk)
 have hl:=(Zjy.1 hk).1
 have h2:=h.len
 have h3:=h.i1
 have:(c.Gates.take k).length ≤ 360:=by rw [Zj3]; omega
 unfold Zb4 fitInt
 omega
theorem CircP.snoc {c:D.Circuit} (h:CircP c) {g:D.Gate} (hl:c.Gates.length < 360) (hg:gateB c.Inputs c.Gates g = true):CircP ⟨c.Inputs,c.Gates ++ [g]⟩:=by
 refine ⟨h.i0,h.i1,by simp; omega,fun k x hx=>?_⟩
 simp only at hx ⊢
 by_cases hk:k < c.Gates.length
 ·rw [ZjD hk] at hx
  rw [Zl2 (by omega)]
  exact h.gate k x hx
 ·have hk2 := (Zjy.1 hx).1
  simp at hk2
  obtain rfl:k = c.Gates.length:=by omega
  rw [Zj4 (ZjF _)] at hx
  simp at hx
  subst hx
  rw [Zl2 (ZjF _),Zkh]
  exact hg
theorem CircP.find_take {c:D.Circuit} (h:CircP c) {k:Nat} {g:D.Gate} (hk:c.Gates[k]? = some g):find (c.Gates.take k) g = none:=ZdA.2 (Zcg.1 (h.gate k g hk)).2.2.2.2
structure Grow (c c':D.Circuit):Prop where
 inputs:c'.Inputs = c.Inputs
 gates:c.Gates <+: c'.Gates
theorem Grow.refl (c:D.Circuit):Grow c c:=⟨rfl,List.prefix_rfl⟩
theorem Grow.trans {a b c:D.Circuit} (h:Grow a b) (k:Grow b c):Grow a c:=⟨k.1.trans h.1,h.2.trans k.2⟩
theorem Grow.lines {c c':D.Circuit} (h:Grow c c'):lines c ≤ lines c':=by
 have:=h.2.length_le
 have:=h.1
 unfold Proofs.YthilnjkcemdfeaaGreat.Cc.lines; omega
def gate2 (a b:Int):D.Gate:=if iab a > iab b then ⟨b,a⟩ else ⟨a,b⟩
abbrev BS:=D.Circuit × Bool
def andP (s:BS) (a b:Int):Int × BS:=
 if a = -1 ∨ b = -1 ∨ a = -b then (-1,s) else if a = 1 then (b,s) else if b = 1 ∨ a = b then (a,s) else
 match find s.1.Gates (gate2 a b) with
 | some i=>(s.1.Inputs + 2 + i,s)
 | none=>if 360 ≤ s.1.Gates.length then (-1,(s.1,true)) else (s.1.Inputs + 2 + s.1.Gates.length,(⟨s.1.Inputs,s.1.Gates ++ [gate2 a b]⟩,s.2))
theorem Zhk {s:BS} (hs:CircP s.1) {a b:Int} (ha:litN (lines s.1) a = true) (hb:litN (lines s.1) b = true) (h1:¬ (a = -1 ∨ b = -1 ∨ a = -b)) (h2:¬ a = 1) (h3:¬ (b = 1 ∨ a = b)) (hf:find s.1.Gates (gate2 a b) = none):gateB s.1.Inputs s.1.Gates (gate2 a b) = true:=by
 rw [Zcg]
 have hn:=ZdA.1 hf
 rw [Y1] at ha hb
 have hl:lines s.1 = s.1.Inputs + 1 + s.1.Gates.length:=rfl
 rw [hl] at ha hb
 refine ⟨?_,?_,?_,?_,hn⟩ <;> (unfold gate2; unfold iab at *; split <;> grind)
theorem Zi8 {s:BS} (hs:CircP s.1) {a b:Int} (ha:litN (lines s.1) a = true) (hb:litN (lines s.1) b = true) :
  CircP (andP s a b).2.1 ∧ Grow s.1 (andP s a b).2.1 ∧ litN (lines (andP s a b).2.1) (andP s a b).1 = true:=by
 have h1n:=hs.lines0
 have hi:=hs.i0
 unfold andP
 split
 ·exact ⟨hs,Grow.refl _,Y1.2 ⟨by simp [iab],by simpa [iab] using h1n⟩⟩
 ·rename_i c1
  split
  ·exact ⟨hs,Grow.refl _,hb⟩
  ·rename_i c2
   split
   ·exact ⟨hs,Grow.refl _,ha⟩
   ·rename_i c3
    split
    ·rename_i i hf
     refine ⟨hs,Grow.refl _,Y1.2 ?_⟩
     have:=(Zgx hf).1
     simp only
     unfold iab lines
     rw [Zjz (by omega)]; omega
    ·rename_i hf
     split
     ·exact ⟨hs,Grow.refl _,Y1.2 ⟨by simp [iab],by simpa [iab] using h1n⟩⟩
     ·rename_i c4
      refine ⟨hs.snoc (by omega) (Zhk hs ha hb c1 c2 c3 hf),⟨rfl,List.prefix_append _ _⟩,Y1.2 ?_⟩
      simp only
      unfold iab lines
      rw [Zjz (by omega)]; simp; omega
theorem ZbL {n a:Int} (h:litN n a = true) (hn:n ≤ 391):fitInt a ∧ -1000 ≤ a:=by
 rw [Y1] at h
 unfold iab at h
 unfold fitInt
 split at h <;> omega
theorem Zgy (a b:Int):(D.Gate.mk (cond (decide (iab a > iab b)) b a) (cond (decide (iab a > iab b)) a b)) = gate2 a b:=by
 unfold gate2
 by_cases h:iab a > iab b
 ·rw [Zj2 h,decide_eq_true h]; rfl
 ·rw [Zjz h,decide_eq_false h]; rfl
theorem dec3 {a b:Int} (hb : -1000 ≤ b ∧ b ≤ 1000):((((a == (-1)) || (b == (-1))) || (a == (w64 (0 - b)))) = true) ↔ (a = -1 ∨ b = -1 ∨ a = -b):=by
 rw [Zd (by omega) (by omega)]
 simp only [Zkb,Zkr,or_assoc,Int.zero_sub]
theorem XD {s:BS} (hs:CircP s.1) {a b:Int} (ha:litN (lines s.1) a = true) (hb:litN (lines s.1) b = true) :
  Zf fuel ⟨s.1,s.2⟩ a b = some ((andP s a b).1,⟨(andP s a b).2.1,(andP s a b).2.2⟩):=by
 have hln:=hs.lines1
 have hi0:=hs.i0
 have hi1:=hs.i1
 have hlen:=hs.len
 have fa:=ZbL ha hln
 have fb:=ZbL hb hln
 have hb2:=Y1.1 hb
 have hbb : -1000 ≤ b ∧ b ≤ 1000:=by unfold iab at hb2; split at hb2 <;> omega
 unfold Zf andP
 by_cases c1:a = -1 ∨ b = -1 ∨ a = -b
 ·rw [Zj2 ((dec3 hbb).2 c1),Zj2 c1]
 rw [Zjz (fun h=>c1 ((dec3 hbb).1 h)),Zjz c1]
 by_cases c2:a = 1
 ·rw [Zj2 (by simpa using c2),Zj2 c2]
 rw [Zjz (by simpa using c2),Zjz c2]
 by_cases c3:b = 1 ∨ a = b
 ·rw [Zj2 (by simpa using c3),Zj2 c3]
 rw [Zjz (by simpa using c3),Zjz c3]
 simp only [Ze1 fa.1 fa.2,Ze1 fb.1 fb.2,Zjv,Zgy]
 rw [ZcP (I:=fun k t=>t = (k:Int)) (m:=s.1.Gates.length) (ok:=fun k=>decide (s.1.Gates[k]? = some (gate2 a b))) (r:=.inl ()) (r':=fun k=>.inr (s.1.Inputs + 2 + k,⟨s.1,s.2⟩)) (fun k t hk ht hok=>?_) (fun k t hk ht hok=>?_) (fun t ht=>?_) s.1.Gates.length 0 _ (by omega) (by simp) fuel (lt_fuel (by omega))]
 ·show Option.bind (some (match find s.1.Gates (gate2 a b) with | some i => _ | none => _)) _ = _
  cases hf:find s.1.Gates (gate2 a b) with
  | some i=>rfl
  | none=>
   simp only [Zjv]
   by_cases c4:360 ≤ s.1.Gates.length
   ·rw [Zj2 (by rw [Za]; simp; omega),Zj2 c4]
   ·rw [Zjz (by rw [Za]; simp; omega), Zjz c4]
    have happ:app? s.1.Gates [gate2 a b] = some (s.1.Gates ++ [gate2 a b]):=by
     unfold app?; rw [Zj2 (by simp; unfold room; omega)]
    rw [happ]
    simp only [Zjv]
    rw [Za,ZjC,Zlf,Zd (x:=s.1.Inputs + 1) (by omega) (by omega),Zd (by omega) (by omega)]
    congr 2
    omega
 all_goals subst ht
 ·refine ⟨((k + 1 : Nat) : Int), ?_, rfl⟩
  rw [Zj2 (by rw [Za]; simp; omega),get?_nat,Zjw hk]
  rw [Zjw hk] at hok
  simp only [Zjv]
  rw [Zjz (by intro h; simp only [Zj5,decide_eq_false_iff_not,Option.some.injEq] at h hok; exact hok h.symm),Zd (by omega) (by omega)]
  rfl
 ·rw [Zj2 (by rw [Za]; simp; omega), get?_nat, Zjw hk]
  rw [Zjw hk] at hok
  simp only [Zj5,Option.some.injEq] at hok
  simp only [Zjv]
  rw [Zj2 (by simp only [Zj5]; exact hok.symm),Zd (x:=s.1.Inputs + 2) (by omega) (by omega),Zd (by omega) (by omega)]
 ·rw [Zjz (by rw [Za]; simp)]
structure LineOk (n:Int) (l:List D.Gate) (m:List (D.Gate × Int)):Prop where
 look:∀ g,m.lookup g = (find l g).map fun (i:Nat)=>n + 2 + (i:Int)
 len:m.length = l.length
theorem LineOk.nil (n:Int):LineOk n [] []:=⟨fun _=>rfl,rfl⟩
theorem LineOk.snoc {n:Int} {l:List D.Gate} {m:List (D.Gate × Int)} (h:LineOk n l m) {g:D.Gate} (hg:find l g = none):LineOk n (l ++ [g]) ((g,n + 2 + (l.length:Int)) :: m):=by
 refine ⟨fun x=>?_,by simp [h.len]⟩
 rw [ZjO,Zgt]
 by_cases e:x = g
 ·subst e
  simp [hg]
 ·have : (x == g) = false := by simpa using e
  rw [this,Zjz e,h.look x]
  simp
structure RelB (m:D.builder) (s:BS):Prop where
 c:m.c = s.1
 full:m.full = s.2
 line:LineOk s.1.Inputs s.1.Gates m.line
theorem Zig {a b:Int} (ha:fitInt a) (hb:fitInt b):ZH (gate2 a b) = true:=by
 refine fitK ?_
 unfold gate2
 split
 ·exact ⟨hb,ha⟩
 ·exact ⟨ha,hb⟩
theorem ZfS {a:Int} (h:fitInt a):fitZ a = true:=by
 unfold fitInt at h
 simp only [fitZ,Lit.wf,IntKind.min,IntKind.max,Zj0]
 simp [IntKind.bits,IntKind.signed] at *
 omega
theorem XF {m:D.builder} {s:BS} (hr:RelB m s) (hs:CircP s.1) {a b:Int} (ha:litN (lines s.1) a = true) (hb:litN (lines s.1) b = true) :
  ∃ m',Zj m a b = some ((andP s a b).1,m') ∧ RelB m' (andP s a b).2:=by
 obtain ⟨mc,ml,mf⟩:=m
 obtain ⟨sc,sf⟩:=s
 obtain ⟨hc,hf,hl⟩:=hr
 simp only at hc hf hl
 subst hc
 subst hf
 simp only at hs ha hb
 have hln:=hs.lines1
 have hi0:=hs.i0
 have hi1:=hs.i1
 have hlen:=hs.len
 have fa:=ZbL ha hln
 have fb:=ZbL hb hln
 have hb2:=Y1.1 hb
 have hbb : -1000 ≤ b ∧ b ≤ 1000:=by unfold iab at hb2; split at hb2 <;> omega
 unfold Zj andP
 by_cases c1:a = -1 ∨ b = -1 ∨ a = -b
 ·rw [Zj2 ((dec3 hbb).2 c1),Zj2 c1]; exact ⟨_,rfl,⟨rfl,rfl,hl⟩⟩
 rw [Zjz (fun h=>c1 ((dec3 hbb).1 h)),Zjz c1]
 by_cases c2:a = 1
 ·rw [Zj2 (by simpa using c2),Zj2 c2]; exact ⟨_,rfl,⟨rfl,rfl,hl⟩⟩
 rw [Zjz (by simpa using c2),Zjz c2]
 by_cases c3:b = 1 ∨ a = b
 ·rw [Zj2 (by simpa using c3),Zj2 c3]; exact ⟨_,rfl,⟨rfl,rfl,hl⟩⟩
 rw [Zjz (by simpa using c3),Zjz c3]
 simp only [ZbO fa.1 fa.2,ZbO fb.1 fb.2,Zjv]
 have hgf:=Zig fa.1 fb.1
 have hgm:mget2? ZH (0:Int) ml (gate2 a b) = some (((find mc.Gates (gate2 a b)).map fun (i:Nat)=>mc.Inputs + 2 + (i:Int)).getD 0,((find mc.Gates (gate2 a b)).map fun (i:Nat)=>mc.Inputs + 2 + (i:Int)).isSome):=by
  unfold mget2?; rw [Zj2 hgf,hl.look]
 have key:((mget2? ZH (0:Int) ml (gate2 a b)).bind fun x3=>
     if x3.2 then
      some (x3.1,(⟨mc,ml,mf⟩ : D.builder))
     else
      if (decide ((len mc.Gates) ≥ 360)) then
       some ((-1),(D.builder.mk mc ml true))
      else
       (app? mc.Gates ([gate2 a b]:List D.Gate)).bind fun x4=>
       (Yq (D.Circuit.mk mc.Inputs x4)).bind fun x5=>
       (mputE? ZH fitZ ml (gate2 a b) x5).bind fun x6=>
       some (x5,(D.builder.mk (D.Circuit.mk mc.Inputs x4) x6 mf))) = match find mc.Gates (gate2 a b) with
    | some i=>some (mc.Inputs + 2 + i,⟨mc,ml,mf⟩)
    | none=>if 360 ≤ mc.Gates.length then some (-1,⟨mc,ml,true⟩) else some (mc.Inputs + 2 + mc.Gates.length,⟨⟨mc.Inputs,mc.Gates ++ [gate2 a b]⟩,(gate2 a b,mc.Inputs + 2 + (mc.Gates.length:Int)) :: ml,mf⟩):=by
  rw [hgm]
  cases hf:find mc.Gates (gate2 a b) with
  | some i=>rfl
  | none=>
   simp only [Zjv,Option.map_none,Zls,Zj1,ZjP]
   by_cases c4:360 ≤ mc.Gates.length
   ·rw [Zj2 (by rw [Za]; simp; omega),Zj2 c4]
   ·rw [Zjz (by rw [Za]; simp; omega), Zjz c4]
    have happ:app? mc.Gates [gate2 a b] = some (mc.Gates ++ [gate2 a b]):=by
     unfold app?; rw [Zj2 (by simp; unfold room; omega)]
    have hlo:Yq (D.Circuit.mk mc.Inputs (mc.Gates ++ [gate2 a b])) = some (mc.Inputs + 2 + mc.Gates.length):=by
     unfold Yq
     rw [Za,ZjC,Zlf,Zd (x:=1 + mc.Inputs) (by omega) (by omega),Zd (by omega) (by omega)]
     congr 1; omega
    have hpt:mputE? ZH fitZ ml (gate2 a b) (mc.Inputs + 2 + mc.Gates.length) = some ((gate2 a b,mc.Inputs + 2 + (mc.Gates.length:Int)) :: ml):=by
     unfold mputE?
     rw [Zj2 ⟨hgf,ZfS (by unfold fitInt; omega),by rw [hl.len]; unfold room; omega⟩]
    rw [happ]
    simp only [Zjv,hlo,hpt]
 have hbr:(if (decide (iab a > iab b)) then
     (mget2? ZH (0:Int) ml (D.Gate.mk b a)).bind fun x3=>
     if x3.2 then
      some (x3.1,(⟨mc,ml,mf⟩ : D.builder))
     else
      if (decide ((len mc.Gates) ≥ 360)) then
       some ((-1),(D.builder.mk mc ml true))
      else
       (app? mc.Gates ([(D.Gate.mk b a)]:List D.Gate)).bind fun x4=>
       (Yq (D.Circuit.mk mc.Inputs x4)).bind fun x5=>
       (mputE? ZH fitZ ml (D.Gate.mk b a) x5).bind fun x6=>
       some (x5,(D.builder.mk (D.Circuit.mk mc.Inputs x4) x6 mf))
    else
     (mget2? ZH (0:Int) ml (D.Gate.mk a b)).bind fun x7=>
     if x7.2 then
      some (x7.1,(⟨mc,ml,mf⟩ : D.builder))
     else
      if (decide ((len mc.Gates) ≥ 360)) then
       some ((-1),(D.builder.mk mc ml true))
      else
       (app? mc.Gates ([(D.Gate.mk a b)]:List D.Gate)).bind fun x8=>
       (Yq (D.Circuit.mk mc.Inputs x8)).bind fun x9=>
       (mputE? ZH fitZ ml (D.Gate.mk a b) x9).bind fun x10=>
       some (x9,(D.builder.mk (D.Circuit.mk mc.Inputs x8) x10 mf))) = match find mc.Gates (gate2 a b) with
    | some i=>some (mc.Inputs + 2 + i,⟨mc,ml,mf⟩)
    | none=>if 360 ≤ mc.Gates.length then some (-1,⟨mc,ml,true⟩) else some (mc.Inputs + 2 + mc.Gates.length,⟨⟨mc.Inputs,mc.Gates ++ [gate2 a b]⟩,(gate2 a b,mc.Inputs + 2 + (mc.Gates.length:Int)) :: ml,mf⟩):=by
  rw [← key]
  by_cases c5:iab a > iab b
  ·rw [Zj2 (by simpa using c5)]
   have:gate2 a b = ⟨b,a⟩:=by unfold gate2; rw [Zj2 c5]
   rw [this]
  ·rw [Zjz (by simpa using c5)]
   have:gate2 a b = ⟨a,b⟩:=by unfold gate2; rw [Zjz c5]
   rw [this]
 rw [hbr]
 cases hf:find mc.Gates (gate2 a b) with
 | some i=>exact ⟨_,rfl,⟨rfl,rfl,hl⟩⟩
 | none=>
  simp only
  by_cases c4:360 ≤ mc.Gates.length
  ·rw [Zj2 c4,Zj2 c4]; exact ⟨_,rfl,⟨rfl,rfl,hl⟩⟩
  ·rw [Zjz c4,Zjz c4]; exact ⟨_,rfl,⟨rfl,rfl,hl.snoc hf⟩⟩
end Go.Proofs.YthilnjkcemdfeaaGreat.Cc
end
section
namespace Go.Proofs.YthilnjkcemdfeaaGreat.Cc
open Go.GL
variable {fuel:Nat} [FU fuel]
theorem Zdt {p q:List Int} (h:p.length ≤ 1048576):YS fuel p q = some (decide (p = q)):=Zc0 (by omega) (lt_fuel h)
def upI (k:Int) (L:Nat):List Int:=(List.range L).map fun (j:Nat)=>k + (j:Int)
theorem ZbP (k:Int) (L:Nat):(upI k L).length = L:=by simp [upI]
theorem ZdT {k:Int} {L i:Nat} (h:i < L):(upI k L)[i]? = some (k + (i:Int)):=by simp [upI,h]
theorem markIntS_eq {p:List Int} {k:Int} (hk:0 ≤ k) (hb:k ≤ 4000000000000) (hp:p.length ≤ 1048576):Y9 fuel p k = some (k + p.length,upI k p.length):=by
 unfold Y9
 rw [ZL (I:=fun i s=>s = (k + (i:Int),(i:Int),pre (fun (j:Nat)=>k + (j:Int)) p i)) (m:=p.length) (r:=(k + (p.length:Int),upI k p.length)) (fun i s hi hs=>?_) (fun s hs=>?_) p.length 0 _ (by omega) (by simp [Zdc]) fuel (lt_fuel hp)]
 ·rfl
 ·subst hs
  refine ⟨_,?_,rfl⟩
  simp only
  rw [Zj2 (by rw [Za]; simp; omega),set?_nat (by rw [ZdX (by omega)]; exact hi),Zeb hi]
  simp only [Zjv]
  rw [Zd (by omega) (by omega),Zd (by omega) (by omega)]
  simp only [Option.some.injEq,Sum.inl.injEq,Prod.mk.injEq,ZlS]
  omega
 ·subst hs
  simp only
  rw [Zjz (by rw [Za]; simp),Zej]
  rfl
theorem heldIntS_eq {L:Nat} {k:Int} (hk:0 ≤ k) (hb:k ≤ 4000000000000) (hp:L ≤ 1048576):Yr fuel (upI k L) k = some (k + L):=by
 unfold Yr
 rw [ZL (I:=fun i s=>s = (k + (i:Int),(i:Int))) (m:=L) (r:=.inl (k + (L:Int))) (fun i s hi hs=>?_) (fun s hs=>?_) L 0 _ (by omega) (by simp) fuel (lt_fuel hp)]
 ·rfl
 ·subst hs
  refine ⟨_,?_,rfl⟩
  simp only
  rw [Zj2 (by rw [Za,ZbP]; simp; omega),get?_nat,ZdT hi]
  simp only [Zjv]
  rw [Zjz (by simp),Zd (by omega) (by omega),Zd (by omega) (by omega)]
  simp only [Option.some.injEq,Sum.inl.injEq,Prod.mk.injEq]
  omega
 ·subst hs
  simp only
  rw [Zjz (by rw [Za,ZbP]; simp)]
abbrev net (s:BS):D.l04Net:=⟨s.1,s.2⟩
structure Good (s:BS) (r:Int × BS):Prop where
 circ:CircP r.2.1
 grow:Grow s.1 r.2.1
 lit:litN (lines r.2.1) r.1 = true
def SpecOp (f:D.l04Net → Option (Int × D.l04Net)) (s:BS) (r:Int × BS):Prop:=f (net s) = some (r.1,net r.2)
def ImplOp (f:D.builder → Option (Int × D.builder)) (s:BS) (r:Int × BS):Prop:=∀ m,RelB m s → ∃ m',f m = some (r.1,m') ∧ RelB m' r.2
def orP (s:BS) (a b:Int):Int × BS:=let r:=andP s (-a) (-b); (-r.1,r.2)
def xorP (s:BS) (a b:Int):Int × BS:=let p:=andP s a (-b); let q:=andP p.2 (-a) b; orP q.2 p.1 q.1
def ifP (s:BS) (c a b:Int):Int × BS:=let p:=andP s c a; let q:=andP p.2 (-c) b; orP q.2 p.1 q.1
theorem Yz {n x:Int} (h:litN n x = true) (hn:n ≤ 391):w64 (0 - x) = -x:=by
 have:=ZbL h hn
 rw [Y1] at h
 unfold iab at h
 rw [Zd (by split at h <;> omega) (by split at h <;> omega)]; omega
section
variable {s:BS} (hs:CircP s.1)
include hs
theorem Yc {a b:Int} (ha:litN (lines s.1) a = true) (hb:litN (lines s.1) b = true):Good s (andP s a b):=by
 obtain ⟨h1,h2,h3⟩:=Zi8 hs ha hb
 exact ⟨h1,h2,h3⟩
theorem Zcx {a b:Int} (ha:litN (lines s.1) a = true) (hb:litN (lines s.1) b = true):Good s (orP s a b):=by
 obtain ⟨h1,h2,h3⟩:=Yc hs (a:=-a) (b:=-b) (by rw [ZG]; exact ha) (by rw [ZG]; exact hb)
 exact ⟨h1,h2,by simp only [orP]; rw [ZG]; exact h3⟩
theorem Zcw {a b:Int} (ha:litN (lines s.1) a = true) (hb:litN (lines s.1) b = true):SpecOp (fun n=>Zm fuel n a b) s (orP s a b):=by
 have hn:=hs.lines1
 have g:=Yc hs (a:=-a) (b:=-b) (by rw [ZG]; exact ha) (by rw [ZG]; exact hb)
 unfold SpecOp Zm orP
 simp only
 rw [Yz ha hn,Yz hb hn,XD hs (by rw [ZG]; exact ha) (by rw [ZG]; exact hb)]
 simp only [Zjv]
 rw [Yz g.lit g.circ.lines1]
theorem Zcz {a b:Int} (ha:litN (lines s.1) a = true) (hb:litN (lines s.1) b = true):ImplOp (fun m=>Zp m a b) s (orP s a b):=by
 intro m hm
 have hn:=hs.lines1
 have g:=Yc hs (a:=-a) (b:=-b) (by rw [ZG]; exact ha) (by rw [ZG]; exact hb)
 obtain ⟨m',h1,h2⟩:=XF hm hs (a:=-a) (b:=-b) (by rw [ZG]; exact ha) (by rw [ZG]; exact hb)
 refine ⟨m',?_,h2⟩
 unfold Zp orP
 simp only
 rw [Yz ha hn,Yz hb hn,h1]
 simp only [Zjv]
 rw [Yz g.lit g.circ.lines1]
theorem if_good {c a b:Int} (hc:litN (lines s.1) c = true) (ha:litN (lines s.1) a = true) (hb:litN (lines s.1) b = true):Good s (ifP s c a b):=by
 have g1:=Yc hs hc ha
 have g2:=Yc g1.circ (a:=-c) (b:=b) (by rw [ZG]; exact litN_mono hc g1.grow.lines) (litN_mono hb g1.grow.lines)
 have g3:=Zcx g2.circ (a:=(andP s c a).1) (b:=(andP (andP s c a).2 (-c) b).1) (litN_mono g1.lit g2.grow.lines) g2.lit
 exact ⟨g3.circ,(g1.grow.trans g2.grow).trans g3.grow,g3.lit⟩
theorem Zd0 {c a b:Int} (hc:litN (lines s.1) c = true) (ha:litN (lines s.1) a = true) (hb:litN (lines s.1) b = true):((Zf fuel (net s) c a).bind fun x1=>
 (Zf fuel x1.2 (w64 (0 - c)) b).bind fun x2=>
 (Zm fuel x2.2 x1.1 x2.1).bind fun x3=>
 some (x3.1,x3.2)) = some ((ifP s c a b).1,net (ifP s c a b).2):=by
 have g1:=Yc hs hc ha
 have hc':litN (lines (andP s c a).2.1) (-c) = true:=by rw [ZG]; exact litN_mono hc g1.grow.lines
 have g2:=Yc g1.circ (a:=-c) (b:=b) hc' (litN_mono hb g1.grow.lines)
 unfold ifP
 simp only
 rw [XD hs hc ha]
 simp only [Zjv]
 rw [Yz hc hs.lines1,XD g1.circ hc' (litN_mono hb g1.grow.lines)]
 simp only [Zjv]
 have h3:Zm fuel _ _ _ = _:=Zcw (fuel:=fuel) g2.circ (a:=(andP s c a).1) (b:=(andP (andP s c a).2 (-c) b).1) (litN_mono g1.lit g2.grow.lines) g2.lit
 rw [h3]
 rfl
theorem Zdk {c a b:Int} (hc:litN (lines s.1) c = true) (ha:litN (lines s.1) a = true) (hb:litN (lines s.1) b = true):∀ m,RelB m s → ∃ m',((Zj m c a).bind fun x1=>
 (Zj x1.2 (w64 (0 - c)) b).bind fun x2=>
 (Zp x2.2 x1.1 x2.1).bind fun x3=>
 some (x3.1,x3.2)) = some ((ifP s c a b).1,m') ∧ RelB m' (ifP s c a b).2:=by
 intro m hm
 have g1:=Yc hs hc ha
 have hc':litN (lines (andP s c a).2.1) (-c) = true:=by rw [ZG]; exact litN_mono hc g1.grow.lines
 have g2:=Yc g1.circ (a:=-c) (b:=b) hc' (litN_mono hb g1.grow.lines)
 obtain ⟨m1,e1,r1⟩:=XF hm hs hc ha
 obtain ⟨m2,e2,r2⟩:=XF r1 g1.circ hc' (litN_mono hb g1.grow.lines)
 obtain ⟨m3,e3,r3⟩:=Zcz g2.circ (a:=(andP s c a).1) (b:=(andP (andP s c a).2 (-c) b).1) (litN_mono g1.lit g2.grow.lines) g2.lit m2 r2
 refine ⟨m3,?_,r3⟩
 unfold ifP
 simp only
 rw [e1]
 simp only [Zjv]
 rw [Yz hc hs.lines1,e2]
 simp only [Zjv]
 simp only at e3
 rw [e3]
 rfl
theorem spec_if {c a b:Int} (hc:litN (lines s.1) c = true) (ha:litN (lines s.1) a = true) (hb:litN (lines s.1) b = true):SpecOp (fun n=>Zh fuel n c a b) s (ifP s c a b):=by
 unfold SpecOp Zh
 exact Zd0 hs hc ha hb
theorem impl_if {c a b:Int} (hc:litN (lines s.1) c = true) (ha:litN (lines s.1) a = true) (hb:litN (lines s.1) b = true):ImplOp (fun m=>Zb m c a b) s (ifP s c a b):=by
 unfold ImplOp Zb
 exact Zdk hs hc ha hb
theorem Xf {a b:Int} (ha:litN (lines s.1) a = true) (hb:litN (lines s.1) b = true):Good s (xorP s a b):=
 if_good hs (c:=a) (a:=-b) (b:=b) ha (by rw [ZG]; exact hb) hb
theorem ZbM {a b:Int} (ha:litN (lines s.1) a = true) (hb:litN (lines s.1) b = true):SpecOp (fun n=>Zk fuel n a b) s (xorP s a b):=by
 have h:=Zd0 (fuel:=fuel) hs (c:=a) (a:=-b) (b:=b) ha (by rw [ZG]; exact hb) hb
 unfold SpecOp
 unfold Zk
 rw [Yz hb hs.lines1]
 exact h
theorem ZbQ {a b:Int} (ha:litN (lines s.1) a = true) (hb:litN (lines s.1) b = true):ImplOp (fun m=>Zq m a b) s (xorP s a b):=by
 intro m hm
 obtain ⟨m',e,r⟩:=Zdk hs (c:=a) (a:=-b) (b:=b) ha (by rw [ZG]; exact hb) hb m hm
 refine ⟨m',?_,r⟩
 simp only at e ⊢
 unfold Zq
 rw [Yz hb hs.lines1]
 exact e
end
theorem spec_new {c:D.Circuit} (hc:CircP c):XI c = some (net (c,false)):=by
 have:=hc.len
 unfold XI
 have:app? ([]:List D.Gate) c.Gates = some c.Gates:=by
  unfold app?; rw [Zj2 (by simp; unfold room; omega)]; simp
 rw [this]
 rfl
theorem impl_new {c:D.Circuit} (hc:CircP c):∃ m,YK fuel c = some m ∧ RelB m (c,false):=by
 have h0:=hc.i0
 have h1:=hc.i1
 have h2:=hc.len
 have hcl:Zx c.Gates = some c.Gates:=by
  unfold Zx
  have:app? ([]:List D.Gate) c.Gates = some c.Gates:=by
   unfold app?; rw [Zj2 (by simp; unfold room; omega)]; simp
  rw [this]; rfl
 let mk:Nat → List (D.Gate × Int):=fun k=>((List.range k).reverse.map fun i=>(c.Gates.getD i default,c.Inputs + 2 + (i:Int)))
 have hmk:∀ k,k < c.Gates.length → mk (k + 1) = (c.Gates.getD k default,c.Inputs + 2 + (k:Int)) :: mk k:=by
  intro k hk
  simp only [mk]
  rw [Zlg,List.reverse_append,List.reverse_singleton,ZjY,ZjJ]
 have hln:∀ k,k ≤ c.Gates.length → LineOk c.Inputs (c.Gates.take k) (mk k):=by
  intro k
  induction k with
  | zero=>intro _; exact LineOk.nil _
  | succ k ih=>
   intro hk
   have hk':k < c.Gates.length:=by omega
   have hg:c.Gates[k]? = some (c.Gates.getD k default):=by
    rw [Zjw hk',ZjE,Zjw hk']; rfl
   rw [hmk k hk',ZjV hk']
   have:=(ih (by omega)).snoc (hc.find_take hg)
   have e:c.Gates.getD k default = c.Gates[k]:=by rw [Zjw hk'] at hg; exact (Option.some.inj hg).symm
   rw [e] at this ⊢
   rw [Zj3,ZkL (by omega)] at this
   exact this
 refine ⟨⟨c,mk c.Gates.length,false⟩,?_,⟨rfl,rfl,?_⟩⟩
 ·unfold YK
  rw [hcl]
  simp only [Zjv]
  rw [ZL (I:=fun k t=>t = ((k:Int),mk k)) (m:=c.Gates.length) (r:=mk c.Gates.length) (fun k t hk ht=>?_) (fun t ht=>?_) c.Gates.length 0 _ (by omega) (by simp [mk]) fuel (lt_fuel (by omega))]
  ·rfl
  all_goals subst ht
  ·refine ⟨(((k + 1 : Nat) : Int), mk (k + 1)), ?_, rfl⟩
   have hfit:Zb4 c.Gates[k]:=hc.fit.2.2 _ (Zk0 hk)
   simp only
   rw [Zj2 (by rw [Za]; simp; omega),get?_nat,Zjw hk]
   simp only [Zjv]
   rw [Zd (x:=2 + c.Inputs) (by omega) (by omega),Zd (x:=2 + c.Inputs + (k:Int)) (by omega) (by omega)]
   have e:c.Gates.getD k default = c.Gates[k]:=by rw [ZjE,Zjw hk]; rfl
   have hp:mputE? ZH fitZ (mk k) c.Gates[k] (2 + c.Inputs + (k:Int)) = some (mk (k + 1)):=by
    unfold mputE?
    rw [Zj2 ⟨fitK hfit,ZfS (by unfold fitInt; omega),by rw [(hln k (by omega)).len]; unfold room; simp; omega⟩,hmk k hk,e]
    congr 3; omega
   rw [hp]
   simp only [Zjv]
   rw [Zd (by omega) (by omega)]
   rfl
  ·simp only
   rw [Zjz (by rw [Za]; simp)]
 ·have := hln c.Gates.length (ZjF _)
  rw [Zkh] at this
  exact this
abbrev AS:=List Int × Int × BS
def addStep (t:AS) (p:Int × Int):AS:=
 let x:=xorP t.2.2 p.1 p.2
 let o:=xorP x.2 x.1 t.2.1
 let y:=andP o.2 p.1 p.2
 let z:=andP y.2 x.1 t.2.1
 let w:=orP z.2 y.1 z.1
 (t.1 ++ [o.1],w.1,w.2)
def addP (s:BS) (a b:List Int) (c:Int):AS:=(a.zip b).foldl addStep ([],c,s)
theorem Zc6 {α β:Type} (f:β → α → β) (Pp:Nat → β → Prop) (l:List α) (b:β) (h0:Pp 0 b) (hs:∀ k x t,l[k]? = some x → Pp k t → Pp (k + 1) (f t x)):∀ k,k ≤ l.length → Pp k ((l.take k).foldl f b):=by
 intro k
 induction k with
 | zero=>intro _; exact h0
 | succ k ih=>
  intro hk
  rw [ZjV (by omega),Zk9]
  exact hs k _ _ (Zjw (by omega)) (ih (by omega))
structure GoodA (s:BS) (k:Nat) (t:AS):Prop where
 circ:CircP t.2.2.1
 grow:Grow s.1 t.2.2.1
 lit:litN (lines t.2.2.1) t.2.1 = true
 len:t.1.length = k
 lits:∀ x ∈ t.1,litN (lines t.2.2.1) x = true
theorem ZhP {s:BS} {k:Nat} {t:AS} (h:GoodA s k t) {p:Int × Int} (h1:litN (lines s.1) p.1 = true) (h2:litN (lines s.1) p.2 = true):GoodA s (k + 1) (addStep t p):=by
 have a1:=litN_mono h1 h.grow.lines
 have a2:=litN_mono h2 h.grow.lines
 have gx:=Xf h.circ a1 a2
 have go:=Xf gx.circ gx.lit (litN_mono h.lit gx.grow.lines)
 have e1:=gx.grow.trans go.grow
 have gy:=Yc go.circ (litN_mono a1 e1.lines) (litN_mono a2 e1.lines)
 have e2:=go.grow.trans gy.grow
 have e3:=gx.grow.trans e2
 have gz:=Yc gy.circ (litN_mono gx.lit e2.lines) (litN_mono h.lit e3.lines)
 have gw:=Zcx gz.circ (litN_mono gy.lit gz.grow.lines) gz.lit
 have e4:=gy.grow.trans (gz.grow.trans gw.grow)
 have e5:=e1.trans e4
 refine ⟨gw.circ,h.grow.trans e5,gw.lit,by simp [addStep,h.len],fun x hx=>?_⟩
 simp only [addStep,ZjN,Zkl] at hx
 rcases hx with hx | rfl
 ·exact litN_mono (h.lits x hx) e5.lines
 ·exact litN_mono go.lit e4.lines
theorem zip_mem {a b:List Int} {p:Int × Int} {k:Nat} (h:(a.zip b)[k]? = some p):a[k]? = some p.1 ∧ b[k]? = some p.2:=by
 rw [List.getElem?_zip_eq_some] at h
 exact h
theorem ZbZ {s:BS} (hs:CircP s.1) {a b:List Int} {c:Int} (ha:∀ x ∈ a,litN (lines s.1) x = true) (hb:∀ x ∈ b,litN (lines s.1) x = true) (hc:litN (lines s.1) c = true) :
  ∀ k,k ≤ (a.zip b).length → GoodA s k (((a.zip b).take k).foldl addStep ([],c,s)):=
 Zc6 addStep (GoodA s) _ _ ⟨hs,Grow.refl _,hc,rfl,fun _ h=>by cases h⟩ fun k p t hp ht=>ZhP ht (ha _ (Zj9 (zip_mem hp).1)) (hb _ (Zj9 (zip_mem hp).2))
theorem YZ {s:BS} (hs:CircP s.1) {a b:List Int} {c:Int} (hab:a.length = b.length) (ha:∀ x ∈ a,litN (lines s.1) x = true) (hb:∀ x ∈ b,litN (lines s.1) x = true) (hc:litN (lines s.1) c = true):GoodA s a.length (addP s a b c):=by
 have:=ZbZ hs ha hb hc (a.zip b).length (ZjF _)
 rw [Zkh,Zkx,← hab,Zlz] at this
 exact this
theorem ZaO {s:BS} (hs:CircP s.1) {a b:List Int} {c:Int} (hl:a.length ≤ 1048576) (hab:a.length = b.length) (ha:∀ x ∈ a,litN (lines s.1) x = true) (hb:∀ x ∈ b,litN (lines s.1) x = true) (hc:litN (lines s.1) c = true) :
  Zz fuel (net s) a b c = some ((addP s a b c).1,(addP s a b c).2.1,net (addP s a b c).2.2):=by
 have hz:(a.zip b).length = a.length:=by rw [Zkx,← hab,Zlz]
 unfold Zz
 rw [ZL (I:=fun k t=>t = (let r:=((a.zip b).take k).foldl addStep ([],c,s); (r.2.1,(k:Int),r.1,r.2.2.1.Inputs,r.2.2.2,r.2.2.1.Gates))) (m:=a.length) (r:=(let r:=addP s a b c; (r.2.1,r.1,r.2.2.1.Inputs,r.2.2.2,r.2.2.1.Gates))) (fun k t hk ht=>?_) (fun t ht=>?_) a.length 0 _ (by omega) (by simp) fuel (lt_fuel hl)]
 ·rfl
 all_goals subst ht
 ·refine ⟨_, ?_, rfl⟩
  have hk':k < (a.zip b).length:=by omega
  have hkb:k < b.length:=by omega
  have h:=ZbZ hs ha hb hc k (by omega)
  rw [ZjV hk',Zk9,List.getElem_zip]
  generalize ((a.zip b).take k).foldl addStep ([],c,s) = t at h ⊢
  have a1:=litN_mono (ha _ (Zk0 hk)) h.grow.lines
  have a2:=litN_mono (hb _ (Zk0 hkb)) h.grow.lines
  have gx:=Xf h.circ a1 a2
  have go:=Xf gx.circ gx.lit (litN_mono h.lit gx.grow.lines)
  have e1:=gx.grow.trans go.grow
  have gy:=Yc go.circ (litN_mono a1 e1.lines) (litN_mono a2 e1.lines)
  have e2:=go.grow.trans gy.grow
  have e3:=gx.grow.trans e2
  have gz:=Yc gy.circ (litN_mono gx.lit e2.lines) (litN_mono h.lit e3.lines)
  have sx:Zk fuel (net t.2.2) _ _ = _:=ZbM (fuel:=fuel) h.circ a1 a2
  have so:Zk fuel (net _) _ _ = _:=ZbM (fuel:=fuel) gx.circ gx.lit (litN_mono h.lit gx.grow.lines)
  have sy:=XD (fuel:=fuel) go.circ (litN_mono a1 e1.lines) (litN_mono a2 e1.lines)
  have sz:=XD (fuel:=fuel) gy.circ (litN_mono gx.lit e2.lines) (litN_mono h.lit e3.lines)
  have sw:Zm fuel (net _) _ _ = _:=Zcw (fuel:=fuel) gz.circ (litN_mono gy.lit gz.grow.lines) gz.lit
  simp only
  rw [Zj2 (by rw [Za]; simp; omega),get?_nat,get?_nat,Zjw hk,Zjw hkb]
  simp only [Zjv]
  have sx':Zk fuel (D.l04Net.mk (D.Circuit.mk t.2.2.1.Inputs t.2.2.1.Gates) t.2.2.2) a[k] b[k] = _:=sx
  rw [sx']
  simp only [Zjv]
  rw [so]
  simp only [Zjv]
  have happ:app? t.1 [(xorP (xorP t.2.2 a[k] b[k]).2 (xorP t.2.2 a[k] b[k]).1 t.2.1).1] = some (t.1 ++ [(xorP (xorP t.2.2 a[k] b[k]).2 (xorP t.2.2 a[k] b[k]).1 t.2.1).1]):=by
   unfold app?; rw [Zj2 (by simp [h.len]; unfold room; omega)]
  rw [happ]
  simp only [Zjv]
  rw [sy]
  simp only [Zjv]
  rw [sz]
  simp only [Zjv]
  rw [sw]
  simp only [Zjv]
  rw [Zd (by omega) (by omega)]
  rfl
 ·simp only
  rw [Zjz (by rw [Za]; simp)]
  unfold addP
  rw [Zkv (by omega)]
theorem set_fill {l:List Int} {n:Nat} {x:Int}:(l ++ List.replicate (n + 1) 0).set l.length x = (l ++ [x]) ++ List.replicate n 0:=by
 rw [Zky _ _ (ZjF _),ZkG,Zl8,ZkO,ZjZ,ZjY]
theorem ZaN {s:BS} (hs:CircP s.1) {m:D.builder} (hm:RelB m s) {a b:List Int} {c:Int} (hl:a.length ≤ 1048576) (hab:a.length = b.length) (ha:∀ x ∈ a,litN (lines s.1) x = true) (hb:∀ x ∈ b,litN (lines s.1) x = true) (hc:litN (lines s.1) c = true) :
  ∃ m',Z9 fuel m a b c = some ((addP s a b c).1,(addP s a b c).2.1,m') ∧ RelB m' (addP s a b c).2.2:=by
 have hz:(a.zip b).length = a.length:=by rw [Zkx,← hab,Zlz]
 obtain ⟨mc,ml,mf⟩:=m
 obtain ⟨sc,sf⟩:=s
 obtain ⟨hc1,hf1,hl1⟩:=hm
 simp only at hc1 hf1 hl1
 subst hc1
 subst hf1
 simp only at hs ha hb hc
 have main:∀ (d k:Nat) (ln:List (D.Gate × Int)),k + d = a.length →
   (let r:=((a.zip b).take k).foldl addStep ([],c,(mc,mf)); RelB ⟨r.2.2.1,ln,r.2.2.2⟩ r.2.2) → ∀ n,d < n → ∃ ln',
   iterN (fun (s1:Int × Int × (List Int) × Int × Bool × (List D.Gate) × (List (D.Gate × Int)))=>
  if (decide (s1.2.1 < (len a))) then
   (get? a s1.2.1).bind fun x2=>
   (get? b s1.2.1).bind fun x3=>
   (Zq (D.builder.mk (D.Circuit.mk s1.2.2.2.1 s1.2.2.2.2.2.1) s1.2.2.2.2.2.2 s1.2.2.2.2.1) x2 x3).bind fun x4=>
   (Zq x4.2 x4.1 s1.1).bind fun x5=>
   (set? s1.2.2.1 s1.2.1 x5.1).bind fun x6=>
   (get? a s1.2.1).bind fun x7=>
   (get? b s1.2.1).bind fun x8=>
   (Zj x5.2 x7 x8).bind fun x9=>
   (Zj x9.2 x4.1 s1.1).bind fun x10=>
   (Zp x10.2 x9.1 x10.1).bind fun x11=>
   some (.inl (x11.1,(w64 (s1.2.1 + 1)),x6,x11.2.c.Inputs,x11.2.full,x11.2.c.Gates,x11.2.line))
  else
   some (.inr (s1.1,s1.2.2.1,s1.2.2.2.1,s1.2.2.2.2.1,s1.2.2.2.2.2.1,s1.2.2.2.2.2.2))) n
    (let r:=((a.zip b).take k).foldl addStep ([],c,(mc,mf)); (r.2.1,(k:Int),r.1 ++ List.replicate d 0,r.2.2.1.Inputs,r.2.2.2,r.2.2.1.Gates,ln)) =
    some (let r:=addP (mc,mf) a b c; (r.2.1,r.1,r.2.2.1.Inputs,r.2.2.2,r.2.2.1.Gates,ln')) ∧ (let r:=addP (mc,mf) a b c; RelB ⟨r.2.2.1,ln',r.2.2.2⟩ r.2.2):=by
  intro d
  induction d with
  | zero=>
   intro k ln hk hr n hn
   obtain ⟨n,rfl⟩ : ∃ j,n = j + 1:=⟨n - 1,by omega⟩
   obtain rfl:k = a.length:=by omega
   refine ⟨ln,?_,?_⟩
   ·unfold iterN addP
    rw [Zkv (by omega)]
    simp only
    rw [Zjz (by rw [Za]; simp)]
    simp
   ·unfold addP
    rw [Zkv (by omega)] at hr
    exact hr
  | succ d ih=>
   intro k ln hk hr n hn
   obtain ⟨n,rfl⟩ : ∃ j,n = j + 1:=⟨n - 1,by omega⟩
   have hka:k < a.length:=by omega
   have hk':k < (a.zip b).length:=by omega
   have hkb:k < b.length:=by omega
   have h:=ZbZ (s:=(mc,mf)) hs ha hb hc k (by omega)
   have ih1:=ih (k + 1)
   rw [ZjV hk',Zk9,List.getElem_zip] at ih1
   generalize ((a.zip b).take k).foldl addStep ([],c,(mc,mf)) = t at h hr ih1 ⊢
   have a1:=litN_mono (ha _ (Zk0 hka)) h.grow.lines
   have a2:=litN_mono (hb _ (Zk0 hkb)) h.grow.lines
   have gx:=Xf h.circ a1 a2
   have go:=Xf gx.circ gx.lit (litN_mono h.lit gx.grow.lines)
   have e1:=gx.grow.trans go.grow
   have gy:=Yc go.circ (litN_mono a1 e1.lines) (litN_mono a2 e1.lines)
   have e2:=go.grow.trans gy.grow
   have e3:=gx.grow.trans e2
   have gz:=Yc gy.circ (litN_mono gx.lit e2.lines) (litN_mono h.lit e3.lines)
   obtain ⟨m1,sx,r1⟩:=ZbQ h.circ a1 a2 _ hr
   obtain ⟨m2,so,r2⟩:=ZbQ gx.circ gx.lit (litN_mono h.lit gx.grow.lines) _ r1
   obtain ⟨m3,sy,r3⟩:=XF r2 go.circ (litN_mono a1 e1.lines) (litN_mono a2 e1.lines)
   obtain ⟨m4,sz,r4⟩:=XF r3 gy.circ (litN_mono gx.lit e2.lines) (litN_mono h.lit e3.lines)
   obtain ⟨m5,sw,r5⟩:=Zcz gz.circ (litN_mono gy.lit gz.grow.lines) gz.lit _ r4
   simp only at sx so sw
   obtain ⟨c5,l5,f5⟩:=m5
   obtain ⟨hc5,hf5,hl5⟩:=r5
   simp only at hc5 hf5 hl5
   have hnext:=ih1 l5 (by omega) (by simp only [ZkU,Zly]; exact ⟨rfl,rfl,hl5⟩) n (by omega)
   obtain ⟨ln',hi,hrr⟩:=hnext
   refine ⟨ln',?_,hrr⟩
   rw [← hi]
   conv=>lhs; unfold iterN
   simp only
   rw [Zj2 (by rw [Za]; simp; omega),get?_nat,get?_nat,Zjw hka,Zjw hkb]
   simp only [Zjv]
   have sx':Zq (D.builder.mk (D.Circuit.mk t.2.2.1.Inputs t.2.2.1.Gates) ln t.2.2.2) a[k] b[k] = _:=sx
   rw [sx']
   simp only [Zjv]
   rw [so]
   simp only [Zjv]
   have hset:∀ q,set? (t.1 ++ List.replicate (d + 1) 0) (k:Int) q = some ((t.1 ++ [q]) ++ List.replicate d 0):=fun q=>by
    have e:=set_fill (l:=t.1) (n:=d) (x:=q)
    rw [h.len] at e
    rw [set?_nat (by simp [h.len]),e]
   rw [hset]
   simp only [Zjv]
   rw [sy]
   simp only [Zjv]
   rw [sz]
   simp only [Zjv]
   rw [sw]
   simp only [Zjv]
   rw [Zd (by omega) (by omega),hc5,hf5]
   rfl
 obtain ⟨ln',hi,hr⟩:=main a.length 0 ml (by omega) (by simp only [List.take_zero,Zly]; exact ⟨rfl,rfl,hl1⟩) fuel (lt_fuel hl)
 refine ⟨_,?_,hr⟩
 unfold Z9
 rw [mk?_len (by unfold room; omega)]
 simp only [Zjv]
 simp only [List.take_zero,Zly,Zld] at hi
 have hi':=congrArg (fun r=>Option.bind r fun (rl1:Int × (List Int) × Int × Bool × (List D.Gate) × (List (D.Gate × Int)))=>some (rl1.2.1,rl1.1,(D.builder.mk (D.Circuit.mk rl1.2.2.1 rl1.2.2.2.2.1) rl1.2.2.2.2.2 rl1.2.2.2.1))) hi
 exact hi'
end Go.Proofs.YthilnjkcemdfeaaGreat.Cc
end
section
namespace Go.Proofs.YthilnjkcemdfeaaGreat.Cc
open Go.GL
variable {fuel:Nat} [FU fuel]
def upG (k:Int) (L:Nat):List D.Gate:=(List.range L).map fun (j:Nat)=>⟨k + 2 * (j:Int),k + 2 * (j:Int) + 1⟩
theorem Zgb (k:Int) (L:Nat):(upG k L).length = L:=by simp [upG]
theorem Zi1 {k:Int} {L i:Nat} (h:i < L):(upG k L)[i]? = some ⟨k + 2 * (i:Int),k + 2 * (i:Int) + 1⟩:=by simp [upG,h]
theorem markCircuit_eq {x:D.Circuit} {k:Int} (hk:0 ≤ k) (hb:k ≤ 4000000000000) (hp:x.Gates.length ≤ 1048576):YA fuel x k = some (k + 2 * x.Gates.length,⟨x.Inputs,upG k x.Gates.length⟩):=by
 obtain ⟨r,hr,rfl⟩:=Zei (fuel:=fuel) hk hb hp
 unfold YA
 rw [hr]
 rfl
theorem Zed {L:Nat} {k:Int} (hk:0 ≤ k) (hb:k ≤ 4000000000000) (hp:L ≤ 1048576):YR fuel (upG k L) k = some (k + 2 * L):=by
 unfold YR
 rw [ZL (I:=fun i s=>s = (k + 2 * (i:Int),(i:Int))) (m:=L) (r:=.inl (k + 2 * (L:Int))) (fun i s hi hs=>?_) (fun s hs=>?_) L 0 _ (by omega) (by simp) fuel (lt_fuel hp)]
 ·rfl
 ·subst hs
  refine ⟨_,?_,rfl⟩
  simp only
  rw [Zj2 (by rw [Za,Zgb]; simp; omega),get?_nat,Zi1 hi]
  simp only [Zjv]
  rw [Zjz (by simp)]
  rw [Zd (x:=k + 2 * (i:Int) + 1) (by omega) (by omega),Zjz (by simp),Zd (by omega) (by omega),Zd (by omega) (by omega)]
  simp only [Option.some.injEq,Sum.inl.injEq,Prod.mk.injEq]
  omega
 ·subst hs
  simp only
  rw [Zjz (by rw [Za,Zgb]; simp)]
theorem heldCircuit_eq {i:Int} {L:Nat} {k:Int} (hk:0 ≤ k) (hb:k ≤ 4000000000000) (hp:L ≤ 1048576):Yu fuel ⟨i,upG k L⟩ k = some (k + 2 * L):=by
 unfold Yu
 rw [Zed hk hb hp]
 simp only [Zjv]
 rw [Zjz (by simp; omega)]
end Go.Proofs.YthilnjkcemdfeaaGreat.Cc
end
section
namespace Go.Proofs.YthilnjkcemdfeaaGreat.Cc
open Go.GL
variable {fuel:Nat} [FU fuel]
abbrev LS:=List Int × BS
section
variable {α:Type}
def seqP (f:BS → α → Int × BS) (s:BS) (l:List α):LS:=l.foldl (fun t x=>(t.1 ++ [(f t.2 x).1],(f t.2 x).2)) ([],s)
structure GoodL (s:BS) (n:Nat) (t:LS):Prop where
 circ:CircP t.2.1
 grow:Grow s.1 t.2.1
 len:t.1.length = n
 lits:∀ x ∈ t.1,litN (lines t.2.1) x = true
def FOk (f:BS → α → Int × BS) (s:BS) (l:List α):Prop:=∀ s' x,CircP s'.1 → Grow s.1 s'.1 → x ∈ l → Good s' (f s' x)
theorem ZaW {f:BS → α → Int × BS} {s:BS} {l:List α} (hs:CircP s.1) (hf:FOk f s l):∀ k,k ≤ l.length → GoodL s k (seqP f s (l.take k)):=
 Zc6 _ (GoodL s) l _ ⟨hs,Grow.refl _,rfl,fun _ h=>by cases h⟩ fun k x t hx ht=>by
  have g:=hf t.2 x ht.circ ht.grow (Zj9 hx)
  refine ⟨g.circ,ht.grow.trans g.grow,by simp [ht.len],fun y hy=>?_⟩
  simp only [ZjN,Zkl] at hy
  rcases hy with hy | rfl
  ·exact litN_mono (ht.lits y hy) g.grow.lines
  ·exact g.lit
theorem seq_good {f:BS → α → Int × BS} {s:BS} {l:List α} (hs:CircP s.1) (hf:FOk f s l):GoodL s l.length (seqP f s l):=by
 have:=ZaW hs hf l.length (ZjF _)
 rw [Zkh] at this
 exact this
theorem ZaU {f:BS → α → Int × BS} {s:BS} {l:List α} {k:Nat} {x:α} (hx:l[k]? = some x):seqP f s (l.take (k + 1)) = ((seqP f s (l.take k)).1 ++ [(f (seqP f s (l.take k)).2 x).1],(f (seqP f s (l.take k)).2 x).2):=by
 obtain ⟨hk,rfl⟩:=Zjy.1 hx
 unfold seqP
 rw [ZjV hk,Zk9]
 rfl
theorem spec_seq {f:BS → α → Int × BS} {l:List α} {s:BS} {B:Int × List Int × Int × Bool × List D.Gate → Option ((Int × List Int × Int × Bool × List D.Gate) ⊕ (List Int × Int × Bool × List D.Gate))} (hs:CircP s.1) (hl:l.length ≤ 1000) (hf:FOk f s l)
  (hB:∀ (j:Nat) (out:List Int) (s':BS) (x:α),l[j]? = some x → CircP s'.1 → Grow s.1 s'.1 → out.length = j → B ((j:Int),out,s'.1.Inputs,s'.2,s'.1.Gates) = some (.inl (((j + 1:Nat):Int),out ++ [(f s' x).1],(f s' x).2.1.Inputs,(f s' x).2.2,(f s' x).2.1.Gates)))
  (hE:∀ (out:List Int) (s':BS),B (((l.length:Nat):Int),out,s'.1.Inputs,s'.2,s'.1.Gates) = some (.inr (out,s'.1.Inputs,s'.2,s'.1.Gates))) :
  iterN B fuel (0,[],s.1.Inputs,s.2,s.1.Gates) = some ((seqP f s l).1,(seqP f s l).2.1.Inputs,(seqP f s l).2.2,(seqP f s l).2.1.Gates):=by
 refine ZL (I:=fun k t=>t = ((k:Int),(seqP f s (l.take k)).1,(seqP f s (l.take k)).2.1.Inputs,(seqP f s (l.take k)).2.2,(seqP f s (l.take k)).2.1.Gates)) (m:=l.length) (fun k t hk ht=>?_) (fun t ht=>?_) l.length 0 _ (by omega) rfl fuel (lt_fuel (by omega))
 ·subst ht
  have g:=ZaW hs hf k (by omega)
  refine ⟨_,hB k _ _ l[k] (Zjw hk) g.circ g.grow g.len,?_⟩
  rw [ZaU (Zjw hk)]
 ·subst ht
  rw [hE,Zkh]
theorem Zap {σt ρt:Type} {B:σt → Option (σt ⊕ ρt)} {I:Nat → σt → Prop} {m:Nat} {R:ρt → Prop} (hs:∀ k s,k < m → I k s → ∃ s',B s = some (.inl s') ∧ I (k + 1) s') (hf:∀ s,I m s → ∃ r,B s = some (.inr r) ∧ R r) :
  ∀ (d k:Nat) (s:σt),k + d = m → I k s → ∀ n,d < n → ∃ r,iterN B n s = some r ∧ R r
 | 0,k,s,hk,hi,n,hn=>by
  obtain ⟨n,rfl⟩ : ∃ j,n = j + 1:=⟨n - 1,by omega⟩
  obtain rfl:k = m:=by omega
  obtain ⟨r,h1,h2⟩:=hf s hi
  exact ⟨r,by unfold iterN; rw [h1],h2⟩
 | d + 1,k,s,hk,hi,n,hn=>by
  obtain ⟨n,rfl⟩ : ∃ j,n = j + 1:=⟨n - 1,by omega⟩
  obtain ⟨s',h1,h2⟩:=hs k s (by omega) hi
  obtain ⟨r,h3,h4⟩:=Zap hs hf d (k + 1) s' (by omega) h2 n (by omega)
  exact ⟨r,by unfold iterN; rw [h1]; exact h3,h4⟩
theorem ZaD {σt ρt γ:Type} {B:σt → Option (σt ⊕ ρt)} {I:Nat → σt → Prop} {m:Nat} {R:ρt → Prop} {f:ρt → Option γ} {G:γ → Prop} (hs:∀ k s,k < m → I k s → ∃ s',B s = some (.inl s') ∧ I (k + 1) s') (hf:∀ s,I m s → ∃ r,B s = some (.inr r) ∧ R r)
  (d k:Nat) (s:σt) (hk:k + d = m) (hi:I k s) (n:Nat) (hn:d < n) (hfin:∀ r,R r → ∃ y,f r = some y ∧ G y):∃ y,(iterN B n s).bind f = some y ∧ G y:=by
 obtain ⟨r,h1,h2⟩:=Zap hs hf d k s hk hi n hn
 rw [h1]
 exact hfin r h2
theorem Zgi {α β:Type} {X:Option (α × β)} {v:α} {R:β → Prop} (h:∃ y,X = some y ∧ ∃ m,y = (v,m) ∧ R m):∃ m,X = some (v,m) ∧ R m:=by
 obtain ⟨y,h1,m,rfl,h2⟩:=h
 exact ⟨m,h1,h2⟩
theorem ZfR {l L0:List Int} {k:Nat} {x:Int} (hl:l.length = k) (hk:k < L0.length):(l ++ L0.drop k).set k x = (l ++ [x]) ++ L0.drop (k + 1):=by
 subst hl
 rw [Zky _ _ (ZjF _),ZkG,ZjX hk,ZkO,ZjZ,ZjY]
theorem impl_seq {f:BS → α → Int × BS} {l:List α} {s:BS} {B:Int × List Int × Int × Bool × List D.Gate × List (D.Gate × Int) → Option ((Int × List Int × Int × Bool × List D.Gate × List (D.Gate × Int)) ⊕ (List Int × Int × Bool × List D.Gate × List (D.Gate × Int)))} (hs:CircP s.1) (hl:l.length ≤ 1000) (hf:FOk f s l) {L0:List Int} (hL:L0.length = l.length)
  (hB:∀ (j:Nat) (L:List Int) (m:D.builder) (s':BS) (x:α),l[j]? = some x → CircP s'.1 → Grow s.1 s'.1 → RelB m s' → L.length = l.length → (∀ i,j ≤ i → L[i]? = L0[i]?) → ∃ m',B ((j:Int),L,m.c.Inputs,m.full,m.c.Gates,m.line) = some (.inl (((j + 1:Nat):Int),L.set j (f s' x).1,m'.c.Inputs,m'.full,m'.c.Gates,m'.line)) ∧ RelB m' (f s' x).2)
  (hE:∀ (L:List Int) (m:D.builder),B (((l.length:Nat):Int),L,m.c.Inputs,m.full,m.c.Gates,m.line) = some (.inr (L,m.c.Inputs,m.full,m.c.Gates,m.line))) {m:D.builder} (hm:RelB m s) :
  ∃ m',iterN B fuel (0,L0,m.c.Inputs,m.full,m.c.Gates,m.line) = some ((seqP f s l).1,m'.c.Inputs,m'.full,m'.c.Gates,m'.line) ∧ RelB m' (seqP f s l).2:=by
 have key:∃ r,iterN B fuel (0,L0,m.c.Inputs,m.full,m.c.Gates,m.line) = some r ∧ ∃ m':D.builder,r = ((seqP f s l).1,m'.c.Inputs,m'.full,m'.c.Gates,m'.line) ∧ RelB m' (seqP f s l).2:=by
  refine Zap (B:=B) (I:=fun k t=>∃ m':D.builder,t = ((k:Int),(seqP f s (l.take k)).1 ++ L0.drop k,m'.c.Inputs,m'.full,m'.c.Gates,m'.line) ∧ RelB m' (seqP f s (l.take k)).2) (m:=l.length) (fun k t hk ht=>?_) (fun t ht=>?_) l.length 0 _ (by omega) ⟨m,rfl,hm⟩ fuel (lt_fuel (by omega))
  ·obtain ⟨m1, rfl, hr⟩ := ht
   have g:=ZaW hs hf k (by omega)
   obtain ⟨m2,h3,h4⟩:=hB k ((seqP f s (l.take k)).1 ++ L0.drop k) m1 (seqP f s (l.take k)).2 l[k] (Zjw hk) g.circ g.grow hr (by rw [ZjC,g.len,ZjK]; omega) (fun i hi=>by rw [Zj4 (by rw [g.len]; omega),g.len,Zkc]; congr 1; omega)
   refine ⟨_,h3,m2,?_,?_⟩
   ·rw [ZaU (Zjw hk),ZfR g.len (by omega)]
   ·rw [ZaU (Zjw hk)]
    exact h4
  ·obtain ⟨m1, rfl, hr⟩ := ht
   refine ⟨_,hE _ m1,m1,?_,?_⟩
   ·rw [Zkh,Zkn (by omega),Zk3]
   ·rw [Zkh] at hr; exact hr
 obtain ⟨r,h1,m',rfl,h2⟩:=key
 exact ⟨m',h1,h2⟩
end
def negs (l:List Int):List Int:=l.map fun x=>-x
theorem negs_len (l:List Int):(negs l).length = l.length:=by simp [negs]
theorem negs_lits {n:Int} {l:List Int} (h:∀ x ∈ l,litN n x = true):∀ x ∈ negs l,litN n x = true:=by
 intro x hx
 obtain ⟨y,hy,rfl⟩:=Zko.1 hx
 rw [ZG]; exact h y hy
theorem spec_not {n:Int} {l:List Int} (hn:n ≤ 391) (hl:l.length ≤ 1000) (h:∀ x ∈ l,litN n x = true):Y0 fuel l = some (negs l):=by
 unfold Y0
 rw [ZL (I:=fun k t=>t = ((k:Int),negs (l.take k))) (m:=l.length) (r:=negs l) (fun k t hk ht=>?_) (fun t ht=>?_) l.length 0 _ (by omega) (by simp [negs]) fuel (lt_fuel (by omega))]
 ·rfl
 all_goals subst ht
 ·refine ⟨_, ?_, rfl⟩
  simp only
  rw [Zj2 (by rw [Za]; simp; omega),get?_nat,Zjw hk]
  simp only [Zjv]
  rw [Yz (h _ (Zk0 hk)) hn]
  have:app? (negs (l.take k)) [-l[k]] = some (negs (l.take (k + 1))):=by
   unfold app?
   rw [Zj2 (by simp [negs]; unfold room; omega),ZjV hk]
   unfold negs
   rw [Zkw]
   rfl
  rw [this]
  simp only [Zjv]
  rw [Zd (by omega) (by omega)]
  rfl
 ·simp only
  rw [Zjz (by rw [Za]; simp),Zkh]
theorem impl_opp {n:Int} {l:List Int} (hn:n ≤ 391) (hl:l.length ≤ 1000) (h:∀ x ∈ l,litN n x = true):ZT fuel l = some (negs l):=by
 unfold ZT
 rw [mk?_len (by unfold room; omega)]
 simp only [Zjv]
 rw [ZL (I:=fun k t=>t = ((k:Int),negs (l.take k) ++ List.replicate (l.length - k) 0)) (m:=l.length) (r:=negs l) (fun k t hk ht=>?_) (fun t ht=>?_) l.length 0 _ (by omega) (by simp [negs]) fuel (lt_fuel (by omega))]
 ·rfl
 all_goals subst ht
 ·refine ⟨_, ?_, rfl⟩
  simp only
  rw [Zj2 (by rw [Za]; simp; omega),get?_nat,Zjw hk]
  simp only [Zjv]
  have hln:(negs (l.take k)).length = k:=by rw [negs_len,Zj3]; omega
  rw [Yz (h _ (Zk0 hk)) hn,set?_nat (by simp [hln]; omega)]
  simp only [Zjv]
  have e:(negs (l.take k) ++ List.replicate (l.length - k) 0).set k (-l[k]) = negs (l.take (k + 1)) ++ List.replicate (l.length - (k + 1)) 0:=by
   have:=set_fill (l:=negs (l.take k)) (n:=l.length - (k + 1)) (x:=-l[k])
   rw [hln,show l.length - (k + 1) + 1 = l.length - k by omega] at this
   rw [this,ZjV hk]
   unfold negs
   rw [Zkw]
   rfl
  rw [e,Zd (by omega) (by omega)]
  rfl
 ·simp only
  rw [Zjz (by rw [Za]; simp),Zkh]
  simp
theorem spec_fill {w:Nat} (hw:w ≤ 1000) (x:Int):ZE fuel (w:Int) x = some (List.replicate w x):=by
 unfold ZE
 rw [ZL (I:=fun k t=>t = ((k:Int),List.replicate k x)) (m:=w) (r:=List.replicate w x) (fun k t hk ht=>?_) (fun t ht=>?_) w 0 _ (by omega) (by simp) fuel (lt_fuel (by omega))]
 ·rfl
 all_goals subst ht
 ·refine ⟨_, ?_, rfl⟩
  simp only
  rw [Zj2 (by simp; omega)]
  have:app? (List.replicate k x) [x] = some (List.replicate (k + 1) x):=by
   unfold app?
   rw [Zj2 (by simp; unfold room; omega),Zl4]
  rw [this]
  simp only [Zjv]
  rw [Zd (by omega) (by omega)]
  rfl
 ·simp only
  rw [Zjz (by simp)]
theorem band01:(band 0 1 == 1) = false:=by decide
theorem Zdp {w:Nat} (hw:w ≤ 1000):ZM fuel (w:Int) 0 = some (List.replicate w (-1)):=by
 unfold ZM
 have hmk:mk? (w:Int) (0:Int) = some (List.replicate w 0):=by
  unfold mk?; rw [Zj2 ⟨by omega,by unfold room; omega⟩]; rfl
 rw [hmk]
 simp only [Zjv]
 rw [ZL (I:=fun k t=>t = ((k:Int),List.replicate k (-1) ++ List.replicate (w - k) 0)) (m:=w) (r:=List.replicate w (-1)) (fun k t hk ht=>?_) (fun t ht=>?_) w 0 _ (by omega) (by simp) fuel (lt_fuel (by omega))]
 ·rfl
 all_goals subst ht
 ·refine ⟨_, ?_, rfl⟩
  simp only
  rw [Zj2 (by rw [Za]; simp; omega),set?_nat (by simp; omega)]
  simp only [Zjv]
  have hw:IntKind.u64.wrap (k:Int) = k:=by unfold IntKind.wrap; simp [IntKind.bits,IntKind.signed]; omega
  have hsh:shr? 0 (k:Int) = some 0:=by
   unfold shr?; rw [Zjz (by omega)]; simp
  rw [hw,hsh]
  simp only [Zjv]
  rw [Zjz (by rw [band01]; simp)]
  have e:(List.replicate k (-1) ++ List.replicate (w - k) 0).set k (-1) = List.replicate (k + 1) (-1) ++ List.replicate (w - (k + 1)) 0:=by
   have:=set_fill (l:=List.replicate k (-1)) (n:=w - (k + 1)) (x:=-1)
   rw [Zkq,show w - (k + 1) + 1 = w - k by omega] at this
   rw [this,Zl4]
  rw [e,Zd (by omega) (by omega)]
  rfl
 ·simp only
  rw [Zjz (by rw [Za]; simp)]
  simp
theorem Yw {c:D.Circuit} (h:CircP c):litN (lines c) (-1) = true:=Y1.2 ⟨by simp [iab],by have:=h.lines0; simpa [iab] using this⟩
theorem XO {c:D.Circuit} (h:CircP c):litN (lines c) 1 = true:=Y1.2 ⟨by simp [iab],by have:=h.lines0; simpa [iab] using this⟩
def partF (bk:Int):BS → Int → Int × BS:=fun s x=>andP s bk x
def mulStep (a b:List Int) (t:LS) (k:Nat):LS:=
 let p:=seqP (partF (b.getD k 0)) t.2 (a.take (a.length - k))
 let q:=addP p.2 (t.1.drop k) p.1 (-1)
 (t.1.take k ++ q.1,q.2.2)
def mulK (s:BS) (a b:List Int) (k:Nat):LS:=(List.range k).foldl (mulStep a b) (List.replicate a.length (-1),s)
theorem mulK_succ (s:BS) (a b:List Int) (k:Nat):mulK s a b (k + 1) = mulStep a b (mulK s a b k) k:=by
 unfold mulK; rw [Zlg,Zk9]; rfl
theorem Zef {s:BS} {a b:List Int} (ha:∀ x ∈ a,litN (lines s.1) x = true) (hb:∀ x ∈ b,litN (lines s.1) x = true) {t:LS} (hg:Grow s.1 t.2.1) {k:Nat} (hk:k < b.length):FOk (partF (b.getD k 0)) t.2 (a.take (a.length - k)):=by
 intro s' x hc hgr hx
 have hbk:b.getD k 0 ∈ b:=by rw [ZjE,Zjw hk]; exact Zk0 hk
 have e:=hg.trans hgr
 exact Yc hc (litN_mono (hb _ hbk) e.lines) (litN_mono (ha _ (ZkS hx)) e.lines)
section
variable {s:BS} (hs:CircP s.1) {a b:List Int} (hab:a.length = b.length) (ha:∀ x ∈ a,litN (lines s.1) x = true) (hb:∀ x ∈ b,litN (lines s.1) x = true)
include hs hab ha hb
theorem ZbS (k:Nat) (hk:k ≤ a.length):GoodL s a.length (mulK s a b k):=by
 induction k with
 | zero => exact ⟨hs, Grow.refl _, by simp [mulK], fun x hx => by
   simp only [mulK,List.range_zero,Zly] at hx
   rw [ZlH hx]; exact Yw hs⟩
 | succ k ih=>
  have g:=ih (by omega)
  rw [mulK_succ]
  generalize mulK s a b k = t at g ⊢
  have gp:=seq_good g.circ (Zef ha hb g.grow (k:=k) (by omega))
  have gpl:(seqP (partF (b.getD k 0)) t.2 (a.take (a.length - k))).1.length = a.length - k:=by rw [gp.len,Zj3]; omega
  have gq:=YZ gp.circ (a:=t.1.drop k) (b:=(seqP (partF (b.getD k 0)) t.2 (a.take (a.length - k))).1) (c:=-1) (by rw [gpl,ZjK,g.len]) (fun x hx=>litN_mono (g.lits x (ZkC hx)) gp.grow.lines) gp.lits (Yw gp.circ)
  refine ⟨gq.circ,(g.grow.trans gp.grow).trans gq.grow,?_,fun x hx=>?_⟩
  ·simp only [mulStep,ZjC,Zj3,gq.len,ZjK,g.len]; omega
  ·simp only [mulStep, ZjN] at hx
   rcases hx with hx | hx
   ·exact litN_mono (g.lits x (ZkS hx)) (gp.grow.trans gq.grow).lines
   ·exact gq.lits x hx
end
theorem getD_get {l:List Int} {k:Nat} (hk:k < l.length):l[k]? = some (l.getD k 0):=by
 rw [ZjE,Zjw hk]; rfl
theorem getD_mem {l:List Int} {k:Nat} (hk:k < l.length):l.getD k 0 ∈ l:=Zj9 (getD_get hk)
theorem Zev {l:List Int} {k:Nat} (hk:k ≤ l.length):cut? l (k:Int) (len l) = some (l.drop k):=by
 unfold cut?
 rw [Za,Zj2 ⟨by omega,by omega,by omega⟩]
 simp
theorem Zgu {l:List Int} {k:Nat} (hk:k ≤ l.length):cut? l 0 (k:Int) = some (l.take k):=by
 unfold cut?
 rw [Zj2 ⟨by omega,by omega,by omega⟩]
 simp
theorem Zcy {l:List Int} (h:l.length ≤ 1000):app? ([]:List Int) l = some l:=by
 unfold app?; rw [Zj2 (by simp; unfold room; omega)]; rfl
theorem XZ {l m:List Int} (h:l.length + m.length ≤ 100000):app? l m = some (l ++ m):=by
 unfold app?; rw [Zj2 (by unfold room; omega)]
theorem Zfz {l m:List Int} {k:Nat} (hk:k ≤ l.length) (hm:m.length = l.length - k):vcopy l (k:Int) (l.length - k) m = l.take k ++ m:=by
 unfold vcopy
 rw [ZkE,Zkv (l:=m) (by omega),Zkn (by omega),Zk3]
section
variable {s:BS} (hs:CircP s.1) {a b:List Int} (hab:a.length = b.length) (hl:a.length ≤ 16) (ha:∀ x ∈ a,litN (lines s.1) x = true) (hb:∀ x ∈ b,litN (lines s.1) x = true)
include hs hab hl ha hb
theorem Zhw:Yx fuel (net s) a b = some ((mulK s a b a.length).1,net (mulK s a b a.length).2):=by
 unfold Yx
 rw [Za,spec_fill (by omega)]
 simp only [Zjv]
 rw [ZL (I:=fun k t=>t = ((k:Int),(mulK s a b k).1,(mulK s a b k).2.1.Inputs,(mulK s a b k).2.2,(mulK s a b k).2.1.Gates)) (m:=a.length) (r:=((mulK s a b a.length).1,(mulK s a b a.length).2.1.Inputs,(mulK s a b a.length).2.2,(mulK s a b a.length).2.1.Gates)) (fun k t hk ht=>?_) (fun t ht=>?_) a.length 0 _ (by omega) (by simp [mulK]) fuel (lt_fuel (by omega))]
 ·rfl
 all_goals subst ht
 ·have g := ZbS hs hab ha hb k (by omega)
  have hok:=Zef ha hb g.grow (k:=k) (by omega)
  have gp:=seq_good g.circ hok
  refine ⟨_,?_,rfl⟩
  rw [mulK_succ]
  generalize mulK s a b k = t at g gp hok ⊢
  have gpl:(seqP (partF (b.getD k 0)) t.2 (a.take (a.length - k))).1.length = a.length - k:=by rw [gp.len,Zj3]; omega
  have gq:=YZ gp.circ (a:=t.1.drop k) (b:=(seqP (partF (b.getD k 0)) t.2 (a.take (a.length - k))).1) (c:=-1) (by rw [gpl,ZjK,g.len]) (fun x hx=>litN_mono (g.lits x (ZkC hx)) gp.grow.lines) gp.lits (Yw gp.circ)
  have sq:=ZaO (fuel:=fuel) (s:=(seqP (partF (b.getD k 0)) t.2 (a.take (a.length - k))).2) gp.circ (a:=t.1.drop k) (b:=(seqP (partF (b.getD k 0)) t.2 (a.take (a.length - k))).1) (c:=-1) (by rw [ZjK,g.len]; omega) (by rw [gpl,ZjK,g.len]) (fun x hx=>litN_mono (g.lits x (ZkC hx)) gp.grow.lines) gp.lits (Yw gp.circ)
  simp only
  rw [Zj2 (by simp; omega),Zd (x:=(a.length:Int) - (k:Int)) (by omega) (by omega)]
  rw [spec_seq (f:=partF (b.getD k 0)) (l:=a.take (a.length - k)) (s:=t.2) g.circ (by rw [Zj3]; omega) hok (fun j out s' x hx hc hgr hout=>?_) (fun out s'=>?_)]
  ·simp only [Zjv]
   have hcr:=Zev (l:=t.1) (k:=k) (by rw [g.len]; omega)
   rw [hcr]
   simp only [Zjv]
   have sq':Zz fuel (D.l04Net.mk (D.Circuit.mk (seqP (partF (b.getD k 0)) t.2 (a.take (a.length - k))).2.1.Inputs (seqP (partF (b.getD k 0)) t.2 (a.take (a.length - k))).2.1.Gates) (seqP (partF (b.getD k 0)) t.2 (a.take (a.length - k))).2.2) (t.1.drop k) (seqP (partF (b.getD k 0)) t.2 (a.take (a.length - k))).1 (-1) = _:=sq
   rw [sq']
   simp only [Zjv]
   rw [Zgu (by rw [g.len]; omega)]
   simp only [Zjv]
   have l1:(t.1.take k).length ≤ 1000:=by rw [Zj3,g.len]; omega
   rw [Zcy l1]
   simp only [Zjv]
   rw [XZ (by rw [Zj3,gq.len,ZjK,g.len]; omega)]
   simp only [Zjv]
   rw [Zd (by omega) (by omega)]
   rfl
  ·have hj:j < a.length - k ∧ j < a.length:=by
    have:=(Zjy.1 hx).1
    rw [Zj3] at this; omega
   have hax:a[j]? = some x:=by rw [ZjR] at hx; split at hx; exact hx; cases hx
   simp only
   rw [Zj2 (by simp; omega),get?_nat,get?_nat,getD_get (l:=b) (by omega),hax]
   simp only [Zjv]
   have e:=hgr
   have hga:=g.grow.trans hgr
   have sa:Zf fuel (D.l04Net.mk (D.Circuit.mk s'.1.Inputs s'.1.Gates) s'.2) (b.getD k 0) x = _:=XD (fuel:=fuel) hc (litN_mono (hb _ (getD_mem (by omega))) hga.lines) (litN_mono (ha _ (Zj9 hax)) hga.lines)
   rw [sa]
   simp only [Zjv]
   rw [XZ (by simp; omega)]
   simp only [Zjv]
   rw [Zd (by omega) (by omega)]
   rfl
  ·simp only
   rw [Zjz (by simp only [Zj3,Zj5]; omega)]
 ·simp only
  rw [Zjz (by simp)]
theorem Zii {m:D.builder} (hm:RelB m s):∃ m',Yb fuel m a b = some ((mulK s a b a.length).1,m') ∧ RelB m' (mulK s a b a.length).2:=by
 unfold Yb
 rw [Za,Zdp (by omega)]
 simp only [Zjv]
 refine Zgi ?_
 refine ZaD (I:=fun k t=>∃ m':D.builder,t = ((k:Int),(mulK s a b k).1,m'.c.Inputs,m'.full,m'.c.Gates,m'.line) ∧ RelB m' (mulK s a b k).2) (R:=fun r=>∃ m':D.builder,r = ((mulK s a b a.length).1,m'.c.Inputs,m'.full,m'.c.Gates,m'.line) ∧ RelB m' (mulK s a b a.length).2) (m:=a.length) (fun k t hk ht=>?_) (fun t ht=>?_) a.length 0 _ (by omega) ⟨m,rfl,hm⟩ fuel (lt_fuel (by omega)) (fun r hr=>?_)
 ·obtain ⟨m1, rfl, hr⟩ := ht
  have g:=ZbS hs hab ha hb k (by omega)
  have hok:=Zef ha hb g.grow (k:=k) (by omega)
  have gp:=seq_good g.circ hok
  rw [mulK_succ]
  generalize mulK s a b k = t at g gp hok hr ⊢
  have gpl:(seqP (partF (b.getD k 0)) t.2 (a.take (a.length - k))).1.length = a.length - k:=by rw [gp.len,Zj3]; omega
  have gq:=YZ gp.circ (a:=t.1.drop k) (b:=(seqP (partF (b.getD k 0)) t.2 (a.take (a.length - k))).1) (c:=-1) (by rw [gpl,ZjK,g.len]) (fun x hx=>litN_mono (g.lits x (ZkC hx)) gp.grow.lines) gp.lits (Yw gp.circ)
  have hmk:mk? (w64 ((a.length:Int) - (k:Int))) (0:Int) = some (List.replicate (a.length - k) 0):=by
   rw [Zd (by omega) (by omega)]
   unfold mk?
   rw [Zj2 ⟨by omega,by unfold room; omega⟩]
   congr 2; omega
  obtain ⟨m2,h2,r2⟩:=impl_seq (fuel:=fuel) (f:=partF (b.getD k 0)) (l:=a.take (a.length - k)) (s:=t.2) (L0:=List.replicate (a.length - k) 0) (B:=fun (s2:Int × (List Int) × Int × Bool × (List D.Gate) × (List (D.Gate × Int)))=>
   if (decide (s2.1 < (len (List.replicate (a.length - k) (0:Int))))) then
    (get? b (k:Int)).bind fun x3=>
    (get? a s2.1).bind fun x4=>
    (Zj (D.builder.mk (D.Circuit.mk s2.2.2.1 s2.2.2.2.2.1) s2.2.2.2.2.2 s2.2.2.2.1) x3 x4).bind fun x5=>
    (set? s2.2.1 s2.1 x5.1).bind fun x6=>
    some (.inl ((w64 (s2.1 + 1)),x6,x5.2.c.Inputs,x5.2.full,x5.2.c.Gates,x5.2.line))
   else
    some (.inr (s2.2.1,s2.2.2.1,s2.2.2.2.1,s2.2.2.2.2.1,s2.2.2.2.2.2))) g.circ (by rw [Zj3]; omega) hok (by simp) (fun j L mm s' x hx hc hgr hrr hL hpre=>by
    have hj:j < a.length - k ∧ j < a.length:=by
     have:=(Zjy.1 hx).1
     rw [Zj3] at this; omega
    have hax:a[j]? = some x:=by rw [ZjR] at hx; split at hx; exact hx; cases hx
    have hga:=g.grow.trans hgr
    obtain ⟨m3,e3,r3⟩:=XF hrr hc (litN_mono (hb _ (getD_mem (k:=k) (by omega))) hga.lines) (litN_mono (ha _ (Zj9 hax)) hga.lines)
    refine ⟨m3,?_,r3⟩
    simp only
    rw [Zj2 (by rw [Za]; simp; omega),get?_nat,get?_nat,getD_get (l:=b) (by omega),hax]
    simp only [Zjv]
    have e3':Zj (D.builder.mk (D.Circuit.mk mm.c.Inputs mm.c.Gates) mm.line mm.full) (b.getD k 0) x = _:=e3
    rw [e3']
    simp only [Zjv]
    rw [set?_nat (by rw [hL,Zj3]; omega)]
    simp only [Zjv]
    rw [Zd (by omega) (by omega)]
    rfl) (fun L mm=>by
    simp only
    rw [Zjz (by rw [Za]; simp)]) hr
  obtain ⟨m3,h3,r3⟩:=ZaN (fuel:=fuel) (s:=(seqP (partF (b.getD k 0)) t.2 (a.take (a.length - k))).2) gp.circ r2 (a:=t.1.drop k) (b:=(seqP (partF (b.getD k 0)) t.2 (a.take (a.length - k))).1) (c:=-1) (by rw [ZjK,g.len]; omega) (by rw [gpl,ZjK,g.len]) (fun x hx=>litN_mono (g.lits x (ZkC hx)) gp.grow.lines) gp.lits (Yw gp.circ)
  refine ⟨_,?_,m3,rfl,r3⟩
  simp only
  rw [Zj2 (by rw [Za]; simp; omega),hmk]
  simp only [Zjv]
  rw [h2]
  simp only [Zjv]
  have hcr:=Zev (l:=t.1) (k:=k) (by rw [g.len]; omega)
  rw [hcr]
  simp only [Zjv]
  have h3':Z9 fuel (D.builder.mk (D.Circuit.mk m2.c.Inputs m2.c.Gates) m2.line m2.full) (t.1.drop k) (seqP (partF (b.getD k 0)) t.2 (a.take (a.length - k))).1 (-1) = _:=h3
  rw [h3']
  simp only [Zjv]
  rw [ZjK,Zfz (by rw [g.len]; omega) (by rw [gq.len,ZjK]),Zd (by omega) (by omega)]
  rfl
 ·obtain ⟨m1, rfl, hr⟩ := ht
  refine ⟨_,?_,m1,rfl,hr⟩
  simp only
  rw [Zjz (by rw [Za]; simp; omega)]
 ·obtain ⟨m', rfl, h2⟩ := hr
  exact ⟨_,rfl,m',rfl,h2⟩
end
section
variable {α σt ρt:Type}
theorem ZbU {f:BS → α → Int × BS} {l:List α} {s:BS} {B:σt → Option (σt ⊕ ρt)} (enc:Nat → List Int → D.builder → σt) (dec:List Int → D.builder → ρt) (hs:CircP s.1) (hl:l.length ≤ 1000) (hf:FOk f s l) {L0:List Int} (hL:L0.length = l.length)
  (hB:∀ (j:Nat) (L:List Int) (m:D.builder) (s':BS) (x:α),l[j]? = some x → CircP s'.1 → Grow s.1 s'.1 → RelB m s' → L.length = l.length → (∀ i,j ≤ i → L[i]? = L0[i]?) → ∃ m',B (enc j L m) = some (.inl (enc (j + 1) (L.set j (f s' x).1) m')) ∧ RelB m' (f s' x).2)
  (hE:∀ (L:List Int) (m:D.builder),B (enc l.length L m) = some (.inr (dec L m))) {m:D.builder} (hm:RelB m s) :
  ∃ m',iterN B fuel (enc 0 L0 m) = some (dec (seqP f s l).1 m') ∧ RelB m' (seqP f s l).2:=by
 have key:∃ r,iterN B fuel (enc 0 L0 m) = some r ∧ ∃ m':D.builder,r = dec (seqP f s l).1 m' ∧ RelB m' (seqP f s l).2:=by
  refine Zap (B:=B) (I:=fun k t=>∃ m':D.builder,t = enc k ((seqP f s (l.take k)).1 ++ L0.drop k) m' ∧ RelB m' (seqP f s (l.take k)).2) (m:=l.length) (fun k t hk ht=>?_) (fun t ht=>?_) l.length 0 _ (by omega) ⟨m,rfl,hm⟩ fuel (lt_fuel (by omega))
  ·obtain ⟨m1, rfl, hr⟩ := ht
   have g:=ZaW hs hf k (by omega)
   obtain ⟨m2,h3,h4⟩:=hB k ((seqP f s (l.take k)).1 ++ L0.drop k) m1 (seqP f s (l.take k)).2 l[k] (Zjw hk) g.circ g.grow hr (by rw [ZjC,g.len,ZjK]; omega) (fun i hi=>by rw [Zj4 (by rw [g.len]; omega),g.len,Zkc]; congr 1; omega)
   refine ⟨_,h3,m2,?_,?_⟩
   ·rw [ZaU (Zjw hk),ZfR g.len (by omega)]
   ·rw [ZaU (Zjw hk)]
    exact h4
  ·obtain ⟨m1, rfl, hr⟩ := ht
   refine ⟨_,hE _ m1,m1,?_,?_⟩
   ·rw [Zkh,Zkn (by omega),Zk3]
   ·rw [Zkh] at hr; exact hr
 obtain ⟨r,h1,m',rfl,h2⟩:=key
 exact ⟨m',h1,h2⟩
def accP (f:BS → Int → α → Int × BS) (s:BS) (c:Int) (l:List α):Int × BS:=l.foldl (fun t x=>f t.2 t.1 x) (c,s)
def AOk (f:BS → Int → α → Int × BS) (s:BS) (l:List α):Prop:=∀ s' c x,CircP s'.1 → Grow s.1 s'.1 → litN (lines s'.1) c = true → x ∈ l → Good s' (f s' c x)
theorem Zcf {f:BS → Int → α → Int × BS} {s:BS} {c:Int} {l:List α} (hs:CircP s.1) (hc:litN (lines s.1) c = true) (hf:AOk f s l):∀ k,k ≤ l.length → Good s (accP f s c (l.take k)):=
 Zc6 _ (fun _ t=>Good s t) l _ ⟨hs,Grow.refl _,hc⟩ fun k x t hx ht=>by
  have g:=hf t.2 t.1 x ht.circ ht.grow ht.lit (Zj9 hx)
  exact ⟨g.circ,ht.grow.trans g.grow,g.lit⟩
theorem Zfd {f:BS → Int → α → Int × BS} {s:BS} {c:Int} {l:List α} (hs:CircP s.1) (hc:litN (lines s.1) c = true) (hf:AOk f s l):Good s (accP f s c l):=by
 have:=Zcf hs hc hf l.length (ZjF _)
 rw [Zkh] at this
 exact this
theorem ZcE {f:BS → Int → α → Int × BS} {s:BS} {c:Int} {l:List α} {k:Nat} {x:α} (hx:l[k]? = some x):accP f s c (l.take (k + 1)) = f (accP f s c (l.take k)).2 (accP f s c (l.take k)).1 x:=by
 obtain ⟨hk,rfl⟩:=Zjy.1 hx
 unfold accP
 rw [ZjV hk,Zk9]
 rfl
theorem ZdH {f:BS → Int → α → Int × BS} {l:List α} {s:BS} {c:Int} {B:σt → Option (σt ⊕ ρt)} (enc:Nat → Int → BS → σt) (dec:Int → BS → ρt) (hs:CircP s.1) (hc:litN (lines s.1) c = true) (hf:AOk f s l)
  (hB:∀ (j:Nat) (c':Int) (s':BS) (x:α),l[j]? = some x → CircP s'.1 → Grow s.1 s'.1 → litN (lines s'.1) c' = true → B (enc j c' s') = some (.inl (enc (j + 1) (f s' c' x).1 (f s' c' x).2)))
  (hE:∀ (c':Int) (s':BS),B (enc l.length c' s') = some (.inr (dec c' s'))) {n:Nat} (hn:l.length < n) :
  iterN B n (enc 0 c s) = some (dec (accP f s c l).1 (accP f s c l).2):=by
 refine ZL (I:=fun k t=>t = enc k (accP f s c (l.take k)).1 (accP f s c (l.take k)).2) (m:=l.length) (fun k t hk ht=>?_) (fun t ht=>?_) l.length 0 _ (by omega) rfl n hn
 ·subst ht
  have g:=Zcf hs hc hf k (by omega)
  refine ⟨_,hB k _ _ l[k] (Zjw hk) g.circ g.grow g.lit,?_⟩
  rw [ZcE (Zjw hk)]
 ·subst ht
  rw [hE,Zkh]
theorem Zdx {f:BS → Int → α → Int × BS} {l:List α} {s:BS} {c:Int} {B:σt → Option (σt ⊕ ρt)} (enc:Nat → Int → D.builder → σt) (dec:Int → D.builder → ρt) (hs:CircP s.1) (hc:litN (lines s.1) c = true) (hl:l.length ≤ 1000) (hf:AOk f s l)
  (hB:∀ (j:Nat) (c':Int) (m:D.builder) (s':BS) (x:α),l[j]? = some x → CircP s'.1 → Grow s.1 s'.1 → RelB m s' → litN (lines s'.1) c' = true → ∃ m',B (enc j c' m) = some (.inl (enc (j + 1) (f s' c' x).1 m')) ∧ RelB m' (f s' c' x).2)
  (hE:∀ (c':Int) (m:D.builder),B (enc l.length c' m) = some (.inr (dec c' m))) {m:D.builder} (hm:RelB m s) :
  ∃ m',iterN B fuel (enc 0 c m) = some (dec (accP f s c l).1 m') ∧ RelB m' (accP f s c l).2:=by
 have key:∃ r,iterN B fuel (enc 0 c m) = some r ∧ ∃ m':D.builder,r = dec (accP f s c l).1 m' ∧ RelB m' (accP f s c l).2:=by
  refine Zap (B:=B) (I:=fun k t=>∃ m':D.builder,t = enc k (accP f s c (l.take k)).1 m' ∧ RelB m' (accP f s c (l.take k)).2) (m:=l.length) (fun k t hk ht=>?_) (fun t ht=>?_) l.length 0 _ (by omega) ⟨m,rfl,hm⟩ fuel (lt_fuel (by omega))
  ·obtain ⟨m1, rfl, hr⟩ := ht
   have g:=Zcf hs hc hf k (by omega)
   obtain ⟨m2,h3,h4⟩:=hB k _ m1 _ l[k] (Zjw hk) g.circ g.grow hr g.lit
   refine ⟨_,h3,m2,?_,?_⟩
   ·rw [ZcE (Zjw hk)]
   ·rw [ZcE (Zjw hk)]
    exact h4
  ·obtain ⟨m1, rfl, hr⟩ := ht
   rw [Zkh] at hr ⊢
   exact ⟨_,hE _ m1,m1,rfl,hr⟩
 obtain ⟨r,h1,m',rfl,h2⟩:=key
 exact ⟨m',h1,h2⟩
end
abbrev DS:=List Int × List Int × BS
def selF (c:Int):BS → Int × Int → Int × BS:=fun s p=>ifP s c p.1 p.2
def divStep (a less:List Int) (t:DS) (k:Nat):DS:=
 let d:=addP t.2.2 (a.getD k 0 :: t.1) less 1
 let q:=seqP (selF d.2.1) d.2.2 ((d.1.zip (a.getD k 0 :: t.1)).take a.length)
 (q.1,d.2.1 :: t.2.1,q.2)
def lessOf (b:List Int):List Int:=negs b ++ [1]
def divK (s:BS) (a b:List Int) (k:Nat):DS:=(List.range k).foldl (fun t i=>divStep a (lessOf b) t (a.length - 1 - i)) (List.replicate a.length (-1),[],s)
theorem divK_succ (s:BS) (a b:List Int) (k:Nat):divK s a b (k + 1) = divStep a (lessOf b) (divK s a b k) (a.length - 1 - k):=by
 unfold divK; rw [Zlg,Zk9]; rfl
structure GoodD (s:BS) (w k:Nat) (t:DS):Prop where
 circ:CircP t.2.2.1
 grow:Grow s.1 t.2.2.1
 len:t.1.length = w
 lits:∀ x ∈ t.1,litN (lines t.2.2.1) x = true
 clen:t.2.1.length = k
 clits:∀ x ∈ t.2.1,litN (lines t.2.2.1) x = true
structure DivOk (a less:List Int) (t:DS) (k:Nat):Prop where
 ga:GoodA t.2.2 (a.length + 1) (addP t.2.2 (a.getD k 0 :: t.1) less 1)
 tl:∀ x ∈ a.getD k 0 :: t.1,litN (lines t.2.2.1) x = true
 ll:∀ x ∈ less,litN (lines t.2.2.1) x = true
 l1:litN (lines t.2.2.1) 1 = true
 fok:FOk (selF (addP t.2.2 (a.getD k 0 :: t.1) less 1).2.1) (addP t.2.2 (a.getD k 0 :: t.1) less 1).2.2 (((addP t.2.2 (a.getD k 0 :: t.1) less 1).1.zip (a.getD k 0 :: t.1)).take a.length)
 zl:(((addP t.2.2 (a.getD k 0 :: t.1) less 1).1.zip (a.getD k 0 :: t.1)).take a.length).length = a.length
section
variable {s:BS} {a b:List Int} (hab:a.length = b.length) (ha:∀ x ∈ a,litN (lines s.1) x = true) (hb:∀ x ∈ b,litN (lines s.1) x = true)
include hab ha hb
theorem Zft {t:DS} {i:Nat} (g:GoodD s a.length i t) {k:Nat} (hk:k < a.length):DivOk a (lessOf b) t k:=by
 have htl:∀ x ∈ a.getD k 0 :: t.1,litN (lines t.2.2.1) x = true:=fun x hx=>by
  rcases ZjW.1 hx with rfl | hx
  ·exact litN_mono (ha _ (getD_mem hk)) g.grow.lines
  ·exact g.lits x hx
 have hll:∀ x ∈ lessOf b,litN (lines t.2.2.1) x = true:=fun x hx=>by
  rcases ZjN.1 hx with hx | hx
  ·exact litN_mono (negs_lits hb x hx) g.grow.lines
  ·rw [Zkl.1 hx]; exact XO g.circ
 have hlen:(a.getD k 0 :: t.1).length = (lessOf b).length:=by simp [lessOf,negs_len,g.len,hab]
 have ga:=YZ g.circ hlen htl hll (XO g.circ)
 have hw:(a.getD k 0 :: t.1).length = a.length + 1:=by simp [g.len]
 rw [hw] at ga
 refine ⟨ga,htl,hll,XO g.circ,fun s' p hc hgr hp=>?_,?_⟩
 ·have hp' := ZkS hp
  have h1:=ZlR hp'
  exact if_good hc (litN_mono ga.lit hgr.lines) (litN_mono (ga.lits _ h1.1) hgr.lines) (litN_mono (htl _ h1.2) (ga.grow.trans hgr).lines)
 ·rw [Zj3,Zkx,ga.len,hw]; omega
theorem Zba (hs:CircP s.1) (k:Nat) (hk:k ≤ a.length):GoodD s a.length k (divK s a b k):=by
 induction k with
 | zero => exact ⟨hs, Grow.refl _, by simp [divK], fun x hx => by
   simp only [divK,List.range_zero,Zly] at hx
   rw [ZlH hx]; exact Yw hs,rfl,fun x hx=>by cases hx⟩
 | succ k ih=>
  have g:=ih (by omega)
  rw [divK_succ]
  generalize divK s a b k = t at g ⊢
  have o:=Zft hab ha hb g (k:=a.length - 1 - k) (by omega)
  have gq:=seq_good o.ga.circ o.fok
  rw [o.zl] at gq
  refine ⟨gq.circ,(g.grow.trans o.ga.grow).trans gq.grow,gq.len,gq.lits,by simp [divStep,g.clen],fun x hx=>?_⟩
  simp only [divStep,ZjW] at hx
  rcases hx with rfl | hx
  ·exact litN_mono o.ga.lit gq.grow.lines
  ·exact litN_mono (g.clits x hx) (o.ga.grow.trans gq.grow).lines
end
theorem Ze6 {q0 cs:List Int} {w k:Nat} {c:Int} (hq:q0.length = w) (hk:k < w):(q0.take (w - k) ++ cs).set (w - 1 - k) c = q0.take (w - (k + 1)) ++ (c :: cs):=by
 have e:w - k = (w - 1 - k) + 1:=by omega
 have hl:(q0.take (w - 1 - k)).length = w - 1 - k:=by rw [Zj3]; omega
 have hlt:w - 1 - k < q0.length:=by omega
 rw [e,ZjV hlt,ZjZ,Zky _ _ (by omega),hl,ZkG]
 rw [show w - (k + 1) = w - 1 - k by omega]
 rfl
section
variable {s:BS} (hs:CircP s.1) {a b:List Int} (hab:a.length = b.length) (hl:a.length ≤ 16) (ha:∀ x ∈ a,litN (lines s.1) x = true) (hb:∀ x ∈ b,litN (lines s.1) x = true)
include hs hab hl ha hb
theorem Ze8:Yf fuel (net s) a b = some ((divK s a b a.length).2.1,(divK s a b a.length).1,net (divK s a b a.length).2.2):=by
 unfold Yf
 rw [Za,spec_fill (by omega)]
 simp only [Zjv]
 rw [spec_not hs.lines1 (by omega) hb]
 simp only [Zjv]
 rw [XZ (by rw [negs_len]; simp; omega)]
 simp only [Zjv]
 rw [ZL (I:=fun k t=>t = ((a.length:Int) - 1 - (k:Int),(List.replicate a.length (-1)).take (a.length - k) ++ (divK s a b k).2.1,(divK s a b k).1,(divK s a b k).2.2.1.Inputs,(divK s a b k).2.2.2,(divK s a b k).2.2.1.Gates)) (m:=a.length) (r:=((divK s a b a.length).2.1,(divK s a b a.length).1,(divK s a b a.length).2.2.1.Inputs,(divK s a b a.length).2.2.2,(divK s a b a.length).2.2.1.Gates)) (fun k t hk ht=>?_) (fun t ht=>?_) a.length 0 _ (by omega) (by rw [Zd (by omega) (by omega)]; simp [divK]) fuel (lt_fuel (by omega))]
 ·rfl
 all_goals subst ht
 ·have g := Zba hab ha hb hs k (by omega)
  have o:=Zft hab ha hb g (k:=a.length - 1 - k) (by omega)
  refine ⟨_,?_,rfl⟩
  rw [divK_succ]
  generalize divK s a b k = t at g o ⊢
  have hidx:(a.length:Int) - 1 - (k:Int) = ((a.length - 1 - k:Nat):Int):=by omega
  have hlen:(a.getD (a.length - 1 - k) 0 :: t.1).length = (lessOf b).length:=by simp [lessOf,negs_len,g.len,hab]
  have sd:=ZaO (fuel:=fuel) (s:=t.2.2) g.circ (a:=a.getD (a.length - 1 - k) 0 :: t.1) (b:=lessOf b) (c:=1) (by simp [g.len]; omega) hlen o.tl o.ll o.l1
  simp only
  rw [Zj2 (by simp; omega),hidx,get?_nat,getD_get (l:=a) (by omega)]
  simp only [Zjv]
  rw [XZ (by simp [g.len]; omega)]
  simp only [Zjv]
  have sd':Zz fuel (D.l04Net.mk (D.Circuit.mk t.2.2.1.Inputs t.2.2.1.Gates) t.2.2.2) ([a.getD (a.length - 1 - k) 0] ++ t.1) (negs b ++ [1]) 1 = _:=sd
  rw [sd']
  simp only [Zjv]
  rw [set?_nat (by simp [g.clen]; omega),Ze6 (by simp) hk]
  simp only [Zjv]
  rw [spec_seq (f:=selF (addP t.2.2 (a.getD (a.length - 1 - k) 0 :: t.1) (lessOf b) 1).2.1) (s:=(addP t.2.2 (a.getD (a.length - 1 - k) 0 :: t.1) (lessOf b) 1).2.2) (l:=((addP t.2.2 (a.getD (a.length - 1 - k) 0 :: t.1) (lessOf b) 1).1.zip (a.getD (a.length - 1 - k) 0 :: t.1)).take a.length) o.ga.circ (by rw [o.zl]; omega) o.fok (fun j out s' x hx hc hgr hout=>?_) (fun out s'=>?_)]
  ·simp only [Zjv]
   rw [Zd (by omega) (by omega)]
   simp only [Option.some.injEq,Sum.inl.injEq,Prod.mk.injEq]
   exact ⟨by omega,rfl,rfl,rfl,rfl,rfl⟩
  ·have hj:j < a.length:=by
    have:=(Zjy.1 hx).1
    rw [o.zl] at this; exact this
   have hx':((addP t.2.2 (a.getD (a.length - 1 - k) 0 :: t.1) (lessOf b) 1).1.zip (a.getD (a.length - 1 - k) 0 :: t.1))[j]? = some x:=by
    rw [ZjR,Zj2 hj] at hx; exact hx
   have hz:=zip_mem hx'
   have h1:=o.ga.lits _ (Zj9 hz.1)
   have h2:=o.tl _ (Zj9 hz.2)
   simp only
   rw [Zj2 (by simp; omega),get?_nat,get?_nat,hz.1]
   simp only [Zjv]
   have hz2:([a.getD (a.length - 1 - k) 0] ++ t.1)[j]? = some x.2:=hz.2
   rw [hz2]
   simp only [Zjv]
   have si:Zh fuel (D.l04Net.mk (D.Circuit.mk s'.1.Inputs s'.1.Gates) s'.2) (addP t.2.2 (a.getD (a.length - 1 - k) 0 :: t.1) (lessOf b) 1).2.1 x.1 x.2 = _:=spec_if (fuel:=fuel) hc (litN_mono o.ga.lit hgr.lines) (litN_mono h1 hgr.lines) (litN_mono h2 (o.ga.grow.trans hgr).lines)
   rw [si]
   simp only [Zjv]
   rw [XZ (by simp; omega)]
   simp only [Zjv]
   rw [Zd (by omega) (by omega)]
   rfl
  ·simp only
   rw [o.zl,Zjz (by simp)]
 ·simp only
  rw [Zjz (by simp; omega)]
  simp
theorem Zep {m:D.builder} (hm:RelB m s):∃ m',ZW fuel m a b = some ((divK s a b a.length).2.1,(divK s a b a.length).1,m') ∧ RelB m' (divK s a b a.length).2.2:=by
 unfold ZW
 rw [mk?_len (by unfold room; omega)]
 simp only [Zjv]
 rw [Za,Zdp (by omega)]
 simp only [Zjv]
 rw [impl_opp hs.lines1 (by omega) hb]
 simp only [Zjv]
 rw [XZ (by rw [negs_len]; simp; omega)]
 simp only [Zjv]
 have hfin:∀ {X:Option (List Int × List Int × D.builder)} {u v:List Int} {s':BS},(∃ y,X = some y ∧ ∃ m',y = (u,v,m') ∧ RelB m' s') → ∃ m',X = some (u,v,m') ∧ RelB m' s':=fun ⟨y,h1,m',h2,h3⟩=>⟨m',by rw [h1,h2],h3⟩
 refine hfin ?_
 refine ZaD (I:=fun k t=>∃ m':D.builder,t = ((a.length:Int) - 1 - (k:Int),(List.replicate a.length 0).take (a.length - k) ++ (divK s a b k).2.1,(divK s a b k).1,m'.c.Inputs,m'.full,m'.c.Gates,m'.line) ∧ RelB m' (divK s a b k).2.2) (R:=fun r=>∃ m':D.builder,r = ((divK s a b a.length).2.1,(divK s a b a.length).1,m'.c.Inputs,m'.full,m'.c.Gates,m'.line) ∧ RelB m' (divK s a b a.length).2.2) (m:=a.length) (fun k t hk ht=>?_) (fun t ht=>?_) a.length 0 _ (by omega) ⟨m,by rw [Zd (by omega) (by omega)]; simp [divK],hm⟩ fuel (lt_fuel (by omega)) (fun r hr=>?_)
 ·obtain ⟨m1, rfl, hr⟩ := ht
  have g:=Zba hab ha hb hs k (by omega)
  have o:=Zft hab ha hb g (k:=a.length - 1 - k) (by omega)
  rw [divK_succ]
  generalize divK s a b k = t at g o hr ⊢
  have hidx:(a.length:Int) - 1 - (k:Int) = ((a.length - 1 - k:Nat):Int):=by omega
  have hlen:(a.getD (a.length - 1 - k) 0 :: t.1).length = (lessOf b).length:=by simp [lessOf,negs_len,g.len,hab]
  obtain ⟨m2,h2,r2⟩:=ZaN (fuel:=fuel) (s:=t.2.2) g.circ hr (a:=a.getD (a.length - 1 - k) 0 :: t.1) (b:=lessOf b) (c:=1) (by simp [g.len]; omega) hlen o.tl o.ll o.l1
  obtain ⟨m3,h3,r3⟩:=ZbU (fuel:=fuel) (f:=selF (addP t.2.2 (a.getD (a.length - 1 - k) 0 :: t.1) (lessOf b) 1).2.1) (s:=(addP t.2.2 (a.getD (a.length - 1 - k) 0 :: t.1) (lessOf b) 1).2.2) (l:=((addP t.2.2 (a.getD (a.length - 1 - k) 0 :: t.1) (lessOf b) 1).1.zip (a.getD (a.length - 1 - k) 0 :: t.1)).take a.length) (L0:=t.1) (B:=fun (s2:Int × (List Int) × Int × Bool × (List D.Gate) × (List (D.Gate × Int)))=>
    if (decide (s2.1 < (len (List.replicate a.length (-1:Int))))) then
     (get? (addP t.2.2 (a.getD (a.length - 1 - k) 0 :: t.1) (lessOf b) 1).1 s2.1).bind fun x9=>
     (get? ([a.getD (a.length - 1 - k) 0] ++ t.1) s2.1).bind fun x10=>
     (Zb (D.builder.mk (D.Circuit.mk s2.2.2.1 s2.2.2.2.2.1) s2.2.2.2.2.2 s2.2.2.2.1) (addP t.2.2 (a.getD (a.length - 1 - k) 0 :: t.1) (lessOf b) 1).2.1 x9 x10).bind fun x11=>
     (set? s2.2.1 s2.1 x11.1).bind fun x12=>
     some (.inl ((w64 (s2.1 + 1)),x12,x11.2.c.Inputs,x11.2.full,x11.2.c.Gates,x11.2.line))
    else
     some (.inr (s2.2.1,s2.2.2.1,s2.2.2.2.1,s2.2.2.2.2.1,s2.2.2.2.2.2))) (fun j L m=>((j:Int),L,m.c.Inputs,m.full,m.c.Gates,m.line)) (fun L m=>(L,m.c.Inputs,m.full,m.c.Gates,m.line)) o.ga.circ (by rw [o.zl]; omega) o.fok (by rw [o.zl,g.len]) (fun j L mm s' x hx hc hgr hrr hL hpre=>by
    have hj:j < a.length:=by
     have:=(Zjy.1 hx).1
     rw [o.zl] at this; exact this
    have hx':((addP t.2.2 (a.getD (a.length - 1 - k) 0 :: t.1) (lessOf b) 1).1.zip (a.getD (a.length - 1 - k) 0 :: t.1))[j]? = some x:=by
     rw [ZjR,Zj2 hj] at hx; exact hx
    have hz:=zip_mem hx'
    have h1:=o.ga.lits _ (Zj9 hz.1)
    have h2:=o.tl _ (Zj9 hz.2)
    obtain ⟨m4,e4,r4⟩:=impl_if hc (c:=(addP t.2.2 (a.getD (a.length - 1 - k) 0 :: t.1) (lessOf b) 1).2.1) (a:=x.1) (b:=x.2) (litN_mono o.ga.lit hgr.lines) (litN_mono h1 hgr.lines) (litN_mono h2 (o.ga.grow.trans hgr).lines) mm hrr
    refine ⟨m4,?_,r4⟩
    have hz2:([a.getD (a.length - 1 - k) 0] ++ t.1)[j]? = some x.2:=hz.2
    simp only
    rw [Zj2 (by rw [Za]; simp; omega),get?_nat,get?_nat,hz.1,hz2]
    simp only [Zjv]
    have e4':Zb (D.builder.mk (D.Circuit.mk mm.c.Inputs mm.c.Gates) mm.line mm.full) (addP t.2.2 (a.getD (a.length - 1 - k) 0 :: t.1) (lessOf b) 1).2.1 x.1 x.2 = _:=e4
    rw [e4']
    simp only [Zjv]
    rw [set?_nat (by rw [hL,o.zl]; exact hj)]
    simp only [Zjv]
    rw [Zd (by omega) (by omega)]
    rfl) (fun L mm=>by
    simp only
    rw [o.zl,Zjz (by rw [Za]; simp)]) r2
  refine ⟨_,?_,m3,rfl,r3⟩
  simp only
  rw [Zj2 (by simp; omega),hidx,get?_nat,getD_get (l:=a) (by omega)]
  simp only [Zjv]
  rw [XZ (by simp [g.len]; omega)]
  simp only [Zjv]
  have h2':Z9 fuel (D.builder.mk (D.Circuit.mk m1.c.Inputs m1.c.Gates) m1.line m1.full) ([a.getD (a.length - 1 - k) 0] ++ t.1) (negs b ++ [1]) 1 = _:=h2
  rw [h2']
  simp only [Zjv]
  rw [set?_nat (by simp [g.clen]; omega),Ze6 (by simp) hk]
  simp only [Zjv]
  have h3':=h3
  simp only [Zl3] at h3'
  rw [h3']
  simp only [Zjv]
  rw [Zd (by omega) (by omega)]
  simp only [Option.some.injEq,Sum.inl.injEq,Prod.mk.injEq]
  exact ⟨by omega,rfl,rfl,trivial⟩
 ·obtain ⟨m1, rfl, hr⟩ := ht
  refine ⟨_,?_,m1,rfl,hr⟩
  simp only
  rw [Zjz (by simp; omega)]
  simp
 ·obtain ⟨m', rfl, h2⟩ := hr
  exact ⟨_,rfl,m',rfl,h2⟩
end
end Go.Proofs.YthilnjkcemdfeaaGreat.Cc
end
section
namespace Go.Proofs.YthilnjkcemdfeaaGreat.Cc
open Go.GL
variable {fuel:Nat} [FU fuel]
def lg (w:Nat):Nat:=if w ≤ 1 then 0 else if w ≤ 2 then 1 else if w ≤ 4 then 2 else if w ≤ 8 then 3 else 4
theorem ZdO:∀ w,w < 16 → ∀ k,k < 16 → (2 ^ k < w ↔ k < lg w):=by decide
theorem ZeM:∀ w,w < 16 → 1 ≤ w → lg w < w:=by decide
theorem Zhj (w:Nat):lg w ≤ 4:=by
 unfold lg
 split; omega
 split; omega
 split; omega
 split <;> omega
theorem ZfK:∀ k:Nat,k < 16 → shl? 1 (k:Int) = some ((2 ^ k:Nat):Int):=by decide
theorem u64k {k:Nat} (h:k < 1000):IntKind.u64.wrap (k:Int) = k:=by unfold IntKind.wrap; simp [IntKind.bits,IntKind.signed]; omega
theorem Zco {σt ρt:Type} {B:σt → Option (σt ⊕ ρt)} {I:Nat → σt → Prop} {m:Nat} (hs:∀ k s,k < m → I k s → ∃ s',B s = some (.inl s') ∧ I (k + 1) s') :
  ∀ (d k:Nat) (s:σt),k + d = m → I k s → ∀ n,∃ s',I m s' ∧ iterN B (n + d) s = iterN B n s'
 | 0,k,s,hk,hi,n=>by
  obtain rfl:k = m:=by omega
  exact ⟨s,hi,rfl⟩
 | d + 1,k,s,hk,hi,n=>by
  obtain ⟨s1,h1,h2⟩:=hs k s (by omega) hi
  obtain ⟨s',h3,h4⟩:=Zco hs d (k + 1) s1 (by omega) h2 n
  refine ⟨s',h3,?_⟩
  rw [← h4,← Nat.add_assoc]
  conv=>lhs; unfold iterN
  rw [h1]
def pick (L:Bool) (d:Nat) (fill:Int) (out:List Int) (j:Nat):Int:=
 if L then (if d ≤ j then out.getD (j - d) 0 else fill) else (if j + d < out.length then out.getD (j + d) 0 else fill)
theorem Zhd {L:Bool} {d:Nat} {fill:Int} {out:List Int} {j:Nat} (hj:j < out.length):pick L d fill out j = fill ∨ pick L d fill out j ∈ out:=by
 unfold pick
 cases L
 ·simp only [Zj1, ZjP]
  split
  ·exact .inr (getD_mem (by assumption))
  ·exact .inl rfl
 ·simp only [Zkd]
  split
  ·exact .inr (getD_mem (by omega))
  ·exact .inl rfl
def shPairs (L:Bool) (d:Nat) (fill:Int) (out:List Int):List (Int × Int):=(List.range out.length).map fun j=>(pick L d fill out j,out.getD j 0)
theorem YG {L:Bool} {d:Nat} {fill:Int} {out:List Int}:(shPairs L d fill out).length = out.length:=by simp [shPairs]
theorem ZaQ {L:Bool} {d:Nat} {fill:Int} {out:List Int} {j:Nat} {x:Int × Int} (h:(shPairs L d fill out)[j]? = some x):j < out.length ∧ x = (pick L d fill out j,out.getD j 0):=by
 have hj:j < out.length:=by have:=(Zjy.1 h).1; rwa [YG] at this
 refine ⟨hj,?_⟩
 unfold shPairs at h
 rw [ZjM,ZkY hj] at h
 exact (Option.some.inj h).symm
def shStep (L:Bool) (fill:Int) (b:List Int) (t:LS) (k:Nat):LS:=seqP (selF (b.getD k 0)) t.2 (shPairs L (2 ^ k) fill t.1)
def shK (s:BS) (a b:List Int) (L:Bool) (fill:Int) (k:Nat):LS:=(List.range k).foldl (shStep L fill b) (a,s)
theorem shK_succ (s:BS) (a b:List Int) (L:Bool) (fill:Int) (k:Nat):shK s a b L fill (k + 1) = shStep L fill b (shK s a b L fill k) k:=by
 unfold shK; rw [Zlg,Zk9]; rfl
def orF:BS → Int → Int → Int × BS:=fun s c x=>orP s c x
def finF (c fill:Int):BS → Int → Int × BS:=fun s x=>ifP s c fill x
def shFar (s:BS) (a b:List Int) (L:Bool) (fill:Int):Int × BS:=accP orF (shK s a b L fill (lg a.length)).2 (-1) (b.drop (lg a.length))
def shP (s:BS) (a b:List Int) (L:Bool) (fill:Int):LS:=seqP (finF (shFar s a b L fill).1 fill) (shFar s a b L fill).2 (shK s a b L fill (lg a.length)).1
section
variable {s:BS} {a b:List Int} {L:Bool} {fill:Int} (hab:a.length = b.length) (hl:a.length ≤ 15) (ha:∀ x ∈ a,litN (lines s.1) x = true) (hb:∀ x ∈ b,litN (lines s.1) x = true) (hf:litN (lines s.1) fill = true)
include hab hl ha hb hf
omit hl ha in
theorem Zia {t:LS} (g:GoodL s a.length t) {k:Nat} (hk:k < a.length) (d:Nat):FOk (selF (b.getD k 0)) t.2 (shPairs L d fill t.1):=by
 intro s' p hc hgr hp
 obtain ⟨j,hj⟩:=Zlj hp
 obtain ⟨hj',rfl⟩:=ZaQ hj
 have e:=g.grow.trans hgr
 refine if_good hc (litN_mono (hb _ (getD_mem (by omega))) e.lines) ?_ (litN_mono (g.lits _ (getD_mem hj')) hgr.lines)
 rcases Zhd (L:=L) (d:=d) (fill:=fill) hj' with h | h
 ·simp only [h]; exact litN_mono hf e.lines
 ·exact litN_mono (g.lits _ h) hgr.lines
omit hl in
theorem Za0 (hs:CircP s.1) (k:Nat) (hk:k ≤ a.length):GoodL s a.length (shK s a b L fill k):=by
 induction k with
 | zero=>exact ⟨hs,Grow.refl _,rfl,ha⟩
 | succ k ih=>
  have g:=ih (by omega)
  rw [shK_succ]
  generalize shK s a b L fill k = t at g ⊢
  have o:=Zia hab hb hf g (k:=k) (by omega) (L:=L) (2 ^ k)
  have gq:=seq_good g.circ o
  rw [YG,g.len] at gq
  exact ⟨gq.circ,g.grow.trans gq.grow,gq.len,gq.lits⟩
omit hab hl ha hf in
theorem Zf8 {t:LS} (g:GoodL s a.length t) (k:Nat):AOk orF t.2 (b.drop k):=by
 intro s' c x hc hgr hlc hx
 exact Zcx hc hlc (litN_mono (hb _ (ZkC hx)) (g.grow.trans hgr).lines)
theorem Zb6 (hs:CircP s.1) (hw:1 ≤ a.length):Good (shK s a b L fill (lg a.length)).2 (shFar s a b L fill):=by
 have g:=Za0 hab ha hb hf hs (L:=L) (lg a.length) (by have:=ZeM a.length (by omega) hw; omega)
 exact Zfd g.circ (Yw g.circ) (Zf8 hb g _)
theorem fin_ok (hs:CircP s.1) (hw:1 ≤ a.length):FOk (finF (shFar s a b L fill).1 fill) (shFar s a b L fill).2 (shK s a b L fill (lg a.length)).1:=by
 have g:=Za0 hab ha hb hf hs (L:=L) (lg a.length) (by have:=ZeM a.length (by omega) hw; omega)
 have gf:=Zb6 hab hl ha hb hf hs hw (L:=L)
 intro s' x hc hgr hx
 exact if_good hc (litN_mono gf.lit hgr.lines) (litN_mono hf ((g.grow.trans gf.grow).trans hgr).lines) (litN_mono (g.lits _ hx) (gf.grow.trans hgr).lines)
theorem ZcN (hs:CircP s.1) (hw:1 ≤ a.length):GoodL s a.length (shP s a b L fill):=by
 have g:=Za0 hab ha hb hf hs (L:=L) (lg a.length) (by have:=ZeM a.length (by omega) hw; omega)
 have gf:=Zb6 hab hl ha hb hf hs hw (L:=L)
 have gq:=seq_good gf.circ (fin_ok hab hl ha hb hf hs hw)
 rw [g.len] at gq
 exact ⟨gq.circ,(g.grow.trans gf.grow).trans gq.grow,gq.len,gq.lits⟩
end
theorem ZhR {L:Bool} {d j:Nat} {fill:Int} {out:List Int} (hd:d ≤ 40000) (hj:j < out.length) (hl:out.length ≤ 15) :
  (∃ i:Nat,i < out.length ∧ (cond L (w64 ((j:Int) - (d:Int))) (w64 ((j:Int) + (d:Int)))) = (i:Int) ∧ pick L d fill out j = out.getD i 0) ∨
  (((cond L (w64 ((j:Int) - (d:Int))) (w64 ((j:Int) + (d:Int)))) < 0 ∨ (out.length:Int) ≤ (cond L (w64 ((j:Int) - (d:Int))) (w64 ((j:Int) + (d:Int))))) ∧ pick L d fill out j = fill):=by
 cases L
 ·simp only [cond_false]
  rw [Zd (by omega) (by omega)]
  by_cases h:j + d < out.length
  ·exact .inl ⟨j + d,h,by omega,by simp [pick,h]⟩
  ·exact .inr ⟨.inr (by omega),by simp [pick,h]⟩
 ·simp only [cond_true]
  rw [Zd (by omega) (by omega)]
  by_cases h:d ≤ j
  ·exact .inl ⟨j - d,by omega,by omega,by simp [pick,h]⟩
  ·exact .inr ⟨.inl (by omega),by simp [pick,h]⟩
section
variable {s:BS} (hs:CircP s.1) {a b:List Int} {op fill:Int} (hab:a.length = b.length) (hl:a.length ≤ 15) (hw:1 ≤ a.length) (ha:∀ x ∈ a,litN (lines s.1) x = true) (hb:∀ x ∈ b,litN (lines s.1) x = true) (hf:litN (lines s.1) fill = true)
include hs hab hl hw ha hb hf
theorem ZaC:(
  (iterN (fun (s1 : Int × Bool × (List Int) × Int × Int × Bool × (List D.Gate)) =>
   if (decide (s1.2.2.2.1 < (len a))) then
    (shl? 1 s1.2.2.2.1).bind fun x2=>
    if (decide (x2 ≥ (len a))) then
     (get? b s1.2.2.2.1).bind fun x3=>
     (Zm fuel (D.l04Net.mk (D.Circuit.mk s1.2.2.2.2.1 s1.2.2.2.2.2.2) s1.2.2.2.2.2.1) s1.1 x3).bind fun x4=>
     some (.inl (x4.1,true,s1.2.2.1,(w64 (s1.2.2.2.1 + 1)),x4.2.c.Inputs,x4.2.full,x4.2.c.Gates))
    else
     (iterN (fun (s2 : Int × (List Int) × Int × Bool × (List D.Gate)) =>
      if (decide (s2.1 < (len a))) then
       (Zo (cond (op == 11) (w64 (s2.1 - x2)) (w64 (s2.1 + x2))) 0 (w64 ((len a) - 1))).bind fun x5=>
       if x5 then
        (get? s1.2.2.1 (cond (op == 11) (w64 (s2.1 - x2)) (w64 (s2.1 + x2)))).bind fun x6=>
        (get? b s1.2.2.2.1).bind fun x7=>
        (get? s1.2.2.1 s2.1).bind fun x8=>
        (Zh fuel (D.l04Net.mk (D.Circuit.mk s2.2.2.1 s2.2.2.2.2) s2.2.2.2.1) x7 x6 x8).bind fun x9=>
        (app? s2.2.1 ([x9.1]:List Int)).bind fun x10=>
        some (.inl ((w64 (s2.1 + 1)),x10,x9.2.c.Inputs,x9.2.full,x9.2.c.Gates))
       else
        (get? b s1.2.2.2.1).bind fun x11=>
        (get? s1.2.2.1 s2.1).bind fun x12=>
        (Zh fuel (D.l04Net.mk (D.Circuit.mk s2.2.2.1 s2.2.2.2.2) s2.2.2.2.1) x11 fill x12).bind fun x13=>
        (app? s2.2.1 ([x13.1]:List Int)).bind fun x14=>
        some (.inl ((w64 (s2.1 + 1)),x14,x13.2.c.Inputs,x13.2.full,x13.2.c.Gates))
      else
       some (.inr (s2.2.1,s2.2.2.1,s2.2.2.2.1,s2.2.2.2.2))
     ) fuel (0,([]:List Int),s1.2.2.2.2.1,s1.2.2.2.2.2.1,s1.2.2.2.2.2.2)).bind fun (rl2:(List Int) × Int × Bool × (List D.Gate))=>
     some (.inl (s1.1,s1.2.1,rl2.1,(w64 (s1.2.2.2.1 + 1)),rl2.2.1,rl2.2.2.1,rl2.2.2.2))
   else
    some (.inr (s1.1,s1.2.1,s1.2.2.1,s1.2.2.2.2.1,s1.2.2.2.2.2.1,s1.2.2.2.2.2.2))
  ) fuel ((-1),false,a,0,(net s).c.Inputs,(net s).full,(net s).c.Gates)).bind fun (rl1:Int × Bool × (List Int) × Int × Bool × (List D.Gate))=>
  if (!rl1.2.1) then
   some (rl1.2.2.1,(D.l04Net.mk (D.Circuit.mk rl1.2.2.2.1 rl1.2.2.2.2.2) rl1.2.2.2.2.1))
  else
   (iterN (fun (s3 : Int × (List Int) × Int × Bool × (List D.Gate)) =>
    if (decide (s3.1 < (len a))) then
     (get? rl1.2.2.1 s3.1).bind fun x15=>
     (Zh fuel (D.l04Net.mk (D.Circuit.mk s3.2.2.1 s3.2.2.2.2) s3.2.2.2.1) rl1.1 fill x15).bind fun x16=>
     (app? s3.2.1 ([x16.1]:List Int)).bind fun x17=>
     some (.inl ((w64 (s3.1 + 1)),x17,x16.2.c.Inputs,x16.2.full,x16.2.c.Gates))
    else
     some (.inr (s3.2.1,s3.2.2.1,s3.2.2.2.1,s3.2.2.2.2))
   ) fuel (0,([]:List Int),rl1.2.2.2.1,rl1.2.2.2.2.1,rl1.2.2.2.2.2)).bind fun (rl3:(List Int) × Int × Bool × (List D.Gate))=>
   some (rl3.1,(D.l04Net.mk (D.Circuit.mk rl3.2.1 rl3.2.2.2) rl3.2.2.1))) = some ((shP s a b (op == 11) fill).1,net (shP s a b (op == 11) fill).2):=by
 generalize hL:(op == 11) = L
 have hlg:=ZeM a.length (by omega) hw
 have gl:=Za0 hab ha hb hf hs (L:=L) (lg a.length) (by omega)
 obtain ⟨t1,ht1,e1⟩:=Zco (B:=(fun (s1:Int × Bool × (List Int) × Int × Int × Bool × (List D.Gate))=>
   if (decide (s1.2.2.2.1 < (len a))) then
    (shl? 1 s1.2.2.2.1).bind fun x2=>
    if (decide (x2 ≥ (len a))) then
     (get? b s1.2.2.2.1).bind fun x3=>
     (Zm fuel (D.l04Net.mk (D.Circuit.mk s1.2.2.2.2.1 s1.2.2.2.2.2.2) s1.2.2.2.2.2.1) s1.1 x3).bind fun x4=>
     some (.inl (x4.1,true,s1.2.2.1,(w64 (s1.2.2.2.1 + 1)),x4.2.c.Inputs,x4.2.full,x4.2.c.Gates))
    else
     (iterN (fun (s2 : Int × (List Int) × Int × Bool × (List D.Gate)) =>
      if (decide (s2.1 < (len a))) then
       (Zo (cond L (w64 (s2.1 - x2)) (w64 (s2.1 + x2))) 0 (w64 ((len a) - 1))).bind fun x5=>
       if x5 then
        (get? s1.2.2.1 (cond L (w64 (s2.1 - x2)) (w64 (s2.1 + x2)))).bind fun x6=>
        (get? b s1.2.2.2.1).bind fun x7=>
        (get? s1.2.2.1 s2.1).bind fun x8=>
        (Zh fuel (D.l04Net.mk (D.Circuit.mk s2.2.2.1 s2.2.2.2.2) s2.2.2.2.1) x7 x6 x8).bind fun x9=>
        (app? s2.2.1 ([x9.1]:List Int)).bind fun x10=>
        some (.inl ((w64 (s2.1 + 1)),x10,x9.2.c.Inputs,x9.2.full,x9.2.c.Gates))
       else
        (get? b s1.2.2.2.1).bind fun x11=>
        (get? s1.2.2.1 s2.1).bind fun x12=>
        (Zh fuel (D.l04Net.mk (D.Circuit.mk s2.2.2.1 s2.2.2.2.2) s2.2.2.2.1) x11 fill x12).bind fun x13=>
        (app? s2.2.1 ([x13.1]:List Int)).bind fun x14=>
        some (.inl ((w64 (s2.1 + 1)),x14,x13.2.c.Inputs,x13.2.full,x13.2.c.Gates))
      else
       some (.inr (s2.2.1,s2.2.2.1,s2.2.2.2.1,s2.2.2.2.2))
     ) fuel (0,([]:List Int),s1.2.2.2.2.1,s1.2.2.2.2.2.1,s1.2.2.2.2.2.2)).bind fun (rl2:(List Int) × Int × Bool × (List D.Gate))=>
     some (.inl (s1.1,s1.2.1,rl2.1,(w64 (s1.2.2.2.1 + 1)),rl2.2.1,rl2.2.2.1,rl2.2.2.2))
   else
    some (.inr (s1.1,s1.2.1,s1.2.2.1,s1.2.2.2.2.1,s1.2.2.2.2.2.1,s1.2.2.2.2.2.2))
)) (I:=fun k t=>t = ((-1:Int),false,(shK s a b L fill k).1,(k:Int),(shK s a b L fill k).2.1.Inputs,(shK s a b L fill k).2.2,(shK s a b L fill k).2.1.Gates)) (m:=lg a.length) (fun k t hk ht=>by
  subst ht
  have g:=Za0 hab ha hb hf hs (L:=L) k (by omega)
  have o:=Zia hab hb hf g (k:=k) (by omega) (L:=L) (2 ^ k)
  refine ⟨_,?_,rfl⟩
  rw [shK_succ]
  generalize shK s a b L fill k = t at g o ⊢
  have hp:2 ^ k < a.length:=by rw [ZdO _ (by omega) _ (by omega)]; omega
  simp only
  rw [Zj2 (by rw [Za]; simp; omega),ZfK _ (by omega)]
  simp only [Zjv]
  rw [Zjz (by rw [Za]; simp only [ge_iff_le,Zj5]; exact fun h=>by have:=Int.ofNat_le.1 h; omega)]
  rw [spec_seq (f:=selF (b.getD k 0)) (s:=t.2) (l:=shPairs L (2 ^ k) fill t.1) g.circ (by rw [YG,g.len]; omega) o (fun j out s' x hx hc hgr hout=>?_) (fun out s'=>?_)]
  ·simp only [Zjv]
   rw [Zd (by omega) (by omega)]
   rfl
  ·obtain ⟨hj, rfl⟩ := ZaQ hx
   have e:=g.grow.trans hgr
   have hbk:=litN_mono (hb _ (getD_mem (l:=b) (k:=k) (by omega))) e.lines
   have hoj:=litN_mono (g.lits _ (getD_mem hj)) hgr.lines
   have hln:=g.len
   simp only
   rw [Zj2 (by rw [Za]; simp; omega),Za,Zd (x:=(a.length:Int) - 1) (by omega) (by omega)]
   rcases ZhR (L:=L) (d:=2 ^ k) (j:=j) (fill:=fill) (out:=t.1) (by omega) hj (by omega) with ⟨i,hi,h1,h2⟩ | ⟨h1,h2⟩
   ·have e1:Zo (i:Int) 0 ((a.length:Int) - 1) = some true:=by
     unfold Zo; simp; omega
    rw [h1,e1]
    simp only [Zjv,Zkd]
    rw [get?_nat,get?_nat,get?_nat,getD_get hi,getD_get (l:=b) (by omega),getD_get hj]
    simp only [Zjv]
    have si:Zh fuel (D.l04Net.mk (D.Circuit.mk s'.1.Inputs s'.1.Gates) s'.2) (b.getD k 0) (t.1.getD i 0) (t.1.getD j 0) = _:=spec_if (fuel:=fuel) hc hbk (litN_mono (g.lits _ (getD_mem hi)) hgr.lines) hoj
    rw [si]
    simp only [Zjv]
    rw [XZ (by simp; omega)]
    simp only [Zjv]
    rw [Zd (by omega) (by omega)]
    unfold selF
    simp only [h2]
    rfl
   ·have e1:∀ z:Int,(z < 0 ∨ (t.1.length:Int) ≤ z) → Zo z 0 ((a.length:Int) - 1) = some false:=by
     intro z hz
     unfold Zo; simp; omega
    rw [e1 _ h1]
    simp only [Zjv,Zj1,ZjP]
    rw [get?_nat,get?_nat,getD_get (l:=b) (by omega),getD_get hj]
    simp only [Zjv]
    have si:Zh fuel (D.l04Net.mk (D.Circuit.mk s'.1.Inputs s'.1.Gates) s'.2) (b.getD k 0) fill (t.1.getD j 0) = _:=spec_if (fuel:=fuel) hc hbk (litN_mono hf e.lines) hoj
    rw [si]
    simp only [Zjv]
    rw [XZ (by simp; omega)]
    simp only [Zjv]
    rw [Zd (by omega) (by omega)]
    unfold selF
    simp only [h2]
    rfl
  ·simp only
   rw [Zjz (by rw [Za,YG,g.len]; simp)]) (lg a.length) 0 ((-1:Int),false,a,0,(net s).c.Inputs,(net s).full,(net s).c.Gates) (by omega) rfl (fuel - lg a.length)
 ·subst ht1
  rw [Nat.sub_add_cancel (by have:=Zhj a.length; have:=FU.le (n:=fuel); omega)] at e1
  rw [e1]
  refine Eq.trans (congrArg (fun o=>Option.bind o _) (ZdH (f:=orF) (l:=b.drop (lg a.length)) (s:=(shK s a b L fill (lg a.length)).2) (c:=-1) (fun j c s'=>(c,decide (0 < j),(shK s a b L fill (lg a.length)).1,((lg a.length + j:Nat):Int),s'.1.Inputs,s'.2,s'.1.Gates)) (fun c s'=>(c,true,(shK s a b L fill (lg a.length)).1,s'.1.Inputs,s'.2,s'.1.Gates)) gl.circ (Yw gl.circ) (Zf8 hb gl _) (fun j c s' x hx hc hgr hlc=>?_) (fun c s'=>?_) (by have:=Zhj a.length; rw [ZjK]; have:=FU.le (n:=fuel); omega))) ?_
  rotate_left 2
  ·simp only [Zjv, Zkk, Zj1, ZjP]
   have gf:=Zb6 hab hl ha hb hf hs hw (L:=L)
   have hfar:accP orF (shK s a b L fill (lg a.length)).2 (-1) (b.drop (lg a.length)) = shFar s a b L fill:=rfl
   rw [hfar]
   rw [spec_seq (f:=finF (shFar s a b L fill).1 fill) (s:=(shFar s a b L fill).2) (l:=(shK s a b L fill (lg a.length)).1) gf.circ (by rw [gl.len]; omega) (fin_ok hab hl ha hb hf hs hw) (fun j out s' x hx hc hgr hout=>?_) (fun out s'=>?_)]
   ·rfl
   ·have hj:j < a.length:=by
     have:=(Zjy.1 hx).1
     rw [gl.len] at this; exact this
    simp only
    rw [Zj2 (by rw [Za]; simp; omega),get?_nat,hx]
    simp only [Zjv]
    have si:Zh fuel (D.l04Net.mk (D.Circuit.mk s'.1.Inputs s'.1.Gates) s'.2) (shFar s a b L fill).1 fill x = _:=spec_if (fuel:=fuel) hc (litN_mono gf.lit hgr.lines) (litN_mono hf ((gl.grow.trans gf.grow).trans hgr).lines) (litN_mono (gl.lits _ (Zj9 hx)) (gf.grow.trans hgr).lines)
    rw [si]
    simp only [Zjv]
    rw [XZ (by simp; omega)]
    simp only [Zjv]
    rw [Zd (by omega) (by omega)]
    rfl
   ·simp only
    rw [Zjz (by rw [Za,gl.len]; simp)]
  ·have hj:lg a.length + j < b.length ∧ b[lg a.length + j]? = some x:=by
    rw [Zkc] at hx
    exact ⟨(Zjy.1 hx).1,hx⟩
   simp only
   have hp:¬ (2 ^ (lg a.length + j) < a.length):=by rw [ZdO _ (by omega) _ (by omega)]; omega
   rw [Zj2 (by rw [Za]; simp; omega),ZfK _ (by omega)]
   simp only [Zjv]
   rw [Zj2 (by rw [Za]; simp only [ge_iff_le,Zj5]; exact Int.ofNat_le.2 (by omega)),get?_nat,hj.2]
   simp only [Zjv]
   have so:Zm fuel (D.l04Net.mk (D.Circuit.mk s'.1.Inputs s'.1.Gates) s'.2) c x = _:=Zcw (fuel:=fuel) hc hlc (litN_mono (hb _ (Zj9 hj.2)) (gl.grow.trans hgr).lines)
   rw [so]
   simp only [Zjv]
   rw [Zd (by omega) (by omega)]
   simp only [Option.some.injEq,Sum.inl.injEq,Prod.mk.injEq]
   exact ⟨by trivial,by simp,by trivial,by omega,by trivial,by trivial,by trivial⟩
  ·simp only
   rw [Zjz (by rw [Za,ZjK]; simp; omega)]
   rw [ZjK]
   have:decide (0 < b.length - lg a.length) = true:=by simp; omega
   rw [this]
theorem ZaR {m:D.builder} (hm:RelB m s):∃ m',(
  (Ze a).bind fun x2 =>
  (iterN (fun (s1 : Int × (List Int) × Int × Bool × (List D.Gate) × (List (D.Gate × Int))) =>
   (if (decide (s1.1 < (len a))) then (shl? 1 (IntKind.u64.wrap s1.1)) else some default).bind fun x3=>
   if ((decide (s1.1 < (len a))) && (decide (x3 < (len a)))) then
    (Ze s1.2.1).bind fun x4 =>
    (iterN (fun (s2 : Int × (List Int) × Int × Bool × (List D.Gate) × (List (D.Gate × Int))) =>
     if (decide (s2.1 < (len s1.2.1))) then
      (shl? 1 (IntKind.u64.wrap s1.1)).bind fun x5=>
      if (op == 11) then
       (shl? 1 (IntKind.u64.wrap s1.1)).bind fun x6=>
       if ((decide ((w64 (s2.1 - x6)) ≥ 0)) && (decide ((w64 (s2.1 - x6)) < (len a)))) then
        (get? x4 (w64 (s2.1 - x6))).bind fun x7=>
        (get? b s1.1).bind fun x8=>
        (get? x4 s2.1).bind fun x9=>
        (Zb (D.builder.mk (D.Circuit.mk s2.2.2.1 s2.2.2.2.2.1) s2.2.2.2.2.2 s2.2.2.2.1) x8 x7 x9).bind fun x10=>
        (set? s2.2.1 s2.1 x10.1).bind fun x11=>
        some (.inl ((w64 (s2.1 + 1)),x11,x10.2.c.Inputs,x10.2.full,x10.2.c.Gates,x10.2.line))
       else
        (get? b s1.1).bind fun x12=>
        (get? x4 s2.1).bind fun x13=>
        (Zb (D.builder.mk (D.Circuit.mk s2.2.2.1 s2.2.2.2.2.1) s2.2.2.2.2.2 s2.2.2.2.1) x12 fill x13).bind fun x14=>
        (set? s2.2.1 s2.1 x14.1).bind fun x15=>
        some (.inl ((w64 (s2.1 + 1)),x15,x14.2.c.Inputs,x14.2.full,x14.2.c.Gates,x14.2.line))
      else
       if ((decide ((w64 (s2.1 + x5)) ≥ 0)) && (decide ((w64 (s2.1 + x5)) < (len a)))) then
        (get? x4 (w64 (s2.1 + x5))).bind fun x16=>
        (get? b s1.1).bind fun x17=>
        (get? x4 s2.1).bind fun x18=>
        (Zb (D.builder.mk (D.Circuit.mk s2.2.2.1 s2.2.2.2.2.1) s2.2.2.2.2.2 s2.2.2.2.1) x17 x16 x18).bind fun x19=>
        (set? s2.2.1 s2.1 x19.1).bind fun x20=>
        some (.inl ((w64 (s2.1 + 1)),x20,x19.2.c.Inputs,x19.2.full,x19.2.c.Gates,x19.2.line))
       else
        (get? b s1.1).bind fun x21=>
        (get? x4 s2.1).bind fun x22=>
        (Zb (D.builder.mk (D.Circuit.mk s2.2.2.1 s2.2.2.2.2.1) s2.2.2.2.2.2 s2.2.2.2.1) x21 fill x22).bind fun x23=>
        (set? s2.2.1 s2.1 x23.1).bind fun x24=>
        some (.inl ((w64 (s2.1 + 1)),x24,x23.2.c.Inputs,x23.2.full,x23.2.c.Gates,x23.2.line))
     else
      some (.inr (s2.2.1,s2.2.2.1,s2.2.2.2.1,s2.2.2.2.2.1,s2.2.2.2.2.2))
    ) fuel (0,s1.2.1,s1.2.2.1,s1.2.2.2.1,s1.2.2.2.2.1,s1.2.2.2.2.2)).bind fun (rl2:(List Int) × Int × Bool × (List D.Gate) × (List (D.Gate × Int)))=>
    some (.inl ((w64 (s1.1 + 1)),rl2.1,rl2.2.1,rl2.2.2.1,rl2.2.2.2.1,rl2.2.2.2.2))
   else
    some (.inr (s1.1,s1.2.1,s1.2.2.1,s1.2.2.2.1,s1.2.2.2.2.1,s1.2.2.2.2.2))
  ) fuel (0,x2,m.c.Inputs,m.full,m.c.Gates,m.line)).bind fun (rl1:Int × (List Int) × Int × Bool × (List D.Gate) × (List (D.Gate × Int)))=>
  if (decide (rl1.1 < (len a))) then
   (iterN (fun (s3 : Int × Int × Int × Bool × (List D.Gate) × (List (D.Gate × Int))) =>
    if (decide (s3.1 < (len a))) then
     (get? b s3.1).bind fun x25=>
     (Zp (D.builder.mk (D.Circuit.mk s3.2.2.1 s3.2.2.2.2.1) s3.2.2.2.2.2 s3.2.2.2.1) s3.2.1 x25).bind fun x26=>
     some (.inl ((w64 (s3.1 + 1)),x26.1,x26.2.c.Inputs,x26.2.full,x26.2.c.Gates,x26.2.line))
    else
     some (.inr (s3.2.1,s3.2.2.1,s3.2.2.2.1,s3.2.2.2.2.1,s3.2.2.2.2.2))
   ) fuel (rl1.1,(-1),rl1.2.2.1,rl1.2.2.2.1,rl1.2.2.2.2.1,rl1.2.2.2.2.2)).bind fun (rl3:Int × Int × Bool × (List D.Gate) × (List (D.Gate × Int))) =>
   (iterN (fun (s4 : Int × (List Int) × Int × Bool × (List D.Gate) × (List (D.Gate × Int))) =>
    if (decide (s4.1 < (len rl1.2.1))) then
     (get? s4.2.1 s4.1).bind fun x27=>
     (Zb (D.builder.mk (D.Circuit.mk s4.2.2.1 s4.2.2.2.2.1) s4.2.2.2.2.2 s4.2.2.2.1) rl3.1 fill x27).bind fun x28=>
     (set? s4.2.1 s4.1 x28.1).bind fun x29=>
     some (.inl ((w64 (s4.1 + 1)),x29,x28.2.c.Inputs,x28.2.full,x28.2.c.Gates,x28.2.line))
    else
     some (.inr (s4.2.1,s4.2.2.1,s4.2.2.2.1,s4.2.2.2.2.1,s4.2.2.2.2.2))
   ) fuel (0,rl1.2.1,rl3.2.1,rl3.2.2.1,rl3.2.2.2.1,rl3.2.2.2.2)).bind fun (rl4:(List Int) × Int × Bool × (List D.Gate) × (List (D.Gate × Int)))=>
   some (rl4.1,(D.builder.mk (D.Circuit.mk rl4.2.1 rl4.2.2.2.1) rl4.2.2.2.2 rl4.2.2.1))
  else
   some (rl1.2.1,(D.builder.mk (D.Circuit.mk rl1.2.2.1 rl1.2.2.2.2.1) rl1.2.2.2.2.2 rl1.2.2.2.1))) = some ((shP s a b (op == 11) fill).1,m') ∧ RelB m' (shP s a b (op == 11) fill).2:=by
 generalize hL:(op == 11) = L
 have hlg:=ZeM a.length (by omega) hw
 have gl:=Za0 hab ha hb hf hs (L:=L) (lg a.length) (by omega)
 have hcl:∀ l:List Int,l.length ≤ 1000 → Ze l = some l:=fun l h=>by unfold Ze; rw [Zcy h]; rfl
 rw [hcl a (by omega)]
 simp only [Zjv]
 refine Zgi ?_
 refine ZaD (I:=fun k t=>∃ m':D.builder,t = ((k:Int),(shK s a b L fill k).1,m'.c.Inputs,m'.full,m'.c.Gates,m'.line) ∧ RelB m' (shK s a b L fill k).2) (R:=fun r=>∃ m':D.builder,r = (((lg a.length:Nat):Int),(shK s a b L fill (lg a.length)).1,m'.c.Inputs,m'.full,m'.c.Gates,m'.line) ∧ RelB m' (shK s a b L fill (lg a.length)).2) (m:=lg a.length) (fun k t hk ht=>?_) (fun t ht=>?_) (lg a.length) 0 _ (by omega) ⟨m,rfl,hm⟩ fuel (lt_fuel (by have:=Zhj a.length; omega)) (fun r hr=>?_)
 ·obtain ⟨m1, rfl, hr⟩ := ht
  have g:=Za0 hab ha hb hf hs (L:=L) k (by omega)
  have o:=Zia hab hb hf g (k:=k) (by omega) (L:=L) (2 ^ k)
  rw [shK_succ]
  generalize shK s a b L fill k = t at g o hr ⊢
  have hln:=g.len
  have hp:2 ^ k < a.length:=by rw [ZdO _ (by omega) _ (by omega)]; omega
  have hsh:shl? 1 (IntKind.u64.wrap (k:Int)) = some ((2 ^ k:Nat):Int):=by rw [u64k (by omega),ZfK _ (by omega)]
  have hkl:decide ((k:Int) < len a) = true:=by rw [Za]; simp; omega
  have hpl:decide (((2 ^ k:Nat):Int) < len a) = true:=by rw [Za,Zj5]; exact Int.ofNat_lt.2 hp
  simp only [hkl,Zkd,hsh,Zjv,hpl,Zmh]
  rw [hcl t.1 (by omega)]
  simp only [Zjv]
  rw [show len t.1 = len a by rw [Za,Za,g.len]]
  obtain ⟨m3,h3,r3⟩:=ZbU (fuel:=fuel) (f:=selF (b.getD k 0)) (s:=t.2) (l:=shPairs L (2 ^ k) fill t.1) (L0:=t.1) (B:=(fun (s2:Int × (List Int) × Int × Bool × (List D.Gate) × (List (D.Gate × Int)))=>
     if (decide (s2.1 < (len a))) then
      (shl? 1 (IntKind.u64.wrap (k:Int))).bind fun x5=>
      if L then
       (shl? 1 (IntKind.u64.wrap (k:Int))).bind fun x6=>
       if ((decide ((w64 (s2.1 - x6)) ≥ 0)) && (decide ((w64 (s2.1 - x6)) < (len a)))) then
        (get? t.1 (w64 (s2.1 - x6))).bind fun x7=>
        (get? b (k:Int)).bind fun x8=>
        (get? t.1 s2.1).bind fun x9=>
        (Zb (D.builder.mk (D.Circuit.mk s2.2.2.1 s2.2.2.2.2.1) s2.2.2.2.2.2 s2.2.2.2.1) x8 x7 x9).bind fun x10=>
        (set? s2.2.1 s2.1 x10.1).bind fun x11=>
        some (.inl ((w64 (s2.1 + 1)),x11,x10.2.c.Inputs,x10.2.full,x10.2.c.Gates,x10.2.line))
       else
        (get? b (k:Int)).bind fun x12=>
        (get? t.1 s2.1).bind fun x13=>
        (Zb (D.builder.mk (D.Circuit.mk s2.2.2.1 s2.2.2.2.2.1) s2.2.2.2.2.2 s2.2.2.2.1) x12 fill x13).bind fun x14=>
        (set? s2.2.1 s2.1 x14.1).bind fun x15=>
        some (.inl ((w64 (s2.1 + 1)),x15,x14.2.c.Inputs,x14.2.full,x14.2.c.Gates,x14.2.line))
      else
       if ((decide ((w64 (s2.1 + x5)) ≥ 0)) && (decide ((w64 (s2.1 + x5)) < (len a)))) then
        (get? t.1 (w64 (s2.1 + x5))).bind fun x16=>
        (get? b (k:Int)).bind fun x17=>
        (get? t.1 s2.1).bind fun x18=>
        (Zb (D.builder.mk (D.Circuit.mk s2.2.2.1 s2.2.2.2.2.1) s2.2.2.2.2.2 s2.2.2.2.1) x17 x16 x18).bind fun x19=>
        (set? s2.2.1 s2.1 x19.1).bind fun x20=>
        some (.inl ((w64 (s2.1 + 1)),x20,x19.2.c.Inputs,x19.2.full,x19.2.c.Gates,x19.2.line))
       else
        (get? b (k:Int)).bind fun x21=>
        (get? t.1 s2.1).bind fun x22=>
        (Zb (D.builder.mk (D.Circuit.mk s2.2.2.1 s2.2.2.2.2.1) s2.2.2.2.2.2 s2.2.2.2.1) x21 fill x22).bind fun x23=>
        (set? s2.2.1 s2.1 x23.1).bind fun x24=>
        some (.inl ((w64 (s2.1 + 1)),x24,x23.2.c.Inputs,x23.2.full,x23.2.c.Gates,x23.2.line))
     else
      some (.inr (s2.2.1,s2.2.2.1,s2.2.2.2.1,s2.2.2.2.2.1,s2.2.2.2.2.2)))) (fun j L m=>((j:Int),L,m.c.Inputs,m.full,m.c.Gates,m.line)) (fun L m=>(L,m.c.Inputs,m.full,m.c.Gates,m.line)) g.circ (by rw [YG]; omega) o (by rw [YG]) (fun j Lj mm s' x hx hc hgr hrr hLl hpre=>by
    obtain ⟨hj,rfl⟩:=ZaQ hx
    rw [YG] at hLl
    have e:=g.grow.trans hgr
    have hbk:=litN_mono (hb _ (getD_mem (l:=b) (k:=k) (by omega))) e.lines
    have hoj:=litN_mono (g.lits _ (getD_mem hj)) hgr.lines
    simp only
    rw [Zj2 (by rw [Za]; simp; omega),hsh]
    simp only [Zjv]
    rcases ZhR (L:=L) (d:=2 ^ k) (j:=j) (fill:=fill) (out:=t.1) (by omega) hj (by omega) with ⟨i,hi,h1,h2⟩ | ⟨h1,h2⟩
    ·obtain ⟨m4, e4, r4⟩ := impl_if hc (c := b.getD k 0) (a := t.1.getD i 0) (b := t.1.getD j 0) hbk (litN_mono (g.lits _ (getD_mem hi)) hgr.lines) hoj mm hrr
     have e4':Zb (D.builder.mk (D.Circuit.mk mm.c.Inputs mm.c.Gates) mm.line mm.full) (b.getD k 0) (t.1.getD i 0) (t.1.getD j 0) = _:=e4
     refine ⟨m4,?_,by unfold selF; simp only [h2]; exact r4⟩
     have hin:(decide ((i:Int) ≥ 0) && decide ((i:Int) < len a)) = true:=by rw [Za]; simp; omega
     cases L
     ·simp only [cond_false] at h1
      simp only [Zj1,ZjP,h1,hin,Zkd]
      rw [get?_nat,get?_nat,get?_nat,getD_get hi,getD_get (l:=b) (by omega),getD_get hj]
      simp only [Zjv]
      rw [e4']
      simp only [Zjv]
      rw [set?_nat (by omega)]
      simp only [Zjv]
      rw [Zd (by omega) (by omega)]
      unfold selF
      simp only [h2]
      rfl
     ·simp only [cond_true] at h1
      simp only [Zkd,h1,hin]
      rw [get?_nat,get?_nat,get?_nat,getD_get hi,getD_get (l:=b) (by omega),getD_get hj]
      simp only [Zjv]
      rw [e4']
      simp only [Zjv]
      rw [set?_nat (by omega)]
      simp only [Zjv]
      rw [Zd (by omega) (by omega)]
      unfold selF
      simp only [h2]
      rfl
    ·obtain ⟨m4, e4, r4⟩ := impl_if hc (c := b.getD k 0) (a := fill) (b := t.1.getD j 0) hbk (litN_mono hf e.lines) hoj mm hrr
     have e4':Zb (D.builder.mk (D.Circuit.mk mm.c.Inputs mm.c.Gates) mm.line mm.full) (b.getD k 0) fill (t.1.getD j 0) = _:=e4
     refine ⟨m4,?_,by unfold selF; simp only [h2]; exact r4⟩
     have hin:∀ z:Int,(z < 0 ∨ (t.1.length:Int) ≤ z) → (decide (z ≥ 0) && decide (z < len a)) = false:=by
      intro z hz
      rw [Za]; simp; omega
     cases L
     ·simp only [cond_false] at h1
      simp only [Zj1,ZjP,hin _ h1]
      rw [get?_nat,get?_nat,getD_get (l:=b) (by omega),getD_get hj]
      simp only [Zjv]
      rw [e4']
      simp only [Zjv]
      rw [set?_nat (by omega)]
      simp only [Zjv]
      rw [Zd (by omega) (by omega)]
      unfold selF
      simp only [h2]
      rfl
     ·simp only [cond_true] at h1
      simp only [Zkd,hin _ h1,Zj1,ZjP]
      rw [get?_nat,get?_nat,getD_get (l:=b) (by omega),getD_get hj]
      simp only [Zjv]
      rw [e4']
      simp only [Zjv]
      rw [set?_nat (by omega)]
      simp only [Zjv]
      rw [Zd (by omega) (by omega)]
      unfold selF
      simp only [h2]
      rfl) (fun L mm=>by
    simp only
    rw [Zjz (by rw [Za,YG,g.len]; simp)]) hr
  simp only [Zl3,hsh,Zjv] at h3
  refine ⟨_,?_,m3,rfl,r3⟩
  rw [h3]
  simp only [Zjv]
  rw [Zd (by omega) (by omega)]
  rfl
 ·obtain ⟨m1, rfl, hr⟩ := ht
  refine ⟨_,?_,m1,rfl,hr⟩
  have hp:¬ 2 ^ lg a.length < a.length:=by rw [ZdO _ (by omega) _ (by omega)]; omega
  have hsh:shl? 1 (IntKind.u64.wrap ((lg a.length:Nat):Int)) = some ((2 ^ lg a.length:Nat):Int):=by rw [u64k (by omega),ZfK _ (by omega)]
  have hkl:decide (((lg a.length:Nat):Int) < len a) = true:=by rw [Za]; simp; omega
  have hpl:decide (((2 ^ lg a.length:Nat):Int) < len a) = false:=by rw [Za,decide_eq_false_iff_not]; exact fun h=>hp (Int.ofNat_lt.1 h)
  simp only [hkl,Zkd,hsh,Zjv,hpl,ZlX,Zj1,ZjP]
 ·obtain ⟨m1, rfl, hr⟩ := hr
  have gf:=Zb6 hab hl ha hb hf hs hw (L:=L)
  simp only
  rw [show len (shK s a b L fill (lg a.length)).1 = len a by rw [Za,Za,gl.len]]
  rw [Zj2 (by rw [Za]; simp; omega)]
  obtain ⟨m2,h2,r2⟩:=Zdx (fuel:=fuel) (f:=orF) (l:=b.drop (lg a.length)) (s:=(shK s a b L fill (lg a.length)).2) (c:=-1) (B:=(fun (s3:Int × Int × Int × Bool × (List D.Gate) × (List (D.Gate × Int)))=>
    if (decide (s3.1 < (len a))) then
     (get? b s3.1).bind fun x25=>
     (Zp (D.builder.mk (D.Circuit.mk s3.2.2.1 s3.2.2.2.2.1) s3.2.2.2.2.2 s3.2.2.2.1) s3.2.1 x25).bind fun x26=>
     some (.inl ((w64 (s3.1 + 1)),x26.1,x26.2.c.Inputs,x26.2.full,x26.2.c.Gates,x26.2.line))
    else
     some (.inr (s3.2.1,s3.2.2.1,s3.2.2.2.1,s3.2.2.2.2.1,s3.2.2.2.2.2)))) (fun j c m=>(((lg a.length + j:Nat):Int),c,m.c.Inputs,m.full,m.c.Gates,m.line)) (fun c m=>(c,m.c.Inputs,m.full,m.c.Gates,m.line)) gl.circ (Yw gl.circ) (by rw [ZjK]; omega) (Zf8 hb gl _) (fun j c mm s' x hx hc hgr hrr hlc=>by
    have hj:lg a.length + j < b.length ∧ b[lg a.length + j]? = some x:=by
     rw [Zkc] at hx
     exact ⟨(Zjy.1 hx).1,hx⟩
    obtain ⟨m4,e4,r4⟩:=Zcz hc hlc (litN_mono (hb _ (Zj9 hj.2)) (gl.grow.trans hgr).lines) mm hrr
    have e4':Zp (D.builder.mk (D.Circuit.mk mm.c.Inputs mm.c.Gates) mm.line mm.full) c x = _:=e4
    refine ⟨m4,?_,r4⟩
    simp only
    rw [Zj2 (by rw [Za]; simp; omega),get?_nat,hj.2]
    simp only [Zjv]
    rw [e4']
    simp only [Zjv]
    rw [Zd (by omega) (by omega)]
    rfl) (fun c mm=>by
    simp only
    rw [Zjz (by rw [Za,ZjK]; simp; omega)]) hr
  simp only [ZkW] at h2
  rw [h2]
  simp only [Zjv]
  obtain ⟨m3,h3,r3⟩:=ZbU (fuel:=fuel) (f:=finF (shFar s a b L fill).1 fill) (s:=(shFar s a b L fill).2) (l:=(shK s a b L fill (lg a.length)).1) (L0:=(shK s a b L fill (lg a.length)).1) (B:=(fun (s4:Int × (List Int) × Int × Bool × (List D.Gate) × (List (D.Gate × Int)))=>
    if (decide (s4.1 < (len a))) then
     (get? s4.2.1 s4.1).bind fun x27=>
     (Zb (D.builder.mk (D.Circuit.mk s4.2.2.1 s4.2.2.2.2.1) s4.2.2.2.2.2 s4.2.2.2.1) (shFar s a b L fill).1 fill x27).bind fun x28=>
     (set? s4.2.1 s4.1 x28.1).bind fun x29=>
     some (.inl ((w64 (s4.1 + 1)),x29,x28.2.c.Inputs,x28.2.full,x28.2.c.Gates,x28.2.line))
    else
     some (.inr (s4.2.1,s4.2.2.1,s4.2.2.2.1,s4.2.2.2.2.1,s4.2.2.2.2.2)))) (fun j L m=>((j:Int),L,m.c.Inputs,m.full,m.c.Gates,m.line)) (fun L m=>(L,m.c.Inputs,m.full,m.c.Gates,m.line)) gf.circ (by rw [gl.len]; omega) (fin_ok hab hl ha hb hf hs hw) rfl (fun j Lj mm s' x hx hc hgr hrr hLl hpre=>by
    have hj:j < a.length:=by
     have:=(Zjy.1 hx).1
     rw [gl.len] at this; exact this
    rw [gl.len] at hLl
    obtain ⟨m4,e4,r4⟩:=impl_if hc (c:=(shFar s a b L fill).1) (a:=fill) (b:=x) (litN_mono gf.lit hgr.lines) (litN_mono hf ((gl.grow.trans gf.grow).trans hgr).lines) (litN_mono (gl.lits _ (Zj9 hx)) (gf.grow.trans hgr).lines) mm hrr
    have e4':Zb (D.builder.mk (D.Circuit.mk mm.c.Inputs mm.c.Gates) mm.line mm.full) (shFar s a b L fill).1 fill x = _:=e4
    refine ⟨m4,?_,r4⟩
    simp only
    rw [Zj2 (by rw [Za]; simp; omega),get?_nat,hpre j (ZjF _),hx]
    simp only [Zjv]
    rw [e4']
    simp only [Zjv]
    rw [set?_nat (by omega)]
    simp only [Zjv]
    rw [Zd (by omega) (by omega)]
    rfl) (fun L mm=>by
    simp only
    rw [Zjz (by rw [Za,gl.len]; simp)]) r2
  simp only [Zl3] at h3
  have hfar:accP orF (shK s a b L fill (lg a.length)).2 (-1) (b.drop (lg a.length)) = shFar s a b L fill:=rfl
  rw [hfar]
  rw [h3]
  exact ⟨_,rfl,m3,rfl,r3⟩
end
end Go.Proofs.YthilnjkcemdfeaaGreat.Cc
end
section
namespace Go.Proofs.YthilnjkcemdfeaaGreat.Cc
open Go.GL
variable {fuel:Nat} [FU fuel]
def andF2:BS → Int × Int → Int × BS:=fun s p=>andP s p.1 p.2
def orF2:BS → Int × Int → Int × BS:=fun s p=>orP s p.1 p.2
def xorF2:BS → Int × Int → Int × BS:=fun s p=>xorP s p.1 p.2
def eqF:BS → Int → Int × Int → Int × BS:=fun s c p=>andP (xorP s p.1 p.2).2 c (-(xorP s p.1 p.2).1)
def flipP (l:List Int):List Int:=l.set (l.length - 1) (-(l.getD (l.length - 1) 0))
theorem Xo (l:List Int):(flipP l).length = l.length:=by simp [flipP]
theorem X6 {n:Int} {l:List Int} (hl:1 ≤ l.length) (h:∀ x ∈ l,litN n x = true):∀ x ∈ flipP l,litN n x = true:=by
 intro x hx
 rcases ZlD hx with hx | rfl
 ·exact h x hx
 ·rw [ZG]; exact h _ (getD_mem (by omega))
def lessP (s:BS) (a b:List Int):LS:=let r:=addP s a (negs b) 1; ([-r.2.1],r.2.2)
def equalP (s:BS) (a b:List Int):LS:=let r:=accP eqF s 1 (a.zip b); ([r.1],r.2)
def opP (s:BS) (op:Int) (a b:List Int):LS:=
 if op = 3 then ((addP s a b (-1)).1,(addP s a b (-1)).2.2)
 else if op = 4 then ((addP s a (negs b) 1).1,(addP s a (negs b) 1).2.2)
 else if op = 5 then mulK s a b a.length
 else if op = 6 then ((divK s a b a.length).2.1,(divK s a b a.length).2.2)
 else if op = 7 then ((divK s a b a.length).1,(divK s a b a.length).2.2)
 else if op = 8 then seqP andF2 s (a.zip b)
 else if op = 9 then seqP orF2 s (a.zip b)
 else if op = 10 then seqP xorF2 s (a.zip b)
 else if op = 11 then shP s a b true (-1)
 else if op = 12 then shP s a b false (-1)
 else if op = 13 then shP s a b false (a.getD (a.length - 1) 0)
 else if op = 14 then equalP s a b
 else if op = 15 then lessP s a b
 else lessP s (flipP a) (flipP b)
theorem Zc9 {op:Int} (h:3 ≤ op ∧ op ≤ 16):op = 3 ∨ op = 4 ∨ op = 5 ∨ op = 6 ∨ op = 7 ∨ op = 8 ∨ op = 9 ∨ op = 10 ∨ op = 11 ∨ op = 12 ∨ op = 13 ∨ op = 14 ∨ op = 15 ∨ op = 16:=by omega
theorem Zaz {l:List Int} (h:1 ≤ l.length) (h2:l.length ≤ 1000):get? l (w64 (len l - 1)) = some (l.getD (l.length - 1) 0):=by
 rw [Za,Zd (by omega) (by omega),show (l.length:Int) - 1 = ((l.length - 1:Nat):Int) by omega,get?_nat,getD_get (by omega)]
theorem ZcR {l:List Int} {x:Int} (h:1 ≤ l.length) (h2:l.length ≤ 1000):set? l (w64 (len l - 1)) x = some (l.set (l.length - 1) x):=by
 rw [Za,Zd (by omega) (by omega),show (l.length:Int) - 1 = ((l.length - 1:Nat):Int) by omega,set?_nat (by omega)]
theorem ZdJ {n:Int} {l:List Int} (hn:n ≤ 391) (h:1 ≤ l.length) (h2:l.length ≤ 1000) (hl:∀ x ∈ l,litN n x = true):ZN l = some (flipP l):=by
 unfold ZN
 rw [Zcy h2]
 simp only [Zjv]
 rw [Zaz h h2]
 simp only [Zjv]
 rw [Yz (hl _ (getD_mem (by omega))) hn,ZcR h h2]
 rfl
theorem ZdG {n:Int} {l:List Int} (hn:n ≤ 391) (h:1 ≤ l.length) (h2:l.length ≤ 1000) (hl:∀ x ∈ l,litN n x = true):ZZ l = some (flipP l):=by
 unfold ZZ Ze
 rw [Zcy h2]
 simp only [Zjv]
 rw [Zaz h h2]
 simp only [Zjv]
 rw [Yz (hl _ (getD_mem (by omega))) hn,ZcR h h2]
 rfl
section
variable {s:BS} {a b:List Int} (ha:∀ x ∈ a,litN (lines s.1) x = true) (hb:∀ x ∈ b,litN (lines s.1) x = true)
include ha hb
theorem YJ {s':BS} (hg:Grow s.1 s'.1) {p:Int × Int} (hp:p ∈ a.zip b):litN (lines s'.1) p.1 = true ∧ litN (lines s'.1) p.2 = true:=by
 have:=ZlR hp
 exact ⟨litN_mono (ha _ this.1) hg.lines,litN_mono (hb _ this.2) hg.lines⟩
theorem ZcK:FOk andF2 s (a.zip b):=fun s' p hc hg hp=>have h:=YJ ha hb (s':=s') hg hp; Yc hc h.1 h.2
theorem Zec:FOk orF2 s (a.zip b):=fun s' p hc hg hp=>have h:=YJ ha hb (s':=s') hg hp; Zcx hc h.1 h.2
theorem Zdb:FOk xorF2 s (a.zip b):=fun s' p hc hg hp=>have h:=YJ ha hb (s':=s') hg hp; Xf hc h.1 h.2
theorem ZfE:AOk eqF s (a.zip b):=fun s' c p hc hg hl hp=>by
 have h:=YJ ha hb (s':=s') hg hp
 have g1:=Xf hc h.1 h.2
 have g2:=Yc g1.circ (a:=c) (b:=-(xorP s' p.1 p.2).1) (litN_mono hl g1.grow.lines) (by rw [ZG]; exact g1.lit)
 exact ⟨g2.circ,g1.grow.trans g2.grow,g2.lit⟩
end
section
variable {s:BS} (hs:CircP s.1) {a b:List Int} (hab:a.length = b.length) (hl:a.length ≤ 15) (ha:∀ x ∈ a,litN (lines s.1) x = true) (hb:∀ x ∈ b,litN (lines s.1) x = true)
include hs hab hl
theorem Zcc {f:BS → Int × Int → Int × BS} (hf:FOk f s (a.zip b)) {G:D.l04Net → Int → Int → Option (Int × D.l04Net)}
  (hG:∀ (s':BS) (p:Int × Int),CircP s'.1 → Grow s.1 s'.1 → p ∈ a.zip b → G (net s') p.1 p.2 = some ((f s' p).1,net (f s' p).2)) :
  iterN (fun (s1:Int × (List Int) × Int × Bool × (List D.Gate))=>
   if (decide (s1.1 < (len a))) then
    (get? a s1.1).bind fun x7=>
    (get? b s1.1).bind fun x8=>
    (G (D.l04Net.mk (D.Circuit.mk s1.2.2.1 s1.2.2.2.2) s1.2.2.2.1) x7 x8).bind fun x9=>
    (app? s1.2.1 ([x9.1]:List Int)).bind fun x10=>
    some (.inl ((w64 (s1.1 + 1)),x10,x9.2.c.Inputs,x9.2.full,x9.2.c.Gates))
   else
    some (.inr (s1.2.1,s1.2.2.1,s1.2.2.2.1,s1.2.2.2.2))) fuel (0,([]:List Int),s.1.Inputs,s.2,s.1.Gates) = some ((seqP f s (a.zip b)).1,(seqP f s (a.zip b)).2.1.Inputs,(seqP f s (a.zip b)).2.2,(seqP f s (a.zip b)).2.1.Gates):=by
 have hzl:(a.zip b).length = a.length:=by rw [Zkx]; omega
 refine spec_seq hs (by rw [hzl]; omega) hf (fun j out s' x hx hc hgr hout=>?_) (fun out s'=>?_)
 ·have hj:j < a.length:=by
   have:=(Zjy.1 hx).1
   rw [hzl] at this; exact this
  have hz:=zip_mem hx
  simp only
  rw [Zj2 (by rw [Za]; simp; omega),get?_nat,get?_nat,hz.1,hz.2]
  simp only [Zjv]
  have e:=hG s' x hc hgr (Zj9 hx)
  have e':G (D.l04Net.mk (D.Circuit.mk s'.1.Inputs s'.1.Gates) s'.2) x.1 x.2 = _:=e
  rw [e']
  simp only [Zjv]
  rw [XZ (by simp; omega)]
  simp only [Zjv]
  rw [Zd (by omega) (by omega)]
  rfl
 ·simp only
  rw [Zjz (by rw [Za,hzl]; simp)]
theorem Zca {f:BS → Int × Int → Int × BS} (hf:FOk f s (a.zip b)) {G:D.builder → Int → Int → Option (Int × D.builder)}
  (hG:∀ (s':BS) (p:Int × Int),CircP s'.1 → Grow s.1 s'.1 → p ∈ a.zip b → ∀ m,RelB m s' → ∃ m',G m p.1 p.2 = some ((f s' p).1,m') ∧ RelB m' (f s' p).2) {m:D.builder} (hm:RelB m s) :
  ∃ m',iterN (fun (s1:Int × (List Int) × Int × Bool × (List D.Gate) × (List (D.Gate × Int)))=>
   if (decide (s1.1 < (len a))) then
    (get? a s1.1).bind fun x14=>
    (get? b s1.1).bind fun x15=>
    (G (D.builder.mk (D.Circuit.mk s1.2.2.1 s1.2.2.2.2.1) s1.2.2.2.2.2 s1.2.2.2.1) x14 x15).bind fun x16=>
    (set? s1.2.1 s1.1 x16.1).bind fun x17=>
    some (.inl ((w64 (s1.1 + 1)),x17,x16.2.c.Inputs,x16.2.full,x16.2.c.Gates,x16.2.line))
   else
    some (.inr (s1.2.1,s1.2.2.1,s1.2.2.2.1,s1.2.2.2.2.1,s1.2.2.2.2.2))) fuel (0,List.replicate a.length (0:Int),m.c.Inputs,m.full,m.c.Gates,m.line) = some ((seqP f s (a.zip b)).1,m'.c.Inputs,m'.full,m'.c.Gates,m'.line) ∧ RelB m' (seqP f s (a.zip b)).2:=by
 have hzl:(a.zip b).length = a.length:=by rw [Zkx]; omega
 refine impl_seq hs (by rw [hzl]; omega) hf (by rw [hzl]; simp) (fun j L mm s' x hx hc hgr hrr hLl hpre=>?_) (fun L mm=>?_) hm
 ·have hj:j < a.length:=by
   have:=(Zjy.1 hx).1
   rw [hzl] at this; exact this
  rw [hzl] at hLl
  have hz:=zip_mem hx
  obtain ⟨m4,e4,r4⟩:=hG s' x hc hgr (Zj9 hx) mm hrr
  have e4':G (D.builder.mk (D.Circuit.mk mm.c.Inputs mm.c.Gates) mm.line mm.full) x.1 x.2 = _:=e4
  refine ⟨m4,?_,r4⟩
  simp only
  rw [Zj2 (by rw [Za]; simp; omega),get?_nat,get?_nat,hz.1,hz.2]
  simp only [Zjv]
  rw [e4']
  simp only [Zjv]
  rw [set?_nat (by omega)]
  simp only [Zjv]
  rw [Zd (by omega) (by omega)]
  rfl
 ·simp only
  rw [Zjz (by rw [Za,hzl]; simp)]
include ha hb
theorem Zil:iterN (fun (s2:Int × Int × Int × Bool × (List D.Gate))=>
   if (decide (s2.2.1 < (len a))) then
    (get? a s2.2.1).bind fun x20=>
    (get? b s2.2.1).bind fun x21=>
    (Zk fuel (D.l04Net.mk (D.Circuit.mk s2.2.2.1 s2.2.2.2.2) s2.2.2.2.1) x20 x21).bind fun x22=>
    (Zf fuel x22.2 s2.1 (w64 (0 - x22.1))).bind fun x23=>
    some (.inl (x23.1,(w64 (s2.2.1 + 1)),x23.2.c.Inputs,x23.2.full,x23.2.c.Gates))
   else
    some (.inr (s2.1,s2.2.2.1,s2.2.2.2.1,s2.2.2.2.2))) fuel (1,0,s.1.Inputs,s.2,s.1.Gates) = some ((accP eqF s 1 (a.zip b)).1,(accP eqF s 1 (a.zip b)).2.1.Inputs,(accP eqF s 1 (a.zip b)).2.2,(accP eqF s 1 (a.zip b)).2.1.Gates):=by
 have hzl:(a.zip b).length = a.length:=by rw [Zkx]; omega
 refine ZdH (f:=eqF) (s:=s) (c:=1) (l:=a.zip b) (fun j c s'=>(c,(j:Int),s'.1.Inputs,s'.2,s'.1.Gates)) (fun c s'=>(c,s'.1.Inputs,s'.2,s'.1.Gates)) hs (XO hs) (ZfE ha hb) (fun j c s' x hx hc hgr hlc=>?_) (fun c s'=>?_) (lt_fuel (by rw [hzl]; omega))
 ·have hj:j < a.length:=by
   have:=(Zjy.1 hx).1
   rw [hzl] at this; exact this
  have hz:=zip_mem hx
  have hxl:=YJ ha hb (s':=s') hgr (Zj9 hx)
  have g1:=Xf hc hxl.1 hxl.2
  simp only
  rw [Zj2 (by rw [Za]; simp; omega),get?_nat,get?_nat,hz.1,hz.2]
  simp only [Zjv]
  have e1:Zk fuel (D.l04Net.mk (D.Circuit.mk s'.1.Inputs s'.1.Gates) s'.2) x.1 x.2 = _:=ZbM (fuel:=fuel) hc hxl.1 hxl.2
  rw [e1]
  simp only [Zjv]
  have e2:=XD (fuel:=fuel) g1.circ (a:=c) (b:=-(xorP s' x.1 x.2).1) (litN_mono hlc g1.grow.lines) (by rw [ZG]; exact g1.lit)
  rw [Yz g1.lit g1.circ.lines1,e2]
  simp only [Zjv]
  rw [Zd (by omega) (by omega)]
  rfl
 ·simp only
  rw [Zjz (by rw [Za,hzl]; simp)]
theorem Ziu {m:D.builder} (hm:RelB m s):∃ m',Yg fuel m a b = some ((accP eqF s 1 (a.zip b)).1,m') ∧ RelB m' (accP eqF s 1 (a.zip b)).2:=by
 have hzl:(a.zip b).length = a.length:=by rw [Zkx]; omega
 unfold Yg
 obtain ⟨m2,h2,r2⟩:=Zdx (fuel:=fuel) (f:=eqF) (l:=a.zip b) (s:=s) (c:=1) (B:=fun (s1:Int × Int × Int × Bool × (List D.Gate) × (List (D.Gate × Int)))=>
  if (decide (s1.2.1 < (len a))) then
   (get? a s1.2.1).bind fun x1=>
   (get? b s1.2.1).bind fun x2=>
   (Zq (D.builder.mk (D.Circuit.mk s1.2.2.1 s1.2.2.2.2.1) s1.2.2.2.2.2 s1.2.2.2.1) x1 x2).bind fun x3=>
   (Zj x3.2 s1.1 (w64 (0 - x3.1))).bind fun x4=>
   some (.inl (x4.1,(w64 (s1.2.1 + 1)),x4.2.c.Inputs,x4.2.full,x4.2.c.Gates,x4.2.line))
  else
   some (.inr (s1.1,s1.2.2.1,s1.2.2.2.1,s1.2.2.2.2.1,s1.2.2.2.2.2))) (fun j c m=>(c,(j:Int),m.c.Inputs,m.full,m.c.Gates,m.line)) (fun c m=>(c,m.c.Inputs,m.full,m.c.Gates,m.line)) hs (XO hs) (by rw [hzl]; omega) (ZfE ha hb) (fun j c mm s' x hx hc hgr hrr hlc=>by
   have hj:j < a.length:=by
    have:=(Zjy.1 hx).1
    rw [hzl] at this; exact this
   have hz:=zip_mem hx
   have hxl:=YJ ha hb (s':=s') hgr (Zj9 hx)
   have g1:=Xf hc hxl.1 hxl.2
   obtain ⟨m3,e3,r3⟩:=ZbQ hc hxl.1 hxl.2 mm hrr
   obtain ⟨m4,e4,r4⟩:=XF r3 g1.circ (a:=c) (b:=-(xorP s' x.1 x.2).1) (litN_mono hlc g1.grow.lines) (by rw [ZG]; exact g1.lit)
   refine ⟨m4,?_,r4⟩
   simp only
   rw [Zj2 (by rw [Za]; simp; omega),get?_nat,get?_nat,hz.1,hz.2]
   simp only [Zjv]
   have e3':Zq (D.builder.mk (D.Circuit.mk mm.c.Inputs mm.c.Gates) mm.line mm.full) x.1 x.2 = _:=e3
   rw [e3']
   simp only [Zjv]
   rw [Yz g1.lit g1.circ.lines1,e4]
   simp only [Zjv]
   rw [Zd (by omega) (by omega)]
   rfl) (fun c mm=>by
   simp only
   rw [Zjz (by rw [Za,hzl]; simp)]) hm
 simp only [Zl3] at h2
 rw [h2]
 exact ⟨m2,rfl,r2⟩
theorem Zdv:Zt fuel (net s) a b = some (-(addP s a (negs b) 1).2.1,net (addP s a (negs b) 1).2.2):=by
 have hnl:=negs_lits hb
 have ga:=YZ hs (by rw [negs_len]; exact hab) ha hnl (XO hs)
 unfold Zt
 rw [spec_not hs.lines1 (by omega) hb]
 simp only [Zjv]
 rw [ZaO hs (by omega) (by rw [negs_len]; exact hab) ha hnl (XO hs)]
 simp only [Zjv]
 rw [Yz ga.lit ga.circ.lines1]
theorem Zd5 {m:D.builder} (hm:RelB m s):∃ m',ZK fuel m a b = some (-(addP s a (negs b) 1).2.1,m') ∧ RelB m' (addP s a (negs b) 1).2.2:=by
 have hnl:=negs_lits hb
 have ga:=YZ hs (by rw [negs_len]; exact hab) ha hnl (XO hs)
 obtain ⟨m2,h2,r2⟩:=ZaN (fuel:=fuel) hs hm (by omega) (by rw [negs_len]; exact hab) ha hnl (XO hs)
 unfold ZK
 rw [impl_opp hs.lines1 (by omega) hb]
 simp only [Zjv]
 rw [h2]
 simp only [Zjv]
 rw [Yz ga.lit ga.circ.lines1]
 exact ⟨m2,rfl,r2⟩
end
end Go.Proofs.YthilnjkcemdfeaaGreat.Cc
end
section
namespace Go.Proofs.YthilnjkcemdfeaaGreat.Cc
open Go.GL
variable {fuel:Nat} [FU fuel]
section
variable {s:BS} (hs:CircP s.1) {op:Int} {a b:List Int} (ho:3 ≤ op ∧ op ≤ 16) (hab:a.length = b.length) (hl:a.length ≤ 15) (hw:1 ≤ a.length) (ha:∀ x ∈ a,litN (lines s.1) x = true) (hb:∀ x ∈ b,litN (lines s.1) x = true)
include hs ho hab hl hw ha hb
def opW (op:Int) (n:Nat):Nat:=if 14 ≤ op then 1 else n
theorem op_good:GoodL s (opW op a.length) (opP s op a b):=by
 have hnl:=negs_lits hb
 have hzl:(a.zip b).length = a.length:=by rw [Zkx]; omega
 have hla:litN (lines s.1) (a.getD (a.length - 1) 0) = true:=ha _ (getD_mem (by omega))
 have one:∀ {x:Int} {t:BS},litN (lines t.1) x = true → ∀ y ∈ [x],litN (lines t.1) y = true:=fun h y hy=>by simp only [Zkl] at hy; subst hy; exact h
 have less:∀ {u v:List Int},u.length = v.length → (∀ x ∈ u,litN (lines s.1) x = true) → (∀ x ∈ v,litN (lines s.1) x = true) → GoodL s 1 (lessP s u v):=fun huv hu hv=>by
  have g:=YZ hs (by rw [negs_len]; exact huv) hu (negs_lits hv) (XO hs)
  exact ⟨g.circ,g.grow,rfl,one (by rw [ZG]; exact g.lit)⟩
 rcases Zc9 ho with rfl | rfl | rfl | rfl | rfl | rfl | rfl | rfl | rfl | rfl | rfl | rfl | rfl | rfl
 ·have g := YZ hs hab ha hb (Yw hs)
  exact ⟨g.circ,g.grow,g.len,g.lits⟩
 ·have g := YZ hs (by rw [negs_len]; exact hab) ha hnl (XO hs)
  exact ⟨g.circ,g.grow,g.len,g.lits⟩
 ·exact ZbS hs hab ha hb a.length (ZjF _)
 ·have g := Zba hab ha hb hs a.length (ZjF _)
  exact ⟨g.circ,g.grow,g.clen,g.clits⟩
 ·have g := Zba hab ha hb hs a.length (ZjF _)
  exact ⟨g.circ,g.grow,g.len,g.lits⟩
 ·have g := seq_good hs (ZcK ha hb)
  exact ⟨g.circ,g.grow,g.len.trans hzl,g.lits⟩
 ·have g := seq_good hs (Zec ha hb)
  exact ⟨g.circ,g.grow,g.len.trans hzl,g.lits⟩
 ·have g := seq_good hs (Zdb ha hb)
  exact ⟨g.circ,g.grow,g.len.trans hzl,g.lits⟩
 ·exact ZcN hab hl ha hb (Yw hs) hs hw (L:=true)
 ·exact ZcN hab hl ha hb (Yw hs) hs hw (L:=false)
 ·exact ZcN hab hl ha hb hla hs hw (L:=false)
 ·have g := Zfd hs (XO hs) (ZfE ha hb)
  exact ⟨g.circ,g.grow,rfl,one g.lit⟩
 ·exact less hab ha hb
 ·exact less (by rw [Xo,Xo]; exact hab) (X6 (by omega) ha) (X6 (by omega) hb)
theorem spec_op:ZB fuel (net s) op a b = some ((opP s op a b).1,net (opP s op a b).2):=by
 have hnl:=negs_lits hb
 have hla:litN (lines s.1) (a.getD (a.length - 1) 0) = true:=ha _ (getD_mem (by omega))
 rcases Zc9 ho with rfl | rfl | rfl | rfl | rfl | rfl | rfl | rfl | rfl | rfl | rfl | rfl | rfl | rfl
 all_goals unfold ZB opP
 all_goals simp only [Int.reduceBEq,Int.reduceEq,Bool.or_self,Bool.or_true,Zl0,Zj1,Zkd,ZjP]
 ·rw [ZaO hs (by omega) hab ha hb (Yw hs)]; rfl
 ·rw [spec_not hs.lines1 (by omega) hb]
  simp only [Zjv]
  rw [ZaO hs (by omega) (by rw [negs_len]; exact hab) ha hnl (XO hs)]; rfl
 ·rw [Zhw hs hab (by omega) ha hb]; rfl
 ·rw [Ze8 hs hab (by omega) ha hb]; rfl
 ·rw [Ze8 hs hab (by omega) ha hb]; rfl
 ·have h := Zcc (fuel := fuel) hs hab hl (ZcK ha hb) (G := Zf fuel) (fun s' p hc hg hp => have h := YJ ha hb (s' := s') hg hp; XD hc h.1 h.2)
  rw [h]; rfl
 ·have h := Zcc (fuel := fuel) hs hab hl (Zec ha hb) (G := Zm fuel) (fun s' p hc hg hp => have h := YJ ha hb (s' := s') hg hp; Zcw hc h.1 h.2)
  rw [h]; rfl
 ·have h := Zcc (fuel := fuel) hs hab hl (Zdb ha hb) (G := Zk fuel) (fun s' p hc hg hp => have h := YJ ha hb (s' := s') hg hp; ZbM hc h.1 h.2)
  rw [h]; rfl
 ·have h := ZaC (fuel := fuel) hs hab hl hw ha hb (Yw hs) (op := 11)
  unfold Z5
  rw [Zjz (by decide),h]; rfl
 ·have h := ZaC (fuel := fuel) hs hab hl hw ha hb (Yw hs) (op := 12)
  unfold Z5
  rw [Zjz (by decide),h]; rfl
 ·have h := ZaC (fuel := fuel) hs hab hl hw ha hb hla (op := 13)
  unfold Z5
  rw [Zj2 (by decide),Zaz hw (by omega)]
  simp only [Zjv]
  rw [h]; rfl
 ·have h := Zil (fuel := fuel) hs hab hl ha hb
  rw [h]; rfl
 ·rw [Zdv hs hab hl ha hb]; rfl
 ·rw [ZdJ hs.lines1 hw (by omega) ha, ZdJ hs.lines1 (by omega) (by omega) hb]
  simp only [Zjv]
  rw [Zdv hs (by rw [Xo,Xo]; exact hab) (by rw [Xo]; exact hl) (X6 (by omega) ha) (X6 (by omega) hb)]; rfl
theorem impl_op {m:D.builder} (hm:RelB m s):∃ m',Zw fuel m op a b = some ((opP s op a b).1,m') ∧ RelB m' (opP s op a b).2:=by
 have hnl:=negs_lits hb
 have hla:litN (lines s.1) (a.getD (a.length - 1) 0) = true:=ha _ (getD_mem (by omega))
 rcases Zc9 ho with rfl | rfl | rfl | rfl | rfl | rfl | rfl | rfl | rfl | rfl | rfl | rfl | rfl | rfl
 all_goals unfold Zw opP
 all_goals simp only [Int.reduceBEq,Int.reduceEq,Bool.or_self,Bool.or_true,Zl0,Zj1,Zkd,ZjP]
 ·obtain ⟨m1, h1, r1⟩ := ZaN (fuel := fuel) hs hm (by omega) hab ha hb (Yw hs)
  rw [h1]; exact ⟨m1,rfl,r1⟩
 ·rw [impl_opp hs.lines1 (by omega) hb]
  simp only [Zjv]
  obtain ⟨m1,h1,r1⟩:=ZaN (fuel:=fuel) hs hm (by omega) (by rw [negs_len]; exact hab) ha hnl (XO hs)
  rw [h1]; exact ⟨m1,rfl,r1⟩
 ·obtain ⟨m1, h1, r1⟩ := Zii (fuel := fuel) hs hab (by omega) ha hb hm
  rw [h1]; exact ⟨m1,rfl,r1⟩
 ·obtain ⟨m1, h1, r1⟩ := Zep (fuel := fuel) hs hab (by omega) ha hb hm
  rw [h1]; exact ⟨m1,rfl,r1⟩
 ·obtain ⟨m1, h1, r1⟩ := Zep (fuel := fuel) hs hab (by omega) ha hb hm
  rw [h1]; exact ⟨m1,rfl,r1⟩
 ·obtain ⟨m1, h1, r1⟩ := Zca (fuel := fuel) hs hab hl (ZcK ha hb) (G := Zj) (fun s' p hc hg hp m hm => have h := YJ ha hb (s' := s') hg hp; XF hm hc h.1 h.2) hm
  rw [mk?_len (by unfold room; omega)]
  simp only [Zjv]
  rw [h1]; exact ⟨m1,rfl,r1⟩
 ·obtain ⟨m1, h1, r1⟩ := Zca (fuel := fuel) hs hab hl (Zec ha hb) (G := Zp) (fun s' p hc hg hp m hm => have h := YJ ha hb (s' := s') hg hp; Zcz hc h.1 h.2 m hm) hm
  rw [mk?_len (by unfold room; omega)]
  simp only [Zjv]
  rw [h1]; exact ⟨m1,rfl,r1⟩
 ·obtain ⟨m1, h1, r1⟩ := Zca (fuel := fuel) hs hab hl (Zdb ha hb) (G := Zq) (fun s' p hc hg hp m hm => have h := YJ ha hb (s' := s') hg hp; ZbQ hc h.1 h.2 m hm) hm
  rw [mk?_len (by unfold room; omega)]
  simp only [Zjv]
  rw [h1]; exact ⟨m1,rfl,r1⟩
 ·obtain ⟨m1, h1, r1⟩ := ZaR (fuel := fuel) hs hab hl hw ha hb (Yw hs) (op := 11) hm
  unfold ZO
  rw [Zjz (by decide),h1]; exact ⟨m1,rfl,r1⟩
 ·obtain ⟨m1, h1, r1⟩ := ZaR (fuel := fuel) hs hab hl hw ha hb (Yw hs) (op := 12) hm
  unfold ZO
  rw [Zjz (by decide),h1]; exact ⟨m1,rfl,r1⟩
 ·obtain ⟨m1, h1, r1⟩ := ZaR (fuel := fuel) hs hab hl hw ha hb hla (op := 13) hm
  unfold ZO
  rw [Zj2 (by decide),Zaz hw (by omega)]
  simp only [Zjv]
  rw [h1]; exact ⟨m1,rfl,r1⟩
 ·obtain ⟨m1, h1, r1⟩ := Ziu (fuel := fuel) hs hab hl ha hb hm
  rw [h1]; exact ⟨m1,rfl,r1⟩
 ·obtain ⟨m1, h1, r1⟩ := Zd5 (fuel := fuel) hs hab hl ha hb hm
  rw [h1]; exact ⟨m1,rfl,r1⟩
 ·rw [ZdG hs.lines1 hw (by omega) ha, ZdG hs.lines1 (by omega) (by omega) hb]
  simp only [Zjv]
  obtain ⟨m1,h1,r1⟩:=Zd5 (fuel:=fuel) hs (by rw [Xo,Xo]; exact hab) (by rw [Xo]; exact hl) (X6 (by omega) ha) (X6 (by omega) hb) hm
  rw [h1]; exact ⟨m1,rfl,r1⟩
end
end Go.Proofs.YthilnjkcemdfeaaGreat.Cc
end
section
namespace Go.Proofs.YthilnjkcemdfeaaGreat
open Go.GL
def fuel:Nat:=4194400
theorem lt_fuel {n:Nat} (h:n ≤ 1048576):n < fuel:=by unfold fuel; omega
theorem Zdt {p q:List Int} (h:p.length ≤ 1048576):YS fuel p q = some (decide (p = q)):=Zc0 (by omega) (lt_fuel h)
theorem Zeo {α:Type} {l:List α} {f:α → Option Bool} {b:α → Bool} (hf:∀ x ∈ l,f x = some (b x)) (hb:l.length ≤ 9223372036854775807):∀ (d i:Nat),i + d = l.length → ∀ n,d < n →
  iterN (fun (s1:Int)=>
   if (decide (s1 < (len l))) then
    (get? l s1).bind fun x1=>
    (f x1).bind fun x2=>
    if (!x2) then
     some (.inr (.inr false))
    else
     some (.inl ((w64 (s1 + 1))))
   else
    some (.inr (.inl ()))) n (i:Int) = some (if (l.drop i).all b then (.inl ():Unit ⊕ Bool) else .inr false)
 | 0,i,hi,n,hn=>by
  obtain ⟨n,rfl⟩ : ∃ j,n = j + 1:=⟨n - 1,by omega⟩
  unfold iterN
  rw [Zjz (by rw [Za]; simp; omega)]
  simp [Zkn (show l.length ≤ i by omega)]
 | d + 1,i,hi,n,hn=>by
  obtain ⟨n,rfl⟩ : ∃ j,n = j + 1:=⟨n - 1,by omega⟩
  have hp:i < l.length:=by omega
  unfold iterN
  rw [Zj2 (by rw [Za]; simp; omega),get?_nat,Zjw hp]
  simp only [Zjv]
  rw [hf _ (Zk0 hp),ZjX hp]
  simp only [Zjv,List.all_cons]
  by_cases h:b l[i] = true
  ·rw [Zjz (by simp [h])]
   simp only
   rw [Zd (by omega) (by omega),show ((i:Int) + 1) = ((i + 1:Nat):Int) by omega,Zeo hf hb d (i + 1) (by omega) n (by omega)]
   simp only [h,Zk4]
  ·rw [Zj2 (by simp [h])]
   simp [h]
theorem Zit {w:Int} (h1:1 ≤ w) (h2:w ≤ 16):∃ m:Int,shl? 1 w = some m ∧ shl? 1 (IntKind.u64.wrap w) = some m ∧ w64 (m - 1) = m - 1:=by
 have:w = 1 ∨ w = 2 ∨ w = 3 ∨ w = 4 ∨ w = 5 ∨ w = 6 ∨ w = 7 ∨ w = 8 ∨ w = 9 ∨ w = 10 ∨ w = 11 ∨ w = 12 ∨ w = 13 ∨ w = 14 ∨ w = 15 ∨ w = 16:=by omega
 rcases this with rfl | rfl | rfl | rfl | rfl | rfl | rfl | rfl | rfl | rfl | rfl | rfl | rfl | rfl | rfl | rfl <;> exact ⟨_,rfl,by decide,by decide⟩
theorem Zdy (w v:Int):∃ b,YF w v = some b ∧ Xl w v = some b:=by
 unfold YF Xl Zo Yi
 by_cases h:1 ≤ w ∧ w ≤ 16
 ·obtain ⟨m, h1, h2, h3⟩ := Zit h.1 h.2
  refine ⟨decide (0 ≤ v) && decide (v < m),?_,?_⟩
  ·simp only [ge_iff_le, h.1, h.2, decide_true, Zmh, Zjv, Zkd, h1, h3, Zk4, Option.some.injEq]
   rw [Zlh]
   simp only [Zj0,Zj5]
   omega
  ·by_cases hv : 0 ≤ v
   ·simp [h.1,h.2,hv,h2]
   ·simp [h.1,h.2,hv]
 ·refine ⟨false, ?_, ?_⟩
  ·by_cases a : 1 ≤ w
   ·have b : ¬ w ≤ 16 := fun b => h ⟨a, b⟩
    simp [a,b]
   ·simp [a]
  ·by_cases a : 1 ≤ w
   ·have b : ¬ w ≤ 16 := fun b => h ⟨a, b⟩
    simp [a,b]
   ·simp [a]
theorem ZbJ {c:Bool} {b:Bool}:(if c = true then some b else some default) = some (if c = true then b else default):=by split <;> rfl
def wordB (w v:Int):Bool:=(YF w v).getD false
theorem ZgX (w v:Int):YF w v = some (wordB w v):=by
 obtain ⟨b,h,-⟩:=Zdy w v
 simp [wordB,h]
theorem ZgK (w v:Int):Xl w v = some (wordB w v):=by
 obtain ⟨b,h,h'⟩:=Zdy w v
 simp [wordB,h,h']
theorem ZcI (s:Str):Str.eqb s s = true:=by unfold Str.eqb; simp
theorem Zdm {S ρ α σ:Type} {l:List α} {B:S → Option (S ⊕ ρ)} (enc:Nat → σ → S) (I:List α → σ → Prop) (R:ρ → Prop)
  (hs:∀ k x xs a,k < l.length → l[k]? = some x → l.length = k + (x :: xs).length → I (x :: xs) a → (∃ a',B (enc k a) = some (.inl (enc (k + 1) a')) ∧ I xs a') ∨ ∃ r,B (enc k a) = some (.inr r) ∧ R r)
  (he:∀ a,I [] a → ∃ r,B (enc l.length a) = some (.inr r) ∧ R r) :
  ∀ (ys:List α) (k:Nat) (a:σ) (n:Nat),l.drop k = ys → k ≤ l.length → I ys a → ys.length < n → ∃ r,iterN B n (enc k a) = some r ∧ R r
 | [],k,a,n,hd,hk,hI,hn=>by
  obtain ⟨n,rfl⟩ : ∃ j,n = j + 1:=⟨n - 1,by omega⟩
  have:k = l.length:=by
   have:=congrArg List.length hd
   simp at this; omega
  subst this
  obtain ⟨r,h1,h2⟩:=he a hI
  exact ⟨r,by unfold iterN; rw [h1],h2⟩
 | x :: xs,k,a,n,hd,hk,hI,hn=>by
  obtain ⟨n,rfl⟩ : ∃ j,n = j + 1:=⟨n - 1,by omega⟩
  have hl:l.length = k + (x :: xs).length:=by
   have:=congrArg List.length hd
   simp at this ⊢; omega
  have hk':k < l.length:=by simp at hl; omega
  have hx:l[k]? = some x:=by
   have h0:(l.drop k)[0]? = some x:=by rw [hd]; rfl
   rw [Zkc] at h0; simpa using h0
  rcases hs k x xs a hk' hx hl hI with ⟨a',h1,h2⟩ | ⟨r,h1,h2⟩
  ·obtain ⟨r, g1, g2⟩ := Zdm enc I R hs he xs (k + 1) a' n (by rw [← ZlW, hd]; rfl) (by omega) h2 (by simp at hn; omega)
   exact ⟨r,by unfold iterN; rw [h1]; exact g1,g2⟩
  ·exact ⟨r,by unfold iterN; rw [h1],h2⟩
theorem Ye {S ρ α σ:Type} {l:List α} {B:S → Option (S ⊕ ρ)} (enc:Nat → σ → S) (I:List α → σ → Prop) (R:ρ → Prop)
  (hs:∀ k x xs a,k < l.length → l[k]? = some x → l.length = k + (x :: xs).length → I (x :: xs) a → (∃ a',B (enc k a) = some (.inl (enc (k + 1) a')) ∧ I xs a') ∨ ∃ r,B (enc k a) = some (.inr r) ∧ R r)
  (he:∀ a,I [] a → ∃ r,B (enc l.length a) = some (.inr r) ∧ R r) {a:σ} {n:Nat} (hI:I l a) (hn:l.length < n):∃ r,iterN B n (enc 0 a) = some r ∧ R r:=
 Zdm enc I R hs he l 0 a n rfl (Zk5 _) hI hn
mutual
def msz:D.Term → Nat
 | ⟨_,_,_,s,k⟩=>s.bytes.length + k.length + mszs k
def mszs:List D.Term → Nat
 | []=>0
 | x :: l=>msz x + mszs l
end
theorem XW (t:D.Term):msz t = t.Name.bytes.length + t.Kids.length + mszs t.Kids:=by cases t; rw [msz]
theorem ZaX (x:D.Term) (l:List D.Term):mszs (x :: l) = msz x + mszs l:=by rw [mszs]
theorem Zer:mszs [] = 0:=by rw [mszs]
theorem XC {x:D.Term}:∀ {l:List D.Term},x ∈ l → msz x ≤ mszs l
 | y :: l,h=>by
  rw [ZaX]
  rcases ZjW.1 h with rfl | h
  ·omega
  ·have:=XC h; omega
theorem Zem (t:D.Term):YD t ↔ fitInt t.Op ∧ fitInt t.W ∧ fitInt t.N ∧ t.Name.bytes.length ≤ 9223372036854775807 ∧ fitList YD t.Kids:=by
 cases t; rw [YD,Zak]; rfl
theorem szT:∀ n:Nat,(∀ (t:D.Term) (m:Int),YD t → 0 ≤ m → m ≤ 1048576 → 2 * m + 3 ≤ n → ∃ r,Y4 n t m = some r ∧ (r < 0 ∨ 0 ≤ r ∧ r = m - msz t)) ∧
  (∀ (l:List D.Term) (m:Int),fitList YD l → 0 ≤ m → m ≤ 1048576 → 2 * m + 2 ≤ n → ∃ r,YY n l m = some r ∧ (r < 0 ∨ 0 ≤ r ∧ r = m - l.length - mszs l)):=by
 intro n
 induction n with
 | zero=>exact ⟨fun t m _ _ _ _=>by omega,fun l m _ _ _ _=>by omega⟩
 | succ n ih=>
  refine ⟨fun t m hf h0 h1 hn=>?_,fun l m hf h0 h1 hn=>?_⟩
  ·obtain ⟨-, -, -, hs, hk⟩ := (Zem t).1 hf
   rw [XW]
   unfold Y4
   rw [Za,Zd (by omega) (by omega)]
   by_cases c:m - (t.Name.bytes.length:Int) < 0
   ·rw [Zj2 (by simpa using c)]; exact ⟨_,rfl,.inl (by decide)⟩
   ·rw [Zjz (by simpa using c)]
    obtain ⟨r,g1,g2⟩:=ih.2 t.Kids (m - (t.Name.bytes.length:Int)) hk (by omega) (by omega) (by omega)
    rw [g1]
    simp only [Zjv]
    rcases g2 with g2 | ⟨g2,g3⟩
    ·rw [Zj2 (by simpa using g2)]; exact ⟨_,rfl,.inl (by decide)⟩
    ·rw [Zjz (by simpa using g2)]; exact ⟨_,rfl,.inr ⟨g2,by omega⟩⟩
  ·obtain ⟨hl, hk⟩ := hf
   unfold YY
   rw [Za,Zd (by omega) (by omega)]
   by_cases c:m - (l.length:Int) < 0
   ·rw [Zj2 (by simpa using c)]; exact ⟨_,rfl,.inl (by decide)⟩
   ·rw [Zjz (by simpa using c)]
    obtain ⟨r,g1,g2⟩:=Ye (l:=l) (n:=n) (σ:=Int) (ρ:=Int ⊕ Int) (B:=fun (s1:Int × Int)=>
      if (decide (s1.2 < (l.length:Int))) then
       (get? l s1.2).bind fun x1=>
       (Y4 n x1 s1.1).bind fun x2=>
       if (decide (x2 < 0)) then
        some (.inr (.inr (-1)))
       else
        some (.inl (x2,(w64 (s1.2 + 1))))
      else
       some (.inr (.inl (s1.1)))) (fun k (a:Int)=>(a,(k:Int))) (fun ys a=>0 ≤ a ∧ a ≤ m - l.length ∧ a - mszs ys = m - l.length - mszs l ∧ ∀ x ∈ ys,YD x) (fun r=>r = .inr (-1) ∨ ∃ v,r = .inl v ∧ 0 ≤ v ∧ v = m - l.length - mszs l)
      (fun k x xs a hk' hx hlen ⟨i0, i1, i2, i3⟩ => by
       rw [ZaX] at i2
       simp at hlen
       obtain ⟨r,g1,g2⟩:=ih.1 x a (i3 x (by simp)) i0 (by omega) (by omega)
       simp only [get?_nat,hx,Zjv,g1]
       rw [Zj2 (by simpa using hk')]
       rcases g2 with g2 | ⟨g2,g3⟩
       ·rw [Zj2 (by simpa using g2)]; exact .inr ⟨_,rfl,.inl rfl⟩
       ·rw [Zjz (by simpa using g2)]
        refine .inl ⟨r,by rw [Zd (by omega) (by omega)]; rfl,g2,by omega,by omega,fun y hy=>i3 y (by simp [hy])⟩)
      (fun a ⟨i0, i1, i2, _⟩ => by
       rw [Zer] at i2
       simp only
       rw [Zjz (by simp)]
       exact ⟨_,rfl,.inr ⟨a,rfl,i0,by omega⟩⟩) (a:=m - l.length) ⟨by omega,by omega,rfl,hk⟩ (by omega)
    rw [show ((0:Nat):Int) = 0 from rfl] at g1
    rw [g1]
    simp only [Zjv]
    rcases g2 with rfl | ⟨v,rfl,g2,g3⟩
    ·exact ⟨_,rfl,.inl (by decide)⟩
    ·exact ⟨_,rfl,.inr ⟨g2,by omega⟩⟩
def sml (l:List D.Term):Prop:=l.length + mszs l ≤ 1048576
theorem toT:∀ n:Nat,(∀ t:D.Term,msz t ≤ 1048576 → 1048580 + 2 * msz t + 1 ≤ n → ZX n t = some t) ∧ (∀ l:List D.Term,sml l → 1048580 + 2 * (l.length + mszs l) ≤ n → YV n l = some l):=by
 intro n
 induction n with
 | zero=>exact ⟨fun t _ _=>by omega,fun l _ _=>by omega⟩
 | succ n ih=>
  refine ⟨fun t h hn=>?_,fun l h hn=>?_⟩
  ·have := XW t
   unfold ZX
   rw [ih.2 t.Kids (by unfold sml; omega) (by omega)]
   cases t; rfl
  ·unfold sml at h
   unfold YV
   rw [mk?_len (by unfold room; omega)]
   simp only [Zjv]
   obtain ⟨r,g1,g2⟩:=Ye (l:=l) (n:=n) (σ:=List D.Term) (ρ:=List D.Term) (B:=fun (s1:Int × (List D.Term))=>
     if (decide (s1.1 < (len l))) then
      (get? l s1.1).bind fun x2=>
      (ZX n x2).bind fun x3=>
      (set? s1.2 s1.1 x3).bind fun x4=>
      some (.inl ((w64 (s1.1 + 1)),x4))
     else
      some (.inr (s1.2))) (fun k (a:List D.Term)=>((k:Int),a)) (fun ys a=>(∃ zs:List D.Term,a = l.take (l.length - ys.length) ++ zs ∧ zs.length = ys.length) ∧ ∀ x ∈ ys,x ∈ l) (fun r=>r = l)
     (fun k x xs a hk' hx hlen ⟨⟨zs, hz, hz'⟩, hm⟩ => by
      have hxl:=hm x (by simp)
      have:=XC hxl
      simp only [ZjT] at hlen hz' hz
      have hpos:0 < l.length:=by omega
      simp only [get?_nat,hx,Zjv,Za]
      rw [Zj2 (by simpa using hk'),ih.1 x (by omega) (by omega)]
      simp only [Zjv]
      obtain ⟨z,zs,rfl⟩ : ∃ z zs',zs = z :: zs':=by cases zs with | nil=>simp at hz' | cons z zs=>exact ⟨_,_,rfl⟩
      have e1:l.length - (xs.length + 1) = k:=by omega
      rw [e1] at hz
      subst hz
      rw [set?_nat (by simp at hz' ⊢; omega)]
      refine .inl ⟨_,by simp only [Zjv]; rw [Zd (by omega) (by omega)]; rfl,⟨zs,?_,by simpa using hz'⟩,fun y hy=>hm y (by simp [hy])⟩
      have e2:l.length - xs.length = k + 1:=by omega
      rw [e2,List.take_add_one,hx]
      have e3:(l.take k).length = k:=by simp; omega
      rw [Zky _ _ (by omega)]
      simp [e3])
     (fun a ⟨⟨zs, hz, hz'⟩, _⟩ => by
      simp only
      rw [Zjz (by rw [Za]; simp)]
      simp at hz'
      subst hz'
      simp at hz
      exact ⟨_,rfl,hz⟩) (a:=List.replicate l.length _) ⟨⟨_,(by simp; rfl),(by simp)⟩,fun x hx=>hx⟩ (by omega)
   rw [show ((0:Nat):Int) = 0 from rfl] at g1
   rw [g1,g2]
   rfl
theorem eqT:∀ n:Nat,(∀ t:D.Term,msz t ≤ 1048576 → 1048580 + 2 * msz t + 1 ≤ n → Y7 n t t = some true) ∧ (∀ l:List D.Term,sml l → 1048580 + 2 * (l.length + mszs l) ≤ n → YX n l l = some true):=by
 intro n
 induction n with
 | zero=>exact ⟨fun t _ _=>by omega,fun l _ _=>by omega⟩
 | succ n ih=>
  refine ⟨fun t h hn=>?_,fun l h hn=>?_⟩
  ·have := XW t
   unfold Y7
   rw [ih.2 t.Kids (by unfold sml; omega) (by omega)]
   simp [ZcI]
  ·unfold sml at h
   unfold YX
   rw [Zjz (by simp)]
   obtain ⟨r,g1,g2⟩:=Ye (l:=l) (n:=n) (σ:=Unit) (ρ:=Unit ⊕ Bool) (B:=fun (s1:Int)=>
     if (decide (s1 < (len l))) then
      (get? l s1).bind fun x1=>
      (get? l s1).bind fun x2=>
      (Y7 n x1 x2).bind fun x3=>
      if (!x3) then
       some (.inr (.inr false))
      else
       some (.inl ((w64 (s1 + 1))))
     else
      some (.inr (.inl ()))) (fun k (_:Unit)=>(k:Int)) (fun ys _=>∀ x ∈ ys,x ∈ l) (fun r=>r = (.inl ():Unit ⊕ Bool))
     (fun k x xs a hk' hx hlen hm => by
      have hxl:=hm x (by simp)
      have:=XC hxl
      have hpos:0 < l.length:=by omega
      simp only [get?_nat,hx,Zjv,Za]
      rw [Zj2 (by simpa using hk'),ih.1 x (by omega) (by omega)]
      refine .inl ⟨(),?_,fun y hy=>hm y (by simp [hy])⟩
      simp only [Zjv]
      rw [Zjz (by simp),Zd (by omega) (by omega)]; rfl)
     (fun a _ => by
      rw [Zjz (by rw [Za]; simp)]
      exact ⟨_,rfl,rfl⟩) (a:=()) (fun x hx=>hx) (by omega)
   rw [show ((0:Nat):Int) = 0 from rfl] at g1
   rw [g1,g2]
   rfl
set_option maxRecDepth 100000
mutual
def cnt:D.Term → Nat
 | ⟨_,_,_,_,k⟩=>1 + cnts k
def cnts:List D.Term → Nat
 | []=>0
 | x :: l=>cnt x + cnts l
end
theorem Xq (t:D.Term):cnt t = 1 + cnts t.Kids:=by cases t; rw [cnt]
theorem Zbc (x:D.Term) (l:List D.Term):cnts (x :: l) = cnt x + cnts l:=by rw [cnts]
theorem ZaK:cnts [] = 0:=by rw [cnts]
theorem Xd {x:D.Term}:∀ {l:List D.Term},x ∈ l → cnt x ≤ cnts l
 | y :: l,h=>by
  rw [Zbc]
  rcases ZjW.1 h with rfl | h
  ·omega
  ·have:=Xd h; omega
def lf (m:Int) (c:Nat):Int:=if m - c < 0 then -1 else m - c
theorem few:∀ (n:Nat) (t:D.Term) (m:Int),msz t ≤ 1048576 → 0 ≤ m → m ≤ 240 → 1048580 + m ≤ n → YE n t m = some (decide (lf m (cnt t) ≥ 0),lf m (cnt t)):=by
 intro n
 induction n with
 | zero=>intro t m _ _ _ _; omega
 | succ n ih=>
  intro t m hs h0 h1 hn
  have hz:=XW t
  unfold YE
  rw [Zd (by omega) (by omega)]
  obtain ⟨r,g1,g2⟩:=Ye (l:=t.Kids) (n:=n) (σ:=Int) (ρ:=Int) (B:=fun (s1:Int × Int)=>
    if ((decide (s1.1 < (len t.Kids))) && (decide (s1.2 ≥ 0))) then
     (get? t.Kids s1.1).bind fun x1=>
     (YE n x1 s1.2).bind fun x2=>
     some (.inl ((w64 (s1.1 + 1)),x2.2))
    else
     some (.inr (s1.2))) (fun k a=>((k:Int),a)) (fun ys a=>-1 ≤ a ∧ a ≤ m - 1 ∧ lf a (cnts ys) = lf (m - 1) (cnts t.Kids) ∧ ∀ x ∈ ys,x ∈ t.Kids) (fun r=>r = lf (m - 1) (cnts t.Kids))
    (fun k x xs a hk' hx hlen ⟨i0, i1, i2, i3⟩ => by
     have:=XC (i3 x (by simp))
     rw [Zbc] at i2
     simp only
     by_cases ha:0 ≤ a
     ·refine .inl ⟨lf a (cnt x), ?_, ?_, ?_, ?_, fun y hy => i3 y (by simp [hy])⟩
      ·rw [Zj2 (by rw [Za]; simp; omega), get?_nat, hx]
       simp only [Zjv]
       rw [ih x a (by omega) ha (by omega) (by omega),Zd (by omega) (by omega)]; rfl
      ·unfold lf; split <;> omega
      ·unfold lf; split <;> omega
      ·rw [← i2]; unfold lf; split <;> split <;> split <;> omega
     ·refine .inr ⟨a, by rw [Zjz (by simp; omega)], ?_⟩
      rw [← i2]; unfold lf; split <;> omega)
    (fun a ⟨i0, i1, i2, _⟩ => by
     rw [ZaK] at i2
     simp only
     rw [Zjz (by rw [Za]; simp)]
     refine ⟨_,rfl,?_⟩
     rw [← i2]; unfold lf; split <;> omega) (a:=m - 1) ⟨by omega,by omega,rfl,fun x hx=>hx⟩ (by omega)
  rw [show ((0:Nat):Int) = 0 from rfl] at g1
  rw [g1,g2]
  have e:lf (m - 1) (cnts t.Kids) = lf m (cnt t):=by rw [Xq]; unfold lf; split <;> split <;> omega
  simp only [Zjv,e]
def okF (k:Nat):List UInt8 → Bool
 | []=>true
 | b :: l=>(decide (97 ≤ b.toNat ∧ b.toNat ≤ 122) || (decide (k ≠ 0) && decide (48 ≤ b.toNat ∧ b.toNat ≤ 57))) && okF (k + 1) l
theorem ZeX (k:Nat) (b:UInt8) (l:List UInt8):okF k (b :: l) = ((decide (97 ≤ b.toNat ∧ b.toNat ≤ 122) || (decide (k ≠ 0) && decide (48 ≤ b.toNat ∧ b.toNat ≤ 57))) && okF (k + 1) l):=rfl
def nameB (s:Str):Bool:=okF 0 s.bytes && decide (1 ≤ s.bytes.length ∧ s.bytes.length ≤ 8)
theorem Zfb {s:Str} {k:Nat} {b:UInt8} (h:s.bytes[k]? = some b):sidx? s (k:Int) = some (b.toNat:Int):=by
 unfold sidx?; rw [Zj2 (by omega)]; simp [h]
theorem ZbE (a b c:Int):Zo a b c = some (decide (b ≤ a ∧ a ≤ c)):=by simp [Zo]
theorem Zg2 {n:Nat} {s:Str} (hl:s.bytes.length ≤ 1048576) (hn:s.bytes.length < n):Xg n s = some (nameB s):=by
 unfold Xg
 obtain ⟨r,g1,g2⟩:=Ye (l:=s.bytes) (n:=n) (σ:=Unit) (ρ:=Unit ⊕ Bool) (B:=fun (s1:Int)=>
  if (decide (s1 < (len s.bytes))) then
   (sidx? s s1).bind fun x1=>
   (Zo (w64 x1) 97 122).bind fun x2=>
   (if (s1 == 0) then some default else (if (!x2) then (sidx? s s1) else some default)).bind fun x3=>
   (if (s1 == 0) then some default else (if (!x2) then (Zo (w64 x3) 48 57) else some default)).bind fun x4=>
   if ((!x2) && ((s1 == 0) || (!x4))) then
    some (.inr (.inr false))
   else
    some (.inl ((w64 (s1 + 1))))
  else
   some (.inr (.inl ()))) (fun k _=>(k:Int)) (fun ys _=>okF (s.bytes.length - ys.length) ys = okF 0 s.bytes) (fun r=>r = if okF 0 s.bytes then (.inl ():Unit ⊕ Bool) else .inr false)
  (fun k x xs a hk' hx hlen hi => by
   have e1:s.bytes.length - (x :: xs).length = k:=by omega
   have e2:s.bytes.length - xs.length = k + 1:=by simp at hlen; omega
   rw [e1] at hi
   rw [e2]
   have hb:=x.toNat_lt
   rw [← hi]
   simp only [Zfb hx,Zjv,ZbE]
   rw [Zj2 (by rw [Za]; simp; omega),Zd (x:=(x.toNat:Int)) (by omega) (by omega),Zd (x:=(k:Int) + 1) (by omega) (by omega)]
   have wx:w64 (x.toNat:Int) = x.toNat:=Zd (by omega) (by omega)
   rw [ZeX]
   by_cases c1:97 ≤ x.toNat ∧ x.toNat ≤ 122
   ·refine .inl ⟨(), ?_, ?_⟩
    ·have : ((97 : Int) ≤ x.toNat ∧ (x.toNat : Int) ≤ 122) := by omega
     simp [this]
    ·simp [c1]
   ·have c1' : ¬ ((97 : Int) ≤ x.toNat ∧ (x.toNat : Int) ≤ 122) := by omega
    by_cases c2:k = 0
    ·subst c2
     exact .inr ⟨.inr false,by simp [c1',wx],by simp [c1]⟩
    ·by_cases c3 : 48 ≤ x.toNat ∧ x.toNat ≤ 57
     ·have : ((48 : Int) ≤ x.toNat ∧ (x.toNat : Int) ≤ 57) := by omega
      exact .inl ⟨(),by simp [c1',c2,this,wx],by simp [c1,c2,c3]⟩
     ·have : ¬ ((48 : Int) ≤ x.toNat ∧ (x.toNat : Int) ≤ 57) := by omega
      exact .inr ⟨.inr false,by simp [c1',c2,this,wx],by simp [c1,c2,c3]⟩)
  (fun a hi => by
   rw [Zjz (by rw [Za]; simp)]
   refine ⟨_,rfl,?_⟩
   rw [← hi]; simp [okF]) (a:=()) (by simp) hn
 rw [show ((0:Nat):Int) = 0 from rfl] at g1
 rw [g1,g2]
 unfold nameB
 cases okF 0 s.bytes
 ·simp
 ·simp only [ZbE,Za,Zkd,Zjv,Zk4,Option.some.injEq,decide_eq_decide]; omega
def shB (op w m:Int) (name:Str) (ws:List Int):Bool:=
 if op = 0 then ws.isEmpty && wordB w m
 else if op = 22 then ws.isEmpty && nameB name
 else if 1 ≤ op ∧ op ≤ 2 then (match ws with | [a]=>a == w | _=>false)
 else if 3 ≤ op ∧ op ≤ 13 then (match ws with | [a,b]=>a == w && b == w | _=>false)
 else if 14 ≤ op ∧ op ≤ 16 then (match ws with | [a,b]=>a == b && w == 1 | _=>false)
 else if op = 17 then (match ws with | [a,b,c]=>a == 1 && b == w && c == w | _=>false)
 else if op = 18 then (match ws with | [a,b]=>a + b == w | _=>false)
 else if op = 19 then (match ws with | [a]=>decide (0 ≤ m ∧ m ≤ 16) && decide (m + w ≤ a) | _=>false)
 else if 20 ≤ op ∧ op ≤ 21 then (match ws with | [a]=>decide (a ≤ w) | _=>false)
 else false
def locB (t:D.Term):Bool:=
 decide (1 ≤ t.W ∧ t.W ≤ 16) && (Str.eqb t.Name ⟨[]⟩ || t.Op == 22) && (t.N == 0 || t.Op == 0 || t.Op == 19) && shB t.Op t.W t.N t.Name (t.Kids.map (·.W))
mutual
def nodeB:D.Term → Bool
 | ⟨o,w,m,s,k⟩=>locB ⟨o,w,m,s,k⟩ && nodesB k
def nodesB:List D.Term → Bool
 | []=>true
 | x :: l=>nodeB x && nodesB l
end
theorem XV (t:D.Term):nodeB t = (locB t && nodesB t.Kids):=by cases t; rw [nodeB]
theorem Yh:∀ l:List D.Term,nodesB l = l.all nodeB
 | []=>by rw [nodesB]; rfl
 | x :: l=>by rw [nodesB,Yh l]; rfl
theorem ZR {t:D.Term} (h:nodeB t = true):1 ≤ t.W ∧ t.W ≤ 16:=by
 rw [XV] at h
 unfold locB at h
 simp only [Zj0,Zj5] at h
 exact h.1.1.1.1
def pad3:List D.Term → List Int
 | []=>[0,0,0]
 | [a]=>[a.W,0,0]
 | [a,b]=>[a.W,b.W,0]
 | a :: b :: c :: _=>[a.W,b.W,c.W]
theorem Zi7 {l:List D.Term} {n:Nat} (hn:4 ≤ n):iterN (fun (s2:Int × (List Int))=>
   if ((decide (s2.1 < (len l))) && (decide (s2.1 < 3))) then
    (get? l s2.1).bind fun x4=>
    (set? s2.2 s2.1 x4.W).bind fun x5=>
    some (.inl ((w64 (s2.1 + 1)),x5))
   else
    some (.inr (s2.2))
  ) n (0,([0,0,0]:List Int)) = some (pad3 l):=by
 obtain ⟨n,rfl⟩ : ∃ j,n = j + 4:=⟨n - 4,by omega⟩
 rcases l with _ | ⟨a,_ | ⟨b,_ | ⟨c,l⟩⟩⟩
 ·simp [iterN,len,pad3]
 ·simp [iterN,len,pad3,get?,set?,Zd]
 ·simp [iterN,len,pad3,get?,set?,Zd]
 ·have h1 : (0 : Int) < (l.length : Int) + 1 + 1 + 1 := by omega
  have h2:(1:Int) < (l.length:Int) + 1 + 1 + 1:=by omega
  have h3:(2:Int) < (l.length:Int) + 1 + 1 + 1:=by omega
  simp [iterN,len,pad3,get?,set?,Zd,h1,h2,h3]
theorem ZhF {n:Nat} {p0:D.Term} (ih:∀ x ∈ p0.Kids,ZU n x = some (nodeB x)) (hk:p0.Kids.length ≤ 1048576) (hs:p0.Name.bytes.length ≤ 1048576) (hn:1048580 ≤ n) (hw:1 ≤ p0.W ∧ p0.W ≤ 16) :
   ((iterN (fun (s1 : Int) =>
    if (decide (s1 < (len p0.Kids))) then
     (get? p0.Kids s1).bind fun x2=>
     (ZU n x2).bind fun x3=>
     if (!x3) then
      some (.inr (.inr false))
     else
      some (.inl ((w64 (s1 + 1))))
    else
     some (.inr (.inl ()))
   ) n (0)).bind fun (rl1:(Unit) ⊕ Bool)=>
   match rl1 with
   | .inl s1r =>
    (iterN (fun (s2 : Int × (List Int)) =>
     if ((decide (s2.1 < (len p0.Kids))) && (decide (s2.1 < 3))) then
      (get? p0.Kids s2.1).bind fun x4=>
      (set? s2.2 s2.1 x4.W).bind fun x5=>
      some (.inl ((w64 (s2.1 + 1)),x5))
     else
      some (.inr (s2.2))
    ) n (0,([0,0,0]:List Int))).bind fun (rl2:(List Int))=>
    if (p0.Op == 0) then
     (if ((len p0.Kids) == 0) then (YF p0.W p0.N) else some default).bind fun x6=>
     some (((len p0.Kids) == 0) && x6)
    else
     if (p0.Op == 22) then
      (if ((len p0.Kids) == 0) then (Xg n p0.Name) else some default).bind fun x7=>
      some (((len p0.Kids) == 0) && x7)
     else
      (Zo p0.Op 1 2).bind fun x8=>
      if x8 then
       (if ((len p0.Kids) == 1) then (get? rl2 0) else some default).bind fun x9=>
       some (((len p0.Kids) == 1) && (x9 == p0.W))
      else
       (Zo p0.Op 3 13).bind fun x10=>
       if x10 then
        (if ((len p0.Kids) == 2) then (get? rl2 0) else some default).bind fun x11=>
        (if (((len p0.Kids) == 2) && (x11 == p0.W)) then (get? rl2 1) else some default).bind fun x12=>
        some ((((len p0.Kids) == 2) && (x11 == p0.W)) && (x12 == p0.W))
       else
        (Zo p0.Op 14 16).bind fun x13=>
        if x13 then
         (if ((len p0.Kids) == 2) then (get? rl2 0) else some default).bind fun x14=>
         (if ((len p0.Kids) == 2) then (get? rl2 1) else some default).bind fun x15=>
         some ((((len p0.Kids) == 2) && (x14 == x15)) && (p0.W == 1))
        else
         if (p0.Op == 17) then
          (if ((len p0.Kids) == 3) then (get? rl2 0) else some default).bind fun x16=>
          (if (((len p0.Kids) == 3) && (x16 == 1)) then (get? rl2 1) else some default).bind fun x17=>
          (if ((((len p0.Kids) == 3) && (x16 == 1)) && (x17 == p0.W)) then (get? rl2 2) else some default).bind fun x18=>
          some (((((len p0.Kids) == 3) && (x16 == 1)) && (x17 == p0.W)) && (x18 == p0.W))
         else
          if (p0.Op == 18) then
           (if ((len p0.Kids) == 2) then (get? rl2 0) else some default).bind fun x19=>
           (if ((len p0.Kids) == 2) then (get? rl2 1) else some default).bind fun x20=>
           some (((len p0.Kids) == 2) && ((w64 (x19 + x20)) == p0.W))
          else
           if (p0.Op == 19) then
            (if ((len p0.Kids) == 1) then (Zo p0.N 0 16) else some default).bind fun x21=>
            (if (((len p0.Kids) == 1) && x21) then (get? rl2 0) else some default).bind fun x22=>
            some ((((len p0.Kids) == 1) && x21) && (decide ((w64 (p0.N + p0.W)) ≤ x22)))
           else
            (Zo p0.Op 20 21).bind fun x23=>
            (if (x23 && ((len p0.Kids) == 1)) then (get? rl2 0) else some default).bind fun x24=>
            some ((x23 && ((len p0.Kids) == 1)) && (decide (x24 ≤ p0.W)))
   | .inr v=>some v) = some (nodesB p0.Kids && shB p0.Op p0.W p0.N p0.Name (p0.Kids.map (·.W))):=by
 have hl:=Zeo (l:=p0.Kids) (f:=fun x=>ZU n x) (b:=nodeB) ih (by omega) p0.Kids.length 0 (by omega) n (by omega)
 rw [show ((0:Nat):Int) = 0 from rfl] at hl
 rw [hl,Zlx,Yh]
 by_cases ha:p0.Kids.all nodeB = true
 ·rw [ha]
  have hkw:∀ x ∈ p0.Kids,1 ≤ x.W ∧ x.W ≤ 16:=fun x hx=>ZR (ZjB.1 ha x hx)
  simp only [Zkd,Zjv,Zk4,ZbE,ZgX,Zg2 hs (show p0.Name.bytes.length < n by omega)]
  rw [Zi7 (by omega)]
  simp only [Zjv]
  generalize hks:p0.Kids = ks
  rw [hks] at hkw
  obtain ⟨op,w,m,nm,_⟩:=p0
  simp only at hw ⊢
  have g0:∀ x y z:Int,get? [x,y,z] 0 = some x:=fun _ _ _=>rfl
  have g1:∀ x y z:Int,get? [x,y,z] 1 = some y:=fun _ _ _=>rfl
  have g2:∀ x y z:Int,get? [x,y,z] 2 = some z:=fun _ _ _=>rfl
  have q0:∀ x y z:D.Term,∀ l:List D.Term,((l.length:Int) + 1 + 1 + 1 + 1 == 0) = false:=fun x y z l=>by simp; omega
  have hA:ks = [] ∨ (∃ a:D.Term,ks = [a] ∧ 1 ≤ a.W ∧ a.W ≤ 16) ∨ (∃ a b:D.Term,ks = [a,b] ∧ (1 ≤ a.W ∧ a.W ≤ 16) ∧ 1 ≤ b.W ∧ b.W ≤ 16) ∨ (∃ a b c:D.Term,ks = [a,b,c]) ∨ ∃ (a b c d:D.Term) (l:List D.Term),ks = a :: b :: c :: d :: l:=by
   rcases ks with _ | ⟨a,_ | ⟨b,_ | ⟨c,_ | ⟨d,l⟩⟩⟩⟩
   ·exact .inl rfl
   ·exact .inr (.inl ⟨a,rfl,hkw a (by simp)⟩)
   ·exact .inr (.inr (.inl ⟨a,b,rfl,hkw a (by simp),hkw b (by simp)⟩))
   ·exact .inr (.inr (.inr (.inl ⟨a,b,c,rfl⟩)))
   ·exact .inr (.inr (.inr (.inr ⟨a,b,c,d,l,rfl⟩)))
  rcases hA with rfl | ⟨a,rfl,ha⟩ | ⟨a,b,rfl,ha,hb⟩ | ⟨a,b,c,rfl⟩ | ⟨a,b,c,d,l,rfl⟩
  ·simp only [pad3, Za, ZkM, ZlB, g0, g1, g2, Zjv, ZbJ]
   unfold shB
   by_cases o0:op = 0
   ·simp [o0]
   by_cases o1:op = 22
   ·simp [o1]
   simp [o0,o1]
  ·have e19 : ∀ h : 0 ≤ m ∧ m ≤ 16, w64 (m + w) = m + w := fun h => Zd (by omega) (by omega)
   simp only [pad3,Za,ZkM,ZjT,ZlB,ZjJ,g0,g1,g2,Zjv,ZbJ]
   unfold shB
   by_cases o0:op = 0
   ·simp [o0]
   by_cases o1:op = 22
   ·simp [o1]
   by_cases o2:1 ≤ op ∧ op ≤ 2
   ·simp [o0,o1,o2]
   by_cases o3:3 ≤ op ∧ op ≤ 13
   ·simp [o0,o1,o2,o3]
   by_cases o4:14 ≤ op ∧ op ≤ 16
   ·simp [o0,o1,o2,o3,o4]
   by_cases o5:op = 17
   ·simp [o5]
   by_cases o6:op = 18
   ·simp [o6]
   by_cases o7:op = 19
   ·by_cases hm : 0 ≤ m ∧ m ≤ 16
    ·simp [o7,hm,e19 hm]
    ·simp [o7,hm]
   by_cases o8:20 ≤ op ∧ op ≤ 21
   ·simp [o0,o1,o2,o3,o4,o5,o6,o7,o8]
   simp [o0,o1,o2,o3,o4,o5,o6,o7,o8]
  ·have e18 : w64 (a.W + b.W) = a.W + b.W := Zd (by omega) (by omega)
   simp only [pad3,Za,ZkM,ZjT,ZlB,ZjJ,g0,g1,g2,Zjv,ZbJ,e18]
   unfold shB
   by_cases o0:op = 0
   ·simp [o0]
   by_cases o1:op = 22
   ·simp [o1]
   by_cases o2:1 ≤ op ∧ op ≤ 2
   ·simp [o0,o1,o2]
   by_cases o3:3 ≤ op ∧ op ≤ 13
   ·by_cases c : a.W = w
    ·simp [o0,o1,o2,o3,c]
    ·have c' : (a.W == w) = false := by simpa using c
     simp [o0,o1,o2,o3,c,c']
   by_cases o4:14 ≤ op ∧ op ≤ 16
   ·simp [o0,o1,o2,o3,o4]
   by_cases o5:op = 17
   ·simp [o5]
   by_cases o6:op = 18
   ·simp [o6,e18]
   by_cases o7:op = 19
   ·simp [o7]
   simp [o0,o1,o2,o3,o4,o5,o6,o7]
  ·simp only [pad3, Za, ZkM, ZjT, ZlB, ZjJ, g0, g1, g2, Zjv, ZbJ]
   unfold shB
   by_cases o0:op = 0
   ·simp [o0]
   by_cases o1:op = 22
   ·simp [o1]
   by_cases o2:1 ≤ op ∧ op ≤ 2
   ·simp [o0,o1,o2]
   by_cases o3:3 ≤ op ∧ op ≤ 13
   ·simp [o0,o1,o2,o3]
   by_cases o4:14 ≤ op ∧ op ≤ 16
   ·simp [o0,o1,o2,o3,o4]
   by_cases o5:op = 17
   ·by_cases c1 : a.W = 1
    ·by_cases c2 : b.W = w
     ·simp [o5,c1,c2]
     ·have c2' : (b.W == w) = false := by simpa using c2
      simp [o5,c1,c2,c2']
    ·have c1' : (a.W == 1) = false := by simpa using c1
     simp [o5,c1,c1']
   by_cases o6:op = 18
   ·simp [o6]
   by_cases o7:op = 19
   ·simp [o7]
   simp [o0,o1,o2,o3,o4,o5,o6,o7]
  ·have e0 : (len (a :: b :: c :: d :: l) == 0) = false := by rw [Za]; simp; omega
   have e1:(len (a :: b :: c :: d :: l) == 1) = false:=by rw [Za]; simp; omega
   have e2:(len (a :: b :: c :: d :: l) == 2) = false:=by rw [Za]; simp; omega
   have e3:(len (a :: b :: c :: d :: l) == 3) = false:=by rw [Za]; simp; omega
   simp only [pad3,ZjJ,g0,g1,g2,Zjv,ZbJ,e0,e1,e2,e3,ZlC,ZlX,ZjP,Zj1]
   unfold shB
   simp
 ·rw [Bool.not_eq_true] at ha
  rw [ha]
  simp
theorem Zgn:∀ (n:Nat) (t:D.Term),msz t ≤ 1048576 → 1048580 + cnt t ≤ n → ZU n t = some (nodeB t):=by
 intro n
 induction n with
 | zero=>intro t _ _; omega
 | succ n ih=>
  intro t hs hn
  have hz:=XW t
  have hc:=Xq t
  have ih':∀ x ∈ t.Kids,ZU n x = some (nodeB x):=fun x hx=>by
   have:=XC hx
   have:=Xd hx
   exact ih x (by omega) (by omega)
  have e0:∀ c:Bool,nodeB t = (decide (1 ≤ t.W ∧ t.W ≤ 16) && (Str.eqb t.Name ⟨[]⟩ || t.Op == 22) && (t.N == 0 || t.Op == 0 || t.Op == 19) && (nodesB t.Kids && shB t.Op t.W t.N t.Name (t.Kids.map (·.W)))):=fun _=>by
   rw [XV]; unfold locB
   cases nodesB t.Kids <;> simp
  have e0:=e0 true
  unfold ZU
  rw [ZbE]
  simp only [Zjv]
  have hx:∀ a b c d e f:Bool,((!a || (!b && !c)) || ((!d && !e) && !f)) = !(a && (b || c) && (d || e || f)):=by decide
  rw [show ((!decide (1 ≤ t.W ∧ t.W ≤ 16) || ((!Str.eqb t.Name ⟨[]⟩) && (t.Op != 22))) || (((t.N != 0) && (t.Op != 0)) && (t.Op != 19))) = _ from hx _ _ _ _ _ _]
  cases c:(decide (1 ≤ t.W ∧ t.W ≤ 16) && (Str.eqb t.Name ⟨[]⟩ || t.Op == 22) && (t.N == 0 || t.Op == 0 || t.Op == 19))
  ·rw [e0,c]; rfl
  ·have hw:1 ≤ t.W ∧ t.W ≤ 16:=by
    simp only [Zj0,Zj5] at c
    exact c.1.1
   rw [e0,c,Zjz (by decide),Zk4]
   exact ZhF ih' (by omega) (by omega) (by omega) hw
set_option linter.unusedSimpArgs false
theorem Zh5:∀ x:List UInt8,Op.bytesLess x x = false
 | []=>rfl
 | a :: x=>by simp [Op.bytesLess,Zh5 x]
theorem ZeY:∀ x y z:List UInt8,Op.bytesLess x y = true → Op.bytesLess y z = true → Op.bytesLess x z = true
 | _,_,[]=>by intro _ h; cases ‹List UInt8› <;> simp [Op.bytesLess] at h
 | _,[],_ :: _=>by intro h _; cases ‹List UInt8› <;> simp [Op.bytesLess] at h
 | [],_ :: _,_ :: _=>by intro _ _; rfl
 | a :: x,b :: y,c :: z=>by
  intro h1 h2
  simp only [Op.bytesLess,Zkb,Zj5,Zj0,Zkr] at h1 h2 ⊢
  rcases h1 with h1 | ⟨rfl,h1⟩
  ·rcases h2 with h2 | ⟨rfl, h2⟩
   ·exact .inl (UInt8.lt_trans h1 h2)
   ·exact .inl h1
  ·rcases h2 with h2 | ⟨rfl, h2⟩
   ·exact .inl h2
   ·exact .inr ⟨rfl,ZeY x y z h1 h2⟩
theorem Zib:∀ x y:List UInt8,Op.bytesLess x y = false → x ≠ y → Op.bytesLess y x = true
 | [],[]=>fun _ h=>absurd rfl h
 | _ :: _,[]=>fun _ _=>rfl
 | [],_ :: _=>fun h _=>by simp [Op.bytesLess] at h
 | a :: x,b :: y=>by
  intro h1 h2
  simp only [Op.bytesLess,Zlk,decide_eq_false_iff_not,Zkb,Zj5,Zj0,Zkr] at h1 ⊢
  by_cases e:a = b
  ·subst e
   have:Op.bytesLess x y = false:=by simpa using h1.2
   exact .inr ⟨rfl,Zib x y this (fun h=>h2 (by rw [h]))⟩
  ·rcases UInt8.lt_or_lt_of_ne e with h | h
   ·exact absurd h h1.1
   ·exact .inl h
theorem toList_mk (l:List UInt8):(ByteArray.mk l.toArray).toList = l:=by
 exact (Lib.toList_data _)
theorem ZfC (a b:Str):Str.ltb a b = Op.bytesLess a.bytes b.bytes:=by unfold Str.ltb; rw [toList_mk,toList_mk]
theorem ZbG (a b:Str):Str.eqb a b = decide (a = b):=by
 unfold Str.eqb
 rw [toList_mk,toList_mk]
 by_cases h:a = b
 ·subst h; simp
 ·have : a.bytes ≠ b.bytes := fun e => h (by cases a; cases b; simpa using e)
  simp [h,this]
theorem Zjb (a:Str):Str.ltb a a = false:=by rw [ZfC]; exact Zh5 _
theorem lt_trans {a b c:Str} (h1:Str.ltb a b = true) (h2:Str.ltb b c = true):Str.ltb a c = true:=by rw [ZfC] at *; exact ZeY _ _ _ h1 h2
theorem Zja {a b:Str} (h1:Str.ltb a b = false) (h2:a ≠ b):Str.ltb b a = true:=by
 rw [ZfC] at *
 exact Zib _ _ h1 fun e=>h2 (by cases a; cases b; simpa using e)
mutual
def vrs:D.Term → List (Str × Int)
 | ⟨o,w,_,s,k⟩=>if o = 22 then [(s,w)] else vrss k
def vrss:List D.Term → List (Str × Int)
 | []=>[]
 | x :: l=>vrs x ++ vrss l
end
theorem XU (t:D.Term):vrs t = if t.Op = 22 then [(t.Name,t.W)] else vrss t.Kids:=by cases t; rw [vrs]
theorem Xh (x:D.Term) (l:List D.Term):vrss (x :: l) = vrs x ++ vrss l:=by rw [vrss]
theorem Zar:vrss [] = []:=by rw [vrss]
def stp (g:List (Str × Int)) (v:Str × Int):Option (List (Str × Int)):=
 match g.lookup v.1 with
 | some w=>if w = v.2 then some g else none
 | none=>some (v :: g)
def runV (g:List (Str × Int)):List (Str × Int) → Option (List (Str × Int))
 | []=>some g
 | v :: l=>(stp g v).bind fun g'=>runV g' l
theorem Ze2 (l m:List (Str × Int)):∀ g,runV g (l ++ m) = (runV g l).bind fun g'=>runV g' m:=by
 induction l with
 | nil=>intro g; rfl
 | cons v l ih=>
  intro g
  simp only [List.cons_append,runV]
  cases stp g v with
  | none=>rfl
  | some g'=>simp only [Zjv]; exact ih g'
theorem Zgk {g g':List (Str × Int)} {v:Str × Int} (h:stp g v = some g'):g'.length ≤ g.length + 1:=by
 unfold stp at h
 split at h
 ·split at h
  ·cases h; omega
  ·cases h
 ·cases h; simp
theorem ZcB:∀ {l g g':List (Str × Int)},runV g l = some g' → g'.length ≤ g.length + l.length
 | [],g,g',h=>by simp only [runV,Option.some.injEq] at h; subst h; simp
 | v :: l,g,g',h=>by
  simp only [runV,Zks] at h
  obtain ⟨g1,h1,h2⟩:=h
  have:=Zgk h1
  have:=ZcB h2
  simp only [ZjT]; omega
def Rel (l:List D.Value) (g:List (Str × Int)):Prop:=
 l.Pairwise (fun a b=>Str.ltb a.Name b.Name = true) ∧ l.length = g.length ∧ (∀ v ∈ l,g.lookup v.Name = some v.W) ∧ ∀ s w,g.lookup s = some w → ∃ v ∈ l,v.Name = s
def before (s:Str) (l:List D.Value):Nat:=(l.takeWhile fun v=>Str.ltb v.Name s).length
theorem ZbW (s:Str) (l:List D.Value):before s l ≤ l.length:=(List.takeWhile_sublist _).length_le
theorem ZaZ {s:Str}:∀ {l:List D.Value} {i:Nat} {v:D.Value},i < before s l → l[i]? = some v → Str.ltb v.Name s = true
 | [],i,v,h,hv=>by simp at hv
 | x :: l,i,v,h,hv=>by
  unfold before at h
  rw [List.takeWhile_cons] at h
  split at h
  ·cases i with
   | zero=>simp at hv; subst hv; assumption
   | succ i=>exact ZaZ (l:=l) (i:=i) (by unfold before; simpa using h) (by simpa using hv)
  ·simp at h
theorem ZaV {s:Str}:∀ {l:List D.Value} {v:D.Value},l[before s l]? = some v → Str.ltb v.Name s = false
 | [],v,hv=>by simp at hv
 | x :: l,v,hv=>by
  unfold before at hv
  rw [List.takeWhile_cons] at hv
  by_cases h:Str.ltb x.Name s = true
  ·rw [Zj2 h] at hv
   exact ZaV (l:=l) (by unfold before; simpa using hv)
  ·rw [Zjz h] at hv
   simp at hv; subst hv
   simpa using h
theorem ZhU {l:List D.Value} {s:Str} {n:Nat} (hl:l.length ≤ 1048576) (hn:l.length < n):iterN (fun (s1:Int)=>
   (if (decide (s1 < (len l))) then (get? l s1) else some default).bind fun x1=>
   if ((decide (s1 < (len l))) && (Str.ltb x1.Name s)) then
    some (.inl ((w64 (s1 + 1))))
   else
    some (.inr (s1))
  ) n (0) = some (before s l:Int):=by
 obtain ⟨r,g1,g2⟩:=Ye (l:=l) (n:=n) (σ:=Unit) (ρ:=Int) (B:=fun (s1:Int)=>
   (if (decide (s1 < (len l))) then (get? l s1) else some default).bind fun x1=>
   if ((decide (s1 < (len l))) && (Str.ltb x1.Name s)) then
    some (.inl ((w64 (s1 + 1))))
   else
    some (.inr (s1))) (fun k _=>(k:Int)) (fun ys _=>l.length ≤ before s l + ys.length) (fun r=>r = (before s l:Int))
  (fun k x xs a hk' hx hlen hi => by
   simp only [ZjT] at hlen hi
   have hd:decide ((k:Int) < len l) = true:=by rw [Za]; simp; omega
   rw [Zj2 hd,get?_nat,hx]
   simp only [Zjv,hd,Zk4]
   by_cases c:Str.ltb x.Name s = true
   ·refine .inl ⟨(), by rw [Zj2 c, Zd (by omega) (by omega)]; rfl, ?_⟩
    have:k ≠ before s l:=fun e=>by
     rw [e] at hx
     rw [ZaV hx] at c; cases c
    omega
   ·refine .inr ⟨(k : Int), by rw [Zjz c], ?_⟩
    have:¬ k < before s l:=fun h=>c (ZaZ h hx)
    omega)
  (fun a hi => by
   have hd:decide ((l.length:Int) < len l) = false:=by rw [Za]; simp
   simp only [hd,Zj1,ZjP,Zjv,ZlC]
   have:=ZbW s l
   exact ⟨_,rfl,by simp at hi; omega⟩) (a:=()) (by omega) hn
 rw [show ((0:Nat):Int) = 0 from rfl] at g1
 rw [g1,g2]
theorem Rel.none {l:List D.Value} {g:List (Str × Int)} {s:Str} (h:Rel l g) (hn:∀ v,l[before s l]? = some v → v.Name ≠ s):g.lookup s = none:=by
 cases e:g.lookup s with
 | none=>rfl
 | some w=>
  exfalso
  obtain ⟨v,hv,rfl⟩:=h.2.2.2 s w e
  obtain ⟨j,hj⟩:=ZkH.1 hv
  rcases ZlG j (before v.Name l) with h1 | h1 | h1
  ·have := ZaZ h1 hj
   rw [Zjb] at this; cases this
  ·rw [h1] at hj; exact hn v hj rfl
  ·obtain ⟨hj', e2⟩ := Zjy.1 hj
   have hu:l[before v.Name l]? = some l[before v.Name l]:=Zjw (by omega)
   have h2:=ZaV hu
   have h3:=ZkF.1 h.1 _ _ (by omega) hj' h1
   rw [e2] at h3
   rw [h2] at h3; cases h3
theorem Rel.put {l:List D.Value} {g:List (Str × Int)} {s:Str} {w:Int} (h:Rel l g) (hn:∀ v,l[before s l]? = some v → v.Name ≠ s):Rel (l.take (before s l) ++ [⟨s,w,0⟩] ++ l.drop (before s l)) ((s,w) :: g):=by
 have hno:=h.none hn
 have hb:=ZbW s l
 have hlt:∀ v ∈ l.take (before s l),Str.ltb v.Name s = true:=fun v hv=>by
  obtain ⟨j,hj⟩:=ZkH.1 hv
  rw [ZjR] at hj
  split at hj
  ·exact ZaZ (by assumption) hj
  ·cases hj
 have hgt:∀ v ∈ l.drop (before s l),Str.ltb s v.Name = true:=fun v hv=>by
  obtain ⟨j,hj⟩:=ZkH.1 hv
  rw [Zkc] at hj
  obtain ⟨hj',e2⟩:=Zjy.1 hj
  have hu:l[before s l]? = some l[before s l]:=Zjw (by omega)
  have h1:=Zja (ZaV hu) (hn _ hu)
  rcases Nat.eq_zero_or_pos j with rfl | hp
  ·simp only [ZkW] at e2; rw [← e2]; exact h1
  ·have h3 := ZkF.1 h.1 _ _ (by omega) hj' (show before s l < before s l + j by omega)
   rw [e2] at h3
   exact lt_trans h1 h3
 have hmem:∀ v,v ∈ l.take (before s l) ++ [⟨s,w,0⟩] ++ l.drop (before s l) ↔ v = ⟨s,w,0⟩ ∨ v ∈ l:=fun v=>by
  have:v ∈ l ↔ v ∈ l.take (before s l) ∨ v ∈ l.drop (before s l):=by
   rw [← ZjN,ZkP]
  simp only [ZjN,Zkl,this]
  grind
 have hp:(l.take (before s l) ++ l.drop (before s l)).Pairwise (fun a b=>Str.ltb a.Name b.Name = true):=by rw [ZkP]; exact h.1
 rw [ZkT] at hp
 refine ⟨?_,?_,fun v hv=>?_,fun s' w' hs=>?_⟩
 ·rw [ZjZ, ZkT]
  refine ⟨hp.1,?_,fun a ha b hb=>?_⟩
  ·rw [ZjY, Zlb]
   exact ⟨fun b hb=>hgt b hb,hp.2.1⟩
  ·rw [ZjY] at hb
   rcases ZjW.1 hb with rfl | hb
   ·exact hlt a ha
   ·exact hp.2.2 a ha b hb
 ·have := h.2.1
  simp; omega
 ·rcases (hmem v).1 hv with rfl | hv
  ·simp
  ·have h1 := h.2.2.1 v hv
   have:v.Name ≠ s:=fun e=>by rw [e,hno] at h1; cases h1
   rw [ZjO]
   have:(v.Name == s) = false:=by simpa using this
   rw [this]; exact h1
 ·rw [ZjO] at hs
  by_cases e:s' = s
  ·exact ⟨_,(hmem _).2 (.inl rfl),e.symm⟩
  ·have : (s' == s) = false := by simpa using e
   rw [this] at hs
   obtain ⟨v,h1,h2⟩:=h.2.2.2 s' w' hs
   exact ⟨v,(hmem _).2 (.inr h1),h2⟩
theorem Ziq:∀ n:Nat,(∀ t:D.Term,msz t < n → (vrs t).length ≤ cnt t) ∧ ∀ l:List D.Term,l.length + mszs l < n → (vrss l).length ≤ cnts l:=by
 intro n
 induction n with
 | zero=>exact ⟨fun _ h=>by omega,fun _ h=>by omega⟩
 | succ n ih=>
  have hT:∀ t:D.Term,msz t < n + 1 → (∀ l:List D.Term,l.length + mszs l < n + 1 → (vrss l).length ≤ cnts l) → (vrs t).length ≤ cnt t:=fun t h hl=>by
   have:=XW t
   rw [XU,Xq]
   split
   ·simp
   ·have:=hl t.Kids (by omega); omega
  have hL:∀ l:List D.Term,l.length + mszs l < n + 1 → (vrss l).length ≤ cnts l:=fun l h=>by
   cases l with
   | nil=>rw [Zar,ZaK]; simp
   | cons x l=>
    rw [ZaX] at h
    simp only [ZjT] at h
    rw [Xh,Zbc,ZjC]
    have h1:=ih.1 x (by omega)
    have h2:=ih.2 l (by omega)
    omega
  exact ⟨fun t h=>hT t h hL,hL⟩
theorem Zc1 (t:D.Term):(vrs t).length ≤ cnt t:=(Ziq (msz t + 1)).1 t (by omega)
theorem ZdD:∀ (n:Nat) (t:D.Term) (l:List D.Value) (g:List (Str × Int)),msz t ≤ 1048576 → Rel l g → g.length + (vrs t).length ≤ 1000 → 1048580 + cnt t ≤ n →
  ∃ l' b,Yk n t l = some (l',b) ∧ (b = true → ∃ g',runV g (vrs t) = some g' ∧ Rel l' g') ∧ (b = false → runV g (vrs t) = none):=by
 intro n
 induction n with
 | zero=>intro t l g _ _ _ _; omega
 | succ n ih=>
  intro t l g hs hr hg hn
  have hz:=XW t
  have hc:=Xq t
  have hlen:=hr.2.1
  unfold Yk
  by_cases ho:t.Op = 22
  ·rw [Zj2 (by simpa using ho), ZhU (by omega) (by omega)]
   simp only [Zjv]
   have hb:=ZbW t.Name l
   have hv:vrs t = [(t.Name,t.W)]:=by rw [XU,Zj2 ho]
   rw [hv]
   have hrun:runV g [(t.Name,t.W)] = stp g (t.Name,t.W):=by
    simp only [runV]; cases stp g (t.Name,t.W) <;> rfl
   rw [hrun]
   by_cases hf:∃ v,l[before t.Name l]? = some v ∧ v.Name = t.Name
   ·obtain ⟨v, hv1, hv2⟩ := hf
    obtain ⟨hlt,-⟩:=Zjy.1 hv1
    have hd:decide ((before t.Name l:Int) < len l) = true:=by rw [Za]; simp; omega
    have hk:g.lookup t.Name = some v.W:=by rw [← hv2]; exact hr.2.2.1 v (Zj9 hv1)
    simp only [hd,Zkd,get?_nat,hv1,Zjv,Zk4,ZbG,hv2,decide_true]
    refine ⟨_,_,rfl,fun h=>⟨g,?_,hr⟩,fun h=>?_⟩
    ·unfold stp; rw [hk]; simp only; rw [Zj2 (by simpa using h)]
    ·unfold stp; rw [hk]; simp only; rw [Zjz (by simpa using h)]
   ·have hne : ∀ v, l[before t.Name l]? = some v → v.Name ≠ t.Name := fun v h e => hf ⟨v, h, e⟩
    have hno:=hr.none hne
    have hx:∃ x2,(if (decide ((before t.Name l:Int) < (len l))) = true then (get? l (before t.Name l:Int)) else some default) = some x2 ∧ (decide ((before t.Name l:Int) < (len l)) && Str.eqb x2.Name t.Name) = false:=by
     by_cases hlt:before t.Name l < l.length
     ·have hd : decide ((before t.Name l : Int) < len l) = true := by rw [Za]; simp; omega
      refine ⟨l[before t.Name l],?_,?_⟩
      ·rw [Zj2 hd,get?_nat,Zjw hlt]
      ·rw [ZbG,decide_eq_false (hne _ (Zjw hlt))]; simp
     ·have hd : decide ((before t.Name l : Int) < len l) = false := by rw [Za]; simp; omega
      exact ⟨default,by rw [hd]; rfl,by rw [hd]; rfl⟩
    obtain ⟨x2,hx1,hx2⟩:=hx
    rw [hx1]
    simp only [Zjv,hx2,Zj1,ZjP]
    have c1:cut? l 0 (before t.Name l:Int) = some (l.take (before t.Name l)):=by
     unfold cut?; rw [Zj2 ⟨by omega,by omega,by omega⟩]; simp
    have c2:cut? l (before t.Name l:Int) (len l) = some (l.drop (before t.Name l)):=by
     unfold cut?; rw [Za,Zj2 ⟨by omega,by omega,by omega⟩]; simp
    have c3:app? ([]:List D.Value) (l.take (before t.Name l)) = some (l.take (before t.Name l)):=by
     unfold app?; rw [Zj2 (by unfold room; simp; omega)]; rfl
    have c4:app? (l.take (before t.Name l)) [(⟨t.Name,t.W,0⟩ : D.Value)] = some (l.take (before t.Name l) ++ [⟨t.Name,t.W,0⟩]):=by
     unfold app?; rw [Zj2 (by unfold room; simp; omega)]
    have c5:app? (l.take (before t.Name l) ++ [(⟨t.Name,t.W,0⟩ : D.Value)]) (l.drop (before t.Name l)) = some (l.take (before t.Name l) ++ [⟨t.Name,t.W,0⟩] ++ l.drop (before t.Name l)):=by
     unfold app?; rw [Zj2 (by unfold room; simp; omega)]
    simp only [c1,c2,c3,c4,c5,Zjv]
    refine ⟨_,_,rfl,fun _=>⟨(t.Name,t.W) :: g,?_,hr.put hne⟩,fun h=>by cases h⟩
    unfold stp; rw [hno]
  ·rw [Zjz (by simpa using ho)]
   have hv:vrs t = vrss t.Kids:=by rw [XU,Zjz ho]
   rw [hv] at hg ⊢
   obtain ⟨r,g1,g2⟩:=Ye (l:=t.Kids) (n:=n) (σ:=List D.Value) (ρ:=(List D.Value) ⊕ ((List D.Value) × Bool)) (B:=fun (s2:(List D.Value) × Int)=>
     if (decide (s2.2 < (len t.Kids))) then
      (get? t.Kids s2.2).bind fun x9=>
      (Yk n x9 s2.1).bind fun x10=>
      if (!x10.2) then
       some (.inr (.inr (([]:List D.Value),false)))
      else
       some (.inl (x10.1,(w64 (s2.2 + 1))))
     else
      some (.inr (.inl (s2.1)))) (fun k a=>(a,(k:Int))) (fun ys a=>∃ ga,Rel a ga ∧ runV ga (vrss ys) = runV g (vrss t.Kids) ∧ ga.length + (vrss ys).length ≤ 1000 ∧ ∀ x ∈ ys,x ∈ t.Kids)
     (fun r=>(∃ l',r = .inl l' ∧ ∃ g',runV g (vrss t.Kids) = some g' ∧ Rel l' g') ∨ (r = .inr ([],false) ∧ runV g (vrss t.Kids) = none))
     (fun k x xs a hk' hx hlen ⟨ga, i0, i1, i2, i3⟩ => by
      have hxk:=i3 x (by simp)
      have:=XC hxk
      have:=Xd hxk
      rw [Xh,Ze2] at i1
      rw [Xh,ZjC] at i2
      obtain ⟨l',b,e1,e2,e3⟩:=ih x a ga (by omega) i0 (by omega) (by omega)
      have hd:decide ((k:Int) < len t.Kids) = true:=by rw [Za]; simp; omega
      simp only [hd,Zkd,get?_nat,hx,Zjv,e1]
      cases b with
      | false=>
       refine .inr ⟨_,rfl,.inr ⟨rfl,?_⟩⟩
       rw [e3 rfl] at i1; exact i1.symm
      | true=>
       obtain ⟨g',h1,h2⟩:=e2 rfl
       refine .inl ⟨l',by simp only [Zkk,Zj1,ZjP]; rw [Zd (by omega) (by omega)]; rfl,g',h2,?_,?_,fun y hy=>i3 y (by simp [hy])⟩
       ·rw [h1] at i1; exact i1
       ·have:=ZcB h1; omega)
     (fun a ⟨ga, i0, i1, i2, i3⟩ => by
      have hd:decide ((t.Kids.length:Int) < len t.Kids) = false:=by rw [Za]; simp
      simp only [hd,Zj1,ZjP]
      rw [Zar] at i1
      exact ⟨_,rfl,.inl ⟨a,rfl,ga,i1.symm,i0⟩⟩) (a:=l) ⟨g,hr,rfl,hg,fun x hx=>hx⟩ (by omega)
   rw [show ((0:Nat):Int) = 0 from rfl] at g1
   rw [g1]
   rcases g2 with ⟨l',rfl,g',h1,h2⟩ | ⟨rfl,h1⟩
   ·exact ⟨l',true,rfl,fun _=>⟨g',h1,h2⟩,fun h=>by cases h⟩
   ·exact ⟨[],false,rfl,fun h=>(by cases h),fun _=>h1⟩
def termB (t:D.Term):Bool:=decide (cnt t ≤ 240) && nodeB t && (runV [] (vrs t)).isSome
theorem Zbg {t:D.Term} (h:msz t ≤ 1048576):Xm fuel t = some (termB t):=by
 unfold Xm termB
 rw [few fuel t 240 h (by omega) (by omega) (by unfold fuel; omega)]
 simp only [Zjv]
 by_cases hc:cnt t ≤ 240
 ·have e : decide (lf 240 (cnt t) ≥ 0) = true := by unfold lf; rw [Zjz (by omega)]; simp; omega
  rw [Zgn fuel t h (by unfold fuel; omega)]
  simp only [e,Zkk,Zj1,ZjP,Zjv,hc,decide_true,Zk4]
  cases hb:nodeB t
  ·simp
  ·have hv := Zc1 t
   obtain ⟨l',b,e1,e2,e3⟩:=ZdD fuel t [] [] h ⟨List.Pairwise.nil,rfl,by simp,by simp⟩ (by simp; omega) (by unfold fuel; omega)
   rw [e1]
   cases b with
   | false=>rw [e3 rfl]; rfl
   | true=>obtain ⟨g',h1,-⟩:=e2 rfl; rw [h1]; rfl
 ·have e : decide (lf 240 (cnt t) ≥ 0) = false := by unfold lf; rw [Zj2 (by omega)]; rfl
  simp [e,hc]
theorem ZgU {n:Nat} {s:Str} (hl:s.bytes.length ≤ 1048576) (hn:s.bytes.length < n):XE n s = some (nameB s):=by
 unfold XE
 by_cases hlen:1 ≤ s.bytes.length ∧ s.bytes.length ≤ 8
 ·rw [Zjz (by rw [Za]; simp; omega)]
  obtain ⟨r,g1,g2⟩:=Ye (l:=s.bytes) (n:=n) (σ:=Unit) (ρ:=Unit ⊕ Bool) (B:=fun (s1:Int)=>
   if (decide (s1 < (len s.bytes))) then
    (sidx? s s1).bind fun x1=>
    (if (decide (x1 ≥ 97)) then (sidx? s s1) else some default).bind fun x2=>
    (sidx? s s1).bind fun x3=>
    (if (decide (x3 ≥ 48)) then (sidx? s s1) else some default).bind fun x4=>
    if ((!((decide (x1 ≥ 97)) && (decide (x2 ≤ 122)))) && (!(((decide (x3 ≥ 48)) && (decide (x4 ≤ 57))) && (decide (s1 > 0))))) then
     some (.inr (.inr false))
    else
     some (.inl ((w64 (s1 + 1))))
   else
    some (.inr (.inl ()))) (fun k _=>(k:Int)) (fun ys _=>okF (s.bytes.length - ys.length) ys = okF 0 s.bytes) (fun r=>r = if okF 0 s.bytes then (.inl ():Unit ⊕ Bool) else .inr false)
   (fun k x xs a hk' hx hlen hi => by
    have e1:s.bytes.length - (x :: xs).length = k:=by omega
    have e2:s.bytes.length - xs.length = k + 1:=by simp at hlen; omega
    rw [e1] at hi
    rw [e2]
    have hb:=x.toNat_lt
    rw [← hi]
    simp only [Zfb hx,Zjv]
    rw [Zj2 (by rw [Za]; simp; omega),Zd (by omega) (by omega)]
    have hd:∀ c:Bool,∃ y:Int,(if c = true then (some (x.toNat:Int)) else some default) = some y ∧ (c = true → y = x.toNat):=fun c=>by
     cases c
     ·exact ⟨_,rfl,fun h=>by cases h⟩
     ·exact ⟨_,rfl,fun _=>rfl⟩
    obtain ⟨y2,h2,i2⟩:=hd (decide ((x.toNat:Int) ≥ 97))
    obtain ⟨y4,h4,i4⟩:=hd (decide ((x.toNat:Int) ≥ 48))
    rw [h2,h4]
    simp only [Zjv]
    have j2:(decide ((x.toNat:Int) ≥ 97) && decide (y2 ≤ 122)) = decide (97 ≤ x.toNat ∧ x.toNat ≤ 122):=by
     by_cases c:(x.toNat:Int) ≥ 97
     ·rw [i2 (by simpa using c),Zlh]; simp only [Zj0,Zj5]; omega
     ·rw [Zlh]; simp only [Zj0,Zj5]; omega
    have j4:(decide ((x.toNat:Int) ≥ 48) && decide (y4 ≤ 57)) = decide (48 ≤ x.toNat ∧ x.toNat ≤ 57):=by
     by_cases c:(x.toNat:Int) ≥ 48
     ·rw [i4 (by simpa using c),Zlh]; simp only [Zj0,Zj5]; omega
     ·rw [Zlh]; simp only [Zj0,Zj5]; omega
    rw [j2,j4,ZeX]
    by_cases c1:97 ≤ x.toNat ∧ x.toNat ≤ 122
    ·exact .inl ⟨(),by simp [c1],by simp [c1]⟩
    ·by_cases c3 : 48 ≤ x.toNat ∧ x.toNat ≤ 57
     ·by_cases c2 : k = 0
      ·subst c2
       exact .inr ⟨.inr false,by simp [c1,c3],by simp [c1]⟩
      ·have : (0 : Int) < (k : Int) := by omega
       exact .inl ⟨(),by simp [c1,c3,this,c2],by simp [c1,c2,c3]⟩
     ·exact .inr ⟨.inr false,by simp [c1,c3],by simp [c1,c3]⟩)
   (fun a hi => by
    rw [Zjz (by rw [Za]; simp)]
    refine ⟨_,rfl,?_⟩
    rw [← hi]; simp [okF]) (a:=()) (by simp) hn
  rw [show ((0:Nat):Int) = 0 from rfl] at g1
  rw [g1,g2]
  unfold nameB
  rw [decide_eq_true hlen]
  cases okF 0 s.bytes <;> rfl
 ·rw [Zj2 (by rw [Za]; simp; omega)]
  unfold nameB
  rw [decide_eq_false hlen]; simp
def kc (o:Int):Int:=(Yj o).getD 0
theorem ZiW (o:Int):Yj o = some (kc o):=by
 unfold kc
 have:∃ k,Yj o = some k:=by
  unfold Yj
  split
  ·exact ⟨_,rfl⟩
  ·split
   ·exact ⟨_,rfl⟩
   ·split
    ·exact ⟨_,rfl⟩
    ·split
     ·exact ⟨_,rfl⟩
     ·exact ⟨_,rfl⟩
 obtain ⟨k,h⟩:=this
 rw [h]; rfl
theorem ZeF (w:Int):Yi w = some (decide (1 ≤ w ∧ w ≤ 16)):=by simp [Yi]
theorem Zi6 {t:D.Term} (hw:1 ≤ t.W ∧ t.W ≤ 16) (hk:∀ x ∈ t.Kids,1 ≤ x.W ∧ x.W ≤ 16) (hl:(t.Kids.length:Int) = kc t.Op) :
  ∃ f,YQ t = some f ∧ shB t.Op t.W t.N t.Name (t.Kids.map (·.W)) = (f && (t.Op != 0 || wordB t.W t.N) && (t.Op != 22 || nameB t.Name)):=by
 obtain ⟨op,w,m,nm,ks⟩:=t
 simp only at hw hk hl ⊢
 unfold YQ shB
 simp only
 have g0:∀ (x:D.Term) (l:List D.Term),get? (x :: l) 0 = some x:=fun _ _=>rfl
 have g1:∀ (x y:D.Term) (l:List D.Term),get? (x :: y :: l) 1 = some y:=fun _ _ _=>rfl
 have g2:∀ (x y z:D.Term) (l:List D.Term),get? (x :: y :: z :: l) 2 = some z:=fun _ _ _ _=>rfl
 have l0:ks.length = 0 → ks = []:=fun h=>Zla.1 h
 have l1:ks.length = 1 → ∃ a,ks = [a]:=fun h=>Zlt.1 h
 have l2:ks.length = 2 → ∃ a b,ks = [a,b]:=fun h=>by
  rcases ks with _ | ⟨a,_ | ⟨b,_ | ⟨c,l⟩⟩⟩ <;> simp at h
  exact ⟨_,_,rfl⟩
 have l3:ks.length = 3 → ∃ a b c,ks = [a,b,c]:=fun h=>by
  rcases ks with _ | ⟨a,_ | ⟨b,_ | ⟨c,_ | ⟨d,l⟩⟩⟩⟩ <;> simp at h
  exact ⟨_,_,_,rfl⟩
 unfold kc Yj at hl
 by_cases o0:op = 0
 ·subst o0
  obtain rfl:=l0 (by simp at hl; simp [hl])
  exact ⟨true,by simp,by simp⟩
 by_cases o1:op = 22
 ·subst o1
  obtain rfl:=l0 (by simp at hl; simp [hl])
  exact ⟨true,by simp,by simp⟩
 have q0:(op != 0) = true:=by simpa using o0
 have q1:(op != 22) = true:=by simpa using o1
 by_cases o2:1 ≤ op ∧ op ≤ 2
 ·have : op = 1 ∨ op = 2 := by omega
  obtain ⟨a,rfl⟩:=l1 (by rcases this with rfl | rfl <;> simp at hl <;> omega)
  refine ⟨a.W == w,?_,?_⟩
  ·rcases this with rfl | rfl <;> simp [g0]
  ·simp [o0,o1,o2,q0,q1]
 by_cases o3:3 ≤ op ∧ op ≤ 13
 ·obtain ⟨a,b,rfl⟩:=l2 (by
   have h1:¬ (op = 1):=by omega
   have h2:¬ (op = 2):=by omega
   have h3:¬ (op = 19):=by omega
   have h4:¬ (op = 20):=by omega
   have h5:¬ (op = 21):=by omega
   have h6:3 ≤ op ∧ op ≤ 16:=by omega
   simp [o0,o1,h1,h2,h3,h4,h5,h6] at hl; omega)
  refine ⟨a.W == w && b.W == w,?_,?_⟩
  ·have h1 : ¬ (op = 1) := by omega
   have h2:¬ (op = 2):=by omega
   by_cases c:a.W = w
   ·simp [g0,g1,o0,o1,h1,h2,o3,c]
   ·have c' : (a.W == w) = false := by simpa using c
    simp [g0,g1,o0,o1,h1,h2,o3,c,c']
  ·simp [o0,o1,o2,o3,q0,q1]
 by_cases o4:14 ≤ op ∧ op ≤ 16
 ·obtain ⟨a,b,rfl⟩:=l2 (by
   have h1:¬ (op = 1):=by omega
   have h2:¬ (op = 2):=by omega
   have h3:¬ (op = 19):=by omega
   have h4:¬ (op = 20):=by omega
   have h5:¬ (op = 21):=by omega
   have h6:3 ≤ op ∧ op ≤ 16:=by omega
   simp [o0,o1,h1,h2,h3,h4,h5,h6] at hl; omega)
  refine ⟨a.W == b.W && w == 1,?_,?_⟩
  ·have h1 : ¬ (op = 1) := by omega
   have h2:¬ (op = 2):=by omega
   simp [g0,g1,o0,o1,h1,h2,o3,o4]
  ·simp [o0,o1,o2,o3,o4,q0,q1]
 by_cases o5:op = 17
 ·subst o5
  obtain ⟨a,b,c,rfl⟩:=l3 (by simp at hl; omega)
  refine ⟨a.W == 1 && b.W == w && c.W == w,?_,?_⟩
  ·by_cases c1 : a.W = 1
   ·by_cases c2 : b.W = w
    ·simp [g0,g1,g2,c1,c2]
    ·have c2' : (b.W == w) = false := by simpa using c2
     simp [g0,g1,g2,c1,c2,c2']
   ·have c1' : (a.W == 1) = false := by simpa using c1
    simp [g0,g1,g2,c1,c1']
  ·simp
 by_cases o6:op = 18
 ·subst o6
  obtain ⟨a,b,rfl⟩:=l2 (by simp at hl; omega)
  have ha:=hk a (by simp)
  have hb:=hk b (by simp)
  have e18:w64 (a.W + b.W) = a.W + b.W:=Zd (by omega) (by omega)
  exact ⟨a.W + b.W == w,by simp [g0,g1,e18],by simp⟩
 by_cases o7:op = 19
 ·subst o7
  obtain ⟨a,rfl⟩:=l1 (by simp at hl; omega)
  have ha:=hk a (by simp)
  have e19:w64 (a.W - w) = a.W - w:=Zd (by omega) (by omega)
  refine ⟨decide (0 ≤ m) && decide (m ≤ a.W - w),?_,?_⟩
  ·by_cases c : 0 ≤ m
   ·simp [g0,e19,c]
   ·simp [g0,e19,c]
  ·simp only [ZjJ, ZlB]
   rw [Zlh]
   simp
   omega
 by_cases o8:20 ≤ op ∧ op ≤ 21
 ·have : op = 20 ∨ op = 21 := by omega
  obtain ⟨a,rfl⟩:=l1 (by rcases this with rfl | rfl <;> simp at hl <;> omega)
  refine ⟨decide (a.W ≤ w),?_,?_⟩
  ·rcases this with rfl | rfl <;> simp [g0]
  ·rcases this with rfl | rfl <;> simp
 exfalso
 have h1:¬ (op = 1):=by omega
 have h2:¬ (op = 2):=by omega
 have h4:¬ (op = 20):=by omega
 have h5:¬ (op = 21):=by omega
 have h6:¬ (3 ≤ op ∧ op ≤ 16):=by omega
 simp [o0,o1,h1,h2,o7,h4,h5,h6,o6,o5] at hl
theorem ZiD {t:D.Term} (hl:¬ (t.Kids.length:Int) = kc t.Op):shB t.Op t.W t.N t.Name (t.Kids.map (·.W)) = false:=by
 obtain ⟨op,w,m,nm,ks⟩:=t
 simp only at hl ⊢
 unfold shB
 unfold kc Yj at hl
 have hks:ks = [] ∨ (∃ a:D.Term,ks = [a]) ∨ (∃ a b:D.Term,ks = [a,b]) ∨ (∃ a b c:D.Term,ks = [a,b,c]) ∨ ∃ (a b c d:D.Term) (l:List D.Term),ks = a :: b :: c :: d :: l:=by
  rcases ks with _ | ⟨a,_ | ⟨b,_ | ⟨c,_ | ⟨d,l⟩⟩⟩⟩
  ·exact .inl rfl
  ·exact .inr (.inl ⟨a,rfl⟩)
  ·exact .inr (.inr (.inl ⟨a,b,rfl⟩))
  ·exact .inr (.inr (.inr (.inl ⟨a,b,c,rfl⟩)))
  ·exact .inr (.inr (.inr (.inr ⟨a,b,c,d,l,rfl⟩)))
 by_cases o0:op = 0
 ·subst o0
  rcases hks with rfl | ⟨a,rfl⟩ | ⟨a,b,rfl⟩ | ⟨a,b,c,rfl⟩ | ⟨a,b,c,d,l,rfl⟩ <;> simp at hl ⊢
 by_cases o1:op = 22
 ·subst o1
  rcases hks with rfl | ⟨a,rfl⟩ | ⟨a,b,rfl⟩ | ⟨a,b,c,rfl⟩ | ⟨a,b,c,d,l,rfl⟩ <;> simp at hl ⊢
 by_cases o2:1 ≤ op ∧ op ≤ 2
 ·have : op = 1 ∨ op = 2 := by omega
  rcases this with rfl | rfl <;> rcases hks with rfl | ⟨a,rfl⟩ | ⟨a,b,rfl⟩ | ⟨a,b,c,rfl⟩ | ⟨a,b,c,d,l,rfl⟩ <;> simp at hl ⊢
 have h1:¬ (op = 1):=by omega
 have h2:¬ (op = 2):=by omega
 by_cases o3:3 ≤ op ∧ op ≤ 13
 ·have h3 : ¬ (op = 19) := by omega
  have h4:¬ (op = 20):=by omega
  have h5:¬ (op = 21):=by omega
  have h6:3 ≤ op ∧ op ≤ 16:=by omega
  simp [o0,o1,h1,h2,h3,h4,h5,h6] at hl
  rcases hks with rfl | ⟨a,rfl⟩ | ⟨a,b,rfl⟩ | ⟨a,b,c,rfl⟩ | ⟨a,b,c,d,l,rfl⟩ <;> simp [o0,o1,o2,o3] at hl ⊢
 by_cases o4:14 ≤ op ∧ op ≤ 16
 ·have h3 : ¬ (op = 19) := by omega
  have h4:¬ (op = 20):=by omega
  have h5:¬ (op = 21):=by omega
  have h6:3 ≤ op ∧ op ≤ 16:=by omega
  simp [o0,o1,h1,h2,h3,h4,h5,h6] at hl
  rcases hks with rfl | ⟨a,rfl⟩ | ⟨a,b,rfl⟩ | ⟨a,b,c,rfl⟩ | ⟨a,b,c,d,l,rfl⟩ <;> simp [o0,o1,o2,o3,o4] at hl ⊢
 by_cases o5:op = 17
 ·subst o5
  rcases hks with rfl | ⟨a,rfl⟩ | ⟨a,b,rfl⟩ | ⟨a,b,c,rfl⟩ | ⟨a,b,c,d,l,rfl⟩ <;> simp at hl ⊢
 by_cases o6:op = 18
 ·subst o6
  rcases hks with rfl | ⟨a,rfl⟩ | ⟨a,b,rfl⟩ | ⟨a,b,c,rfl⟩ | ⟨a,b,c,d,l,rfl⟩ <;> simp at hl ⊢
 by_cases o7:op = 19
 ·subst o7
  rcases hks with rfl | ⟨a,rfl⟩ | ⟨a,b,rfl⟩ | ⟨a,b,c,rfl⟩ | ⟨a,b,c,d,l,rfl⟩ <;> simp at hl ⊢
 by_cases o8:20 ≤ op ∧ op ≤ 21
 ·have : op = 20 ∨ op = 21 := by omega
  rcases this with rfl | rfl <;> rcases hks with rfl | ⟨a,rfl⟩ | ⟨a,b,rfl⟩ | ⟨a,b,c,rfl⟩ | ⟨a,b,c,d,l,rfl⟩ <;> simp at hl ⊢
 simp [o0,o1,o2,o3,o4,o5,o6,o7,o8]
abbrev tab (m:Option (List (Str × Int))):List (Str × Int):=m.getD []
theorem get2 {g:List (Str × Int)} {s:Str} (hs:s.bytes.length ≤ 1048576):mget2? fitS (0:Int) g s = some ((g.lookup s).getD 0,(g.lookup s).isSome):=by
 unfold mget2?
 rw [Zj2 (by unfold fitS; simp; omega)]
theorem put1 {g:List (Str × Int)} {s:Str} {w:Int} (hs:s.bytes.length ≤ 1048576) (hw:1 ≤ w ∧ w ≤ 16) (hg:g.length ≤ 1000):mputE? fitS fitZ g s w = some ((s,w) :: g):=by
 unfold mputE?
 rw [Zj2 ⟨by unfold fitS; simp; omega,by unfold fitZ; simp [Lit.wf]; exact ⟨by show (-9223372036854775808:Int) ≤ w; omega,by omega⟩,by unfold room; omega⟩]
theorem ZbO {n:Nat} {c:D.termCheck} {t:D.Term} (hs:t.Name.bytes.length ≤ 1048576) (hn:1048580 ≤ n) (hw:1 ≤ t.W ∧ t.W ≤ 16) (hg:(tab c.widths).length ≤ 1000) :
  ∃ b m,ZQ n c t = some (b,⟨c.count,m⟩) ∧ (b = true → nameB t.Name = true ∧ stp (tab c.widths) (t.Name,t.W) = some (tab m)) ∧ (b = false → nameB t.Name = false ∨ stp (tab c.widths) (t.Name,t.W) = none):=by
 obtain ⟨cc,ww⟩:=c
 unfold ZQ
 rw [ZgU hs (by omega)]
 simp only [Zjv]
 cases hb:nameB t.Name
 ·exact ⟨false,ww,rfl,fun h=>(by cases h),fun _=>.inl rfl⟩
 ·simp only [Zkk, Zj1, ZjP]
  cases ww with
  | none=>
   simp only [Option.isNone_none,Zkd]
   rw [get2 hs]
   simp only [Zjv,List.lookup_nil,Zls,Zj1,ZjP]
   rw [put1 hs hw (by simp)]
   exact ⟨true,_,rfl,fun _=>⟨trivial,rfl⟩,fun h=>(by cases h)⟩
  | some g=>
   simp only [Option.isNone_some,Zj1,ZjP,Zka]
   rw [get2 hs]
   simp only [Zjv]
   unfold stp
   simp only [tab,Zka] at hg ⊢
   cases hl:g.lookup t.Name with
   | some w=>
    simp only [Option.isSome_some,Zkd,Zka]
    refine ⟨_,_,rfl,fun h=>⟨trivial,?_⟩,fun h=>.inr ?_⟩
    ·rw [Zj2 (by simpa using h)]; rfl
    ·rw [Zjz (by simpa using h)]
   | none=>
    simp only [Zls,Zj1,ZjP]
    rw [put1 hs hw hg]
    exact ⟨true,_,rfl,fun _=>⟨trivial,rfl⟩,fun h=>(by cases h)⟩
theorem ZdC {n:Nat} {ks:List D.Term} {c0:Int} {w0:Option (List (Str × Int))} (hn:1048580 ≤ n) (hks:ks.length ≤ 1048576) (hc:0 ≤ c0) (hc':c0 ≤ 240) (hg:(tab w0).length ≤ c0)
    (ih:∀ x ∈ ks,∀ c:D.termCheck,c0 ≤ c.count → c.count ≤ 240 → (tab c.widths).length ≤ c.count → ∃ b c',Zr n c x = some (b,c') ∧
      (b = true → c.count + cnt x ≤ 240 ∧ nodeB x = true ∧ c'.count = c.count + cnt x ∧ runV (tab c.widths) (vrs x) = some (tab c'.widths)) ∧ (b = false → ¬ (c.count + cnt x ≤ 240 ∧ nodeB x = true ∧ (runV (tab c.widths) (vrs x)).isSome = true))) :
    ∃ r,iterN (fun (s2:Int × Int × (Option (List (Str × Int))))=>
        if (decide (s2.1 < (len ks))) then
          (get? ks s2.1).bind fun x7=>
          (Zr n (D.termCheck.mk s2.2.1 s2.2.2) x7).bind fun x8=>
          if (!x8.1) then
            some (.inr (.inr (false,x8.2)))
          else
            some (.inl ((w64 (s2.1 + 1)),x8.2.count,x8.2.widths))
        else
          some (.inr (.inl (s2.2.1,s2.2.2)))
      ) n (0,c0,w0) = some (r:(Int × (Option (List (Str × Int)))) ⊕ (Bool × D.termCheck)) ∧
      ((∃ cc ww, r = .inl (cc, ww) ∧ cc = c0 + cnts ks ∧ cc ≤ 240 ∧ nodesB ks = true ∧ runV (tab w0) (vrss ks) = some (tab ww)) ∨
       ∃ c',r = .inr (false,c') ∧ ¬ (c0 + cnts ks ≤ 240 ∧ nodesB ks = true ∧ (runV (tab w0) (vrss ks)).isSome = true)):=by
  have hrl:=Zc1
  exact Ye (l := ks) (n := n) (σ := Int × (Option (List (Str × Int)))) (ρ := (Int × (Option (List (Str × Int)))) ⊕ (Bool × D.termCheck)) (B := fun (s2 : Int × Int × (Option (List (Str × Int)))) =>
        if (decide (s2.1 < (len ks))) then
          (get? ks s2.1).bind fun x7=>
          (Zr n (D.termCheck.mk s2.2.1 s2.2.2) x7).bind fun x8=>
          if (!x8.1) then
            some (.inr (.inr (false,x8.2)))
          else
            some (.inl ((w64 (s2.1 + 1)),x8.2.count,x8.2.widths))
        else
          some (.inr (.inl (s2.2.1,s2.2.2)))) (fun k a=>((k:Int),a.1,a.2))
      (fun ys a=>c0 ≤ a.1 ∧ a.1 ≤ 240 ∧ (tab a.2).length ≤ a.1 ∧ a.1 + cnts ys = c0 + cnts ks ∧ nodesB ys = nodesB ks ∧ runV (tab a.2) (vrss ys) = runV (tab w0) (vrss ks) ∧ ∀ x ∈ ys,x ∈ ks) _
      (fun k x xs a hk' hx hlen ⟨i0,i1,i2,i3,i4,i5,i6⟩=>by
        obtain ⟨ac,aw⟩:=a
        simp only at i0 i1 i2 i3 i5
        rw [Zbc] at i3
        rw [Yh,List.all_cons,← Yh] at i4
        rw [Xh,Ze2] at i5
        have hd:decide ((k:Int) < len ks) = true:=by rw [Za]; simp; omega
        obtain ⟨b,c',e1,e2,e3⟩:=ih x (i6 x (by simp)) ⟨ac,aw⟩ i0 i1 i2
        simp only [hd,Zkd,get?_nat,hx,Zjv,e1]
        cases b with
        | false =>
          refine .inr ⟨_,rfl,.inr ⟨c',rfl,fun ⟨h1,h2,h3⟩=>e3 rfl ⟨?_,?_,?_⟩⟩⟩
          · simp only; omega
          · rw [← i4,Zj0] at h2; exact h2.1
          · rw [← i5] at h3
            simp only
            cases hq:runV (tab aw) (vrs x) with
            | none=>rw [hq] at h3; cases h3
            | some _=>rfl
        | true =>
          obtain ⟨h1,h2,h3,h4⟩:=e2 rfl
          simp only at h1 h3 h4
          refine .inl ⟨(c'.count,c'.widths),by simp only [Zkk,Zj1,ZjP]; rw [Zd (by omega) (by omega)]; rfl,by simp only; omega,by simp only; omega,?_,by simp only; omega,by rw [← i4,h2,Zk4],?_,fun y hy=>i6 y (by simp [hy])⟩
          · have := ZcB h4
            have:=hrl x
            simp only; omega
          · rw [h4] at i5; exact i5)
      (fun a ⟨i0,i1,i2,i3,i4,i5,i6⟩=>by
        obtain ⟨ac,aw⟩:=a
        have hd:decide ((ks.length:Int) < len ks) = false:=by rw [Za]; simp
        simp only [hd,Zj1,ZjP]
        rw [ZaK] at i3
        rw [Zar] at i5
        refine ⟨_,rfl,.inl ⟨ac,aw,rfl,by simp only at i3; omega,i1,?_,i5.symm⟩⟩
        rw [← i4,Yh]; rfl) (a:=(c0,w0)) ⟨by simp only; omega,hc',hg,rfl,rfl,rfl,fun x hx=>hx⟩ (by omega)
def wsB (ks:List D.Term):Bool:=ks.all fun x=>decide (1 ≤ x.W ∧ x.W ≤ 16)
theorem Zje {ks:List D.Term} (h:nodesB ks = true):wsB ks = true:=by
 rw [Yh,ZjB] at h
 unfold wsB
 rw [ZjB]
 exact fun x hx=>decide_eq_true (ZR (h x hx))
theorem Zfw {n:Nat} {ks:List D.Term} {v:Bool × D.termCheck} (hn:ks.length < n) (hk:ks.length ≤ 1048576):iterN (fun (s1:Int)=>
   if (decide (s1 < (len ks))) then
    (get? ks s1).bind fun x3=>
    (Yi x3.W).bind fun x4=>
    if (!x4) then
     some (.inr (.inr v))
    else
     some (.inl ((w64 (s1 + 1))))
   else
    some (.inr (.inl ()))
  ) n (0) = some (if wsB ks = true then (.inl ():Unit ⊕ (Bool × D.termCheck)) else .inr v):=by
 obtain ⟨r,g1,g2⟩:=Ye (l:=ks) (n:=n) (σ:=Unit) (ρ:=Unit ⊕ (Bool × D.termCheck)) (B:=fun (s1:Int)=>
   if (decide (s1 < (len ks))) then
    (get? ks s1).bind fun x3=>
    (Yi x3.W).bind fun x4=>
    if (!x4) then
     some (.inr (.inr v))
    else
     some (.inl ((w64 (s1 + 1))))
   else
    some (.inr (.inl ()))) (fun k _=>(k:Int)) (fun ys _=>wsB ys = wsB ks) (fun r=>r = if wsB ks = true then (.inl ():Unit ⊕ (Bool × D.termCheck)) else .inr v)
  (fun k x xs a hk' hx hlen hi => by
   have hd:decide ((k:Int) < len ks) = true:=by rw [Za]; simp; omega
   simp only [hd,Zkd,get?_nat,hx,Zjv,ZeF]
   have e:wsB (x :: xs) = (decide (1 ≤ x.W ∧ x.W ≤ 16) && wsB xs):=rfl
   rw [e] at hi
   by_cases c:1 ≤ x.W ∧ x.W ≤ 16
   ·rw [decide_eq_true c, Zk4] at hi
    exact .inl ⟨(),by rw [decide_eq_true c,Zjz (by decide),Zd (by omega) (by omega)]; rfl,hi⟩
   ·rw [decide_eq_false c, ZlC] at hi
    exact .inr ⟨_,by rw [decide_eq_false c,Zj2 (by decide)],by rw [← hi]; rfl⟩)
  (fun a hi => by
   have hd:decide ((ks.length:Int) < len ks) = false:=by rw [Za]; simp
   simp only [hd,Zj1,ZjP]
   exact ⟨_,rfl,by rw [← hi]; rfl⟩) (a:=()) rfl hn
 rw [show ((0:Nat):Int) = 0 from rfl] at g1
 rw [g1,g2]
theorem ZgD:∀ (n:Nat) (t:D.Term) (c:D.termCheck),msz t ≤ 1048576 → 0 ≤ c.count → c.count ≤ 240 → (tab c.widths).length ≤ c.count → 1048580 + (241 - c.count) ≤ (n:Int) → ∃ b c',Zr n c t = some (b,c') ∧
   (b = true → c.count + cnt t ≤ 240 ∧ nodeB t = true ∧ c'.count = c.count + cnt t ∧ runV (tab c.widths) (vrs t) = some (tab c'.widths)) ∧ (b = false → ¬ (c.count + cnt t ≤ 240 ∧ nodeB t = true ∧ (runV (tab c.widths) (vrs t)).isSome = true)):=by
 intro n
 induction n with
 | zero=>intro t c _ _ _ _ _; omega
 | succ n ih=>
  intro t c hs h0 h1 hg hn
  have hz:=XW t
  have hc:=Xq t
  have hb:=XV t
  have bad:nodeB t = false → ¬ (c.count + cnt t ≤ 240 ∧ nodeB t = true ∧ (runV (tab c.widths) (vrs t)).isSome = true):=fun h ⟨_,h2,_⟩=>by rw [h] at h2; cases h2
  unfold Zr
  rw [Zd (by omega) (by omega)]
  by_cases hC:c.count + 1 > 240
  ·simp only [hC, decide_true, Zkd, Zjv, Zl0]
   exact ⟨false,_,rfl,fun h=>(by cases h),fun _ ⟨h,_,_⟩=>by omega⟩
  simp only [hC,decide_false,Zj1,ZjP,ZeF t.W,Zjv,ZkJ]
  by_cases hw:1 ≤ t.W ∧ t.W ≤ 16
  rotate_left
  ·simp only [hw, decide_false, Zlw, Zkd, Zjv, Zl0]
   exact ⟨false,_,rfl,fun h=>(by cases h),fun _=>bad (by rw [hb]; unfold locB; rw [decide_eq_false hw]; simp)⟩
  simp only [hw,decide_true,Zkk,Zj1,ZjP,Zjv,ZkJ,and_self,ZiW]
  by_cases hl:(t.Kids.length:Int) = kc t.Op
  rotate_left
  ·have : (len t.Kids != kc t.Op) = true := by rw [Za]; simpa using hl
   rw [Zj2 this]
   exact ⟨false,_,rfl,fun h=>(by cases h),fun _=>bad (by rw [hb]; unfold locB; rw [ZiD hl]; simp)⟩
  have hl':¬ (len t.Kids != kc t.Op) = true:=by rw [Za]; simpa using hl
  rw [Zjz hl',Zfw (by omega) (by omega)]
  simp only [Zjv]
  by_cases hk:wsB t.Kids = true
  rotate_left
  ·rw [Zjz hk]
   refine ⟨false,_,rfl,fun h=>(by cases h),fun _=>bad ?_⟩
   rw [hb]
   cases h:nodesB t.Kids
   ·simp
   ·exact absurd (Zje h) hk
  rw [Zj2 hk]
  have hkw:∀ x ∈ t.Kids,1 ≤ x.W ∧ x.W ≤ 16:=fun x hx=>by
   unfold wsB at hk
   rw [ZjB] at hk
   exact of_decide_eq_true (hk x hx)
  obtain ⟨f,hf1,hf2⟩:=Zi6 hw hkw hl
  have hloc:locB t = ((Str.eqb t.Name ⟨[]⟩ || t.Op == 22) && (t.N == 0 || t.Op == 0 || t.Op == 19) && (f && (t.Op != 0 || wordB t.W t.N) && (t.Op != 22 || nameB t.Name))):=by
   unfold locB; rw [hf2,decide_eq_true hw,Zk4]
  simp only [hf1,Zjv]
  cases f with
  | false=>
   exact ⟨false,_,rfl,fun h=>(by cases h),fun _=>bad (by rw [hb,hloc]; simp)⟩
  | true=>
  simp only [Zkk,Zj1,ZjP,ZgK]
  have hx6:∃ x6,(if (t.Op == 0) = true then some (wordB t.W t.N) else some default) = some x6 ∧ (t.Op = 0 → x6 = wordB t.W t.N):=by
   by_cases o:t.Op = 0
   ·exact ⟨_,Zj2 (by simpa using o),fun _=>rfl⟩
   ·exact ⟨_,Zjz (by simpa using o),fun h=>absurd h o⟩
  obtain ⟨x6,h6,h6'⟩:=hx6
  rw [h6]
  simp only [Zjv]
  by_cases c6:(t.Op == 0 && !x6) = true
  ·rw [Zj2 c6]
   simp only [Zj0,Zkr,Zku] at c6
   refine ⟨false,_,rfl,fun h=>(by cases h),fun _=>bad ?_⟩
   rw [hb,hloc,← h6' c6.1,c6.2,c6.1]; simp
  rw [Zjz c6]
  have d6:(t.Op != 0 || wordB t.W t.N) = true:=by
   by_cases o:t.Op = 0
   ·rw [← h6' o,o]; simp [o] at c6; simp [c6]
   ·simp [o]
  by_cases c7:(t.Op != 0 && t.Op != 19 && t.N != 0) = true
  ·rw [Zj2 c7]
   simp only [Zj0,bne_iff_ne,ne_eq] at c7
   refine ⟨false,_,rfl,fun h=>(by cases h),fun _=>bad ?_⟩
   rw [hb,hloc]
   have:(t.N == 0 || t.Op == 0 || t.Op == 19) = false:=by simp [c7]
   rw [this]; simp
  rw [Zjz c7]
  have d7:(t.N == 0 || t.Op == 0 || t.Op == 19) = true:=by
   simp only [Zj0,bne_iff_ne,ne_eq] at c7
   by_cases a1:t.N = 0 <;> by_cases a2:t.Op = 0 <;> by_cases a3:t.Op = 19 <;> simp [a1,a2,a3] at c7 ⊢
  rw [d6,d7] at hloc
  simp only [Zk4,Zl5] at hloc
  have ih':∀ x ∈ t.Kids,∀ c1:D.termCheck,c.count + 1 ≤ c1.count → c1.count ≤ 240 → (tab c1.widths).length ≤ c1.count → ∃ b c',Zr n c1 x = some (b,c') ∧
   (b = true → c1.count + cnt x ≤ 240 ∧ nodeB x = true ∧ c'.count = c1.count + cnt x ∧ runV (tab c1.widths) (vrs x) = some (tab c'.widths)) ∧ (b = false → ¬ (c1.count + cnt x ≤ 240 ∧ nodeB x = true ∧ (runV (tab c1.widths) (vrs x)).isSome = true)):=fun x hx c1 k1 k2 k3=>by
   have:=XC hx
   exact ih x c1 (by omega) (by omega) k2 k3 (by omega)
  by_cases ho:t.Op = 22
  ·rw [Zjz (by simp [ho])]
   have hv:vrs t = [(t.Name,t.W)]:=by rw [XU,Zj2 ho]
   have hrun:runV (tab c.widths) (vrs t) = stp (tab c.widths) (t.Name,t.W):=by
    rw [hv]; simp only [runV]; cases stp (tab c.widths) (t.Name,t.W) <;> rfl
   have hks:t.Kids = []:=by
    rw [ho] at hl
    exact Zla.1 (by have:kc 22 = 0:=rfl; omega)
   obtain ⟨b,m,e1,e2,e3⟩:=ZbO (n:=n) (c:=⟨c.count + 1,c.widths⟩) (t:=t) (by omega) (by omega) hw (by simp only; omega)
   rw [e1]
   simp only [Zjv]
   rw [ho] at hloc
   cases b with
   | false=>
    refine ⟨false,_,rfl,fun h=>(by cases h),fun _=>?_⟩
    rcases e3 rfl with e3 | e3
    ·exact bad (by rw [hb,hloc,e3]; simp)
    ·rw [hrun]
     simp only at e3
     rw [e3]
     exact fun ⟨_,_,h⟩=>by cases h
   | true=>
    obtain ⟨e4,e5⟩:=e2 rfl
    simp only at e5
    have hml:(tab m).length ≤ c.count + 1:=by have:=Zgk e5; omega
    obtain ⟨r,g1,g2⟩:=ZdC (n:=n) (ks:=t.Kids) (c0:=c.count + 1) (w0:=m) (by omega) (by omega) (by omega) (by omega) hml ih'
    rw [hks,ZaK,Zar] at g2
    have hcn:cnts t.Kids = 0:=by rw [hks,ZaK]
    have hnb:nodesB t.Kids = true:=by rw [hks,Yh]; rfl
    simp only [Zkk,Zj1,ZjP]
    rw [g1]
    rcases g2 with ⟨cc,ww,rfl,k1,k2,k3,k4⟩ | ⟨c',rfl,k1⟩
    ·refine ⟨true, ⟨cc, ww⟩, rfl, fun _ => ⟨by omega, ?_, by simp only; omega, ?_⟩, fun h => (by cases h)⟩
     ·rw [hb,hloc,e4,hnb]; simp
     ·rw [hrun, e5]
      simp only [runV,Option.some.injEq] at k4
      rw [k4]
    ·exfalso
     apply k1
     refine ⟨by omega,by rw [Yh]; rfl,rfl⟩
  ·rw [Zj2 (by simp [ho])]
   have hv:vrs t = vrss t.Kids:=by rw [XU,Zjz ho]
   by_cases c8:Str.eqb t.Name ⟨[]⟩ = true
   rotate_left
   ·rw [Zj2 (by simpa using c8)]
    refine ⟨false,_,rfl,fun h=>(by cases h),fun _=>bad ?_⟩
    rw [hb,hloc]
    simp [c8,ho]
   rw [Zjz (by simp [c8])]
   have hloc':locB t = true:=by rw [hloc,c8]; simp [ho]
   obtain ⟨r,g1,g2⟩:=ZdC (n:=n) (ks:=t.Kids) (c0:=c.count + 1) (w0:=c.widths) (by omega) (by omega) (by omega) (by omega) (by omega) ih'
   rw [g1,hv,hb,hloc']
   simp only [Zk4]
   rcases g2 with ⟨cc,ww,rfl,k1,k2,k3,k4⟩ | ⟨c',rfl,k1⟩
   ·exact ⟨true,⟨cc,ww⟩,rfl,fun _=>⟨by omega,k3,by simp only; omega,k4⟩,fun h=>(by cases h)⟩
   ·exact ⟨false,c',rfl,fun h=>(by cases h),fun _ ⟨h1,h2,h3⟩=>k1 ⟨by omega,h2,h3⟩⟩
theorem Zdw {t:D.Term} (h:msz t ≤ 1048576):Xk fuel t = some (termB t):=by
 unfold Xk
 obtain ⟨b,c',e1,e2,e3⟩:=ZgD fuel t ⟨0,none⟩ h (by simp) (by simp) (by simp [tab]) (by unfold fuel; simp)
 rw [e1]
 simp only [Zjv,Option.some.injEq]
 unfold termB
 simp only [tab,Option.getD_none] at e2 e3
 cases b with
 | true=>
  obtain ⟨h1,h2,-,h3⟩:=e2 rfl
  rw [h2,h3,decide_eq_true (by omega)]; rfl
 | false=>
  have:=e3 rfl
  cases hb:nodeB t
  ·simp
  ·cases hr : (runV [] (vrs t)).isSome
   ·simp
   ·have : ¬ cnt t ≤ 240 := fun hc => this ⟨by omega, hb, hr⟩
    simp [this]
end Go.Proofs.YthilnjkcemdfeaaGreat
end
