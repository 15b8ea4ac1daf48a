/- Texts of this claim put into one: library or plain laws, without the program under test. -/
import Derived.Test.YthilnjkcemdfeaaGreatPLib1
import Derived.Test.YthilnjkcemdfeaaGreatLib4
section
namespace Go.Proofs.YthilnjkcemdfeaaGreat
open Go.GL
open Cc (BS LS CircP Grow GoodL Good litN lines negs seqP ifP opP net RelB FOk)
set_option linter.unusedSimpArgs false
set_option maxRecDepth 100000
def atV:List D.Value → Int → Str → Int
 | [],a,_=>a
 | v :: l,a,s=>if Str.eqb v.Name s then a + v.W else atV l (a + v.W) s
def varL (vs:List D.Value) (s:Str) (w:Nat):List Int:=(List.range w).map fun k:Nat=>atV vs 1 s - (k:Int)
def fin (op:Int) (w m:Nat) (ks:List (List Int)) (s:BS):LS:=
 if op = 1 then (negs (ks.getD 0 []),s)
 else if op = 2 then if w = 16 then (List.replicate w (-1),(s.1,true)) else opP s 4 (List.replicate w (-1)) (ks.getD 0 [])
 else if op = 17 then seqP (fun s p=>ifP s ((ks.getD 0 []).getD 0 0) p.1 p.2) s ((ks.getD 1 []).zip (ks.getD 2 []))
 else if op = 18 then (ks.getD 1 [] ++ ks.getD 0 [],s)
 else if op = 19 then (((ks.getD 0 []).drop m).take w,s)
 else if op = 20 then (ks.getD 0 [] ++ List.replicate (w - (ks.getD 0 []).length) (-1),s)
 else if op = 21 then (ks.getD 0 [] ++ List.replicate (w - (ks.getD 0 []).length) ((ks.getD 0 []).getD ((ks.getD 0 []).length - 1) 0),s)
 else if (ks.getD 0 []).length = 16 then (List.replicate w (-1),(s.1,true)) else opP s op (ks.getD 0 []) (ks.getD 1 [])
structure VF (vs:List D.Value) (c:D.Circuit):Prop where
 w1:∀ v ∈ vs,1 ≤ v.W
 sum:(vs.map (·.W)).foldl (· + ·) 0 = c.Inputs
open Cc (BS LS CircP Grow GoodL Good litN lines negs seqP ifP opP net RelB FOk Zf3 Zfp Za0 ZbK Zeu)
def K2 (s:BS) (t:D.Term) (l:List Int):Prop:=l.length = t.W.toNat ∧ ∀ x ∈ l,litN (lines s.1) x = true
def KK (s:BS):List D.Term → List (List Int) → Prop
 | [],[]=>True
 | t :: ts,l :: ls=>K2 s t l ∧ KK s ts ls
 | _,_=>False
theorem K2.mono {s s':BS} {t:D.Term} {l:List Int} (h:K2 s t l) (g:Grow s.1 s'.1):K2 s' t l:=⟨h.1,fun x hx=>ZbK (h.2 x hx) g.lines⟩
theorem KK.mono {s s':BS} (g:Grow s.1 s'.1):∀ {ts:List D.Term} {ls:List (List Int)},KK s ts ls → KK s' ts ls
 | [],[],_=>trivial
 | [],_ :: _,h=>h.elim
 | _ :: _,[],h=>h.elim
 | _ :: _,_ :: _,h=>⟨h.1.mono g,KK.mono g h.2⟩
theorem VF.mono {vs:List D.Value} {c c':D.Circuit} (h:VF vs c) (g:Grow c c'):VF vs c':=⟨h.w1,h.sum.trans g.inputs.symm⟩
open Cc (BS LS CircP Grow GoodL Good litN lines negs seqP ifP opP net RelB FOk FU)
section
variable {n:Nat} [FU n] {s:BS}
theorem g0 {α:Type} {a:α} {l:List α}:get? (a :: l) 0 = some a:=rfl
theorem g1 {α:Type} {a b:α} {l:List α}:get? (a :: b :: l) 1 = some b:=rfl
theorem g2 {α:Type} {a b c:α} {l:List α}:get? (a :: b :: c :: l) 2 = some c:=rfl
end
section
variable {vs:List D.Value} (hp:vs.Pairwise fun x y=>x.Name ≠ y.Name) (hw16:∀ v ∈ vs,v.W ≤ 16)
include hp hw16
end
def MapOk (vs:List D.Value) (mp:List (Str × List Int)):Prop:=∀ v ∈ vs,v.Name.bytes.length ≤ 1000 ∧ (mp.lookup v.Name).getD [] = varL vs v.Name v.W.toNat
section
variable {vs:List D.Value} (hp:vs.Pairwise fun x y=>x.Name ≠ y.Name) {mp:List (Str × List Int)} (hmp:MapOk vs mp)
include hp hmp
end
instance:FU fuel:=⟨by unfold fuel; omega⟩
end Go.Proofs.YthilnjkcemdfeaaGreat
end
