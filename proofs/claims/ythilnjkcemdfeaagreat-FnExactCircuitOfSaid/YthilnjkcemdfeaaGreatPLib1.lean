/- Texts of this claim put into one: library or plain laws, without the program under test. -/
import Derived.Test.YthilnjkcemdfeaaGreatLib3
import Derived.Test.YthilnjkcemdfeaaGreatDefs
import Derived.Lib.Strings
section
namespace Go.Proofs.YthilnjkcemdfeaaGreat.Cc
open Go.GL
class FU (n:Nat):Prop where
 le:1048577 ≤ n
variable {fuel:Nat} [FU fuel]
def iab (x:Int):Int:=if x < 0 then -x else x
def gateB (n:Int) (seen:List D.Gate) (g:D.Gate):Bool:=
 decide (-(n + 1 + (seen.length:Int)) ≤ g.A ∧ g.A ≤ n + 1 + seen.length) && decide (-(n + 1 + (seen.length:Int)) ≤ g.B ∧ g.B ≤ n + 1 + seen.length) && decide (2 ≤ iab g.A) && decide (iab g.A < iab g.B) && !(seen.contains g)
end Go.Proofs.YthilnjkcemdfeaaGreat.Cc
end
section
namespace Go.Proofs.YthilnjkcemdfeaaGreat.Cc
open Go.GL
variable {fuel:Nat} [FU fuel]
def find (l:List D.Gate) (g:D.Gate):Option Nat:=(List.range' 0 l.length).find? fun i=>decide (l[i]? = some g)
def lines (c:D.Circuit):Int:=c.Inputs + 1 + c.Gates.length
def litN (n x:Int):Bool:=decide (1 ≤ iab x) && decide (iab x ≤ n)
theorem Za0 {n x:Int}:litN n x = true ↔ 1 ≤ iab x ∧ iab x ≤ n:=by unfold litN; simp
theorem ZeU (x:Int):iab (-x) = iab x:=by unfold iab; split <;> split <;> omega
theorem Zeu {n x:Int}:litN n (-x) = litN n x:=by unfold litN; rw [ZeU]
theorem ZbK {n n' x:Int} (h:litN n x = true) (hn:n ≤ n'):litN n' x = true:=by rw [Za0] at *; omega
structure CircP (c:D.Circuit):Prop where
 i0:0 ≤ c.Inputs
 i1:c.Inputs ≤ 30
 len:c.Gates.length ≤ 360
 gate:∀ k g,c.Gates[k]? = some g → gateB c.Inputs (c.Gates.take k) g = true
theorem CircP.lines0 {c:D.Circuit} (h:CircP c):1 ≤ lines c:=by have:=h.i0; unfold lines; omega
theorem ZdI {n:Int} {l:List D.Gate} {g:D.Gate}:gateB n l g = true ↔ (-(n + 1 + (l.length:Int)) ≤ g.A ∧ g.A ≤ n + 1 + l.length) ∧ (-(n + 1 + (l.length:Int)) ≤ g.B ∧ g.B ≤ n + 1 + l.length) ∧ 2 ≤ iab g.A ∧ iab g.A < iab g.B ∧ g ∉ l:=by
 unfold gateB
 simp only [Zf8,ZfV,Zgl,List.contains_eq_mem,decide_eq_false_iff_not,and_assoc]
theorem CircP.fit {c:D.Circuit} (h:CircP c):Zca c:=by
 refine ⟨by have:=h.i0; have:=h.i1; unfold fitInt; omega,by have:=h.len; omega,fun g hg=>?_⟩
 obtain ⟨k,hk⟩:=Zg7.1 hg
 have h1:=ZdI.1 (h.gate k g hk)
 have hl:=(Zf7.1 hk).1
 have h2:=h.len
 have h3:=h.i1
 have:(c.Gates.take k).length ≤ 360:=by rw [ZfK]; omega
 unfold Zc7 fitInt
 omega
structure Grow (c c':D.Circuit):Prop where
 inputs:c'.Inputs = c.Inputs
 gates:c.Gates <+: c'.Gates
theorem Grow.refl (c:D.Circuit):Grow c c:=⟨rfl,List.prefix_rfl⟩
theorem Grow.trans {a b c:D.Circuit} (h:Grow a b) (k:Grow b c):Grow a c:=⟨k.1.trans h.1,h.2.trans k.2⟩
theorem Grow.lines {c c':D.Circuit} (h:Grow c c'):lines c ≤ lines c':=by
 have:=h.2.length_le
 have:=h.1
 unfold Proofs.YthilnjkcemdfeaaGreat.Cc.lines; omega
def gate2 (a b:Int):D.Gate:=if iab a > iab b then ⟨b,a⟩ else ⟨a,b⟩
abbrev BS:=D.Circuit × Bool
def andP (s:BS) (a b:Int):Int × BS:=
 if a = -1 ∨ b = -1 ∨ a = -b then (-1,s) else if a = 1 then (b,s) else if b = 1 ∨ a = b then (a,s) else
 match find s.1.Gates (gate2 a b) with
 | some i=>(s.1.Inputs + 2 + i,s)
 | none=>if 360 ≤ s.1.Gates.length then (-1,(s.1,true)) else (s.1.Inputs + 2 + s.1.Gates.length,(⟨s.1.Inputs,s.1.Gates ++ [gate2 a b]⟩,s.2))
structure LineOk (n:Int) (l:List D.Gate) (m:List (D.Gate × Int)):Prop where
 look:∀ g,m.lookup g = (find l g).map fun (i:Nat)=>n + 2 + (i:Int)
 len:m.length = l.length
theorem LineOk.nil (n:Int):LineOk n [] []:=⟨fun _=>rfl,rfl⟩
structure RelB (m:D.builder) (s:BS):Prop where
 c:m.c = s.1
 full:m.full = s.2
 line:LineOk s.1.Inputs s.1.Gates m.line
end Go.Proofs.YthilnjkcemdfeaaGreat.Cc
end
section
namespace Go.Proofs.YthilnjkcemdfeaaGreat.Cc
open Go.GL
variable {fuel:Nat} [FU fuel]
abbrev net (s:BS):D.l04Net:=⟨s.1,s.2⟩
structure Good (s:BS) (r:Int × BS):Prop where
 circ:CircP r.2.1
 grow:Grow s.1 r.2.1
 lit:litN (lines r.2.1) r.1 = true
def orP (s:BS) (a b:Int):Int × BS:=let r:=andP s (-a) (-b); (-r.1,r.2)
def xorP (s:BS) (a b:Int):Int × BS:=let p:=andP s a (-b); let q:=andP p.2 (-a) b; orP q.2 p.1 q.1
def ifP (s:BS) (c a b:Int):Int × BS:=let p:=andP s c a; let q:=andP p.2 (-c) b; orP q.2 p.1 q.1
section
variable {s:BS} (hs:CircP s.1)
include hs
end
abbrev AS:=List Int × Int × BS
def addStep (t:AS) (p:Int × Int):AS:=
 let x:=xorP t.2.2 p.1 p.2
 let o:=xorP x.2 x.1 t.2.1
 let y:=andP o.2 p.1 p.2
 let z:=andP y.2 x.1 t.2.1
 let w:=orP z.2 y.1 z.1
 (t.1 ++ [o.1],w.1,w.2)
def addP (s:BS) (a b:List Int) (c:Int):AS:=(a.zip b).foldl addStep ([],c,s)
end Go.Proofs.YthilnjkcemdfeaaGreat.Cc
end
section
namespace Go.Proofs.YthilnjkcemdfeaaGreat.Cc
open Go.GL
variable {fuel:Nat} [FU fuel]
end Go.Proofs.YthilnjkcemdfeaaGreat.Cc
end
section
namespace Go.Proofs.YthilnjkcemdfeaaGreat.Cc
open Go.GL
variable {fuel:Nat} [FU fuel]
abbrev LS:=List Int × BS
section
variable {α:Type}
def seqP (f:BS → α → Int × BS) (s:BS) (l:List α):LS:=l.foldl (fun t x=>(t.1 ++ [(f t.2 x).1],(f t.2 x).2)) ([],s)
structure GoodL (s:BS) (n:Nat) (t:LS):Prop where
 circ:CircP t.2.1
 grow:Grow s.1 t.2.1
 len:t.1.length = n
 lits:∀ x ∈ t.1,litN (lines t.2.1) x = true
def FOk (f:BS → α → Int × BS) (s:BS) (l:List α):Prop:=∀ s' x,CircP s'.1 → Grow s.1 s'.1 → x ∈ l → Good s' (f s' x)
end
def negs (l:List Int):List Int:=l.map fun x=>-x
theorem Zfp {c:D.Circuit} (h:CircP c):litN (lines c) (-1) = true:=Za0.2 ⟨by simp [iab],by have:=h.lines0; simpa [iab] using this⟩
theorem Zf3 {c:D.Circuit} (h:CircP c):litN (lines c) 1 = true:=Za0.2 ⟨by simp [iab],by have:=h.lines0; simpa [iab] using this⟩
def partF (bk:Int):BS → Int → Int × BS:=fun s x=>andP s bk x
def mulStep (a b:List Int) (t:LS) (k:Nat):LS:=
 let p:=seqP (partF (b.getD k 0)) t.2 (a.take (a.length - k))
 let q:=addP p.2 (t.1.drop k) p.1 (-1)
 (t.1.take k ++ q.1,q.2.2)
def mulK (s:BS) (a b:List Int) (k:Nat):LS:=(List.range k).foldl (mulStep a b) (List.replicate a.length (-1),s)
section
variable {s:BS} (hs:CircP s.1) {a b:List Int} (hab:a.length = b.length) (ha:∀ x ∈ a,litN (lines s.1) x = true) (hb:∀ x ∈ b,litN (lines s.1) x = true)
include hs hab ha hb
end
section
variable {s:BS} (hs:CircP s.1) {a b:List Int} (hab:a.length = b.length) (hl:a.length ≤ 16) (ha:∀ x ∈ a,litN (lines s.1) x = true) (hb:∀ x ∈ b,litN (lines s.1) x = true)
include hs hab hl ha hb
end
section
variable {α σt ρt:Type}
def accP (f:BS → Int → α → Int × BS) (s:BS) (c:Int) (l:List α):Int × BS:=l.foldl (fun t x=>f t.2 t.1 x) (c,s)
end
abbrev DS:=List Int × List Int × BS
def selF (c:Int):BS → Int × Int → Int × BS:=fun s p=>ifP s c p.1 p.2
def divStep (a less:List Int) (t:DS) (k:Nat):DS:=
 let d:=addP t.2.2 (a.getD k 0 :: t.1) less 1
 let q:=seqP (selF d.2.1) d.2.2 ((d.1.zip (a.getD k 0 :: t.1)).take a.length)
 (q.1,d.2.1 :: t.2.1,q.2)
def lessOf (b:List Int):List Int:=negs b ++ [1]
def divK (s:BS) (a b:List Int) (k:Nat):DS:=(List.range k).foldl (fun t i=>divStep a (lessOf b) t (a.length - 1 - i)) (List.replicate a.length (-1),[],s)
section
variable {s:BS} {a b:List Int} (hab:a.length = b.length) (ha:∀ x ∈ a,litN (lines s.1) x = true) (hb:∀ x ∈ b,litN (lines s.1) x = true)
include hab ha hb
end
section
variable {s:BS} (hs:CircP s.1) {a b:List Int} (hab:a.length = b.length) (hl:a.length ≤ 16) (ha:∀ x ∈ a,litN (lines s.1) x = true) (hb:∀ x ∈ b,litN (lines s.1) x = true)
include hs hab hl ha hb
end
end Go.Proofs.YthilnjkcemdfeaaGreat.Cc
end
section
namespace Go.Proofs.YthilnjkcemdfeaaGreat.Cc
open Go.GL
variable {fuel:Nat} [FU fuel]
def lg (w:Nat):Nat:=if w ≤ 1 then 0 else if w ≤ 2 then 1 else if w ≤ 4 then 2 else if w ≤ 8 then 3 else 4
def pick (L:Bool) (d:Nat) (fill:Int) (out:List Int) (j:Nat):Int:=
 if L then (if d ≤ j then out.getD (j - d) 0 else fill) else (if j + d < out.length then out.getD (j + d) 0 else fill)
def shPairs (L:Bool) (d:Nat) (fill:Int) (out:List Int):List (Int × Int):=(List.range out.length).map fun j=>(pick L d fill out j,out.getD j 0)
def shStep (L:Bool) (fill:Int) (b:List Int) (t:LS) (k:Nat):LS:=seqP (selF (b.getD k 0)) t.2 (shPairs L (2 ^ k) fill t.1)
def shK (s:BS) (a b:List Int) (L:Bool) (fill:Int) (k:Nat):LS:=(List.range k).foldl (shStep L fill b) (a,s)
def orF:BS → Int → Int → Int × BS:=fun s c x=>orP s c x
def finF (c fill:Int):BS → Int → Int × BS:=fun s x=>ifP s c fill x
def shFar (s:BS) (a b:List Int) (L:Bool) (fill:Int):Int × BS:=accP orF (shK s a b L fill (lg a.length)).2 (-1) (b.drop (lg a.length))
def shP (s:BS) (a b:List Int) (L:Bool) (fill:Int):LS:=seqP (finF (shFar s a b L fill).1 fill) (shFar s a b L fill).2 (shK s a b L fill (lg a.length)).1
section
variable {s:BS} {a b:List Int} {L:Bool} {fill:Int} (hab:a.length = b.length) (hl:a.length ≤ 15) (ha:∀ x ∈ a,litN (lines s.1) x = true) (hb:∀ x ∈ b,litN (lines s.1) x = true) (hf:litN (lines s.1) fill = true)
include hab hl ha hb hf
end
section
variable {s:BS} (hs:CircP s.1) {a b:List Int} {op fill:Int} (hab:a.length = b.length) (hl:a.length ≤ 15) (hw:1 ≤ a.length) (ha:∀ x ∈ a,litN (lines s.1) x = true) (hb:∀ x ∈ b,litN (lines s.1) x = true) (hf:litN (lines s.1) fill = true)
include hs hab hl hw ha hb hf
end
end Go.Proofs.YthilnjkcemdfeaaGreat.Cc
end
section
namespace Go.Proofs.YthilnjkcemdfeaaGreat.Cc
open Go.GL
variable {fuel:Nat} [FU fuel]
def andF2:BS → Int × Int → Int × BS:=fun s p=>andP s p.1 p.2
def orF2:BS → Int × Int → Int × BS:=fun s p=>orP s p.1 p.2
def xorF2:BS → Int × Int → Int × BS:=fun s p=>xorP s p.1 p.2
def eqF:BS → Int → Int × Int → Int × BS:=fun s c p=>andP (xorP s p.1 p.2).2 c (-(xorP s p.1 p.2).1)
def flipP (l:List Int):List Int:=l.set (l.length - 1) (-(l.getD (l.length - 1) 0))
def lessP (s:BS) (a b:List Int):LS:=let r:=addP s a (negs b) 1; ([-r.2.1],r.2.2)
def equalP (s:BS) (a b:List Int):LS:=let r:=accP eqF s 1 (a.zip b); ([r.1],r.2)
def opP (s:BS) (op:Int) (a b:List Int):LS:=
 if op = 3 then ((addP s a b (-1)).1,(addP s a b (-1)).2.2)
 else if op = 4 then ((addP s a (negs b) 1).1,(addP s a (negs b) 1).2.2)
 else if op = 5 then mulK s a b a.length
 else if op = 6 then ((divK s a b a.length).2.1,(divK s a b a.length).2.2)
 else if op = 7 then ((divK s a b a.length).1,(divK s a b a.length).2.2)
 else if op = 8 then seqP andF2 s (a.zip b)
 else if op = 9 then seqP orF2 s (a.zip b)
 else if op = 10 then seqP xorF2 s (a.zip b)
 else if op = 11 then shP s a b true (-1)
 else if op = 12 then shP s a b false (-1)
 else if op = 13 then shP s a b false (a.getD (a.length - 1) 0)
 else if op = 14 then equalP s a b
 else if op = 15 then lessP s a b
 else lessP s (flipP a) (flipP b)
section
variable {s:BS} {a b:List Int} (ha:∀ x ∈ a,litN (lines s.1) x = true) (hb:∀ x ∈ b,litN (lines s.1) x = true)
include ha hb
end
section
variable {s:BS} (hs:CircP s.1) {a b:List Int} (hab:a.length = b.length) (hl:a.length ≤ 15) (ha:∀ x ∈ a,litN (lines s.1) x = true) (hb:∀ x ∈ b,litN (lines s.1) x = true)
include hs hab hl
include ha hb
end
end Go.Proofs.YthilnjkcemdfeaaGreat.Cc
end
section
namespace Go.Proofs.YthilnjkcemdfeaaGreat.Cc
open Go.GL
variable {fuel:Nat} [FU fuel]
section
variable {s:BS} (hs:CircP s.1) {op:Int} {a b:List Int} (ho:3 ≤ op ∧ op ≤ 16) (hab:a.length = b.length) (hl:a.length ≤ 15) (hw:1 ≤ a.length) (ha:∀ x ∈ a,litN (lines s.1) x = true) (hb:∀ x ∈ b,litN (lines s.1) x = true)
include hs ho hab hl hw ha hb
end
end Go.Proofs.YthilnjkcemdfeaaGreat.Cc
end
section
namespace Go.Proofs.YthilnjkcemdfeaaGreat
open Go.GL
def fuel:Nat:=4194400
def wordB (w v:Int):Bool:=(Xt w v).getD false
mutual
def msz:D.Term → Nat
 | ⟨_,_,_,s,k⟩=>s.bytes.length + k.length + mszs k
def mszs:List D.Term → Nat
 | []=>0
 | x :: l=>msz x + mszs l
end
set_option maxRecDepth 100000
mutual
def cnt:D.Term → Nat
 | ⟨_,_,_,_,k⟩=>1 + cnts k
def cnts:List D.Term → Nat
 | []=>0
 | x :: l=>cnt x + cnts l
end
def okF (k:Nat):List UInt8 → Bool
 | []=>true
 | b :: l=>(decide (97 ≤ b.toNat ∧ b.toNat ≤ 122) || (decide (k ≠ 0) && decide (48 ≤ b.toNat ∧ b.toNat ≤ 57))) && okF (k + 1) l
def nameB (s:Str):Bool:=okF 0 s.bytes && decide (1 ≤ s.bytes.length ∧ s.bytes.length ≤ 8)
def shB (op w m:Int) (name:Str) (ws:List Int):Bool:=
 if op = 0 then ws.isEmpty && wordB w m
 else if op = 22 then ws.isEmpty && nameB name
 else if 1 ≤ op ∧ op ≤ 2 then (match ws with | [a]=>a == w | _=>false)
 else if 3 ≤ op ∧ op ≤ 13 then (match ws with | [a,b]=>a == w && b == w | _=>false)
 else if 14 ≤ op ∧ op ≤ 16 then (match ws with | [a,b]=>a == b && w == 1 | _=>false)
 else if op = 17 then (match ws with | [a,b,c]=>a == 1 && b == w && c == w | _=>false)
 else if op = 18 then (match ws with | [a,b]=>a + b == w | _=>false)
 else if op = 19 then (match ws with | [a]=>decide (0 ≤ m ∧ m ≤ 16) && decide (m + w ≤ a) | _=>false)
 else if 20 ≤ op ∧ op ≤ 21 then (match ws with | [a]=>decide (a ≤ w) | _=>false)
 else false
def locB (t:D.Term):Bool:=
 decide (1 ≤ t.W ∧ t.W ≤ 16) && (Str.eqb t.Name ⟨[]⟩ || t.Op == 22) && (t.N == 0 || t.Op == 0 || t.Op == 19) && shB t.Op t.W t.N t.Name (t.Kids.map (·.W))
mutual
def nodeB:D.Term → Bool
 | ⟨o,w,m,s,k⟩=>locB ⟨o,w,m,s,k⟩ && nodesB k
def nodesB:List D.Term → Bool
 | []=>true
 | x :: l=>nodeB x && nodesB l
end
set_option linter.unusedSimpArgs false
theorem Zej:∀ x:List UInt8,Op.bytesLess x x = false
 | []=>rfl
 | a :: x=>by simp [Op.bytesLess,Zej x]
theorem Zcm:∀ x y z:List UInt8,Op.bytesLess x y = true → Op.bytesLess y z = true → Op.bytesLess x z = true
 | _,_,[]=>by intro _ h; cases ‹List UInt8› <;> simp [Op.bytesLess] at h
 | _,[],_ :: _=>by intro h _; cases ‹List UInt8› <;> simp [Op.bytesLess] at h
 | [],_ :: _,_ :: _=>by intro _ _; rfl
 | a :: x,b :: y,c :: z=>by
  intro h1 h2
  simp only [Op.bytesLess,Zge,ZfV,Zf8,Zg1] at h1 h2 ⊢
  rcases h1 with h1 | ⟨rfl,h1⟩
  ·rcases h2 with h2 | ⟨rfl, h2⟩
   ·exact .inl (UInt8.lt_trans h1 h2)
   ·exact .inl h1
  ·rcases h2 with h2 | ⟨rfl, h2⟩
   ·exact .inl h2
   ·exact .inr ⟨rfl,Zcm x y z h1 h2⟩
theorem Zew:∀ x y:List UInt8,Op.bytesLess x y = false → x ≠ y → Op.bytesLess y x = true
 | [],[]=>fun _ h=>absurd rfl h
 | _ :: _,[]=>fun _ _=>rfl
 | [],_ :: _=>fun h _=>by simp [Op.bytesLess] at h
 | a :: x,b :: y=>by
  intro h1 h2
  simp only [Op.bytesLess,Bool.or_eq_false_iff,decide_eq_false_iff_not,Zge,ZfV,Zf8,Zg1] at h1 ⊢
  by_cases e:a = b
  ·subst e
   have:Op.bytesLess x y = false:=by simpa using h1.2
   exact .inr ⟨rfl,Zew x y this (fun h=>h2 (by rw [h]))⟩
  ·rcases UInt8.lt_or_lt_of_ne e with h | h
   ·exact absurd h h1.1
   ·exact .inl h
theorem toList_mk (l:List UInt8):(ByteArray.mk l.toArray).toList = l:=by
 exact (Lib.toList_data _)
theorem ZcX (a b:Str):Str.ltb a b = Op.bytesLess a.bytes b.bytes:=by unfold Str.ltb; rw [toList_mk,toList_mk]
theorem Zfg (a:Str):Str.ltb a a = false:=by rw [ZcX]; exact Zej _
theorem lt_trans {a b c:Str} (h1:Str.ltb a b = true) (h2:Str.ltb b c = true):Str.ltb a c = true:=by rw [ZcX] at *; exact Zcm _ _ _ h1 h2
theorem Zfq {a b:Str} (h1:Str.ltb a b = false) (h2:a ≠ b):Str.ltb b a = true:=by
 rw [ZcX] at *
 exact Zew _ _ h1 fun e=>h2 (by cases a; cases b; simpa using e)
mutual
def vrs:D.Term → List (Str × Int)
 | ⟨o,w,_,s,k⟩=>if o = 22 then [(s,w)] else vrss k
def vrss:List D.Term → List (Str × Int)
 | []=>[]
 | x :: l=>vrs x ++ vrss l
end
def stp (g:List (Str × Int)) (v:Str × Int):Option (List (Str × Int)):=
 match g.lookup v.1 with
 | some w=>if w = v.2 then some g else none
 | none=>some (v :: g)
def runV (g:List (Str × Int)):List (Str × Int) → Option (List (Str × Int))
 | []=>some g
 | v :: l=>(stp g v).bind fun g'=>runV g' l
def Rel (l:List D.Value) (g:List (Str × Int)):Prop:=
 l.Pairwise (fun a b=>Str.ltb a.Name b.Name = true) ∧ l.length = g.length ∧ (∀ v ∈ l,g.lookup v.Name = some v.W) ∧ ∀ s w,g.lookup s = some w → ∃ v ∈ l,v.Name = s
def before (s:Str) (l:List D.Value):Nat:=(l.takeWhile fun v=>Str.ltb v.Name s).length
theorem ZdL (s:Str) (l:List D.Value):before s l ≤ l.length:=(List.takeWhile_sublist _).length_le
theorem ZaJ {s:Str}:∀ {l:List D.Value} {i:Nat} {v:D.Value},i < before s l → l[i]? = some v → Str.ltb v.Name s = true
 | [],i,v,h,hv=>by simp at hv
 | x :: l,i,v,h,hv=>by
  unfold before at h
  rw [List.takeWhile_cons] at h
  split at h
  ·cases i with
   | zero=>simp at hv; subst hv; assumption
   | succ i=>exact ZaJ (l:=l) (i:=i) (by unfold before; simpa using h) (by simpa using hv)
  ·simp at h
theorem ZaN {s:Str}:∀ {l:List D.Value} {v:D.Value},l[before s l]? = some v → Str.ltb v.Name s = false
 | [],v,hv=>by simp at hv
 | x :: l,v,hv=>by
  unfold before at hv
  rw [List.takeWhile_cons] at hv
  by_cases h:Str.ltb x.Name s = true
  ·rw [Zgh h] at hv
   exact ZaN (l:=l) (by unfold before; simpa using hv)
  ·rw [Zgt h] at hv
   simp at hv; subst hv
   simpa using h
theorem Rel.none {l:List D.Value} {g:List (Str × Int)} {s:Str} (h:Rel l g) (hn:∀ v,l[before s l]? = some v → v.Name ≠ s):g.lookup s = none:=by
 cases e:g.lookup s with
 | none=>rfl
 | some w=>
  exfalso
  obtain ⟨v,hv,rfl⟩:=h.2.2.2 s w e
  obtain ⟨j,hj⟩:=Zg7.1 hv
  rcases Zhj j (before v.Name l) with h1 | h1 | h1
  ·have := ZaJ h1 hj
   rw [Zfg] at this; cases this
  ·rw [h1] at hj; exact hn v hj rfl
  ·obtain ⟨hj', e2⟩ := Zf7.1 hj
   have hu:l[before v.Name l]? = some l[before v.Name l]:=Zf6 (by omega)
   have h2:=ZaN hu
   have h3:=Zgv.1 h.1 _ _ (by omega) hj' h1
   rw [e2] at h3
   rw [h2] at h3; cases h3
theorem Rel.put {l:List D.Value} {g:List (Str × Int)} {s:Str} {w:Int} (h:Rel l g) (hn:∀ v,l[before s l]? = some v → v.Name ≠ s):Rel (l.take (before s l) ++ [⟨s,w,0⟩] ++ l.drop (before s l)) ((s,w) :: g):=by
 have hno:=h.none hn
 have hb:=ZdL s l
 have hlt:∀ v ∈ l.take (before s l),Str.ltb v.Name s = true:=fun v hv=>by
  obtain ⟨j,hj⟩:=Zg7.1 hv
  rw [ZfS] at hj
  split at hj
  ·exact ZaJ (by assumption) hj
  ·cases hj
 have hgt:∀ v ∈ l.drop (before s l),Str.ltb s v.Name = true:=fun v hv=>by
  obtain ⟨j,hj⟩:=Zg7.1 hv
  rw [Zgx] at hj
  obtain ⟨hj',e2⟩:=Zf7.1 hj
  have hu:l[before s l]? = some l[before s l]:=Zf6 (by omega)
  have h1:=Zfq (ZaN hu) (hn _ hu)
  rcases Nat.eq_zero_or_pos j with rfl | hp
  ·simp only [ZgJ] at e2; rw [← e2]; exact h1
  ·have h3 := Zgv.1 h.1 _ _ (by omega) hj' (show before s l < before s l + j by omega)
   rw [e2] at h3
   exact lt_trans h1 h3
 have hmem:∀ v,v ∈ l.take (before s l) ++ [⟨s,w,0⟩] ++ l.drop (before s l) ↔ v = ⟨s,w,0⟩ ∨ v ∈ l:=fun v=>by
  have:v ∈ l ↔ v ∈ l.take (before s l) ∨ v ∈ l.drop (before s l):=by
   rw [← ZfU,Zg4]
  simp only [ZfU,Zg5,this]
  grind
 have hp:(l.take (before s l) ++ l.drop (before s l)).Pairwise (fun a b=>Str.ltb a.Name b.Name = true):=by rw [Zg4]; exact h.1
 rw [ZgN] at hp
 refine ⟨?_,?_,fun v hv=>?_,fun s' w' hs=>?_⟩
 ·rw [ZgC, ZgN]
  refine ⟨hp.1,?_,fun a ha b hb=>?_⟩
  ·rw [Zg6, ZgV]
   exact ⟨fun b hb=>hgt b hb,hp.2.1⟩
  ·rw [Zg6] at hb
   rcases Zgd.1 hb with rfl | hb
   ·exact hlt a ha
   ·exact hp.2.2 a ha b hb
 ·have := h.2.1
  simp; omega
 ·rcases (hmem v).1 hv with rfl | hv
  ·simp
  ·have h1 := h.2.2.1 v hv
   have:v.Name ≠ s:=fun e=>by rw [e,hno] at h1; cases h1
   rw [ZfT]
   have:(v.Name == s) = false:=by simpa using this
   rw [this]; exact h1
 ·rw [ZfT] at hs
  by_cases e:s' = s
  ·exact ⟨_,(hmem _).2 (.inl rfl),e.symm⟩
  ·have : (s' == s) = false := by simpa using e
   rw [this] at hs
   obtain ⟨v,h1,h2⟩:=h.2.2.2 s' w' hs
   exact ⟨v,(hmem _).2 (.inr h1),h2⟩
def termB (t:D.Term):Bool:=decide (cnt t ≤ 240) && nodeB t && (runV [] (vrs t)).isSome
def kc (o:Int):Int:=(YH o).getD 0
abbrev tab (m:Option (List (Str × Int))):List (Str × Int):=m.getD []
end Go.Proofs.YthilnjkcemdfeaaGreat
end
