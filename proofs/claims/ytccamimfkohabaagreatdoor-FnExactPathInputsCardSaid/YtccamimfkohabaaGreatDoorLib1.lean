/- Texts of this claim put into one: library or plain laws, without the program under test. -/
import Derived.IntWalk
import Derived.WalkKit
import Derived.WalkSpells
import Derived.WalkLawsBesides
import Derived.Maps.AppendAt
import Derived.Laws.MakeOwn
import Derived.Maps.Own
import Derived.Maps.Views
import Derived.Maps.OwnSet
set_option linter.unusedSimpArgs false
set_option linter.unusedVariables false
set_option linter.defProp false
section
namespace Go.GL
def O{p:Prop}(h:p:=by omega):p:=h
def U{p:Prop}(h:p:=by simp):p:=h
def Z{p:Prop}(h:p:=by kernel_rfl):p:=h
def aa{p:Prop}(h:p:=by simp;omega):p:=h
def ag{p:Prop}(h:p:=by simp_all):p:=h
def ah{p:Prop}(h:p:=by rw[Za];simp;omega):p:=h
def ai{p:Prop}(h:p:=by simp[Op.operands]):p:=h
def aj{p:Prop}(h:p:=by simp_all[Za]):p:=h
def ak{p:Prop}(h:p:=by rw[hpd];exact⟨rfl,Chg.refl _ _⟩):p:=h
def al{p:Prop}(h:p:=by unfold fuel;omega):p:=h
def an{p:Prop}(h:p:=by grind):p:=h
def ao{p:Prop}(h:p:=by rw[Za];simp):p:=h
def ap{p:Prop}(h:p:=by simp_all[ZR]):p:=h
def aq{p:Prop}(h:p:=by trivial):p:=h
def ar{p:Prop}(h:p:=by rfl):p:=h
def au{p:Prop}(h:p:=by simp[hy]):p:=h
def av{p:Prop}(h:p:=by unfold room;omega):p:=h
def ax{p:Prop}(h:p:=by cases h):p:=h
def ay{p:Prop}(h:p:=by decide):p:=h
def az{p:Prop}(h:p:=by simpa using h):p:=h
def aA{p:Prop}(h:p:=by simpa using c):p:=h
def aB{p:Prop}(h:p:=by simp_all[negs_len]):p:=h
def aC{p:Prop}(h:p:=by simp_all[Op.operands]):p:=h
def aD{p:Prop}(h:p:=by grind[Za]):p:=h
def aF{p:Prop}(h:p:=by have:=GV a.length (by omega) hw;omega):p:=h
def aG{p:Prop}(h:p:=by simp only[Zeo,Ze1,Zfc,hcl];omega):p:=h
def aH{p:Prop}(h:p:=by simp[hi]):p:=h
def aI{p:Prop}(h:p:=by rw[gpl,Zex,g.len]):p:=h
def aJ{p:Prop}(h:p:=by unfold room;simp;omega):p:=h
def aK{p:Prop}(h:p:=by simpa using h3):p:=h
def aL{p:Prop}(h:p:=by simp[Op.operands,Call.operands]):p:=h
def aM{p:Prop}(h:p:=by rw[g.len];omega):p:=h
def aN{p:Prop}(h:p:=by simp[hi,hj]):p:=h
def aO{p:Prop}(h:p:=by grind[room]):p:=h
def aP{p:Prop}(h:p:=by grind[fuel]):p:=h
def aQ{p:Prop}(h:p:=by simp[g.len];omega):p:=h
def aR{p:Prop}(h:p:=by have:=k1.1;omega):p:=h
def aS{p:Prop}(h:p:=by simpa using he):p:=h
def aT{p:Prop}(h:p:=by simpa using c2):p:=h
def aU{p:Prop}(h:p:=by rw[hl];exact hi):p:=h
def aV{p:Prop}(h:p:=by simpa using hc (by simp)):p:=h
def aW{p:Prop}(h:p:=by simp[hc]):p:=h
def aX{p:Prop}(h:p:=by simp[pe,hoff]):p:=h
def aY{p:Prop}(h:p:=by rw[hg1]):p:=h
abbrev Zee:=@Option.bind_some
abbrev Zef:=@List.getElem?_eq_getElem
abbrev Zeg:=@Bool.false_eq_true
abbrev Zeh:=@Array.getD_eq_getD_getElem?
abbrev Zei:=@if_pos
abbrev Zej:=@List.getElem?_eq_some_iff
abbrev Zek:=@Bool.and_eq_true
abbrev Zel:=@List.mem_of_getElem?
abbrev Zem:=@if_neg
abbrev Zen:=@if_false
abbrev Zeo:=@List.length_append
abbrev Zep:=@Bool.not_true
abbrev Zeq:=@decide_eq_true_eq
abbrev Zer:=@List.getD_eq_getElem?_getD
abbrev Zes:=@Nat.le_refl
abbrev Zet:=@List.take_succ_eq_append_getElem
abbrev Zeu:=@Nat.lt_of_lt_of_le
abbrev Zev:=@List.all_eq_true
abbrev Zew:=@List.mem_append
abbrev Zex:=@List.length_drop
abbrev Zey:=@Array.getElem?_eq_some_iff
abbrev Zez:=@List.append_assoc
abbrev Ze0:=@Option.map_some
abbrev Ze1:=@List.length_take
abbrev Ze2:=@if_true
abbrev Ze3:=@List.length_cons
abbrev Ze4:=@Nat.blt_eq
abbrev Ze5:=@List.head_eq_of_cons_eq
abbrev Ze6:=@List.mem_filter
abbrev Ze7:=@List.mem_range
abbrev Ze8:=@List.drop_eq_getElem_cons
abbrev Ze9:=@List.getD_cons_zero
abbrev ZeA:=@List.mem_singleton
abbrev ZeB:=@List.mem_cons_of_mem
abbrev ZeC:=@List.getElem?_eq_none
abbrev ZeD:=@List.getElem?_append_left
abbrev ZeE:=@List.getElem?_append_right
abbrev ZeF:=@Option.getD_some
abbrev ZeG:=@List.lookup_cons
abbrev ZeH:=@Int.le_refl
abbrev ZeI:=@List.getElem_mem
abbrev ZeJ:=@Bool.true_and
abbrev ZeK:=@List.mem_cons_self
abbrev ZeL:=@List.getElem?_map
abbrev ZeM:=@List.append_nil
abbrev ZeN:=@Bool.false_or
abbrev ZeO:=@List.getElem?_take
abbrev ZeP:=@Array.all_eq_true_iff_forall_mem
abbrev ZeQ:=@List.map_cons
abbrev ZeR:=@List.mem_cons
abbrev ZeS:=@Int.toNat_natCast
abbrev ZeT:=@List.length_replicate
abbrev ZeU:=@List.ext_getElem?
abbrev ZeV:=@Option.bind_eq_some_iff
abbrev ZeW:=@List.singleton_append
abbrev ZeX:=@Bool.or_eq_true
abbrev ZeY:=@List.map_inj_left
abbrev ZeZ:=@List.mem_iff_getElem?
abbrev Zfa:=@List.take_of_length_le
abbrev Zfb:=@List.getElem?_drop
abbrev Zfc:=@Array.length_toList
abbrev Zfd:=@List.eq_nil_of_length_eq_zero
abbrev Zfe:=@Option.isNone_iff_eq_none
abbrev Zff:=@Array.getElem?_eq_getElem
abbrev Zfg:=@Int.not_lt
abbrev Zfh:=@Nat.le_trans
abbrev Zfi:=@Nat.zero_le
abbrev Zfj:=@List.map_append
abbrev Zfk:=@List.length_singleton
abbrev Zfl:=@List.getD_cons_succ
abbrev Zfm:=@List.foldl_append
abbrev Zfn:=@Array.getElem?_eq_none
abbrev Zfo:=@Array.getElem?_replicate
abbrev Zfp:=@Bool.not_eq_true'
abbrev Zfq:=@List.set_append_right
abbrev Zfr:=@List.drop_zero
abbrev Zfs:=@List.getElem?_cons_zero
abbrev Zft:=@beq_iff_eq
abbrev Zfu:=@Nat.mul_le_mul_right
abbrev Zfv:=@List.mem_of_mem_drop
abbrev Zfw:=@List.drop_of_length_le
abbrev Zfx:=@List.pairwise_iff_getElem
abbrev Zfy:=@List.take_append_drop
abbrev Zfz:=@List.mem_map
abbrev Zf0:=@Option.isSome_iff_exists
abbrev Zf1:=@List.take_length
abbrev Zf2:=@Nat.lt_irrefl
abbrev Zf3:=@List.flatten_cons
abbrev Zf4:=@List.length_nil
abbrev Zf5:=@List.length_map
abbrev Zf6:=@Bool.eq_iff_iff
abbrev Zf7:=@List.getElem?_set_self
abbrev Zf8:=@Bool.and_self
abbrev Zf9:=@Bool.or_self
abbrev ZfA:=@List.getElem?_of_mem
abbrev ZfB:=@List.getElem?_append
abbrev ZfC:=@List.pairwise_append
abbrev ZfD:=@Nat.sub_self
abbrev ZfE:=@List.pairwise_cons
abbrev ZfF:=@List.set_cons_zero
abbrev ZfG:=@Nat.le_of_ble_eq_true
abbrev ZfH:=@Array.getElem?_toList
abbrev ZfI:=@Nat.eq_of_beq_eq_true
abbrev ZfJ:=@List.range_succ
abbrev ZfK:=@List.getElem?_set
abbrev ZfL:=@Bool.and_true
abbrev ZfM:=@List.mem_range'_1
abbrev ZfN:=@Array.toList_setIfInBounds
abbrev ZfO:=@List.mem_append_left
abbrev ZfP:=@Bool.or_eq_false_iff
abbrev ZfQ:=@List.mem_of_mem_take
abbrev ZfR:=@List.not_mem_nil
abbrev ZfS:=@beq_self_eq_true
abbrev ZfT:=@List.flatten_append
abbrev ZfU:=@Nat.lt_or_ge
abbrev ZfV:=@Nat.zero_add
abbrev ZfW:=@List.getElem?_take_of_lt
abbrev ZfX:=@List.length_set
abbrev ZfY:=@List.nil_append
abbrev ZfZ:=@List.set_eq_take_append_cons_drop
abbrev Zga:=@List.length_zip
abbrev Zgb:=@List.size_toArray
abbrev Zgc:=@Int.natAbs_neg
abbrev Zgd:=@List.range'_succ
abbrev Zge:=@List.replicate_succ'
abbrev Zgf:=@List.all_cons
abbrev Zgg:=@List.nodup_cons
abbrev Zgh:=@List.countP_eq_zero
abbrev Zgi:=@Nat.add_mul
abbrev Zgj:=@Nat.mul_one
abbrev Zgk:=@List.foldl_cons
abbrev Zgl:=@List.getElem?_range
abbrev Zgm:=@Option.all_some
abbrev Zgn:=@List.replicate_succ
abbrev Zgo:=@Int.fdiv_eq_ediv_of_nonneg
abbrev Zgp:=@List.mem_filterMap
abbrev Zgq:=@List.zip_cons_cons
abbrev Zgr:=@Option.isSome_none
abbrev Zgs:=@Bool.true_or
abbrev Zgt:=@List.mem_replicate
abbrev Zgu:=@List.count_pos_iff
abbrev Zgv:=@Bool.not_false
abbrev Zgw:=@List.mapM_cons
abbrev Zgx:=@List.mem_or_eq_of_mem_set
abbrev Zgy:=@List.drop_take
abbrev Zgz:=@List.nodup_nil
abbrev Zg0:=@Bool.false_and
abbrev Zg1:=@Nat.lt_trichotomy
abbrev Zg2:=@List.eq_of_mem_replicate
abbrev Zg3:=@List.getElem?_replicate
abbrev Zg4:=@List.map_take
abbrev Zg5:=@List.length_eq_zero_iff
abbrev Zg6:=@Bool.or_false
abbrev Zg7:=@List.mem_reverse
abbrev ZgC:=@Nat.add_zero
abbrev ZgD:=@List.map_nil
abbrev ZgE:=@List.find?_cons
abbrev ZgF:=@Nat.min_self
abbrev ZgG:=@List.of_mem_zip
abbrev ZgI:=@List.any_append
abbrev ZgK:=@and_true
abbrev ZgO:=@Nat.mul_le_mul
abbrev ZgP:=@Int.toNat_zero
abbrev ZgQ:=@Bool.and_false
abbrev ZgR:=@List.foldl_nil
abbrev ZgY:=@Int.pow_pos
abbrev Zha:=@true_and
structure Str where
 bytes:List UInt8
deriving DecidableEq,Inhabited
structure Byt where
 n:Int
deriving DecidableEq,Inhabited
abbrev w64(x:Int):Int:=IntKind.i64.wrap x
def len{α:Type}(l:List α):Int:=l.length
def get?{α:Type}(l:List α)(i:Int):Option α:=if 0<=i then l[i.toNat]? else none
def set?{α:Type}(l:List α)(i:Int)(x:α):Option (List α):=if 0<=i/\i.toNat<l.length then some (l.set i.toNat x)else none
def get?_nn{α:Type}{l:List α}{i:Int}{x:α}(h:get? l i=some x):0<=i:=by
 grind[get?]
def get?_at{α:Type}{l:List α}{i:Int}{x:α}(h:get? l i=some x):l[i.toNat]? =some x:=by
 grind[get?]
def band(a b:Int):Int:=w64 (BitVec.ofInt 64 a&&& BitVec.ofInt 64 b).toNat
def bor(a b:Int):Int:=w64 (BitVec.ofInt 64 a|||BitVec.ofInt 64 b).toNat
def bxor(a b:Int):Int:=w64 (BitVec.ofInt 64 a^^^BitVec.ofInt 64 b).toNat
def shl?(a b:Int):Option Int:=if b<0 then none else some (w64 (a*2^min b.toNat 64))
def shr?(a b:Int):Option Int:=if b<0 then none else some (a.fdiv (2^min b.toNat 64))
def Str.eqb(a b:Str):Bool:=(ByteArray.mk a.bytes.toArray).toList==(ByteArray.mk b.bytes.toArray).toList
def Str.ltb(a b:Str):Bool:=Op.bytesLess (ByteArray.mk a.bytes.toArray).toList (ByteArray.mk b.bytes.toArray).toList
def Str.gtb(a b:Str):Bool:=!(Op.bytesLess (ByteArray.mk a.bytes.toArray).toList (ByteArray.mk b.bytes.toArray).toList||Str.eqb a b)
def cat?(a b:Str):Option Str:=if a.bytes.length+b.bytes.length<=9223372036854775807 then some ⟨a.bytes++b.bytes⟩else none
def strOf(l:List Byt):Str:=⟨l.map λb=>UInt8.ofNat b.n.toNat⟩
def sidx?(s:Str)(i:Int):Option Int:=if 0<=i then s.bytes[i.toNat]?.map (λb=>(b.toNat:Int))else none
def shrK?(k:IntKind)(a b:Int):Option Int:=if b<0 then none else some (a.fdiv (2^min b.toNat k.bits))
def quo?(a b:Int):Option Int:=if b=0 then none else some (w64 (a.tdiv b))
def rem?(a b:Int):Option Int:=if b=0 then none else some (a.tmod b)
def imin(a b:Int):Int:=if b<a then b else a
def room:Nat:=4294967296
def mk?{α:Type}(n:Int)(z:α):Option (List α):=if 0<=n/\n.toNat<=room then some (List.replicate n.toNat z)else none
def app?{α:Type}(l m:List α):Option (List α):=if l.length+m.length<=room then some (l++m)else none
def cut?{α:Type}(l:List α)(lo hi:Int):Option (List α):=if 0<=lo/\lo<=hi/\hi<=l.length then some ((l.take hi.toNat).drop lo.toNat)else none
def vcut{α:Type}(l:List α)(lo:Int)(n:Nat):List α:=(l.drop lo.toNat).take n
def vcopy{α:Type}(l:List α)(lo:Int)(n:Nat)(m:List α):List α:=l.take lo.toNat++m.take n++l.drop (lo.toNat+(m.take n).length)
def mget?{κ β:Type}[DecidableEq κ](fit:κ->Bool)(z:β)(m:List (κ×β))(x:κ):Option β:=if fit x=true then some ((m.lookup x).getD z)else none
def mget2?{κ β:Type}[DecidableEq κ](fit:κ->Bool)(z:β)(m:List (κ×β))(x:κ):Option (β×Bool):=if fit x=true then some ((m.lookup x).getD z,(m.lookup x).isSome)else none
def mgeto?{κ β:Type}[DecidableEq κ](fit:κ->Bool)(z:β)(m:Option (List (κ×β)))(x:κ):Option β:=mget? fit z (m.getD []) x
def mputE?{κ β:Type}(fit:κ->Bool)(efit:β->Bool)(m:List (κ×β))(x:κ)(y:β):Option (List (κ×β)):=if fit x=true/\efit y=true/\m.length<=room then some ((x,y)::m)else none
def mput?{κ β:Type}(fit:κ->Bool)(m:List (κ×β))(x:κ)(y:β):Option (List (κ×β)):=if fit x=true/\m.length<=room then some ((x,y)::m)else none
def iterN{σt ρt:Type}(B:σt->Option (σt⊕ρt)):Nat->σt->Option ρt
 |0,_=>none
 |n+1,s=>
  match B s with
  |none=>none
  |some (.inl s')=>iterN B n s'
  |some (.inr r)=>some r
namespace D
structure Gate where
 A:Int
 B:Int
deriving DecidableEq,Inhabited
structure Circuit where
 Inputs:Int
 Gates:List Gate
deriving DecidableEq,Inhabited
structure Ins where
 Op:Int
 A:Int
 B:Int
 C:Int
deriving DecidableEq,Inhabited
structure Program where
 W:Int
 Mem:Int
 In:Int
 Code:List Ins
deriving DecidableEq,Inhabited
structure builder where
 c:Circuit
 line:List (Gate×Int)
 full:Bool
deriving DecidableEq,Inhabited
structure Formula where
 Vars:Int
 Clauses:List (List Int)
deriving DecidableEq,Inhabited
structure l04Net where
 c:Circuit
 full:Bool
deriving DecidableEq,Inhabited
structure Term where
 Op:Int
 W:Int
 N:Int
 Name:Str
 Kids:List Term
deriving Inhabited
structure Value where
 Name:Str
 W:Int
 N:Int
deriving DecidableEq,Inhabited
structure termCheck where
 count:Int
 widths:Option (List (Str×Int))
deriving DecidableEq,Inhabited
structure Path where
 Pc:Int
 Regs:List Term
 Mem:List Term
 Stack:List Int
 In:Int
 Out:List Term
 Code:Int
 Steps:Int
 Cond:List Term
 Turns:List Int
deriving Inhabited
end D
def fitInt(n:Int):Prop:=-9223372036854775808<=n/\n<=9223372036854775807
def fitList{α:Type}(fit:α->Prop)(l:List α):Prop:=l.length<=9223372036854775807/\∀x∈l,fit x
def Qk(x:D.Gate):Prop:=fitInt x.A/\fitInt x.B
def fitZ(x:Int):Bool:=(Lit.int .i64 x).wf
def fitS(s:Str):Bool:=decide (s.bytes.length<=9223372036854775807)
def Yo(x:D.Gate):Bool:=fitZ x.A&&fitZ x.B
def Sa(x:D.Circuit):Prop:=fitInt x.Inputs/\fitList Qk x.Gates
def CB(x:D.Ins):Prop:=fitInt x.Op/\fitInt x.A/\fitInt x.B/\fitInt x.C
def PM(x:D.Program):Prop:=fitInt x.W/\fitInt x.Mem/\fitInt x.In/\fitList CB x.Code
mutual
def Xy:D.Term->Prop
 |⟨o,w,n,s,k⟩=>fitInt o/\fitInt w/\fitInt n/\s.bytes.length<=9223372036854775807/\k.length<=9223372036854775807/\Qf k
def Qf:List D.Term->Prop
 |[]=>True
 |x::l=>Xy x/\Qf l
end
theorem RQ:∀{l:List D.Term},Qf l↔∀x∈l,Xy x
 |[]=>by simp[Qf]
 |x::l=>by unfold Qf;rw[RQ (l:=l)];simp
def NN(x:D.Path):Prop:=fitInt x.Pc/\fitList Xy x.Regs/\fitList Xy x.Mem/\fitList fitInt x.Stack/\fitInt x.In/\fitList Xy x.Out/\fitInt x.Code/\fitInt x.Steps/\fitList Xy x.Cond/\fitList fitInt x.Turns
def vtab:List (Str×Int)->List D.Value
 |[]=>[]
 |(s,w)::m=>(vtab m).filter (λv=>Str.ltb v.Name s)++[⟨s,w,0⟩]++(vtab m).filter (λv=>Str.ltb s v.Name)
end Go.GL
end
section
namespace Go.GL
open Go.RowKit
structure Chg(S:Nat->Prop)(w w':World):Prop where
 os:w'.os=w.os
 tape:w'.tape=w.tape
 output:w'.output=w.output
 size:w.heap.size<=w'.heap.size
 block:∀k,k<w.heap.size->¬S k->w'.heap[k]? =w.heap[k]?
def Non:Nat->Prop:=λ_=>False
theorem Chg.refl(S:Nat->Prop)(w:World):Chg S w w:=⟨rfl,rfl,rfl,Zes _,λ_ _ _=>rfl⟩
def Chg.trans{S:Nat->Prop}{a b c:World}(h:Chg S a b)(k:Chg S b c):Chg S a c:=
  ⟨k.os.trans h.os,k.tape.trans h.tape,k.output.trans h.output,Zfh h.size k.size,λi hi hs=>(k.block i (Zeu hi h.size) hs).trans (h.block i hi hs)⟩
def Chg.mono{S S':Nat->Prop}{w w':World}(h:Chg S w w')(hs:∀k,S k->S' k):Chg S' w w':=
 ⟨h.os,h.tape,h.output,h.size,λk hk hn=>h.block k hk λhx=>hn (hs k hx)⟩
def Chg.of{S:Nat->Prop}{w w':World}(h:Chg Non w w'):Chg S w w':=h.mono λ_ hx=>hx.elim
def Chg.trans'{S S':Nat->Prop}{a b c:World}(h:Chg S a b)(k:Chg S' b c)(hs:∀x,S' x->S x\/a.heap.size<=x):Chg S a c:=
  ⟨k.os.trans h.os,k.tape.trans h.tape,k.output.trans h.output,Zfh h.size k.size,λi hi hn=>(k.block i (Zeu hi h.size) λhx=>(hs i hx).elim hn O).trans (h.block i hi hn)⟩
def Chg.drew{S:Nat->Prop}(w:World):Chg S w w.drew:=⟨rfl,rfl,rfl,Zes _,λ_ _ _=>rfl⟩
theorem Chg.drawn{S:Nat->Prop}(w:World)(n:Nat):Chg S w {w with drawn:=n}:=⟨rfl,rfl,rfl,Zes _,λ_ _ _=>rfl⟩
def Chg.alloc{S:Nat->Prop}(w:World)(o:Obj):Chg S w (w.alloc o):=
 ⟨rfl,rfl,rfl,by simp,λk hk _=>Below.heap_alloc w o k hk⟩
def Chg.setCell{S:Nat->Prop}(w:World)(a:Addr)(v:Value)(h:S a.block):Chg S w (w.setCell a v):=
 ⟨rfl,rfl,rfl,by simp,λk _ hn=>heap_setCell_other w a k v λe=>hn (e▸h)⟩
def Chg.to_below{w w':World}(h:Chg Non w w'):Below w.heap.size w w':=
 ⟨h.os,h.tape,h.output,h.size,λk hk=>h.block k hk id⟩
def wr(ops:Array Oper)(t:Tmp)(i:Nat):Bool:=(ops[i]?.bind (·.dst))==some t
def lastW(ops:Array Oper)(t:Tmp):Nat->Option Nat
 |0=>none
 |n+1=>if wr ops t n then some n else lastW ops t n
def lastL(ops:Array Oper)(L:Array Bool)(t:Tmp):Nat->Option Nat
 |0=>none
 |n+1=>if wr ops t n&&L.getD n false then some n else lastL ops L t n
def names(ops:Array Oper)(o:Oper):List Tmp:=o.dst.toList++o.looksAt ops
def maskOf(acc:List Nat)(o:Oper):Nat:=
 o.after.toList.foldl (λs e=>if Region.binds .any e then s|||(2^e.on|||acc.getD e.on 0)else s) 0
def masksN(ops:Array Oper):Nat->List Nat
 |0=>[]
 |n+1=>masksN ops n++[maskOf (masksN ops n) (ops.getD n default)]
def bef(draw:Bool)(ms:List Nat)(j i:Nat):Bool:=if draw then(ms.getD j 0).testBit i else decide (i<j)
def confl(ops:Array Oper)(i j:Nat):Bool:=
 match ops[i]?,ops[j]? with
 |some x,some y=>(x.dst.elim false λd=>(names ops y).contains d)||(y.dst.elim false λd=>(names ops x).contains d)
 |_,_=>false
def stat(draw:Bool)(ms:List Nat)(ops:Array Oper)(eff:List Nat)(N:Nat):Bool:=
 (!draw||(ms==masksN ops ops.size&&(List.range ops.size).all λj=>(ops.getD j default).after.toList.all λe=>!Region.binds .any e||decide (e.on<j)))&&
 ((List.range ops.size).all λj=>(List.range j).all λi=>!confl ops i j||bef draw ms j i)&&
 (eff.all λj=>decide (j<ops.size)&&eff.all λi=>!decide (i<j)||bef draw ms j i)&&
 decide eff.Nodup&&
 ((List.range ops.size).all λj=>((ops.getD j default).dst).elim true λd=>decide (d<N))
def Know(ops:Array Oper)(T:Nat->Value->World->Prop)(a0:Act)(n:Nat)(t:Tmp)(v:Value)(w:World):Prop:=
 match lastW ops t n with
 |some i=>T i v w
 |none=>v=a0.eval (.tmp t)
def effOf(eff:List Nat)(j:Nat):Nat:=if j∈eff then 1 else 0
def Tri(P:Program)(draw:Bool)(ms:List Nat)(ops:Array Oper)(eff:List Nat)(T:Nat->Value->World->Prop)(Φ:Nat->World->Prop)(S:Nat->Prop)
  (a0:Act)(w0:World)(Q:Exit->Act->World->Prop)(j:Nat):Prop:=
 ∀ (o:Oper),ops[j]? =some o->∀(a:Act)(w:World)(k:Nat),eff.countP (λe=>bef draw ms j e)<=k->k<=eff.countP (λe=>e !=j&& !bef draw ms e j)->
  Φ k w->Chg S w0 w->a.tmps.size=a0.tmps.size->(∀t∈o.looksAt ops,Know ops T a0 j t (a.eval (.tmp t)) w)->
  if Region.wanted o (yielded ops a.tmps)then
   ∀K:Act->World->Prop,(∀v w',T j v w'->Chg S w w'->Φ (k+effOf eff j) w'->K (a.put o.dst v) w')->o.wp P a w K Q
  else T j undef w/\effOf eff j=0
section
variable{P:Program}{draw:Bool}{ms:List Nat}{ops:Array Oper}{eff:List Nat}{T:Nat->Value->World->Prop}{Φ:Nat->World->Prop}{S:Nat->Prop}
  {a0:Act}{w0:World}{Q:Exit->Act->World->Prop}
def cnt(eff:List Nat)(L:Array Bool):Nat:=eff.countP λe=>L.getD e false
structure J(draw:Bool)(ms:List Nat)(ops:Array Oper)(eff:List Nat)(T:Nat->Value->World->Prop)(Φ:Nat->World->Prop)(S:Nat->Prop)
  (a0:Act)(w0:World)(L:Array Bool)(a:Act)(w:World):Prop where
 size:L.size=ops.size
 closed:∀i h,L.getD i false=true->bef draw ms i h=true->L.getD h false=true
 defers:a.defers=a0.defers
 tsize:a.tmps.size=a0.tmps.size
 chg:Chg S w0 w
 phi:Φ (cnt eff L) w
 cur:∀t,match lastL ops L t ops.size with
  |some i=>T i (a.eval (.tmp t)) w
  |none=>a.eval (.tmp t)=a0.eval (.tmp t)
theorem Pf(L:Array Bool)(t:Tmp)(j:Nat):∀n,j<=n->(∀i,i<n->wr ops t i=true->(L.getD i false=true↔i<j))->lastL ops L t n=lastW ops t j
  | 0, hj, _ => by obtain rfl:j=0:=by omega
                   rfl
  | n + 1,hj,h=>by
    by_cases e:j=n+1
    · subst e
      unfold lastL lastW;cases hw:wr ops t n with
      | false=>
        refine Pf L t n n (Zes _) λi hi hwi=>?_;grind
      |true=>simp_all
    · unfold lastL
      have:(wr ops t n&&L.getD n false)=false:=by
        grind
      rw[this];exact Pf L t j n O λi hi hwi=>h i O hwi
theorem OY(L:Array Bool)(t:Tmp)(j:Nat)(hw:wr ops t j=false):∀n,lastL ops (L.setIfInBounds j true) t n=lastL ops L t n
 |0=>rfl
 |n+1=>by
  unfold lastL;rw[OY L t j hw n];by_cases e:n=j
  all_goals simp_all[Zeh,Ne.symm]
theorem Nw(L:Array Bool)(t:Tmp)(j:Nat)(hw:wr ops t j=true)(hj:j<L.size):∀n,j<n->(∀i,i<n->wr ops t i=true->j<i->L.getD i false=false)->
  lastL ops (L.setIfInBounds j true) t n=some j
 |0,h,_=>by omega
 | n+1,h,hl=>by
  unfold lastL;by_cases e:n=j
  ·simp_all
  ·have h1:(L.setIfInBounds j true).getD n false=L.getD n false:=by
    simp_all[Zeh,Ne.symm]
   rw[h1];have:(wr ops t n&&L.getD n false)=false:=by
    grind
   rw[this];exact Nw L t j hw hj n O λi hi=>hl i O
def Act.eval_put_eq(a:Act)(d:Tmp)(v:Value)(h:d<a.tmps.size):(a.put (some d) v).eval (.tmp d)=v:=by
 simp_all[Act.put,Act.eval,Zeh]
theorem Act.eval_put_ne(a:Act)(d:Option Tmp)(t:Tmp)(v:Value)(h:d≠some t):(a.put d v).eval (.tmp t)=a.eval (.tmp t):=by
 cases d with
 |none=>rfl
 |some d=>
  simp_all[Act.put,Act.eval,Zeh]
def Act.size_put(a:Act)(d:Option Tmp)(v:Value):(a.put d v).tmps.size=a.tmps.size:=by cases d<;>simp[Act.put]
def Act.defers_put(a:Act)(d:Option Tmp)(v:Value):(a.put d v).defers=a.defers:=by cases d<;>simp[Act.put]
theorem Bf(L:Array Bool)(j:Nat)(hj:j<L.size)(hl:L.getD j false=false):∀eff:List Nat,eff.Nodup->cnt eff (L.setIfInBounds j true)=cnt eff L+effOf eff j
 |[],_=>by rfl
 | e::eff,hn=>by
  obtain⟨h1,h2⟩:=Zgg.1 hn;have ih:=Bf L j hj hl eff h2;unfold cnt effOf at ih⊢;by_cases he:e=j
  ·simp_all
  ·have h3:(L.setIfInBounds j true).getD e false=L.getD e false:=by
    simp_all[Zeh,Ne.symm]
   grind
theorem J.step_wp{N:Nat}(hst:stat draw ms ops eff N=true)(hN:a0.tmps.size=N)(hT:∀i v w w',T i v w->Chg S w w'->T i v w'){L:Array Bool}{a:Act}{w:World}
  (hJ:J draw ms ops eff T Φ S a0 w0 L a w){j:Nat}(hj:j<ops.size)(hl:L.getD j false=false)(hb:∀i,bef draw ms j i=true->L.getD i false=true)
  (ht:Tri P draw ms ops eff T Φ S a0 w0 Q j):∃o,ops[j]? =some o/\if Region.wanted o (yielded ops a.tmps)then o.wp P a w (J draw ms ops eff T Φ S a0 w0 (L.setIfInBounds j true)) Q else J draw ms ops eff T Φ S a0 w0 (L.setIfInBounds j true) (a.put o.dst undef) w:=by
 unfold stat at hst;simp only[Zek,Zev,Ze7,Zeq]at hst;obtain⟨⟨⟨⟨_,hconf⟩,heff⟩,hnd⟩,hdst⟩:=hst;obtain⟨o,ho⟩:∃o,ops[j]? =some o:=⟨ops[j],by simp[hj]⟩;have hconf':∀i j,i<j->j<ops.size->confl ops i j=true->bef draw ms j i=true:=λi j h1 h2 h3=>by
  grind
 have hjL:j<L.size:=by rw[hJ.size];exact hj
 have hsee:∀t∈names ops o,lastL ops L t ops.size=lastW ops t j:=by
  intro t htn;refine Pf L t j ops.size O λi hi hw=>?_;have hwi:∃x,ops[i]? =some x/\x.dst=some t:=by
   simp_all[wr]
  obtain⟨x,hx,hxd⟩:=hwi;constructor
  ·intro hli;rcases Zg1 i j with h|h|h
   ·exact h
   ·subst h;rw[hl]at hli;cases hli
   ·exfalso;have hc:confl ops j i=true:=by
     unfold confl;simp only[ho,hx];simp[hxd,htn]
    have:=hJ.closed i j hli (hconf' j i h hi hc);rw[hl]at this;cases this
  ·intro hij;refine hb i (hconf' i j hij hj ?_);unfold confl;simp only[ho,hx];simp[hxd,htn]
 have hcur:∀t∈o.looksAt ops,Know ops T a0 j t (a.eval (.tmp t)) w:=by
  intro t htl;have h1:=hJ.cur t;rw[hsee t (List.mem_append_right _ htl)]at h1;exact h1
 have hlo:eff.countP (λe=>bef draw ms j e)<=cnt eff L:=List.countP_mono_left λe _ he=>hb e he;have hhi:cnt eff L<=eff.countP (λe=>e !=j&& !bef draw ms e j):=List.countP_mono_left λe _ he=>by
  have h1:e≠j:=λh=>by subst h;rw[hl]at he;cases he
  have h2:bef draw ms e j=false:=by
   cases hh:bef draw ms e j with
   |false=>rfl
   |true=>have:=hJ.closed e j he hh;rw[hl]at this;cases this
  simp[h1,h2]
 have htri:=ht o ho a w (cnt eff L) hlo hhi hJ.phi hJ.chg hJ.tsize hcur
 have hnext:∀v w',T j v w'->Chg S w w'->Φ (cnt eff L+effOf eff j) w'->J draw ms ops eff T Φ S a0 w0 (L.setIfInBounds j true) (a.put o.dst v) w':=by
  intro v w' hTv hc hphi;refine⟨by simp[hJ.size],?_,by rw[Act.defers_put];exact hJ.defers,by rw[Act.size_put];exact hJ.tsize,hJ.chg.trans hc,by rw[Bf L j hjL hl eff hnd];exact hphi,?_⟩
  ·intro i h hi hbi;have hmono:∀x,L.getD x false=true->(L.setIfInBounds j true).getD x false=true:=λx hx=>by
    by_cases e:x=j
    ·subst e;rw[hl]at hx;cases hx
    ·simpa[Zeh,Ne.symm e]using hx
   by_cases e:i=j
   ·subst e;exact hmono h (hb h hbi)
   ·refine hmono h (hJ.closed i h ?_ hbi);simpa[Zeh,Ne.symm e]using hi
  ·intro t;have hold:=hJ.cur t;cases hw:wr ops t j with
   |false=>
    rw[OY L t j hw];have hne:o.dst≠some t:=by simpa[wr,ho]using hw
    rw[Act.eval_put_ne _ _ _ _ hne];cases hlast:lastL ops L t ops.size with
    |none=>rw[hlast]at hold;exact hold
    |some i=>rw[hlast]at hold;exact hT _ _ _ _ hold hc
   | true=>
    have hd:o.dst=some t:=by simpa[wr,ho]using hw
    rw[Nw L t j hw hjL ops.size hj ?_]
    ·have hdN:=hdst j hj;rw[Zeh,ho]at hdN;simp only[ZeF,hd,Option.elim_some,Zeq]at hdN;rw[hd,Act.eval_put_eq _ _ _ (by rw[hJ.tsize,hN];exact hdN)];exact hTv
    ·intro i hi hwi hji;cases hli:L.getD i false with
     |false=>rfl
     | true=>
      obtain⟨x,hx,hxd⟩:∃x,ops[i]? =some x/\x.dst=some t:=by
       unfold wr at hwi;cases hx:ops[i]? with
       |none=>simp[hx]at hwi
       |some x=>exact⟨x,rfl,by simpa[hx]using hwi⟩
      have hc2:confl ops j i=true:=by
       unfold confl;simp only[ho,hx];simp[hxd,names,hd]
      have:=hJ.closed i j hli (hconf' j i hji hi hc2);rw[hl]at this;cases this
 refine⟨o,ho,?_⟩;split
 ·rename_i hw;rw[Zei hw]at htri;exact htri _ hnext
 ·rename_i hw;rw[Zem hw]at htri;obtain⟨h1,h2⟩:=htri;refine hnext undef w h1 (Chg.refl _ _) ?_;rw[h2];exact hJ.phi
def J.step{N:Nat}(hst:stat draw ms ops eff N=true)(hN:a0.tmps.size=N)(hT:∀i v w w',T i v w->Chg S w w'->T i v w'){L:Array Bool}{a:Act}{w:World}
  (hJ:J draw ms ops eff T Φ S a0 w0 L a w){j:Nat}(hj:j<ops.size)(hl:L.getD j false=false)(hb:∀i,bef draw ms j i=true->L.getD i false=true)
  (ht:Tri P draw ms ops eff T Φ S a0 w0 Q j):wpOp P ops Q j (J draw ms ops eff T Φ S a0 w0 (L.setIfInBounds j true)) a w:=by
 obtain⟨o,ho,h⟩:=hJ.step_wp hst hN hT hj hl hb ht;grind[wpOp]
def EndOf(ops:Array Oper)(T:Nat->Value->World->Prop)(a0:Act)(a:Act)(w:World):Prop:=
 a.defers=a0.defers/\a.tmps.size=a0.tmps.size/\∀t,Know ops T a0 ops.size t (a.eval (.tmp t)) w
def J.done{L:Array Bool}{a:Act}{w:World}(hJ:J draw ms ops eff T Φ S a0 w0 L a w)(hall:∀i,i<ops.size->L.getD i false=true)
  (heff:∀e∈eff,e<ops.size):EndOf ops T a0 a w/\Chg S w0 w/\Φ eff.length w:=by
 refine⟨⟨hJ.defers,hJ.tsize,λt=>?_⟩,hJ.chg,?_⟩
 ·have:=hJ.cur t;rw[Pf L t ops.size ops.size (Zes _) λi hi _=>⟨λ_=>hi,λ_=>hall i hi⟩]at this;exact this
 ·have:cnt eff L=eff.length:=by
   simp_all[cnt,List.countP_eq_length]
  rw[<-this];exact hJ.phi
theorem J.start(hΦ:∀w,Chg Non w0 w->Φ 0 w)(n:Nat):J draw ms ops eff T Φ S a0 w0 (Array.replicate ops.size false) a0 {w0 with drawn:=n}:=by
 have hf:∀i,(Array.replicate ops.size false).getD i false=false:=λi=>by
  simp[Zeh,Zfo];split<;>rfl
 refine⟨by simp,λi h hi _=>ag,rfl,rfl,Chg.drawn _ _,?_,λt=>?_⟩
 ·grind[cnt,Array.replicate,List.countP_eq_zero,Chg.drawn]
 ·have:∀n,lastL ops (Array.replicate ops.size false) t n=none:=by
   intro n
   induction n with
   |zero=>rfl
   |succ n ih=>simp_all[lastL]
  rw[this]
theorem FE{N:Nat}(hst:stat false ms ops eff N=true)(hN:a0.tmps.size=N)(hT:∀i v w w',T i v w->Chg S w w'->T i v w')
  (ht:∀j,j<ops.size->Tri P false ms ops eff T Φ S a0 w0 Q j)(post:∀a w,EndOf ops T a0 a w->Chg S w0 w->Φ eff.length w->Q .normal a w):
  ∀m j,m+j=ops.size->∀(L:Array Bool)(a:Act)(w:World),(∀i,L.getD i false=true↔i<j)->J false ms ops eff T Φ S a0 w0 L a w->wpOps P ops Q (List.range' j m) a w
 | 0,j,hm,L,a,w,hL,hJ=>by
  have heff:∀e∈eff,e<ops.size:=by
   simp_all[stat,Zek,Zev,Zeq]
  obtain⟨h1,h2,h3⟩:=hJ.done (λi hi=>(hL i).2 O) heff;exact post a w h1 h2 h3
 | m+1,j,hm,L,a,w,hL,hJ=>by
  have hl:L.getD j false=false:=by
   grind
  refine wpOp_mono (λa' w' hJ'=>?_) (hJ.step hst hN hT O hl (λi hi=>(hL i).2 (by grind[bef])) (ht j O));refine FE hst hN hT ht post m (j+1) O _ a' w' (λi=>?_) hJ';by_cases e:i=j
  ·have:i<L.size:=by rw[hJ.size];omega
   simp_all
  ·have h1:(L.setIfInBounds j true).getD i false=L.getD i false:=by
    simp_all[Zeh,Ne.symm]
   grind
def Closed(ops:Array Oper)(L:Array Bool):Prop:=
 ∀j o,L.getD j false=true->ops[j]? =some o->∀e∈o.after.toList,Region.binds .any e=true->L.getD e.on false=true
theorem foldMask(acc:List Nat)(i:Nat):∀(l:List Edge)(s:Nat),(l.foldl (λs e=>if Region.binds .any e then s|||(2^e.on|||acc.getD e.on 0)else s) s).testBit i=true->
  s.testBit i=true\/∃e∈l,Region.binds .any e=true/\(e.on=i\/(acc.getD e.on 0).testBit i=true)
 |[],s,h=>.inl h
 |e::l,s,h=>by
  rcases foldMask acc i l _ h with h1|⟨x,hx,hb,hi⟩
  all_goals grind
theorem Tt(ops:Array Oper):∀n,(masksN ops n).length=n
 |0=>rfl
 |n+1=>by simp[masksN,Tt ops n]
theorem UF(ops:Array Oper):∀n j,j<n->(masksN ops n).getD j 0=maskOf (masksN ops j) (ops.getD j default)
 |0,j,h=>by omega
 | n+1,j,h=>by
  show(masksN ops n++[maskOf (masksN ops n) (ops.getD n default)]).getD j 0=_;by_cases e:j=n
  ·simp_all[Zer,ZeE,Tt]
  ·rw[Zer,ZeD (by grind[Tt]),<-Zer];exact UF ops n j O
theorem Rv(L:Array Bool)(hc:Closed ops L)(i:Nat):∀j,j<ops.size->(maskOf (masksN ops j) (ops.getD j default)).testBit i=true->
  (∀e∈(ops.getD j default).after.toList,Region.binds .any e=true->L.getD e.on false=true)->L.getD i false=true:=by
 intro j
 induction j using Nat.strongRecOn with
 | _ j ih=>
  intro hj hbit hafter;rcases foldMask _ i _ _ hbit with h|⟨e,he,hb,hi⟩
  ·simp at h
  ·have hle:=hafter e he hb;rcases hi with rfl|hi
   ·exact hle
   ·by_cases hlt:e.on<j
    ·rw[UF ops j e.on hlt]at hi;refine ih e.on hlt O hi λe' he' hb'=>?_;have:ops[e.on]? =some (ops.getD e.on default):=by
      simp[Zeh,(by omega:e.on<ops.size)]
     exact hc e.on _ hle this e' he' hb'
    simp_all[Zer,ZeC,Tt]
theorem Zc1{N:Nat}(hst:stat true ms ops eff N=true)(hN:a0.tmps.size=N)(hT:∀i v w w',T i v w->Chg S w w'->T i v w')
  (ht:∀j,j<ops.size->Tri P true ms ops eff T Φ S a0 w0 Q j)(post:∀a w,EndOf ops T a0 a w->Chg S w0 w->Φ eff.length w->Q .normal a w):
  ∀fuel(L:Array Bool)(a:Act)(w:World),Closed ops L->(L.toList.countP (λb=>!b)<=fuel)->J true ms ops eff T Φ S a0 w0 L a w->wpAny P .any ops Q fuel L a w:=by
 have hst0:=hst;unfold stat at hst;simp only[Zek,Zev,Zeq,Zep,ZeN,Zft,Ze7]at hst;obtain⟨⟨⟨⟨⟨hms,hearly⟩,_⟩,heffs⟩,_⟩,_⟩:=hst;have heff:∀e∈eff,e<ops.size:=λe he=>(heffs e he).1;have hearly':∀j o,ops[j]? =some o->∀e∈o.after.toList,Region.binds .any e=true->e.on<j:=λj o ho e he hb=>by
  have hj:j<ops.size:=(Zey.1 ho).1;have h1:=hearly j hj e ag;simp_all
 have hnone:∀L:Array Bool,L.size=ops.size->Region.ready .any ops L=[]->∀i,i<ops.size->L.getD i false=true:=by
  intro L hs hr i
  induction i using Nat.strongRecOn with
  | _ i ih=>
   intro hi;cases hli:L.getD i false with
   |true=>rfl
   | false=>
    exfalso;have hmem:i∈Region.ready .any ops L:=by
     unfold Region.ready;grind[Region.binds,Array.all_eq_true_iff_forall_mem]
    simp_all
 have hq:∀(L:Array Bool)(a:Act)(w:World),J true ms ops eff T Φ S a0 w0 L a w->Region.ready .any ops L=[]->Q .normal a w:=λL a w hJ hr=>by
  obtain⟨h1,h2,h3⟩:=hJ.done (hnone L hJ.size hr) heff;exact post a w h1 h2 h3
 have hready:∀(L:Array Bool)(i:Nat),L.size=ops.size->i∈Region.ready .any ops L->i<ops.size/\L.getD i false=false/\
   ∀o,ops[i]? =some o->∀e∈o.after.toList,Region.binds .any e=true->L.getD e.on false=true:=by
  intro L i hs hi;unfold Region.ready at hi;rw[Ze6,Ze7]at hi;obtain⟨h1,h2⟩:=hi;simp only[Zek,Zfp]at h2;obtain⟨h2,h3⟩:=h2;refine⟨h1,?_,λo ho e he hb=>?_⟩
  ·have hs':i<L.size:=by omega
   simpa[Zeh,hs']using h2
  ·rw[ho]at h3;simp only[Ze0,ZeF,ZeP]at h3;have:=h3 e aS;simpa[hb]using this
 intro fuel
 induction fuel with
 | zero=>
  intro L a w _ hcount hJ;have hr:Region.ready .any ops L=[]:=by
   cases hr:Region.ready .any ops L with
   |nil=>rfl
   |cons i r=>
    exfalso;obtain⟨h1,h2,_⟩:=hready L i hJ.size (by rw[hr];exact ZeK);have h3:L.toList.countP (λb=>!b)=0:=by omega
    rw[Zgh]at h3;have hs':i<L.size:=by rw[hJ.size];exact h1
    have hm:L[i]∈L.toList:=by simp
    have h4:=h3 _ hm;simp[Zeh,hs']at h2;simp[h2]at h4
  exact⟨hr,hq L a w hJ hr⟩
 | succ fuel ih=>
  intro L a w hcl hcount hJ;refine⟨hq L a w hJ,λi hi=>?_⟩;obtain⟨h1,h2,h3⟩:=hready L i hJ.size hi;have hiL:i<L.size:=by rw[hJ.size];exact h1
  have ho:ops[i]? =some (ops.getD i default):=by simp[Zeh,h1]
  have hbef:∀h,bef true ms i h=true->L.getD h false=true:=λh hb=>by
   unfold bef at hb;simp only[Ze2]at hb;rw[hms,UF ops ops.size i h1]at hb;exact Rv L hcl h i h1 hb (h3 _ ho)
  refine wpOp_mono (λa' w' hJ'=>ih _ a' w' ?_ ?_ hJ') (hJ.step hst0 hN hT h1 h2 hbef (ht i h1))
  ·intro j o hj hoj e he hb;have hmono:∀x,L.getD x false=true->(L.setIfInBounds i true).getD x false=true:=λx hx=>by
    by_cases e:x=i
    ·subst e;rw[h2]at hx;cases hx
    ·simpa[Zeh,Ne.symm e]using hx
   by_cases ej:j=i
   ·subst ej;exact hmono _ (h3 o hoj e he hb)
   ·refine hmono _ (hcl j o ?_ hoj e he hb);simpa[Zeh,Ne.symm ej]using hj
  ·have hlt:(L.setIfInBounds i true).toList.countP (λb=>!b)+1=L.toList.countP (λb=>!b):=by
    rw[ZfN];have hl:i<L.toList.length:=by simpa using hiL
    have h5:L.toList[i]=false:=by
     simp[Zeh,hiL]at h2;simpa using h2
    rw[List.countP_set hl,h5];have hpos:0<L.toList.countP (λb=>!b):=by
     rw[List.countP_pos_iff];exact⟨L.toList[i],ZeI hl,by rw[h5];rfl⟩
    simp only[Zgv,Ze2,Zep,Zeg,Zen];omega
   omega
theorem Er{id N:Nat}(hmix:P.follows .mixedOrders=true)(hst:stat draw ms ops eff N=true)(hN:a0.tmps.size=N)
  (hT:∀i v w w',T i v w->Chg S w w'->T i v w')(hΦ:∀w,Chg Non w0 w->Φ 0 w)
  (ht:∀j,j<ops.size->Tri P draw ms ops eff T Φ S a0 w0 Q j)(post:∀a w,EndOf ops T a0 a w->Chg S w0 w->Φ eff.length w->Q .normal a w):
  (Code.region id ops draw).wp P Q a0 w0:=by
 cases draw with
 | false=>
  refine wp_region ?_;have h:=FE hst hN hT ht post ops.size 0 O (Array.replicate ops.size false) a0 w0 (λi=>⟨λh=>?_,λh=>by omega⟩) (J.start hΦ w0.drawn)
  ·simp_all[List.range_eq_range']
  ·simp[Zeh,Zfo]at h;grind
 | true=>
  refine wp_region_any hmix ?_;refine Zc1 hst hN hT ht post ops.size _ a0 _ (λj o hj=>?_) ?_ (J.start hΦ _)
  ·simp[Zeh,Zfo]at hj;grind
  grind[Nat.le_trans,List.countP_le_length]
end
structure FrS(N:Nat)(σ:List (Nat×Value))(a:Act):Prop where
 defers:a.defers=[]
 size:a.tmps.size=N
 get:∀t v,σ.lookup t=some v->a.eval (.tmp t)=v
def FrS.put{N:Nat}{σ:List (Nat×Value)}{a:Act}(h:FrS N σ a){d:Nat}(hd:d<N)(v:Value):FrS N ((d,v)::σ) (a.put (some d) v):=by
 refine⟨by exact h.defers,by rw[Act.size_put];exact h.size,λt u hu=>?_⟩;rw[ZeG]at hu;by_cases e:t=d
 ·subst e;simp at hu;rw[Act.eval_put_eq _ _ _ (by rw[h.size];exact hd)];exact hu
 ·have:(t==d)=false:=by simpa using e
  rw[this]at hu;rw[Act.eval_put_ne _ _ _ _ an];exact h.get t u hu
def FrS.nil{N:Nat}{σ:List (Nat×Value)}{a:Act}(h:FrS N σ a):FrS N [] a:=⟨h.defers,h.size,λ_ _ h=>by cases h⟩
def FrS.cons{N:Nat}{σ:List (Nat×Value)}{a:Act}(h:FrS N σ a){t:Nat}{v:Value}(hv:a.eval (.tmp t)=v):FrS N ((t,v)::σ) a:=by
 refine⟨h.defers,h.size,λt' u hu=>?_⟩;rw[ZeG]at hu;by_cases e:t'=t
 ·simp_all
 ·have:(t'==t)=false:=by simpa using e
  rw[this]at hu;exact h.get t' u hu
theorem Ra{t:Nat}{v:Value}:∀{σ:List (Nat×Value)},σ.lookup t=some v->(t,v)∈σ
 | (t',u)::σ,h=>by
  rw[ZeG]at h;by_cases e:t=t'
  ·simp_all
  ·have:(t==t')=false:=by simpa using e
   rw[this]at h;exact ZeB _ (Ra h)
 |[],h=>by cases h
def FrS.sub{N:Nat}{σ:List (Nat×Value)}{a:Act}(h:FrS N σ a)(σ':List (Nat×Value))(hs:σ'.map (λp=>σ.lookup p.1)=σ'.map λp=>some p.2):FrS N σ' a:=by
 refine⟨h.defers,h.size,λt v hv=>?_⟩;have hm:=Ra hv;have:=ZeY.1 hs _ hm;exact h.get t v this
def opd(σ:List (Nat×Value)):Operand->Option Value
 |.tmp t=>σ.lookup t
 |.const v=>some v
 |.global g=>some (.pointer (some ⟨g,0,none⟩))
 |.func f=>some (.func (.func f) #[] #[])
theorem Zd{N:Nat}{σ:List (Nat×Value)}{a:Act}(h:FrS N σ a){x:Operand}{v:Value}(hx:opd σ x=some v):a.eval x=v:=by
 cases x with
 |tmp t=>exact h.get t v hx
 |const u=>simp_all[opd,Act.eval]
 |global g=>simp_all[opd,Act.eval]
 |func f=>simp_all[opd,Act.eval]
def binI(op:BinOp)(k:IntKind)(a b:Int):Option Value:=
 match op with
 |.add=>some (.int k (k.wrap (a+b)))
 |.sub=>some (.int k (k.wrap (a-b)))
 |.mul=>some (.int k (k.wrap (a*b)))
 |.and=>some (.int k (k.wrap (BitVec.ofInt k.bits a&&& BitVec.ofInt k.bits b).toNat))
 |.or=>some (.int k (k.wrap (BitVec.ofInt k.bits a|||BitVec.ofInt k.bits b).toNat))
 |.xor=>some (.int k (k.wrap (BitVec.ofInt k.bits a^^^BitVec.ofInt k.bits b).toNat))
 |.eql=>some (.bool (a==b))
 |.neq=>some (.bool (a !=b))
 |.lss=>some (.bool (decide (a<b)))
 |.leq=>some (.bool (decide (a<=b)))
 |.gtr=>some (.bool (decide (a>b)))
 |.geq=>some (.bool (decide (a>=b)))
 |_=>none
def binS(op:BinOp)(a b:ByteArray):Option Value:=
 match op with
 |.eql=>some (.bool (a.toList==b.toList))
 |.neq=>some (.bool (!(a.toList==b.toList)))
 |.lss=>some (.bool (Op.bytesLess a.toList b.toList))
 |.leq=>some (.bool (Op.bytesLess a.toList b.toList||a.toList==b.toList))
 |.gtr=>some (.bool (!(Op.bytesLess a.toList b.toList||a.toList==b.toList)))
 |.geq=>some (.bool (!Op.bytesLess a.toList b.toList))
 |_=>none
def binB(op:BinOp)(a b:Bool):Option Value:=
 match op with
 |.eql=>some (.bool (a==b))
 |.neq=>some (.bool (!(a==b)))
 |_=>none
def fieldOff(P:Program)(s:TypeId)(f:Nat):Option Nat:=
 match P.underlying s with
 | some (.struct fs)=>
  match fs[f]? with
  |some x=>
   match P.info? x.type with
   |some i=>if i.size=0 then none else some x.offset
   |none=>none
  |none=>none
 |_=>none
def pe(P:Program)(ρ:Operand->Option Value)(o:Op):Option Value:=
 match o with
 |.move x|.assign x=>ρ x
 |.binOp op t x y _=>
  match ρ x,ρ y with
  |some (.int k a),some (.int k' b)=>if k=k'/\op≠ .shl/\op≠ .shr then binI op k a b else none
  |some (.string a),some (.string b)=>binS op a b
  |some (.bool a),some (.bool b)=>match P.underlying t with|some .bool=>binB op a b|_=>none
  |_,_=>none
 |.unOp op _ x=>
  match op,ρ x with
  |.not,some (.bool b)=>some (.bool (!b))
  |.neg,some (.int k n)=>some (.int k (k.wrap (0-n)))
  |_,_=>none
 |.fieldAddr s x f=>
  match ρ x,fieldOff P s f with
  |some (.pointer (some a)),some n=>some (.pointer (some (a.add n)))
  |_,_=>none
 | .call {callee:=.builtin .min,args:=xs,argTypes:=_}=>
  match xs.toList with
  |[x,y]=>
   match ρ x,ρ y with
   |some (.int k a),some (.int _ b)=>some (.int k (if b<a then b else a))
   |_,_=>none
  |_=>none
 | .call {callee:=.builtin .max,args:=xs,argTypes:=_}=>
  match xs.toList with
  |[x,y]=>
   match ρ x,ρ y with
   |some (.int k a),some (.int _ b)=>some (.int k (if b>a then b else a))
   |_,_=>none
  |_=>none
 | .call {callee:=.builtin .len,args:=xs,argTypes:=ts}=>
  match xs.toList,ts.toList with
  |[x],[t]=>
   match P.underlying t,ρ x with
   |some (.slice _),some (.slice _ n _)=>some (.int .i64 n)
   |some .string,some (.string s)=>some (.int .i64 s.size)
   |_,_=>none
  |_,_=>none
 |.extract x i=>
  match ρ x with
  |some (.tuple vs)=>vs[i]?
  |_=>none
 |.convert s d x=>
  match P.underlying s,P.underlying d,ρ x with
  |some _,some (.int k),some (.int _ n)=>some (.int k (k.wrap n))
  |_,_,_=>none
 |.build t parts=>
  match parts.toList.mapM (λp=>(ρ p.2).map λv=>(p.1,v))with
  |some vs=>(P.built t vs).map .agg
  |none=>none
 |.nilCheck x=>
  match ρ x with
  |some (.pointer (some a))=>some (.pointer (some a))
  |_=>none
 |.makeFunc (.func f) first captured=>
  match first.toList,captured.toList.mapM ρ with
  |[],some vs=>some (.func (.func f) #[] vs.toArray)
  |_,_=>none
 |_=>none
section
variable{P:Program}
theorem ZaB{op:BinOp}{k:IntKind}{a b:Int}{v:Value}(h:binI op k a b=some v)(h1:op≠ .shl)(h2:op≠ .shr)(t:TypeId)(w:World):(binOp op t (.int k a) (.int k b)).run P w= .ok v w:=by
 cases op<;>simp only[binI,Option.some.injEq,reduceCtorEq]at h<;>first
  |simp_all[binOp,Op.intArith,Op.intBits,Op.intCmp]
  |(exact absurd rfl h1)
  |(exact absurd rfl h2)
def Zb8{op:BinOp}{a b:ByteArray}{v:Value}(h:binS op a b=some v)(t:TypeId)(w:World):(binOp op t (.string a) (.string b)).run P w= .ok v w:=by
 cases op<;>simp only[binS,Option.some.injEq,reduceCtorEq]at h<;>(simp_all[binOp,Op.stringOp])
def ZbD{op:BinOp}{a b:Bool}{v:Value}{t:TypeId}(h:binB op a b=some v)(ht:P.underlying t=some .bool)(w:World):(binOp op t (.bool a) (.bool b)).run P w= .ok v w:=by
 cases op<;>simp only[binB,Option.some.injEq,reduceCtorEq]at h
 all_goals simp_all[run_eql_bool,run_neq_bool]
theorem Pz{ρ:Operand->Option Value}{ρ':Operand->Value}(hρ:∀x v,ρ x=some v->ρ' x=v){o:Oper}{v:Value}(h:pe P ρ o.op=some v)(w:World):
  (execOp ρ' o).run P w= .ok (.value v) w:=by
 obtain⟨dst,op,type,pos,after,guard⟩:=o;simp only at h;unfold pe at h;split at h
 ·simp_all[execOp]
 ·simp_all[execOp]
 ·rename_i op t x y _;split at h
  ·rename_i k a k' b hx hy;split at h
   ·rename_i hk;obtain⟨rfl,h1,h2⟩:=hk;simp_all[execOp,ZaB,eqGuard]
   ·cases h
  ·simp_all[execOp,Zb8,eqGuard]
  ·rename_i a b hx hy;split at h
   all_goals simp_all[execOp,ZbD,eqGuard]
  ·cases h
 ·rename_i op t x;split at h
  all_goals simp_all[Option.some.injEq,execOp,Op.unary,Op.intArith]
 ·rename_i s x f;split at h
  ·rename_i a n hx hf;simp only[Option.some.injEq]at h;subst h;unfold fieldOff at hf;split at hf
   ·rename_i fs hs;split at hf
    ·rename_i fld hfl;split at hf
     all_goals simp_all[Option.some.injEq,execOp,Instr.fieldAt,run_underlying,Instr.sureAddr,fieldPlace,sizeOf,typeInfo]
    ·cases hf
   ·cases hf
  ·cases h
 ·rename_i xs ts;split at h
  ·rename_i x y hxs;obtain rfl:xs= #[x,y]:=by grind
   split at h
   ·rename_i k a k' b hx hy;simp only[Option.some.injEq]at h;subst h;simp[execOp,resolve,invoke,builtin,hρ _ _ hx,hρ _ _ hy,run_min_int2]
   ·cases h
  ·cases h
 ·rename_i xs ts;split at h
  ·rename_i x y hxs;obtain rfl:xs= #[x,y]:=by cases xs;simp_all
   split at h
   ·rename_i k a k' b hx hy;simp only[Option.some.injEq]at h;subst h;simp[execOp,resolve,invoke,builtin,hρ _ _ hx,hρ _ _ hy,run_max_int2]
   ·cases h
  ·cases h
 ·rename_i xs ts;split at h
  ·rename_i x t hxs hts;obtain rfl:xs= #[x]:=by cases xs;simp_all
   obtain rfl:ts= #[t]:=by cases ts;simp_all
   split at h
   ·rename_i e a n c ht hx;simp only[Option.some.injEq]at h;subst h;simp[execOp,resolve,invoke,builtin,Builtin.len_,run_underlying ht,hρ _ _ hx,goInt]
   ·rename_i s ht hx;simp only[Option.some.injEq]at h;subst h;simp[execOp,resolve,invoke,builtin,Builtin.len_,run_underlying ht,hρ _ _ hx,goInt]
   ·cases h
  ·cases h
 ·rename_i x i;split at h
  ·rename_i vs hx;simp only[execOp];rw[hρ _ _ hx];simp[Instr.extract,h]
  ·cases h
 ·rename_i s d x;split at h
  ·rename_i sd k k' n hs hd hx;simp only[Option.some.injEq]at h;subst h;simp only[execOp];rw[hρ _ _ hx];simp[convert,run_underlying hs,run_underlying hd,Conv.intToInt]
  ·cases h
 ·rename_i t parts;split at h
  ·rename_i vs hvs;cases hb:P.built t vs with
   |none=>rw[hb]at h;cases h
   | some cells=>
    rw[hb]at h;simp only[Ze0,Option.some.injEq]at h;subst h;have e:(parts.map λp=>(p.1,ρ' p.2)).toList=vs:=by
     have key:∀(ps:List (Nat×Operand))(vs:List (Nat×Value)),ps.mapM (λp=>(ρ p.2).map λv=>(p.1,v))=some vs->ps.map (λp=>(p.1,ρ' p.2))=vs:=by
      intro ps
      induction ps with
      |nil=>intro vs h;simpa using h
      |cons p ps ih=>
       intro vs h;simp only[Zgw,Option.bind_eq_bind,ZeV,Option.map_eq_some_iff,Option.pure_def,Option.some.injEq]at h;obtain⟨q,⟨v,hv,rfl⟩,rs,hrs,rfl⟩:=h;rw[ZeQ,ih rs hrs,hρ _ _ hv]
     have:=key parts.toList vs hvs;cases parts;simpa using this
    have:=run_build (P:=P) w t (parts.map λp=>(p.1,ρ' p.2)) cells (by rw[e];exact hb);simp only[execOp];simpa using congrArg (λr=>r.andThen λv w=>Result.ok (Next.value v) w) this
  ·cases h
 ·rename_i x;split at h
  ·rename_i a hx;simp only[Option.some.injEq]at h;subst h;simp[execOp,hρ _ _ hx]
  ·cases h
 ·rename_i f first captured
  split at h
  ·rename_i vs hf hvs;simp only[Option.some.injEq]at h;subst h;obtain rfl:first= #[]:=by cases first;simp_all
   have key:∀(ps:List Operand)(vs:List Value),ps.mapM ρ=some vs->ps.map ρ'=vs:=by
    intro ps
    induction ps with
    |nil=>intro vs h;simpa using h
    |cons p ps ih=>
     intro vs h;simp only[Zgw,Option.bind_eq_bind,ZeV,Option.pure_def,Option.some.injEq]at h;obtain⟨v,hv,rs,hrs,rfl⟩:=h;rw[ZeQ,ih rs hrs,hρ _ _ hv]
   have:=key captured.toList vs hvs;have e:captured.map ρ'=vs.toArray:=by rw[<-this];cases captured;simp
   simp[execOp,Instr.makeFunc,e]
  ·cases h
 ·cases h
end
inductive Pd where
 |eq (v:Value)
 |is (p:Value->World->Prop)
 |own (p:(Nat->Nat)->Value->World->Prop)
 |any
def Pd.sat:Pd->Value->World->Prop
 |.eq u,v,_=>v=u
 |.is p,v,w=>p v w
 |.own _,_,_=>True
 |.any,_,_=>True
def Pd.val?:Pd->Option Value
 |.eq v=>some v
 |_=>none
def Pd.boolIs:Pd->Bool->Prop
 |.eq (.bool x),b=>x=b
 |_,_=>False
def Pd.isBool:Pd->Bool
 |.eq (.bool _)=>true
 |_=>false
def Pd.Mono(S:Nat->Prop)(p:Pd):Prop:=∀v w w',p.sat v w->Chg S w w'->p.sat v w'
def Pd.mono_eq{S:Nat->Prop}{v:Value}:(Pd.eq v).Mono S:=λ_ _ _ h _=>h
def Pd.mono_any{S:Nat->Prop}:Pd.any.Mono S:=λ_ _ _ h _=>h
def guardOf(ops:Array Oper)(j:Nat):Option (Nat×Bool):=ops[j]?.bind (·.guard)
def gc(ops:Array Oper)(pds:List Pd):Nat->Nat->Prop
 |0,_=>False
 |n+1,j=>match guardOf ops j with
  |none=>True
  |some (g,b)=>gc ops pds n g/\(pds.getD g .any).boolIs b
def okG(ops:Array Oper):Nat->Nat->Nat->Bool
 |0,_,i=>(guardOf ops i).isNone
 |n+1,j,i=>(guardOf ops i).isNone||guardOf ops i==guardOf ops j||i==j||
  match guardOf ops j with
  |some (g,_)=>okG ops n g i
  |none=>false
def valAt(pds:List Pd)(i:Nat):Option Value:=(pds.getD i .any).val?
def envP(ops:Array Oper)(σ:List (Nat×Value))(pds:List Pd)(j:Nat):Operand->Option Value
 |.tmp t=>match lastW ops t j with
  |some i=>if okG ops ops.size j i then valAt pds i else none
  |none=>σ.lookup t
 |x=>opd σ x
def envG(ops:Array Oper)(σ:List (Nat×Value))(pds:List Pd)(j:Nat)(g:Option Nat)(b:Bool):Operand->Option Value
 |.tmp t=>match lastW ops t j with
  |some i=>if okG ops ops.size j i||(g.isSome&&guardOf ops i==g.map (·,b))then valAt pds i else none
  |none=>σ.lookup t
 |x=>opd σ x
theorem KT(ops:Array Oper)(σ:List (Nat×Value))(pds:List Pd)(j t:Nat):envP ops σ pds j (.tmp t)=match lastW ops t j with
  |some i=>if okG ops ops.size j i then valAt pds i else none
  |none=>σ.lookup t:=rfl
theorem GY(ops:Array Oper)(σ:List (Nat×Value))(pds:List Pd)(j:Nat)(g:Option Nat)(b:Bool)(t:Nat):envG ops σ pds j g b (.tmp t)=match lastW ops t j with
  |some i=>if okG ops ops.size j i||(g.isSome&&guardOf ops i==g.map (·,b))then valAt pds i else none
  |none=>σ.lookup t:=rfl
def pickV(x:Bool)(u v:Value):Value:=
 match u,v with
 |.bool p,.bool q=>.bool (cond x p q)
 |u,v=>cond x u v
def Zbc(x:Bool)(u v:Value):pickV x u v=if x then u else v:=by
 unfold pickV;grind
def pureV(P:Program)(ops:Array Oper)(σ:List (Nat×Value))(pds:List Pd)(j:Nat):Option Value:=
 match ops[j]? with
 |none=>none
 | some o=>
  match o.op with
  | .pick c a b=>
   match c,envP ops σ pds j c with
   |.tmp t,some (.bool x)=>
    match envG ops σ pds j (lastW ops t j) true a,envG ops σ pds j (lastW ops t j) false b with
    |some u,some v=>some (pickV x u v)
    |_,_=>none
   |_,_=>none
  |op=>pe P (envP ops σ pds j) op
def TT(ops:Array Oper)(pds:List Pd)(j:Nat)(v:Value)(w:World):Prop:=(gc ops pds ops.size j->(pds.getD j .any).sat v w)/\(¬gc ops pds ops.size j->v=undef)
def statG(ops:Array Oper)(pds:List Pd)(eff:List Nat):Bool:=
 pds.length==ops.size&&
 (List.range ops.size).all λj=>
  match guardOf ops j with
  |none=>true
  |some (g,_)=>decide (g<j)&&(pds.getD g .any).isBool&& !eff.contains j&&(match ops[g]?.bind (·.dst)with|some d=>lastW ops d j==some g|none=>false)
section
variable{P:Program}{draw:Bool}{ms:List Nat}{ops:Array Oper}{eff:List Nat}{Φ:Nat->World->Prop}{S:Nat->Prop}
  {a0:Act}{w0:World}{Q:Exit->Act->World->Prop}{pds:List Pd}{σ:List (Nat×Value)}{N:Nat}
theorem Nt(hg:∀j g b,guardOf ops j=some (g,b)->g<j):∀n m j,j<n->j<m->gc ops pds n j->gc ops pds m j
 |0,_,_,h,_,_=>by omega
 |n+1,0,_,_,h,_=>by omega
 | n+1,m+1,j,h1,h2,h=>by
  unfold gc at h⊢;cases hj:guardOf ops j with
  |none=>trivial
  |some p=>
   obtain⟨g,b⟩:=p;rw[hj]at h;have:=hg j g b hj;exact⟨Nt hg n m g O O h.1,h.2⟩
theorem KJ(hg:∀j g b,guardOf ops j=some (g,b)->g<j):∀n j i,okG ops n j i=true->∀m,j<m->i<m->gc ops pds m j->gc ops pds m i
 |0,j,i,h,m,_,him,_=>by
  obtain⟨m,rfl⟩:∃k,m=k+1:=⟨m-1,by omega⟩;simp_all[okG,gc,Zfe]
 | n+1,j,i,h,m,hjm,him,hj=>by
  obtain⟨m,rfl⟩:∃k,m=k+1:=⟨m-1,by omega⟩;unfold okG at h;simp only[ZeX,Zfe,Zft]at h;rcases h with((h|h)|h)|h
  ·simp_all[gc]
  ·simp_all[gc]
  ·simp_all
  ·cases hgj:guardOf ops j with
   |none=>simp_all
   |some p=>
    obtain⟨g,b⟩:=p;rw[hgj]at h;have hlt:=hg j g b hgj;unfold gc at hj;rw[hgj]at hj;have h1:gc ops pds (m+1) g:=Nt hg m (m+1) g O O hj.1;exact KJ hg n g i h (m+1) O him h1
theorem Vt{t:Tmp}:∀{n i:Nat},lastW ops t n=some i->i<n/\wr ops t i=true
 |0,i,h=>by cases h
 | n+1,i,h=>by
  unfold lastW at h;split at h
  ·simp_all
  ·have:=Vt h;grind
def Cy{t:Tmp}{i:Nat}(h:wr ops t i=true):i<ops.size:=by
 grind[wr,Nat.lt_or_ge,Array.getElem?_eq_none]
structure Good(ops:Array Oper)(pds:List Pd)(eff:List Nat):Prop where
 lt:∀j g b,guardOf ops j=some (g,b)->g<j
 bool:∀j g b,guardOf ops j=some (g,b)->∃x,pds.getD g .any= .eq (.bool x)
 eff:∀j g b,guardOf ops j=some (g,b)->j∉eff
 dst:∀j g b,guardOf ops j=some (g,b)->∃d,ops[g]?.bind (·.dst)=some d/\lastW ops d j=some g
theorem Ce{j:Nat}{p:Nat×Bool}(h:guardOf ops j=some p):j<ops.size:=by
 grind[guardOf,Nat.lt_or_ge,Array.getElem?_eq_none]
theorem Gl(h:statG ops pds eff=true):Good ops pds eff:=by
 unfold statG at h;have key:∀j g b,guardOf ops j=some (g,b)->g<j/\(pds.getD g .any).isBool=true/\j∉eff/\∃d,ops[g]?.bind (·.dst)=some d/\lastW ops d j=some g:=by
  grind[Ce]
 refine⟨λj g b hj=>(key j g b hj).1,λj g b hj=>?_,λj g b hj=>(key j g b hj).2.2.1,λj g b hj=>(key j g b hj).2.2.2⟩;have:=(key j g b hj).2.1;cases hp:pds.getD g .any with
 |eq v=>cases v<;>rw[hp]at this<;>simp[Pd.isBool]at this<;>exact⟨_,rfl⟩
 |is p=>rw[hp]at this;cases this
 |own p=>rw[hp]at this;cases this
 |any=>rw[hp]at this;cases this
def Tw{o:Oper}{t:Tmp}(h:Operand.tmp t∈o.op.operands):t∈o.looksAt ops:=
 ZfO _ (Zgp.2 ⟨.tmp t,by simpa using h,rfl⟩)
def Em{o:Oper}{g:Nat}{b:Bool}{d:Tmp}(h:o.guard=some (g,b))(hd:ops[g]?.bind (·.dst)=some d):d∈o.looksAt ops:=by
 refine List.mem_append_right _ ?_;simp[h,hd]
theorem BF(hG:Good ops pds eff){j:Nat}{o:Oper}(ho:ops[j]? =some o){a:Act}{w:World}(hs:∀d,(∃i,wr ops d i=true)->d<a.tmps.size)
  (hk:∀t∈o.looksAt ops,Know ops (TT ops pds) a0 j t (a.eval (.tmp t)) w):Region.wanted o (yielded ops a.tmps)=true↔gc ops pds ops.size j:=by
 have hj:j<ops.size:=(Zey.1 ho).1;obtain⟨m,hm⟩:∃m,ops.size=m+1:=⟨ops.size-1,by omega⟩;cases hgd:o.guard with
 |none=>
  simp_all[guardOf,gc,Region.wanted]
 | some p=>
  obtain⟨g,b⟩:=p;have hgj:guardOf ops j=some (g,b):=by simp_all[guardOf]
  obtain⟨d,hd,hlast⟩:=hG.dst j g b hgj;obtain⟨x,hx⟩:=hG.bool j g b hgj;have hlt:=hG.lt j g b hgj;have h1:=hk d (Em hgd hd);unfold Know at h1;rw[hlast]at h1;have hd':d<a.tmps.size:=hs d ⟨g,(Vt hlast).2⟩;have h4:∀u,a.eval (.tmp d)=u->a.tmps[d]? =some u:=λu hu=>by
   simp_all[Act.eval,Zeh,Zff]
  have hgcj:gc ops pds ops.size j↔gc ops pds ops.size g/\x=b:=by
   constructor
   ·intro h;rw[hm]at h;unfold gc at h;rw[hgj]at h;refine⟨Nt hG.lt m ops.size g O O h.1,?_⟩;have:=h.2;rw[hx]at this;exact this
   ·intro h;rw[hm];unfold gc;rw[hgj];refine⟨Nt hG.lt ops.size m g O O h.1,?_⟩;rw[hx];exact h.2
  by_cases hgg:gc ops pds ops.size g
  ·have h2:=h1.1 hgg;rw[hx]at h2;have h3:=h4 _ h2;simp_all[yielded,Region.wanted]
  ·have h2:=h4 _ (h1.2 hgg);simp_all[yielded,undef,Region.wanted]
def NP(P:Program)(draw:Bool)(ms:List Nat)(ops:Array Oper)(eff:List Nat)(pds:List Pd)(Φ:Nat->World->Prop)(S:Nat->Prop)
  (a0:Act)(w0:World)(Q:Exit->Act->World->Prop)(j:Nat):Prop:=
 ∀(o:Oper),ops[j]? =some o->∀(a:Act)(w:World)(k:Nat),eff.countP (λe=>bef draw ms j e)<=k->k<=eff.countP (λe=>e !=j&& !bef draw ms e j)->
  Φ k w->Chg S w0 w->gc ops pds ops.size j->(∀t∈o.looksAt ops,Know ops (TT ops pds) a0 j t (a.eval (.tmp t)) w)->
  ∀K:Act->World->Prop,(∀v w',(pds.getD j .any).sat v w'->Chg S w w'->Φ (k+effOf eff j) w'->K (a.put o.dst v) w')->o.wp P a w K Q
theorem JZ(hG:Good ops pds eff)(hN:a0.tmps.size=N)(hdst:∀d,(∃i,wr ops d i=true)->d<N){j:Nat}(h:NP P draw ms ops eff pds Φ S a0 w0 Q j):
  Tri P draw ms ops eff (TT ops pds) Φ S a0 w0 Q j:=by
 intro o ho a w k h1 h2 h3 h4 h5 h6;have hw:=BF hG ho (λd hd=>by rw[h5,hN];exact hdst d hd) h6;split
 ·rename_i hwant;have hgc:=hw.1 hwant;intro K hK;exact h o ho a w k h1 h2 h3 h4 hgc h6 K λv w' hs hc hp=>hK v w' ⟨λ_=>hs,λhn=>absurd hgc hn⟩ hc hp
 ·rename_i hwant;have hgc:¬gc ops pds ops.size j:=λhh=>hwant (hw.2 hh);refine⟨⟨λhh=>absurd hh hgc,λ_=>rfl⟩,?_⟩;cases hgd:guardOf ops j with
  |none=>
   have hj:j<ops.size:=(Zey.1 ho).1;obtain⟨m,hm⟩:∃m,ops.size=m+1:=⟨ops.size-1,by omega⟩;simp_all[gc]
  |some p=>simp[effOf,hG.eff j p.1 p.2 hgd]
theorem PO(hG:Good ops pds eff)(hF:FrS N σ a0){j:Nat}{o:Oper}(ho:ops[j]? =some o){a:Act}{w:World}(hgc:gc ops pds ops.size j)
  (hk:∀t∈o.looksAt ops,Know ops (TT ops pds) a0 j t (a.eval (.tmp t)) w){x:Operand}(hx:x∈o.op.operands){v:Value}(hv:envP ops σ pds j x=some v):a.eval x=v:=by
 have hj:j<ops.size:=(Zey.1 ho).1;cases x with
 | tmp t=>
  have h1:=hk t (Tw hx);unfold Know at h1;rw[KT]at hv;cases hl:lastW ops t j with
  |none=>
   rw[hl]at h1 hv;rw[h1];exact hF.get t v hv
  | some i=>
   rw[hl]at h1 hv;simp only at hv;split at hv
   ·rename_i hok;have hi:=Vt hl;have hgi:=KJ hG.lt ops.size j i hok ops.size hj O hgc;have h2:=h1.1 hgi;unfold valAt Pd.val? at hv;split at hv
    ·rename_i u hu;simp only[Option.some.injEq]at hv;subst hv;rw[hu]at h2;exact h2
    ·cases hv
   ·cases hv
 |const u=>simp_all[envP,opd,Act.eval]
 |global g=>simp_all[envP,opd,Act.eval]
 |func f=>simp_all[envP,opd,Act.eval]
theorem Dh(hG:Good ops pds eff){i g:Nat}{b x:Bool}(hi:guardOf ops i=some (g,b))(hil:i<ops.size)(hg:gc ops pds ops.size g)(hx:pds.getD g .any= .eq (.bool x))(hb:x=b):gc ops pds ops.size i:=by
 obtain⟨m,hm⟩:∃m,ops.size=m+1:=⟨ops.size-1,by omega⟩;have hlt:=hG.lt i g b hi;rw[hm];unfold gc;rw[hi];refine⟨Nt hG.lt ops.size m g O O hg,?_⟩;rw[hx];exact hb
theorem IL(hG:Good ops pds eff)(hF:FrS N σ a0){j:Nat}{o:Oper}(ho:ops[j]? =some o){a:Act}{w:World}(hgc:gc ops pds ops.size j)
  (hk:∀t∈o.looksAt ops,Know ops (TT ops pds) a0 j t (a.eval (.tmp t)) w){x:Operand}(hx:x∈o.op.operands){g:Option Nat}{b y:Bool}(hgy:∀n,g=some n->gc ops pds ops.size n/\pds.getD n .any= .eq (.bool y))(hy:y=b)
  {v:Value}(hv:envG ops σ pds j g b x=some v):a.eval x=v:=by
 cases x with
 | tmp t=>
  have h1:=hk t (Tw hx);unfold Know at h1;rw[GY]at hv;cases hl:lastW ops t j with
  |none=>
   rw[hl]at h1 hv;rw[h1];exact hF.get t v hv
  | some i=>
   rw[hl]at h1 hv;simp only at hv;split at hv
   ·rename_i hok;have hi:=Vt hl;have hj:j<ops.size:=(Zey.1 ho).1;have hgi:gc ops pds ops.size i:=by
     rw[ZeX]at hok;rcases hok with hok|hok
     ·exact KJ hG.lt ops.size j i hok ops.size hj O hgc
     ·rw[Zek]at hok;obtain⟨h3,h4⟩:=hok;obtain⟨n,rfl⟩:=Zf0.1 h3;grind[Dh]
    have h2:=h1.1 hgi;unfold valAt Pd.val? at hv;split at hv
    ·rename_i u hu;simp only[Option.some.injEq]at hv;subst hv;rw[hu]at h2;exact h2
    ·cases hv
   ·cases hv
 |const u=>simp_all[envG,opd,Act.eval]
 |global g=>simp_all[envG,opd,Act.eval]
 |func f=>simp_all[envG,opd,Act.eval]
theorem ZaM{ρ ρ':Operand->Option Value}(o:Op)(h:∀x∈o.operands,ρ x=ρ' x):pe P ρ o=pe P ρ' o:=by
 cases o with
 |move x=>exact h x ai
 |assign x=>exact h x ai
 |binOp op t x y yt=>simp_all[pe,Op.operands]
 |unOp op t x=>simp_all[pe,Op.operands]
 |fieldAddr s x f=>simp_all[pe,Op.operands]
 |extract x i=>simp_all[pe,Op.operands]
 |nilCheck x=>simp_all[pe,Op.operands]
 |convert s d x=>simp_all[pe,Op.operands]
 | build t parts=>
  simp only[pe];have:parts.toList.mapM (λp=>(ρ p.2).map λv=>(p.1,v))=parts.toList.mapM (λp=>(ρ' p.2).map λv=>(p.1,v)):=by
   have key:∀(ps:List (Nat×Operand)),(∀p∈ps,ρ p.2=ρ' p.2)->ps.mapM (λp=>(ρ p.2).map λv=>(p.1,v))=ps.mapM (λp=>(ρ' p.2).map λv=>(p.1,v)):=by
    intro ps
    induction ps with
    |nil=>intro _;rfl
    |cons p ps ih=>grind
   grind[Op.operands]
  rw[this]
 | makeFunc fn first captured=>
  cases fn with
  | func f=>
   simp only[pe];have:captured.toList.mapM ρ=captured.toList.mapM ρ':=by
    have key:∀(ps:List Operand),(∀p∈ps,ρ p=ρ' p)->ps.mapM ρ=ps.mapM ρ':=by
     intro ps
     induction ps with
     |nil=>intro _;rfl
     |cons p ps ih=>simp_all
    simp_all[Op.operands]
   rw[this]
  |_=>rfl
 | call c=>
  obtain⟨callee,xs,ts⟩:=c;cases callee with
  | builtin b=>
   cases b with
   | min=>
    simp only[pe];split
    ·rename_i x y hxs;obtain rfl:xs= #[x,y]:=by grind
     simp_all[Op.operands,Call.operands]
    ·rfl
   | max=>
    simp only[pe];split
    ·rename_i x y hxs;obtain rfl:xs= #[x,y]:=by grind
     simp_all[Op.operands,Call.operands]
    ·rfl
   | len=>
    simp only[pe];split
    ·rename_i x t hxs hts;obtain rfl:xs= #[x]:=by grind
     simp_all[Op.operands,Call.operands]
    ·rfl
   |_=>rfl
  |_=>rfl
 |_=>rfl
theorem Ba(hG:Good ops pds eff)(hF:FrS N σ a0){j:Nat}(hj:j∉eff)(h:pureV P ops σ pds j=(pds.getD j .any).val?)(hsome:(pds.getD j .any).val?.isSome=true):NP P draw ms ops eff pds Φ S a0 w0 Q j:=by
 intro o ho a w k _ _ hΦ _ hgc hk K hK;obtain⟨v,hv⟩:=Zf0.1 hsome;rw[hv]at h;have hpd:pds.getD j .any= .eq v:=by
  cases hp:pds.getD j .any with
  |eq u=>simp_all[Pd.val?]
  |is p=>rw[hp]at hv;cases hv
  |own p=>rw[hp]at hv;cases hv
  |any=>rw[hp]at hv;cases hv
 classical
 have hrun:(execOp a.eval o).run P w= .ok (.value v) w:=by
  unfold pureV at h;simp only[ho]at h;split at h
  ·rename_i c x y hop;split at h
   ·rename_i t z hc;split at h
    ·rename_i u u' hx hy;simp only[Option.some.injEq]at h;have hcv:a.eval (.tmp t)= .bool z:=PO hG hF ho hgc hk aC hc;have hgz:∀n,lastW ops t j=some n->gc ops pds ops.size n/\pds.getD n .any= .eq (.bool z):=by
      intro n hn;rw[KT,hn]at hc;simp only at hc;split at hc
      ·rename_i hok;have hi:=Vt hn;have hjl:j<ops.size:=(Zey.1 ho).1;refine⟨KJ hG.lt ops.size j n hok ops.size hjl O hgc,?_⟩;unfold valAt Pd.val? at hc;grind
      ·cases hc
     have hval:(if z then a.eval x else a.eval y)=v:=by
      rw[<-h,Zbc];cases z with
      |true=>exact IL hG hF ho hgc hk aC hgz rfl hx
      |false=>exact IL hG hF ho hgc hk aC hgz rfl hy
     simp_all[guard,execOp,asBool]
    ·cases h
   ·cases h
  ·refine Pz (ρ:=λx=>if x∈o.op.operands then envP ops σ pds j x else none) (λx u hx=> ?_) ?_ w
   ·split at hx
    ·rename_i hmem;exact PO hG hF ho hgc hk hmem hx
    ·cases hx
   simp_all[ZaM,Zei]
 unfold Oper.wp;rw[hrun];have h0:effOf eff j=0:=by simp_all[effOf]
 exact hK v w (by rw[hpd];rfl) (Chg.refl _ _) (by rw[h0];exact hΦ)
def outV(ops:Array Oper)(σ:List (Nat×Value))(pds:List Pd)(t:Nat):Option Value:=
 match lastW ops t ops.size with
 |some i=>if(guardOf ops i).isNone then valAt pds i else none
 |none=>σ.lookup t
theorem Il(hF:FrS N σ a0){a:Act}{w:World}(hE:EndOf ops (TT ops pds) a0 a w){t:Nat}{v:Value}(h:outV ops σ pds t=some v):a.eval (.tmp t)=v:=by
 have h1:=hE.2.2 t;unfold Know at h1;unfold outV at h;cases hl:lastW ops t ops.size with
 |none=>rw[hl]at h h1;rw[h1];exact hF.get t v h
 | some i=>
  rw[hl]at h h1;simp only at h;split at h
  ·have hi:=Vt hl;have hgi:gc ops pds ops.size i:=by
    obtain⟨m,hm⟩:∃m,ops.size=m+1:=⟨ops.size-1,by omega⟩;simp_all[gc,Zfe]
   have h2:=h1.1 hgi;unfold valAt Pd.val? at h;split at h
   ·rename_i u hu;simp only[Option.some.injEq]at h;subst h;rw[hu]at h2;exact h2
   ·cases h
  ·cases h
def EndOf.is{a:Act}{w:World}(hE:EndOf ops (TT ops pds) a0 a w)(t i:Nat)(hl:lastW ops t ops.size=some i)(hg:guardOf ops i=none):(pds.getD i .any).sat (a.eval (.tmp t)) w:=by
 have h1:=hE.2.2 t;unfold Know at h1;rw[hl]at h1;refine h1.1 ?_;have hi:=Vt hl;obtain⟨m,hm⟩:∃m,ops.size=m+1:=⟨ops.size-1,by omega⟩;simp_all[gc]
def AllL(p:Nat->Prop):List Nat->Prop
 |[]=>True
 |j::l=>p j/\AllL p l
theorem AllL.mem{p:Nat->Prop}{j:Nat}:∀{l:List Nat},AllL p l->j∈l->p j
 |_::_,h,hm=>by
  cases hm with
  |head=>exact h.1
  |tail _ hm=>exact AllL.mem h.2 hm
def npIdx(ops:Array Oper)(isP:List Bool):List Nat:=(List.range ops.size).filter λj=>!(isP.getD j false)
def pIdx(ops:Array Oper)(isP:List Bool):List Nat:=(List.range ops.size).filter λj=>isP.getD j false
theorem AL{id:Nat}(isP:List Bool)(σ':List (Nat×Value))(hmix:P.follows .mixedOrders=true)(hst:(stat draw ms ops eff N&&statG ops pds eff)=true)(hF:FrS N σ a0)
  (hp:(pIdx ops isP).map (pureV P ops σ pds)=(pIdx ops isP).map λj=>(pds.getD j .any).val?)
  (hps:((pIdx ops isP).all λj=>(pds.getD j .any).val?.isSome&& !eff.contains j)=true)
  (hmono:AllL (λj=>(pds.getD j .any).Mono S) (npIdx ops isP))
  (hΦ:∀w,Chg Non w0 w->Φ 0 w)
  (hnp:AllL (NP P draw ms ops eff pds Φ S a0 w0 Q) (npIdx ops isP))
  (hout:σ'.map (λp=>outV ops σ pds p.1)=σ'.map λp=>some p.2)
  (post:∀a w,FrS N σ' a->EndOf ops (TT ops pds) a0 a w->Chg S w0 w->Φ eff.length w->Q .normal a w):(Code.region id ops draw).wp P Q a0 w0:=by
 rw[Zek]at hst;obtain⟨hst,hsg⟩:=hst;have hG:=Gl hsg;have hlen:pds.length=ops.size:=by
  simp_all[statG,Zek]
 have hmonoAll:∀j,(pds.getD j .any).Mono S:=by
  intro j;by_cases hj:j<ops.size
  ·cases hb:isP.getD j false with
   |false=>exact hmono.mem (Ze6.2 ⟨Ze7.2 hj,by simp_all⟩)
   |true=>
    rw[Zev]at hps;have:=hps j (Ze6.2 ⟨Ze7.2 hj,hb⟩);rw[Zek]at this;obtain⟨v,hv⟩:=Zf0.1 this.1;cases hpj:pds.getD j .any with
    |eq u=>simp[Pd.mono_eq]
    |is p=>rw[hpj]at hv;cases hv
    |own p=>rw[hpj]at hv;cases hv
    |any=>simp[Pd.mono_any]
  simp_all[Zer,ZeC,Pd.mono_any]
 have hdst:∀d,(∃i,wr ops d i=true)->d<N:=by
  intro d ⟨i,hi⟩;have hst':=hst;unfold stat at hst';simp only[Zek,Zev,Ze7]at hst';have hil:=Cy hi;have:=hst'.2 i hil;simp_all[Zeh,wr,Zee,Zft]
 refine Er (T:=TT ops pds) hmix hst hF.size (λi v w w' ht hc=>⟨λhg=>hmonoAll i v w w' (ht.1 hg) hc,ht.2⟩) hΦ (λj hj=>?_) (λa w hE hc hp=>?_)
 ·refine JZ hG hF.size hdst ?_;cases hb:isP.getD j false with
  |false=>exact hnp.mem (Ze6.2 ⟨Ze7.2 hj,by simp_all⟩)
  |true=>
   have hm:j∈pIdx ops isP:=Ze6.2 ⟨Ze7.2 hj,hb⟩;grind[Ba,List.map_inj_left]
 ·refine post a w ⟨hE.1.trans hF.defers,hE.2.1.trans hF.size,λt v hv=> ?_⟩ hE hc hp;have hm:=Ra hv;grind[Il,List.map_inj_left]
end
theorem add_add(a:Addr)(i j:Nat):(a.add i).add j=a.add (i+j):=by
 grind[Addr.add,Nat.add_assoc]
theorem add_block(a:Addr)(n:Nat):(a.add n).block=a.block:=by grind[Addr.add]
def AC{w w':World}{a:Addr}{v:Value}(h:w.cell? a=some v)(hk:w'.heap[a.block]? =w.heap[a.block]?):w'.cell? a=some v:=
 (World.cell?_of_block hk).trans h
class Rep(α:Type)where
 sz:Nat
 agg:Bool
 ok:World->(Nat->Prop)->List Value->α->Prop
 len:∀{w F cs x},ok w F cs x->cs.length=sz
 one:∀{w F cs x},ok w F cs x->∀u∈cs,u.oneCell'=true
 pos:0<sz
 sgl:agg=false->sz=1
 keep:∀{w w':World}{F F':Nat->Prop}{cs x},ok w F cs x->(∀k,k<w.heap.size->F k->w'.heap[k]? =w.heap[k]? /\F' k)->ok w' F' cs x
def Rep.val(α:Type)[Rep α](cs:List Value):Value:=if Rep.agg α then .agg cs.toArray else cs.headD undef
def RV{α:Type}[Rep α](w:World)(F:Nat->Prop)(v:Value)(x:α):Prop:=∃cs,Rep.ok w F cs x/\v=Rep.val α cs
section
variable{α:Type}[Rep α]
def RV.keep{w w':World}{F F':Nat->Prop}{v:Value}{x:α}(h:RV w F v x)(hk:∀k,k<w.heap.size->F k->w'.heap[k]? =w.heap[k]? /\F' k):RV w' F' v x:=by
 obtain⟨cs,h1,h2⟩:=h;exact⟨cs,Rep.keep h1 hk,h2⟩
def RV.chg{S:Nat->Prop}{w w':World}{F:Nat->Prop}{v:Value}{x:α}(h:RV w F v x)(hc:Chg S w w')(hs:∀k,F k->¬S k):RV w' F v x:=
 h.keep λk hk hf=>⟨hc.block k hk (hs k hf),hf⟩
def RV.ext{w w':World}{F:Nat->Prop}{v:Value}{x:α}(h:RV w F v x)(hc:Chg Non w w'):RV w' F v x:=
 h.chg hc λ_ _=>id
def RV.sub{w:World}{F F':Nat->Prop}{v:Value}{x:α}(h:RV w F v x)(hs:∀k,k<w.heap.size->F k->F' k):RV w F' v x:=
 h.keep λk hk hf=>⟨rfl,hs k hk hf⟩
def RV.any{w:World}{F:Nat->Prop}{v:Value}{x:α}(h:RV w F v x):RV w (λ_=>True) v x:=h.sub λ_ _ _=>trivial
def Cells(w:World)(ad:Addr)(cs:List Value):Prop:=∀j u,cs[j]? =some u->w.cell? (ad.add j)=some u
def Cells.keep{w w':World}{ad:Addr}{cs:List Value}(h:Cells w ad cs)(hk:cs≠[]->w'.heap[ad.block]? =w.heap[ad.block]?):Cells w' ad cs:=λj u hu=>
 AC (h j u hu) (by grind[add_block])
theorem Cells.lt{w:World}{ad:Addr}{cs:List Value}(h:Cells w ad cs)(hn:cs≠[]):ad.block<w.heap.size:=by
 cases cs with
 |nil=>simp_all
 |cons u cs=>
  have:=World.block_lt_of_cell? w _ (h 0 u rfl);simp_all[add_block]
def elems(w:World)(F:Nat->Prop)(ad:Addr):Nat->List α->Prop
 |_,[]=>True
 |i,x::xs=>(∃cs,Rep.ok w F cs x/\Cells w (ad.add (i*Rep.sz α)) cs)/\elems w F ad (i+1) xs
theorem Tk{w:World}{F:Nat->Prop}{ad:Addr}:∀{l:List α}{n i:Nat}{x:α},elems w F ad n l->l[i]? =some x->∃cs,Rep.ok w F cs x/\Cells w (ad.add ((n+i)*Rep.sz α)) cs
 |y::l,n,0,x,h,hx=>by
  simp at hx;subst hx;exact h.1
 |y::l,n,i+1,x,h,hx=>by
  have:=Tk (l:=l) (n:=n+1) (i:=i) h.2 (by simpa using hx);grind
theorem Qg{w:World}{F:Nat->Prop}{ad:Addr}:∀{l:List α}{n:Nat},(∀i x,l[i]? =some x->∃cs,Rep.ok w F cs x/\Cells w (ad.add ((n+i)*Rep.sz α)) cs)->elems w F ad n l
 |[],_,_=>trivial
 | y::l,n,h=>⟨by simpa using h 0 y rfl,Qg λi x hx=>by
   have:=h (i+1) x ag
   grind⟩
def Zds{w:World}{F:Nat->Prop}{cs:List Value}{x:α}(h:Rep.ok w F cs x):cs≠[]:=by
 have:=Rep.len h;grind[Rep.pos]
theorem KP{w:World}{F:Nat->Prop}{ad:Addr}{l:List α}{n:Nat}(h:elems w F ad n l)(hl:l≠[]):ad.block<w.heap.size:=by
 cases l with
 |nil=>simp_all
 |cons x l=>
  obtain⟨cs,h1,h2⟩:=h.1;have:=h2.lt (Zds h1);simp_all[add_block]
theorem Ki{w w':World}{F F':Nat->Prop}{ad:Addr}(hk:∀k,k<w.heap.size->F k->w'.heap[k]? =w.heap[k]? /\F' k)(hF:F ad.block):∀{l:List α}{n:Nat},elems w F ad n l->elems w' F' ad n l
 |[],_,_=>trivial
 | x::l,n,h=>by
  obtain⟨⟨cs,h1,h2⟩,h3⟩:=h;have hlt:ad.block<w.heap.size:=by
   have:=h2.lt (Zds h1);simp_all[add_block]
  exact⟨⟨cs,Rep.keep h1 hk,h2.keep λ_=>by simp_all[add_block]⟩,Ki hk hF h3⟩
end
instance:Rep Int where
 sz:=1
 agg:=false
 ok:=λ_ _ cs n=>cs=[.int .i64 n]
 len:=by simp
 one:=by rintro w F cs x rfl u hu;simp at hu;subst hu;rfl
 pos:=by decide
 sgl:=λ_=>rfl
 keep:=λh _=>h
instance:Rep Byt where
 sz:=1
 agg:=false
 ok:=λ_ _ cs x=>cs=[.int .u8 x.n]
 len:=by simp
 one:=by rintro w F cs x rfl u hu;simp at hu;subst hu;rfl
 pos:=by decide
 sgl:=λ_=>rfl
 keep:=λh _=>h
instance:Rep Bool where
 sz:=1
 agg:=false
 ok:=λ_ _ cs n=>cs=[.bool n]
 len:=by simp_all
 one:=by rintro w F cs x rfl u hu;simp at hu;subst hu;rfl
 pos:=by decide
 sgl:=λ_=>rfl
 keep:=λh _=>h
def Str.val(s:Str):Value:=.string ⟨s.bytes.toArray⟩
instance:Rep Str where
 sz:=1
 agg:=false
 ok:=λ_ _ cs s=>cs=[s.val]
 len:=by simp
 one:=by rintro w F cs x rfl u hu;simp at hu;subst hu;rfl
 pos:=by decide
 sgl:=λ_=>rfl
 keep:=λh _=>h
def RV.int{w:World}{F:Nat->Prop}{v:Value}{n:Int}(h:RV w F v n):v= .int .i64 n:=by
 obtain⟨cs,rfl,rfl⟩:=h;rfl
def RV.bool{w:World}{F:Nat->Prop}{v:Value}{b:Bool}(h:RV w F v b):v= .bool b:=by
 obtain⟨cs,rfl,rfl⟩:=h;rfl
instance{α:Type}[Rep α]:Rep (List α)where
 sz:=1
 agg:=false
 ok:=λw F cs l=>∃a cap,cs=[.slice a l.length cap]/\l.length<=cap/\cap<=maxLen/\(l≠[]->∃ad,a=some ad/\F ad.block/\elems w F ad 0 l)
 len:=by simp_all
 one:=by rintro w F cs x ⟨a,cap,rfl,_⟩ u hu;simp at hu;subst hu;rfl
 pos:=by decide
 sgl:=λ_=>rfl
 keep:=by
  rintro w w' F F' cs l ⟨a,cap,rfl,h1,h2,h3⟩ hk;refine⟨a,cap,rfl,h1,h2,λhl=>?_⟩;obtain⟨ad,rfl,hF,he⟩:=h3 hl;exact⟨ad,rfl,(hk _ (KP he hl) hF).2,Ki hk hF he⟩
section
variable{α:Type}[Rep α]
def RV.slice{w:World}{F:Nat->Prop}{v:Value}{l:List α}(h:RV w F v l):
  ∃a cap,v= .slice a l.length cap/\l.length<=cap/\cap<=maxLen/\(l≠[]->∃ad,a=some ad/\F ad.block/\elems w F ad 0 l):=by
 obtain⟨cs,⟨a,cap,rfl,h⟩,rfl⟩:=h;exact⟨a,cap,rfl,h⟩
def RV.mk_slice{w:World}{F:Nat->Prop}{a:Option Addr}{cap:Nat}{l:List α}(h1:l.length<=cap)(h2:cap<=maxLen)(h3:l≠[]->∃ad,a=some ad/\F ad.block/\elems w F ad 0 l):
  RV w F (.slice a l.length cap) l:=⟨[.slice a l.length cap],⟨a,cap,rfl,h1,h2,h3⟩,rfl⟩
def RV.nil{w:World}{F:Nat->Prop}:RV w F (.slice none 0 0) ([]:List α):=RV.mk_slice (Zes _) U (λh=>absurd rfl h)
theorem RV.one{w:World}{F:Nat->Prop}{v:Value}{x:α}(ha:Rep.agg α=false)(h:RV w F v x):Rep.ok w F [v] x:=by
 obtain⟨cs,h1,rfl⟩:=h;have hl:=Rep.len h1;rw[Rep.sgl ha]at hl
 match cs,hl with
 |[c],_=>simp_all[Rep.val]
def RV.of_one{w:World}{F:Nat->Prop}{v:Value}{x:α}(ha:Rep.agg α=false)(h:Rep.ok w F [v] x):RV w F v x:=⟨[v],h,by simp_all[Rep.val]⟩
end
structure Ty(P:Program)(t:TypeId)(α:Type)[Rep α]:Prop where
 size:(P.info? t).map (·.size)=some (Rep.sz α)
 agg:(match P.underlying t with|some (.struct _)=>true|some (.array _ _)=>true|some _=>false|none=>!(Rep.agg α))=Rep.agg α
theorem Ty.isAgg{P:Program}{t:TypeId}{α:Type}[Rep α](h:Ty P t α)(w:World):(isAgg t).run P w= .ok (Rep.agg α) w:=by
 have h1:=h.agg;unfold Go.isAgg;cases hu:P.underlying t with
 |none=>simp_all
 |some d=>
  rw[hu]at h1;rw[<-h1];cases d<;>simp[run_underlying hu]
theorem Ty.sizeOf{P:Program}{t:TypeId}{α:Type}[Rep α](h:Ty P t α)(w:World):(sizeOf t).run P w= .ok (Rep.sz α) w:=by
 have h1:=h.size;cases hi:P.info? t with
 |none=>simp_all
 |some i=>
  simp_all[Ze0,Option.some.injEq,Go.sizeOf,typeInfo]
theorem YO{P:Program}{t:TypeId}{α:Type}[Rep α](h:Ty P t α){w:World}{ad:Addr}{cs:List Value}(hl:cs.length=Rep.sz α)(hc:Cells w ad cs):
  (loadVar t ad).run P w= .ok (Rep.val α cs) w:=by
 unfold loadVar Rep.val;simp only[Sem.run_bind,h.isAgg,Result.andThen_ok];cases hh:Rep.agg α with
 |true=>
  simp only[Ze2,Sem.run_bind,h.sizeOf,Result.andThen_ok,Sem.run_pure];have:=run_loadCells_list (P:=P) (w:=w) ad cs hc;simp_all
 | false=>
  rw[Rep.sgl hh]at hl
  match cs,hl with
  |[c],_=>
   have:=hc 0 c rfl;simp_all[Addr.add]
def Does(P:Program)(o:Oper)(a:Act)(w:World)(R:Value->World->Prop):Prop:=
 ∀(K:Act->World->Prop)(Q:Exit->Act->World->Prop),(∀v w',R v w'->K (a.put o.dst v) w')->o.wp P a w K Q
section
variable{P:Program}{o:Oper}{a:Act}{w:World}{R R':Value->World->Prop}
def Does.mono(h:Does P o a w R)(hr:∀v w',R v w'->R' v w'):Does P o a w R':=λK Q hK=>h K Q λv w' hv=>hK v w' (hr v w' hv)
def Zh{v:Value}{w':World}(h:(execOp a.eval o).run P w= .ok (.value v) w')(hr:R v w'):Does P o a w R:=by
 intro K Q hK;unfold Oper.wp;rw[h];exact hK v w' hr
def SK{w':World}(h:(execOp a.eval o).run P w= .ok .skip w')(hr:R undef w'):Does P o a w R:=by
 intro K Q hK;unfold Oper.wp;rw[h];exact hK undef w' hr
def PZ{f:FuncId}{xs:Array Operand}{ts:Array TypeId}(ho:o.op= .call {callee:=.value (.func f),args:=xs,argTypes:=ts})
  (hf:∀(args:Array Value)(w:World),(callFunc f args).run P w= .ok (.enter f args) w){args:Array Value}(ha:xs.map a.eval=args)
  (h:Calls P f args w λe w'=>∃v,e= .returned v/\R v w'):Does P o a w R:=by
 intro K Q hK;obtain⟨dst,op,type,pos,after,guard⟩:=o;subst ho;have hrun:(execOp a.eval {dst,op:=.call {callee:=.value (.func f),args:=xs,argTypes:=ts},type,pos,after,guard}).run P w= .ok (.enter f args) w:=by
  simp_all[execOp,resolve,Deferred.ofValue,Act.eval,Sem.run_bind,Sem.run_pure,Result.andThen_ok,invoke]
 unfold Oper.wp;rw[hrun];refine h.mono λe w' he=>?_;grind
end
def wpFrom(P:Program)(ops:Array Oper)(Q:Exit->Act->World->Prop)(k:Nat)(a:Act)(w:World):Prop:=wpList P ops Q (ops.toList.drop k) a w
section
variable{P:Program}{ops:Array Oper}{Q:Exit->Act->World->Prop}{a:Act}{w:World}{N:Nat}{σ:List (Nat×Value)}
def Gv{id:Nat}(h:wpFrom P ops Q 0 a w):(Code.region id ops false).wp P Q a w:=wp_region_list (by simp_all[wpFrom])
def FQ{id:Nat}{l:List Oper}(h:wpFrom P l.toArray Q 0 a w):(Code.region id l.toArray false).wp P Q a w:=Gv h
def GU{k:Nat}(hk:ops.size=k)(h:Q .normal a w):wpFrom P ops Q k a w:=by
 simp_all[wpFrom,Zfw,wpList_nil]
def Mo{k:Nat}{o:Oper}(ho:ops[k]? =some o)(hg:o.guard=none){R:Value->World->Prop}(hd:Does P o a w R)
  (h:∀v w',R v w'->wpFrom P ops Q (k+1) (a.put o.dst v) w'):wpFrom P ops Q k a w:=by
 unfold wpFrom at h⊢;have hk:k<ops.toList.length:=by grind
 rw[Ze8 hk];have e:ops.toList[k]=o:=by
  grind
 rw[e];exact wpList_plain hg λK hK=>hd K Q λv w' hv=>hK _ _ (h v w' hv)
def Zu{k d:Nat}{o:Oper}(hF:FrS N σ a)(ho:ops[k]? =some o)(hg:o.guard=none)(hd:o.dst=some d)(hdN:d<N){R:Value->World->Prop}(hdo:Does P o a w R)
  (h:∀v w' a',R v w'->FrS N ((d,v)::σ) a'->wpFrom P ops Q (k+1) a' w'):wpFrom P ops Q k a w:=
 Mo ho hg hdo λv w' hv=>by rw[hd];exact h v w' _ hv (hF.put hdN v)
def Qj{k:Nat}{o:Oper}(hF:FrS N σ a)(ho:ops[k]? =some o)(hg:o.guard=none)(hd:o.dst=none){R:Value->World->Prop}(hdo:Does P o a w R)
  (h:∀w',(∃v,R v w')->FrS N σ a->wpFrom P ops Q (k+1) a w'):wpFrom P ops Q k a w:=
 Mo ho hg hdo λv w' hv=>by rw[hd];exact h w' ⟨v,hv⟩ hF
def seqV(P:Program)(N:Nat):List Oper->List (Nat×Value)->Option (List (Nat×Value))
 |[],σ=>some σ
 |o::os,σ=>
  match o.guard,o.dst,pe P (opd σ) o.op with
  |none,some d,some v=>if d<N then seqV P N os ((d,v)::σ)else none
  |_,_,_=>none
theorem Iy{rest:List Oper}:∀{l:List Oper}{σ σ1:List (Nat×Value)}{a:Act},FrS N σ a->seqV P N l σ=some σ1->(∀a',FrS N σ1 a'->wpList P ops Q rest a' w)->wpList P ops Q (l++rest) a w
 |[],σ,σ1,a,hF,hs,h=>by
  simp_all[seqV,Option.some.injEq]
 | o::l,σ,σ1,a,hF,hs,h=>by
  unfold seqV at hs;split at hs
  ·rename_i d v hg hd hv;split at hs
   ·rename_i hdN;refine wpList_plain hg λK hK=>?_;unfold Oper.wp;rw[Pz (P:=P) (ρ':=a.eval) (λx u hx=>Zd hF hx) hv w];refine hK _ _ ?_;rw[hd];exact Iy (hF.put hdN v) hs h
   ·cases hs
  ·cases hs
end
section
variable{P:Program}{draw:Bool}{ms:List Nat}{ops:Array Oper}{eff:List Nat}{Φ:Nat->World->Prop}{S:Nat->Prop}
  {a0:Act}{w0:World}{Q:Exit->Act->World->Prop}{pds:List Pd}{σ:List (Nat×Value)}{N:Nat}
end
section
variable{P:Program}{o:Oper}{a:Act}{w:World}{R:Value->World->Prop}{α:Type}[Rep α]
def ElemP(w:World)(F:Nat->Prop)(v:Value)(x:α):Prop:=∃ad cs,v= .pointer (some ad)/\F ad.block/\Rep.ok w F cs x/\Cells w ad cs
def ElemP.chg{S:Nat->Prop}{w w':World}{F:Nat->Prop}{v:Value}{x:α}(h:ElemP w F v x)(hc:Chg S w w')(hs:∀k,F k->¬S k):ElemP w' F v x:=by
 obtain⟨ad,cs,h1,h2,h3,h4⟩:=h;exact⟨ad,cs,h1,h2,Rep.keep h3 λk hk hf=>⟨hc.block k hk (hs k hf),hf⟩,h4.keep λhn=>hc.block _ (h4.lt hn) (hs _ h2)⟩
def QE{t e:TypeId}{x i:Operand}(ho:o.op= .indexAddr t x i)(ht:P.underlying t=some (.slice e))(he:Ty P e α){F:Nat->Prop}{v:Value}{l:List α}(hv:a.eval x=v)(hl:RV w F v l)
  {k:IntKind}{n:Int}(hi:a.eval i= .int k n)(hn:0<=n){y:α}(hy:l[n.toNat]? =some y):Does P o a w λv w'=>ElemP w F v y/\w'=w:=by
 obtain⟨b,cap,rfl,h1,h2,h3⟩:=hl.slice;have hlt:n.toNat<l.length:=(Zej.1 hy).1;obtain⟨ad,rfl,hF,hel⟩:=h3 an;obtain⟨cs,hok,hc⟩:=Tk hel hy;refine Zh (v:=.pointer (some (ad.add (n.toNat*Rep.sz α)))) (w':=w) ?_ ⟨⟨_,cs,rfl,by simp_all[add_block],hok,?_⟩,rfl⟩
 ·obtain⟨dst,op,type,pos,after,guard⟩:=o;subst ho;have hb:0<=n/\n<(l.length:Int):=⟨hn,by omega⟩;simp[execOp,Instr.indexAt,hv,hi,asIntOf,run_underlying ht,hb,he.sizeOf]
 simp_all
def Md{t:TypeId}{x:Operand}(ho:o.op= .load t x)(ht:Ty P t α){F:Nat->Prop}{v:Value}{y:α}(hv:a.eval x=v)(hp:ElemP w F v y):Does P o a w λv w'=>RV w F v y/\w'=w:=by
 obtain⟨ad,cs,rfl,hF,hok,hc⟩:=hp;refine Zh (v:=Rep.val α cs) (w':=w) ?_ ⟨⟨cs,hok,rfl⟩,rfl⟩;obtain⟨dst,op,type,pos,after,guard⟩:=o;subst ho;simp[execOp,Instr.loadAt,hv,Instr.sureAddr,YO ht (Rep.len hok) hc]
def Box(w:World)(b:Nat)(t:TypeId)(cs:List Value):Prop:=w.heap[b]? =some (.cells cs.toArray t (0,0))
def Box.lt{b:Nat}{t:TypeId}{cs:List Value}(h:Box w b t cs):b<w.heap.size:=(Zey.1 h).1
def Box.chg{S:Nat->Prop}{w w':World}{b:Nat}{t:TypeId}{cs:List Value}(h:Box w b t cs)(hc:Chg S w w')(hs:¬S b):Box w' b t cs:=(hc.block b h.lt hs).trans h
def Box.ext{w w':World}{b:Nat}{t:TypeId}{cs:List Value}(h:Box w b t cs)(hc:Chg Non w w'):Box w' b t cs:=h.chg hc id
def Box.cell{b:Nat}{t:TypeId}{cs:List Value}(h:Box w b t cs)(i:Nat):w.cell? ⟨b,i,none⟩=cs[i]?:=by
 rw[cell_of_row w b i cs.toArray t (0,0) h];simp
def Box.cells{b:Nat}{t:TypeId}{cs:List Value}(h:Box w b t cs):Cells w ⟨b,0,none⟩ cs:=λj u hu=>by
 have:(⟨b,0,none⟩:Addr).add j=⟨b,j,none⟩:=by simp_all[Addr.add]
 rw[this,h.cell,hu]
def ZbI{t:TypeId}{x:Operand}(ho:o.op= .box t x){v:Value}(hv:a.eval x=v):
  Does P o a w λu w'=>∃b,u= .pointer (some ⟨b,0,none⟩)/\b=w.heap.size/\Box w' b t v.cells.toList/\Chg Non w w':=by
 refine Zh (v:=.pointer (some ⟨w.heap.size,0,none⟩)) (w':=w.alloc (.cells v.cells t)) ?_ ⟨_,rfl,rfl,?_,Chg.alloc _ _⟩
 ·simp_all[guard,execOp,Instr.box,newVar,newRow]
 ·unfold Box;rw[heap_alloc_new]
theorem EG{t:TypeId}(ho:o.op= .alloc t){z:Value}(hz:(P.info? t).map (·.zero)=some (some z)):
  Does P o a w λu w'=>∃b,u= .pointer (some ⟨b,0,none⟩)/\b=w.heap.size/\Box w' b t z.cells.toList/\Chg Non w w':=by
 refine Zh (v:=.pointer (some ⟨w.heap.size,0,none⟩)) (w':=w.alloc (.cells z.cells t)) ?_ ⟨_,rfl,rfl,?_,Chg.alloc _ _⟩
 ·cases hi:P.info? t with
  |none=>simp_all
  |some i=>
   simp_all[guard,execOp,Instr.alloc,zeroValue,typeInfo,newVar,newRow]
 ·unfold Box;rw[heap_alloc_new]
theorem JI{t:TypeId}{x y:Operand}(ho:o.op= .store t x y)(ht:(P.info? t).map (·.size)=some 1){b i:Nat}{bt:TypeId}{cs:List Value}(hv:a.eval x= .pointer (some ⟨b,i,none⟩))(hb:Box w b bt cs)
  (hi:i<cs.length){u:Value}(hu:a.eval y=u)(h1:u.oneCell'=true):Does P o a w λ_ w'=>Box w' b bt (cs.set i u)/\Chg (λk=>k=b) w w':=by
 refine SK (w':=w.setCell ⟨b,i,none⟩ u) ?_ ⟨?_,Chg.setCell _ _ _ rfl⟩
 ·cases hinf:P.info? t with
  |none=>simp_all
  |some inf=>
   rw[hinf]at ht;simp only[Ze0,Option.some.injEq]at ht;have hcell:u.cells= #[u]:=by cases u<;>simp_all[Value.cells,Value.oneCell']
   have hc:w.cell? ⟨b,i,none⟩=some cs[i]:=by rw[hb.cell];simp[hi]
   have hfr:w.frozen? ⟨b,i,none⟩=false:=frozen_of_row w b i cs.toArray bt hb;obtain⟨dst,op,type,pos,after,guard⟩:=o;subst ho;simp[execOp,Instr.storeAt,hv,hu,Instr.sureAddr,storeVar,sizeOf,typeInfo,hinf,ht,hcell,storeCells,run_store _ _ _ _ _ h1,Addr.add,hc,hfr]
 ·unfold Box;rw[heap_setCell_same w b i cs.toArray bt u hb];simp
def Je{t:TypeId}{x y:Operand}(ho:o.op= .store t x y){b:Nat}{bt:TypeId}{cs new:List Value}(ht:(P.info? t).map (·.size)=some new.length)(hv:a.eval x= .pointer (some ⟨b,0,none⟩))(hb:Box w b bt cs)
  (hl:new.length=cs.length){u:Value}(hu:a.eval y=u)(huc:u.cells.toList=new)(h1:∀z∈new,z.oneCell'=true):Does P o a w λ_ w'=>Box w' b bt new/\Chg (λk=>k=b) w w':=by
 refine SK (w':=w.setRow b u.cells) ?_ ⟨?_,?_⟩
 ·have h:=run_storeVar_row (P:=P) w b bt t cs.toArray u.cells hb an an (by
   grind)
  have h2:(storeVar t ⟨b,0,none⟩ u).run P w= .ok () (w.setRow b u.cells):=by
   rw[<-h];rfl
  simp_all[guard,execOp,Instr.storeAt,Instr.sureAddr]
 ·unfold Box;rw[setRow_heap w b cs.toArray u.cells bt (0,0) hb,<-huc]
 ·exact⟨rfl,rfl,rfl,by simp,λk _ hn=>setRow_other w b k u.cells hn⟩
end
section
variable{P:Program}{Q:Exit->Act->World->Prop}{a:Act}{w:World}{N:Nat}{σ:List (Nat×Value)}
def Bw{c:Operand}{x y:Code}(hF:FrS N σ a){b:Bool}(hc:opd σ c=some (.bool b))(ht:b=true->x.wp P Q a w)(hf:b=false->y.wp P Q a w):(Code.cond c x y).wp P Q a w:=
 wp_cond_split (Zd hF hc) ht hf
theorem CV{σt ρt:Type}{c:Code}{B:σt->Option (σt⊕ρt)}(Inv:σt->Act->World->Prop){n:Nat}{s0:σt}{r:ρt}(h:iterN B n s0=some r)(h0:Inv s0 a w)
  (round:∀(s:σt)(s1:σt⊕ρt)(a:Act)(w:World),Inv s a w->B s=some s1->(∀r0,s1= .inr r0->r0=r)->c.wp P (Exit.then (λa' w'=>∃s',s1= .inl s'/\Inv s' a' w') Q) a w):(Code.loop c).wp P Q a w:=by
 let I:Act×World->Nat->Prop:=λp k=>∃s,iterN B k s=some r/\Inv s p.1 p.2
 have key:∀k a w,I (a,w) k->∀(b:Frame)(K:List Item)(cs:List Frame),
   ∃e a' w',Q e a' w'/\Arrives P (lone (b.at a (.code c:: .inLoop c::K)) cs w) b K cs e a' w':=by
  intro k
  induction k with
  |zero=>rintro a w ⟨s,hs,_⟩;cases hs
  | succ k ih=>
   rintro a w ⟨s,hs,hI⟩ b K cs;unfold iterN at hs;cases hB:B s with
   |none=>simp_all
   | some s1=>
    rw[hB]at hs;have hr:∀r0,s1= .inr r0->r0=r:=by
     grind
    obtain⟨e,a₁,w₁,hq,harr⟩:=round s s1 a w hI hB hr b (.inLoop c::K) cs;cases e with
    |normal=>
     obtain⟨s',rfl,hI'⟩:=hq;obtain⟨e₂,a₂,w₂,hq₂,harr₂⟩:=ih a₁ w₁ ⟨s',hs,hI'⟩ b K cs;exact⟨e₂,a₂,w₂,hq₂,.of_steps (Steps.trans harr (.one step_inLoop)) harr₂⟩
    |exit id=>exact⟨_,a₁,w₁,hq,.pass (x:=.inLoop c) rfl (λ_ _=>.inl U) harr⟩
    |goto l=>exact⟨_,a₁,w₁,hq,.pass (x:=.inLoop c) rfl (λ_ _=>.inl U) harr⟩
    |ret=>exact⟨_,a₁,w₁,hq,.pass (x:=.inLoop c) rfl (λ_ _=>.inl U) harr⟩
    |panic ch=>exact⟨_,a₁,w₁,hq,.pass (x:=.inLoop c) rfl (λ_ _=>.inl U) harr⟩
    |outgrown=>exact⟨_,a₁,w₁,hq,.pass (x:=.inLoop c) rfl (λ_ _=>.inl U) harr⟩
 intro b K cs;obtain⟨e,a',w',hq,harr⟩:=key n a w ⟨s0,h,h0⟩ b K cs;exact⟨e,a',w',hq,.of_steps (.one step_loop) harr⟩
theorem bindE{α β:Type}{o:Option α}{f:α->Option β}{r:β}(h:o.bind f=some r):∃x,o=some x/\f x=some r:=by
 cases o with
 |none=>cases h
 |some x=>simp_all
def iteT{β:Type}{c:Bool}{x y:β}{r:β}(hc:c=true)(h:(if c=true then x else y)=r):x=r:=by simp_all
def iteF{β:Type}{c:Bool}{x y:β}{r:β}(hc:c=false)(h:(if c=true then x else y)=r):y=r:=by simp_all
def args0:Nat->List Value->List (Nat×Value)
 |_,[]=>[]
 |n,v::vs=>(n,v)::args0 (n+1) vs
theorem Zci(args:List Value)(m:Nat):FrS (args.length+m) (args0 0 args) {tmps:=args.toArray++Array.replicate m undef,defers:=[]}:=by
 refine⟨rfl,by simp,λt v h=>?_⟩;have key:∀(l:List Value)(n:Nat),(args0 n l).lookup t=some v->n<=t/\l[t-n]? =some v:=by
  intro l
  induction l with
  |nil=>intro n h;cases h
  |cons u l ih=>
   grind[args0]
 obtain⟨_,h2⟩:=key args 0 h;have hlt:t<args.length:=by
  grind
 simp_all[Act.eval,Zeh,Array.getElem?_append_left,congrArg,undef]
def enter{f:FuncId}{fn:Func}{c:Code}{args:List Value}{R:Ending->World->Prop}(hf:P.funcs[f]? =some fn)(hb:fn.body=some c)(hN:fn.ntmps=N)(hle':Nat.ble args.length N=true)
  (h:∀a,FrS N (args0 0 args) a->c.wp P (bodyPost P fn R) a w):Calls P f args.toArray w R:=by
 have hle:=ZfG hle';grind[calls_of_wp,Zci]
def ret1{fn:Func}{R:Ending->World->Prop}{t:Tmp}(hr:fn.results= #[.tmp t])(hF:FrS N σ a){v:Value}(hv:σ.lookup t=some v)(h:R (.returned v) w):bodyPost P fn R .ret a w:=by
 refine⟨hF.defers,v,?_,h⟩;have:=hF.get t v hv;simp_all[Act.eval,Zeh,results]
end
section
variable{P:Program}{Q:Exit->Act->World->Prop}{a:Act}{w:World}{K:Act->World->Prop}{i j:Nat}
def Po(h:K a w):Exit.then K Q .normal a w:=h
def Eh(h:Q .normal a w):Exit.inBlock i Q (.exit i) a w:=by simp_all[Exit.inBlock,Ze2]
def Ex(hn:(j==i)=false)(h:Q (.exit j) a w):Exit.inBlock i Q (.exit j) a w:=by
 simp_all[Exit.inBlock,Zen]
def wp_cut{c:Code}{M:Act->World->Prop}(h1:c.wp P (Exit.then M Q) a w)(h2:∀a w,M a w->K a w):c.wp P (Exit.then K Q) a w:=
 wp_mono h1 λe a w he=>by cases e<;>first|exact h2 a w he|exact he
def wp_cut'{c:Code}{M:Act->World->Prop}(h1:c.wp P (Exit.then M Q) a w)(h2:∀a w,M a w->Q .normal a w):c.wp P Q a w:=
 wp_mono h1 λe a w he=>by cases e<;>first|exact h2 a w he|exact he
end
class Flat(α:Type)extends Rep α where
 enc:α->List Value
 iff:∀{w F cs x},Rep.ok w F cs x↔cs=enc x
instance:Flat Int where
 enc:=λn=>[.int .i64 n]
 iff:=Iff.rfl
instance:Flat Byt where
 enc:=λx=>[.int .u8 x.n]
 iff:=Iff.rfl
instance:Flat Bool where
 enc:=λn=>[.bool n]
 iff:=Iff.rfl
instance:Flat Str where
 enc:=λn=>[n.val]
 iff:=Iff.rfl
def RV.flat{α:Type}[Flat α]{w:World}{F:Nat->Prop}{v:Value}{x:α}(h:RV w F v x):v=Rep.val α (Flat.enc x):=by
 obtain⟨cs,h1,rfl⟩:=h;simp_all[Flat.iff]
def RV.mk_flat{α:Type}[Flat α]{w:World}{F:Nat->Prop}(x:α):RV w F (Rep.val α (Flat.enc x)) x:=⟨_,Flat.iff.2 rfl,rfl⟩
section
variable{P:Program}{ops:Array Oper}{Q:Exit->Act->World->Prop}{a:Act}{w:World}{N:Nat}{σ:List (Nat×Value)}{k d:Nat}{t ty:TypeId}{x y:Operand}{pos:String}{af:Array Edge}
def Dc{b i:Nat}{bt:TypeId}{cs:List Value}{u:Value}(cs':List Value)(ho:ops[k]? =some ⟨none,.store t x y,ty,pos,af,none⟩)(hF:FrS N σ a)(hx:opd σ x=some (.pointer (some ⟨b,i,none⟩)))
  (hy:opd σ y=some u)(ht:(P.info? t).map (·.size)=some 1)(hb:Box w b bt cs)(hi:Nat.blt i cs.length=true)(h1:u.oneCell'=true)(hcs:cs.set i u=cs')
  (h:∀w',Box w' b bt cs'->Chg (λk=>k=b) w w'->FrS N σ a->wpFrom P ops Q (k+1) a w'):wpFrom P ops Q k a w:=
 Qj hF ho rfl rfl (JI rfl ht (Zd hF hx) hb (Ze4.mp hi) (Zd hF hy) h1) λw'⟨_,hb',hc⟩hF'=>h w' (hcs▸hb') hc hF'
def GI{b:Nat}{bt:TypeId}{cs:List Value}{u:Value}(cs':List Value)(ho:ops[k]? =some ⟨none,.store t x y,ty,pos,af,none⟩)(hF:FrS N σ a)(hx:opd σ x=some (.pointer (some ⟨b,0,none⟩)))
  (hy:opd σ y=some u)(ht:(P.info? t).map (·.size)=some cs'.length)(hb:Box w b bt cs)(hl:cs'.length=cs.length)(huc:u.cells.toList=cs')(h1:(cs'.all λz=>z.oneCell')=true)
  (h:∀w',Box w' b bt cs'->Chg (λk=>k=b) w w'->FrS N σ a->wpFrom P ops Q (k+1) a w'):wpFrom P ops Q k a w:=
 Qj hF ho rfl rfl (Je rfl ht (Zd hF hx) hb hl (Zd hF hy) huc ag) λw'⟨_,hb',hc⟩hF'=>h w' hb' hc hF'
def Zed{v:Value}(cs:List Value)(ho:ops[k]? =some ⟨some d,.box t x,ty,pos,af,none⟩)(hd:Nat.blt d N=true)(hF:FrS N σ a)(hx:opd σ x=some v)(hcs:v.cells.toList=cs)
  (h:∀b w' fr,w.heap.size<=b->Box w' b t cs->Chg Non w w'->FrS N ((d,.pointer (some ⟨b,0,none⟩))::σ) fr->wpFrom P ops Q (k+1) fr w'):wpFrom P ops Q k a w:=
 Zu hF ho rfl rfl (Ze4.mp hd) (ZbI rfl (Zd hF hx)) λ_ w' fr⟨b,hv,hb,hB,hc⟩hF'=>by grind
def Zdn{z:Value}(cs:List Value)(ho:ops[k]? =some ⟨some d,.alloc t,ty,pos,af,none⟩)(hd:Nat.blt d N=true)(hF:FrS N σ a)(hz:(P.info? t).map (·.zero)=some (some z))(hcs:z.cells.toList=cs)
  (h:∀b w' fr,w.heap.size<=b->Box w' b t cs->Chg Non w w'->FrS N ((d,.pointer (some ⟨b,0,none⟩))::σ) fr->wpFrom P ops Q (k+1) fr w'):wpFrom P ops Q k a w:=
 Zu hF ho rfl rfl (Ze4.mp hd) (EG rfl hz) λ_ w' fr⟨b,hv,hb,hB,hc⟩hF'=>by grind
theorem ZaS{xs:List Operand}{args:List Value}(hF:FrS N σ a)(h:xs.map (opd σ)=args.map some):xs.map a.eval=args:=by
 induction xs generalizing args with
 |nil=>simp_all
 | cons x xs ih=>cases args with
  |nil=>simp at h
  |cons v vs=>
   grind[List.cons.injEq,Zd]
def Hr{xs:Array Operand}{args:List Value}(hF:FrS N σ a)(h:xs.toList.map (opd σ)=args.map some):xs.map a.eval=args.toArray:=by
 have:=ZaS hF h;grind
def s_call{f:FuncId}{xs:Array Operand}{ts:Array TypeId}(args:List Value){R:Value->World->Prop}(hf:∀(args:Array Value)(w:World),(callFunc f args).run P w= .ok (.enter f args) w)
  (ho:ops[k]? =some ⟨some d,.call ⟨.value (.func f),xs,ts⟩,ty,pos,af,none⟩)(hd:Nat.blt d N=true)(hF:FrS N σ a)(hargs:xs.toList.map (opd σ)=args.map some)
  (hc:Calls P f args.toArray w λe w'=>∃v,e= .returned v/\R v w')(h:∀v w' fr,R v w'->FrS N ((d,v)::σ) fr->wpFrom P ops Q (k+1) fr w'):wpFrom P ops Q k a w:=
 Zu hF ho rfl rfl (Ze4.mp hd) (PZ rfl hf (Hr hF hargs) hc) λv w' fr hr hF'=>h v w' fr hr hF'
def Za9{α:Type}[Rep α]{e d' t' ty':TypeId}{pos':String}{af':Array Edge}{F:Nat->Prop}{v:Value}{l:List α}{kd:IntKind}{n:Int}{z:α}(he:Ty P e α)(ht:P.underlying t=some (.slice e))
  (ho:ops[k]? =some ⟨some d,.indexAddr t x y,ty,pos,af,none⟩)(ho':ops[k+1]? =some ⟨some d',.load t' (.tmp d),ty',pos',af',none⟩)(hte:t'=e)(hd:Nat.blt d N=true)(hd':Nat.blt d' N=true)(hF:FrS N σ a)
  (hx:opd σ x=some v)(hl:RV w F v l)(hy:opd σ y=some (.int kd n))(hn:0<=n)(hz:l[n.toNat]? =some z)
  (h:∀p u fr,RV w F u z->FrS N ((d',u)::(d,p)::σ) fr->wpFrom P ops Q (k+2) fr w):wpFrom P ops Q k a w:=by
 subst hte;refine Zu hF ho rfl rfl (Ze4.mp hd) (QE rfl ht he (Zd hF hx) hl (Zd hF hy) hn hz) λp w1 fr1 hpw hF1=>?_;obtain⟨hp,rfl⟩:=hpw;refine Zu hF1 ho' rfl rfl (Ze4.mp hd') (Md rfl he (hF1.get d p U) hp) λu w2 fr2 huw hF2=>?_;grind
def Zdc{α:Type}[Flat α]{e d' t' ty':TypeId}{pos':String}{af':Array Edge}{F:Nat->Prop}{v:Value}{l:List α}{kd:IntKind}{n:Int}{z:α}(u:Value)(he:Ty P e α)(ht:P.underlying t=some (.slice e))
  (ho:ops[k]? =some ⟨some d,.indexAddr t x y,ty,pos,af,none⟩)(ho':ops[k+1]? =some ⟨some d',.load t' (.tmp d),ty',pos',af',none⟩)(hte:t'=e)(hd:Nat.blt d N=true)(hd':Nat.blt d' N=true)(hF:FrS N σ a)
  (hx:opd σ x=some v)(hl:RV w F v l)(hy:opd σ y=some (.int kd n))(hn:0<=n)(hz:l[n.toNat]? =some z)(hu:Rep.val α (Flat.enc z)=u)
  (h:∀p fr,FrS N ((d',u)::(d,p)::σ) fr->wpFrom P ops Q (k+2) fr w):wpFrom P ops Q k a w:=
 Za9 he ht ho ho' hte hd hd' hF hx hl hy hn hz λp v fr hv hF'=>h p fr (by rw[<-hu,<-hv.flat];exact hF')
end
section
variable{P:Program}{draw:Bool}{ms:List Nat}{ops:Array Oper}{a0:Act}{w0:World}{Q:Exit->Act->World->Prop}{pds:List Pd}{σ:List (Nat×Value)}{N:Nat}
def NPB(P:Program)(draw:Bool)(ms:List Nat)(ops:Array Oper)(pds:List Pd)(a0:Act)(w0:World)(Q:Exit->Act->World->Prop)(j:Nat):Prop:=
 NP P draw ms ops [] pds (λ_ _=>True) Non a0 w0 Q j
def ZaX{id:Nat}(ms:List Nat)(isP:List Bool)(pds:List Pd)(σ':List (Nat×Value))(hmix:P.follows .mixedOrders=true)(hF:FrS N σ a0)(hst:(stat draw ms ops [] N&&statG ops pds [])=true)
  (hp:(pIdx ops isP).map (pureV P ops σ pds)=(pIdx ops isP).map λj=>(pds.getD j .any).val?)
  (hps:((pIdx ops isP).all λj=>(pds.getD j .any).val?.isSome&& !([]:List Nat).contains j)=true)
  (hmono:AllL (λj=>(pds.getD j .any).Mono Non) (npIdx ops isP))
  (hnp:Good ops pds []->AllL (NPB P draw ms ops pds a0 w0 Q) (npIdx ops isP))
  (hout:σ'.map (λp=>outV ops σ pds p.1)=σ'.map λp=>some p.2)
  (post:∀a w,FrS N σ' a->EndOf ops (TT ops pds) a0 a w->Chg Non w0 w->Q .normal a w):(Code.region id ops draw).wp P Q a0 w0:=
 AL isP σ' hmix hst hF hp hps hmono (λ_ _=>trivial) (hnp (Gl ag)) hout λa w h1 h2 h3 _=>post a w h1 h2 h3
def RU{j:Nat}(o:Oper)(ho:ops[j]? =some o)(hG:Good ops pds [])(hF:FrS N σ a0)
  (h:∀a w,Chg Non w0 w->gc ops pds ops.size j->(∀x v,x∈o.op.operands->envP ops σ pds j x=some v->a.eval x=v)->(∀t,Operand.tmp t∈o.op.operands->Know ops (TT ops pds) a0 j t (a.eval (.tmp t)) w)->Does P o a w λv w'=>(pds.getD j .any).sat v w'/\Chg Non w w'):NPB P draw ms ops pds a0 w0 Q j:=by
 intro o' ho' a w k _ _ _ hc hg hk K hK;rw[ho]at ho';simp only[Option.some.injEq]at ho';subst ho';exact h a w hc hg (λx v hx hv=>PO hG hF ho hg hk hx hv) (λt ht=>hk t (Tw ht)) K Q λv w' hv=>hK v w' hv.1 hv.2 trivial
def Qy{j i:Nat}{t:Tmp}{a:Act}{w:World}(hG:Good ops pds [])(hj:Nat.blt j ops.size=true)(hl:lastW ops t j=some i)(hok:okG ops ops.size j i=true)(hg:gc ops pds ops.size j)
  (hk:Know ops (TT ops pds) a0 j t (a.eval (.tmp t)) w):(pds.getD i .any).sat (a.eval (.tmp t)) w:=by
 unfold Know at hk;rw[hl]at hk;have hi:=Vt hl;have hj':=Ze4.mp hj;exact hk.1 (KJ hG.lt ops.size j i hok ops.size hj' O hg)
variable{j d:Nat}{dst:Option Tmp}{g:Option (Nat×Bool)}{t ty:TypeId}{x y:Operand}{pos:String}{af:Array Edge}
def Zb3{α:Type}[Rep α]{e:TypeId}{F:Nat->Prop}{v:Value}{l:List α}{kd:IntKind}{n:Int}{z:α}(hG:Good ops pds [])(hF:FrS N σ a0)(he:Ty P e α)(ht:P.underlying t=some (.slice e))
  (ho:ops[j]? =some ⟨dst,.indexAddr t x y,ty,pos,af,g⟩)(hx:envP ops σ pds j x=some v)(hl:RV w0 F v l)(hy:envP ops σ pds j y=some (.int kd n))(hpd:pds.getD j .any= .is λv w=>ElemP w F v z)
  (hn:gc ops pds ops.size j->0<=n/\l[n.toNat]? =some z):NPB P draw ms ops pds a0 w0 Q j:=
 RU _ ho hG hF λ_ w hC hg hv _=>(QE rfl ht he (hv x _ ai hx) (hl.ext hC) (hv y _ ai hy) (hn hg).1 (hn hg).2).mono λv w'⟨h1,h2⟩=>by
  subst h2;rw[hpd];exact⟨h1,Chg.refl _ _⟩
def JL{α:Type}[Rep α]{F:Nat->Prop}{z:α}:(Pd.is λv w=>ElemP w F v z).Mono Non:=λ_ _ _ h c=>ElemP.chg h c λ_ _=>id
def Bt{α:Type}[Rep α]{F:Nat->Prop}{z:α}:(Pd.is λv w=>RV w F v z).Mono Non:=λ_ _ _ h c=>RV.ext h c
def Zbp{α:Type}[Flat α]{F:Nat->Prop}{z:α}{i s:Nat}{u:Value}(hG:Good ops pds [])(hF:FrS N σ a0)(ht:Ty P t α)(ho:ops[j]? =some ⟨dst,.load t (.tmp s),ty,pos,af,g⟩)(hj:Nat.blt j ops.size=true)
  (hl:lastW ops s j=some i)(hok:okG ops ops.size j i=true)(hpi:pds.getD i .any= .is λv w=>ElemP w F v z)(hpd:pds.getD j .any= .eq u)(hu:Rep.val α (Flat.enc z)=u):NPB P draw ms ops pds a0 w0 Q j:=
 RU _ ho hG hF λa w _ hg _ hk=>(Md (F:=F) (y:=z) rfl ht rfl (by
  have:=Qy hG hj hl hok hg (hk s ai);rw[hpi]at this;exact this)).mono λv w'⟨h1,h2⟩=>by
  subst h2;rw[hpd];exact⟨by rw[<-hu];exact h1.flat,Chg.refl _ _⟩
theorem Ef{xs:List Operand}{args:List Value}{o:Oper}{a:Act}(hs:∀x∈xs,x∈o.op.operands)(hv:∀x v,x∈o.op.operands->envP ops σ pds j x=some v->a.eval x=v)(h:xs.map (envP ops σ pds j)=args.map some):xs.map a.eval=args:=by
 induction xs generalizing args with
 |nil=>simp_all
 | cons x xs ih=>cases args with
  |nil=>simp at h
  |cons v vs=>
   grind
def ZcW{f:FuncId}{xs:Array Operand}{ts:Array TypeId}(args:List Value)(hG:Good ops pds [])(hF:FrS N σ a0)(hf:∀(args:Array Value)(w:World),(callFunc f args).run P w= .ok (.enter f args) w)
  (ho:ops[j]? =some ⟨dst,.call ⟨.value (.func f),xs,ts⟩,ty,pos,af,g⟩)(hargs:xs.toList.map (envP ops σ pds j)=args.map some)
  (hc:∀w,Chg Non w0 w->gc ops pds ops.size j->Calls P f args.toArray w λe w'=>∃v,e= .returned v/\Chg Non w w'/\(pds.getD j .any).sat v w'):NPB P draw ms ops pds a0 w0 Q j:=
 RU _ ho hG hF λa w hC hg hv _=>by
  have h1:=Ef (o:=⟨dst,.call ⟨.value (.func f),xs,ts⟩,ty,pos,af,g⟩) (xs:=xs.toList) (λx hx=>by simp_all[Op.operands,Call.operands]) hv hargs;exact PZ rfl hf an ((hc w hC hg).mono λe w'⟨v,he,h2,h3⟩=>⟨v,he,h3,h2⟩)
end
theorem Rq{s:Nat}:∀{css:List (List Value)}{i j:Nat}{cs:List Value}{u:Value},(∀c∈css,c.length=s)->css[i]? =some cs->cs[j]? =some u->css.flatten[i*s+j]? =some u
 |[],_,_,_,_,_,h,_=>by simp at h
 |c::css,0,j,cs,u,hs,h,hu=>by
  grind
 |c::css,i+1,j,cs,u,hs,h,hu=>by
  have:=Rq (s:=s) (css:=css) (i:=i) (j:=j) (λc hc=>hs c (ZeB _ hc)) az hu;grind
section
variable{α:Type}[Rep α]
def Css(w:World)(F:Nat->Prop)(css:List (List Value))(l:List α):Prop:=
 css.length=l.length/\∀(i:Nat)(cs:List Value)(x:α),css[i]? =some cs->l[i]? =some x->Rep.ok w F cs x
def Css.lens{w:World}{F:Nat->Prop}{css:List (List Value)}{l:List α}(h:Css w F css l):∀c∈css,c.length=Rep.sz α:=by
 intro c hc;obtain⟨i,hi⟩:=ZfA hc;have hlt:i<l.length:=by rw[<-h.1];grind
 exact Rep.len (h.2 i c l[i] hi U)
theorem Css.flat_len{w:World}{F:Nat->Prop}{css:List (List Value)}{l:List α}(h:Css w F css l):css.flatten.length=l.length*Rep.sz α:=by
 have:=h.lens;rw[<-h.1];have key:∀(css:List (List Value)),(∀c∈css,c.length=Rep.sz α)->css.flatten.length=css.length*Rep.sz α:=by
  intro css
  induction css with
  |nil=>simp
  |cons c css ih=>
   grind
 simp_all
def Css.one{w:World}{F:Nat->Prop}{css:List (List Value)}{l:List α}(h:Css w F css l):∀u∈css.flatten,u.oneCell'=true:=by
 intro u hu;obtain⟨c,hc,huc⟩:=List.mem_flatten.1 hu;obtain⟨i,hi⟩:=ZfA hc;have hlt:i<l.length:=by rw[<-h.1];grind
 exact Rep.one (h.2 i c l[i] hi U) u huc
def Css.keep{w w':World}{F F':Nat->Prop}{css:List (List Value)}{l:List α}(h:Css w F css l)(hk:∀k,k<w.heap.size->F k->w'.heap[k]? =w.heap[k]? /\F' k):Css w' F' css l:=
 ⟨h.1,λi cs x h1 h2=>Rep.keep (h.2 i cs x h1 h2) hk⟩
def Css.append{w:World}{F:Nat->Prop}{css css':List (List Value)}{l l':List α}(h:Css w F css l)(h':Css w F css' l'):Css w F (css++css') (l++l'):=by
 refine⟨by simp[h.1,h'.1],λi cs x h1 h2=>?_⟩;by_cases hi:i<css.length
 ·rw[ZeD hi]at h1;rw[ZeD (by rw[<-h.1];exact hi)]at h2;exact h.2 i cs x h1 h2
 ·rw[ZeE O]at h1;rw[ZeE (by rw[<-h.1];omega),<-h.1]at h2;exact h'.2 _ cs x h1 h2
theorem SE{w:World}{F:Nat->Prop}{ad:Addr}:∀{l:List α}{n:Nat},elems w F ad n l->∃css,Css w F css l/\∀j u,css.flatten[j]? =some u->w.cell? (ad.add (n*Rep.sz α+j))=some u
 |[],n,_=>⟨[],⟨rfl,λi cs x h=>by simp at h⟩,λj u h=>by simp at h⟩
 | x::l,n,⟨⟨cs,h1,h2⟩,h3⟩=>by
  obtain⟨css,h4,h5⟩:=SE h3;refine⟨cs::css,⟨by simp[h4.1],λi c y hc hy=>?_⟩,λj u hu=>?_⟩
  ·cases i with
   |zero=>simp_all
   |succ i=>exact h4.2 i c y ag ag
  ·simp only[Zf3]at hu;have hl:=Rep.len h1;by_cases hj:j<cs.length
   ·rw[ZeD hj]at hu;rw[<-add_add];exact h2 j u hu
   grind
def AX{w:World}{F:Nat->Prop}{ad:Addr}{css:List (List Value)}{l:List α}(h:Css w F css l)(hc:∀j u,css.flatten[j]? =some u->w.cell? (ad.add j)=some u):elems w F ad 0 l:=by
 refine Qg λi x hx=>?_;have hi:i<css.length:=by rw[h.1];grind
 have hcs:css[i]? =some css[i]:=Zef hi;refine⟨css[i],h.2 i _ x hcs hx,λj u hu=>?_⟩;rw[ZfV,add_add];exact hc _ u (Rq h.lens hcs hu)
def OwnS(w:World)(E:TypeId)(go:Option Nat)(G FF:Nat->Prop)(v:Value)(l:List α):Prop:=
 ∃(F:Nat->Prop)(css:List (List Value)),Css w F css l/\w.ownsRow 0 E (Rep.sz α) v l.length css.flatten/\v.ownBlock=go/\(∀g,go=some g->G g/\¬F g)/\(∀k,F k->FF k/\k<w.heap.size)
variable{w w':World}{E:TypeId}{go:Option Nat}{G G' FF FF':Nat->Prop}{v:Value}{l:List α}
def OwnS.slice(h:OwnS w E go G FF v l):∃a c,v= .slice a l.length c:=by
 obtain⟨F,css,h1,h2,h3,h4,h5⟩:=h;rcases h2.2 with⟨rfl,hn⟩|⟨g,cap,cur,rfl,_⟩
 all_goals grind
def OwnS.nil:OwnS w E none G FF (.slice none 0 0) ([]:List α):=
 ⟨λ_=>False,[],⟨rfl,λi cs x h=>by simp at h⟩,World.ownsRow_nil w 0 E _,rfl,λ_ h=>ax,λ_ h=>h.elim⟩
def OwnS.inG(h:OwnS w E go G FF v l){g:Nat}(hg:go=some g):G g:=by
 obtain⟨F,css,h1,h2,h3,h4,h5⟩:=h;simp_all
def OwnS.lt(h:OwnS w E go G FF v l){g:Nat}(hg:go=some g):g<w.heap.size:=by
 obtain⟨F,css,h1,h2,h3,h4,h5⟩:=h;exact(h2.lt g (by rw[h3,hg])).2
def OwnS.regard(h:OwnS w E go G FF v l)(hG:∀k,k<w.heap.size->G k->G' k):OwnS w E go G' FF v l:=by
 have hlt:=λg hg=>h.lt (g:=g) hg;obtain⟨F,css,h1,h2,h3,h4,h5⟩:=h;exact⟨F,css,h1,h2,h3,λg hg=>⟨hG g (hlt g hg) (h4 g hg).1,(h4 g hg).2⟩,h5⟩
def OwnS.chg{S:Nat->Prop}(h:OwnS w E go G FF v l)(hc:Chg S w w')(h1:∀k,go=some k->G k->¬S k)(h2:∀k,FF k->¬S k):OwnS w' E go G FF v l:=by
 obtain⟨F,css,g1,g2,g3,g4,g5⟩:=h;refine⟨F,css,g1.keep λk hk hf=>⟨hc.block k hk (h2 k (g5 k hf).1),hf⟩,?_,g3,g4,λk hk=>⟨(g5 k hk).1,Zeu (g5 k hk).2 hc.size⟩⟩;refine⟨g2.1,?_⟩;rcases g2.2 with hn|⟨g,cap,cur,rfl,hb,hg,rest⟩
 ·exact .inl hn
 ·refine .inr ⟨g,cap,cur,rfl,hb, ?_,rest⟩;have hgo:go=some g:=by rw[<-g3];rfl
  rw[hc.block g (Zey.1 hg).1 (h1 g hgo (g4 g hgo).1)];exact hg
def OwnS.ext(h:OwnS w E go G FF v l)(hc:Chg Non w w'):OwnS w' E go G FF v l:=h.chg hc (λ_ _ _=>id) λ_ _=>id
def OwnS.rv(h:OwnS w E go G FF v l):RV w (λk=>(go=some k/\G k)\/FF k) v l:=by
 obtain⟨F,css,h1,h2,h3,h4,h5⟩:=h;rcases h2.2 with⟨rfl,hn⟩|⟨g,cap,cur,rfl,hb,hg,hnc,hcm,hcs,htake⟩
 ·simp_all[Zfd,RV.nil]
 ·have hgo:go=some g:=by rw[<-h3];rfl
  refine RV.mk_slice hnc hcm λ_=>⟨⟨g,0,none⟩,rfl,.inl ⟨hgo,(h4 g hgo).1⟩,?_⟩;exact AX (h1.keep λk _ hf=>⟨rfl,.inr (h5 k hf).1⟩) (h2.cells (g:=g) rfl)
def ElT(P:Program)(E:TypeId)(α:Type)[Rep α]:Prop:=
 (P.info? E).map (λi=>(i.zero.map (·.cells.size),i.size,decide (i.bytes<=32768)))=some (some (Rep.sz α),Rep.sz α,true)
theorem ElT.out{P:Program}(h:ElT P E α):∃i z,P.info? E=some i/\i.zero=some z/\i.size=Rep.sz α/\z.cells.size=Rep.sz α/\i.bytes<=32768:=by
 unfold ElT at h;cases hi:P.info? E with
 |none=>simp_all
 |some i=>
  simp_all
theorem OwnS.append_run{P:Program}{t ty:TypeId}(h:OwnS w E go G FF v l)(ht:P.underlying t=some (.slice E))(hE:ElT P E α){Fr Fu:Nat->Prop}{u:Value}{m:List α}(hu:RV w Fr u m)
  (hsub:∀(cs:List Value)(x:α),Rep.ok w Fr cs x->Rep.ok w Fu cs x)(hFu:∀k,k<w.heap.size->Fu k->FF k/\go≠some k)(hG:∀k,w.heap.size<=k->G k)(hroom:l.length+m.length<=room):
  ∃v' w' go',(Builtin.append_ #[t,t] ty #[v,u]).run P w= .ok v' w'/\OwnS w' E go' G FF v' (l++m)/\Chg (λk=>go=some k) w w'/\(go'=go\/∃g,go'=some g/\w.heap.size<=g):=by
 obtain⟨i,z,hi,hz,hsz,hzs,hby⟩:=hE.out;obtain⟨F,css,h1,h2,h3,h4,h5⟩:=h;obtain⟨a,cap,rfl,hcap,hmax,hcells⟩:=hu.slice;unfold room at hroom;have hsrc:∃cssm,Css w (λk=>Fu k/\k<w.heap.size) cssm m/\∀ad,a=some ad->∀j x,cssm.flatten[j]? =some x->w.cell? (ad.add j)=some x:=by
  by_cases hm:m=[]
  ·subst hm;exact⟨[],⟨rfl,λi cs x h=>by simp at h⟩,λad _ j x h=>by simp at h⟩
  ·obtain⟨ad,rfl,_,he⟩:=hcells hm;obtain⟨cssm,g1,g2⟩:=SE he;have g1:Css w Fu cssm m:=⟨g1.1,λi cs x h1 h2=>hsub cs x (g1.2 i cs x h1 h2)⟩;refine⟨cssm,g1.keep λk hk hf=>⟨rfl,hf,hk⟩,λad' e j x hx=>?_⟩;simp_all
 obtain⟨cssm,g1,g2⟩:=hsrc;have hFall:∀k,(F k\/(Fu k/\k<w.heap.size))->FF k/\k<w.heap.size:=by
  grind
 have hnotgo:∀g,go=some g->¬(F g\/(Fu g/\g<w.heap.size)):=by
  grind
 have finish:∀(v':Value)(w':World),w'.ownsRow 0 E (Rep.sz α) v' (l.length+m.length) (css.flatten++cssm.flatten)->w.grownBy w' v.ownBlock->(v'.ownBlock=v.ownBlock\/v'.ownBlock=some w.heap.size)->
   OwnS w' E v'.ownBlock G FF v' (l++m)/\Chg (λk=>go=some k) w w'/\(v'.ownBlock=go\/∃g,v'.ownBlock=some g/\w.heap.size<=g):=by
  intro v' w' k1 k2 k3;have hch:Chg (λk=>go=some k) w w':=⟨k2.os,k2.tape,k2.output,k2.size,λk hk hn=>k2.block k hk an⟩;refine⟨⟨λk=>F k\/(Fu k/\k<w.heap.size),css++cssm,?_,by simp_all,rfl,?_,λk hk=>⟨(hFall k hk).1,Zeu (hFall k hk).2 k2.size⟩⟩,hch,?_⟩
  ·refine Css.append (h1.keep λk hk hf=>⟨hch.block k hk λe=>hnotgo k e (.inl hf),.inl hf⟩) (g1.keep λk hk hf=>⟨hch.block k hk λe=>hnotgo k e (.inr hf),.inr hf⟩)
  all_goals grind
 cases a with
 | none=>
  have hm:m=[]:=by
   simp_all
  subst hm;have hc0:cssm=[]:=Zfd g1.1;subst hc0;have hrun:(Builtin.append_ #[t,t] ty #[v,.slice none ([]:List α).length cap]).run P w= .ok v w:=by
   rcases h2.2 with⟨rfl,_⟩|⟨g,cap',cur,rfl,_,_,hnc,_⟩
   ·simp[Builtin.append_,run_underlying ht,sizeOf,typeInfo,hi,Builtin.lenOf,Builtin.firstCells]
   ·simp[Builtin.append_,run_underlying ht,sizeOf,typeInfo,hi,Builtin.lenOf,Builtin.firstCells,hnc,storeCells]
  obtain⟨k1,k2,k3⟩:=finish v w (by simpa using h2) ⟨rfl,rfl,rfl,Zes _,λ_ _ _=>rfl⟩ (.inl rfl);exact⟨v,w,_,hrun,k1,k2,k3⟩
 | some ad=>
  obtain⟨v',w',hrun,k1,k2,_,k3⟩:=run_append_own_at (P:=P) w 0 t ty E i z (Rep.sz α) i.bytes ht hi hz hsz rfl hzs Rep.pos v l.length css.flatten h2 ad m.length cap cssm.flatten g1.flat_len (g2 ad rfl) g1.one
   (by simp only[maxLen];omega) (by
    have:(l.length+m.length)*i.bytes<=4294967296*32768:=ZgO hroom hby
    omega) (Zfi _)
  obtain⟨q1,q2,q3⟩:=finish v' w' k1 k2 k3;exact⟨v',w',_,hrun,q1,q2,q3⟩
def ZbB{P:Program}{t:TypeId}(ht:P.underlying t=some (.slice E))(hE:ElT P E α){zc:α}(hz:∀i,P.info? E=some i->∀z,i.zero=some z->Rep.ok w (λ_=>False) z.cells.toList zc)
  {n:Int}(hn:0<=n/\n.toNat<=room)(hG:G w.heap.size):
  ∃v' w' go',(Instr.makeSlice t (.int .i64 n) (.int .i64 n)).run P w= .ok v' w'/\OwnS w' E go' G FF v' (List.replicate n.toNat zc)/\Chg Non w w'/\∃g,go'=some g/\w.heap.size<=g:=by
 obtain⟨i,z,hi,hzz,hsz,hzs,hby⟩:=hE.out;obtain⟨hn0,hroom⟩:=hn;unfold room at hroom
 have hrun:=run_make (P:=P) w t E i z ht hi hzz .i64 .i64 n n hn0 (ZeH _) (by
  have h1:(i.bytes:Int)*n<=32768*4294967296:=Int.mul_le_mul O O hn0 O
  omega) O
 refine⟨_,_,some w.heap.size,hrun,?_,Chg.alloc _ _,_,rfl,Zes _⟩;have hzl:z.cells.toList.length=Rep.sz α:=by omega
 have hmc:∀m,(madeCells z.cells (m*i.size)).toList=(List.replicate m z.cells.toList).flatten:=by
  intro m;have hlens:∀c∈List.replicate m z.cells.toList,c.length=Rep.sz α:=λc hc=>by simp_all
  apply ZeU;intro k;by_cases hk:k<m*Rep.sz α
  ·have hp:=Rep.pos (α:=α);have h1:k/Rep.sz α<m:=(Nat.div_lt_iff_lt_mul hp).2 hk;have h2:k%Rep.sz α<Rep.sz α:=Nat.mod_lt _ hp;have h3:z.cells.toList[k%Rep.sz α]? =some (z.cells.toList[k%Rep.sz α]' O):=Zef O;have h4:=Rq (s:=Rep.sz α) (css:=List.replicate m z.cells.toList) (i:=k/Rep.sz α) (j:=k%Rep.sz α) hlens (by simp[h1]) h3;simp_all[Nat.div_add_mod',Rep.sz,madeCells,Array.toList_map,ZeL,Array.toList_range]
  simp_all[ZeC,size_madeCells]
 refine⟨λ_=>False,List.replicate n.toNat z.cells.toList,⟨by simp,?_⟩,⟨?_,.inr ⟨w.heap.size,n.toNat,madeCells z.cells (n.toNat*i.size),?_,Zfi _,heap_alloc_new w _,?_,?_,?_,?_⟩⟩,rfl,?_,λ_ h=>h.elim⟩
 ·intro j cs x h1 h2;rw[Zg3]at h1 h2;split at h1
  ·grind[Option.some.injEq,Rep.keep]
  ·cases h1
 ·simp_all
 ·simp
 ·simp
 ·grind[maxLen]
 ·simp_all[size_madeCells]
 all_goals simp_all[ZeT,Zfa,List.length_flatten,List.map_replicate,List.sum_replicate_nat,Zes,Option.some.injEq,id]
end
section
variable{α:Type}[Rep α]{w w':World}{E:TypeId}{go:Option Nat}{G G' FF FF':Nat->Prop}{v:Value}{l:List α}
theorem Gz{s:Nat}{css:List (List Value)}{cs:List Value}(hs:∀c∈css,c.length=s)(hc:cs.length=s){n:Nat}(hn:n<css.length)(k:Nat):
  (css.set n cs).flatten[k]? =if n*s<=k/\k<n*s+s then cs[k-n*s]? else css.flatten[k]?:=by
 induction css generalizing n k with
 |nil=>simp at hn
 | cons c css ih=>
  cases n with
  |zero=>
   grind
  |succ n=>
   simp only[List.set_cons_succ,Zf3];grind[Nat.succ_mul]
theorem OwnS.set_run{P:Program}(h:OwnS w E go G FF v l)(hE:Ty P E α){Fr Fu:Nat->Prop}{u:Value}{x:α}(hu:RV w Fr u x)(hsub:∀(cs:List Value)(x:α),Rep.ok w Fr cs x->Rep.ok w Fu cs x)
  (hFu:∀k,k<w.heap.size->Fu k->FF k/\go≠some k){n:Nat}(hn:n<l.length):
  ∃g w',go=some g/\(∃c,v= .slice (some ⟨g,0,none⟩) l.length c)/\(storeVar E ((⟨g,0,none⟩:Addr).add (n*Rep.sz α)) u).run P w= .ok () w'/\OwnS w' E go G FF v (l.set n x)/\Chg (λk=>go=some k) w w':=by
 obtain⟨F,css,h1,h2,h3,h4,h5⟩:=h;obtain⟨cs,hok,rfl⟩:=hu;have hok:=hsub cs x hok;rcases h2.2 with⟨rfl,hz⟩|⟨g,cap,cur,rfl,hb,hg,hnc,hcm,hcs,htake⟩
 ·omega
 have hgo:go=some g:=by rw[<-h3];rfl
 have hcl:=Rep.len hok;have hvc:(Rep.val α cs).cells=cs.toArray:=by
  unfold Rep.val;cases hh:Rep.agg α with
  |true=>rfl
  | false=>
   rw[Rep.sgl hh]at hcl
   match cs,hcl with
   |[c],_=>
    have h1:=Rep.one hok c U;simp only[Zeg,Zen,List.headD_cons];cases c<;>simp_all[Value.cells,Value.oneCell']
 have hoff:n*Rep.sz α+Rep.sz α<=l.length*Rep.sz α:=by
  rw[<-Nat.succ_mul];exact Zfu _ hn
 have hcap:l.length*Rep.sz α<=cap*Rep.sz α:=Zfu _ hnc;have hrun:=run_storeCells_at (P:=P) g (n*Rep.sz α) E cs 0 cur w hg O (Rep.one hok);simp only[ZgC]at hrun;have haddr:(⟨g,0,none⟩:Addr).add (n*Rep.sz α)=⟨g,n*Rep.sz α,none⟩:=by simp_all[Addr.add]
 refine⟨g,w.setRow g (cur.toList.take (n*Rep.sz α)++cs++cur.toList.drop (n*Rep.sz α+cs.length)).toArray,hgo,⟨cap,rfl⟩,?_,?_,?_⟩
 ·rw[haddr];unfold storeVar;simp only[Sem.run_bind,hE.sizeOf,Result.andThen_ok,hvc,Zgb,hcl];simp_all
 ·have hch:∀k,k<w.heap.size->g≠k->(w.setRow g (cur.toList.take (n*Rep.sz α)++cs++cur.toList.drop (n*Rep.sz α+cs.length)).toArray).heap[k]? =w.heap[k]? :=λk _ hne=>setRow_other w g k _ (Ne.symm hne);have hlens:=h1.lens;have hnl:n<css.length:=by rw[h1.1];exact hn
  refine⟨λk=>F k\/(Fu k/\k<w.heap.size),css.set n cs,⟨by simp[h1.1],λi c y hc hy=>?_⟩,⟨?_,.inr ⟨g,cap,_,?_,hb,setRow_heap w g cur _ E _ hg,?_,hcm,?_,?_⟩⟩,h3,?_,?_⟩
  ·rw[ZfK]at hc hy;split at hc
   ·rename_i hin;subst hin;rw[Zei rfl]at hy;simp only[hn,Ze2,Option.some.injEq]at hc hy;subst hc;subst hy;exact Rep.keep hok λk hk hf=>⟨hch k hk λe=>(hFu k hk hf).2 (by rw[hgo,e]),.inr ⟨hf,hk⟩⟩
   ·rename_i hin;rw[Zem hin]at hy;exact Rep.keep (h1.2 i c y hc hy) λk hk hf=>⟨hch k hk λe=>(h4 g hgo).2 (e▸hf),.inl hf⟩
  ·have:∀c∈css.set n cs,c.length=Rep.sz α:=λc hc=>by
    rcases Zgx hc with hc|rfl
    ·exact hlens c hc
    ·exact hcl
   have key:∀(css:List (List Value)),(∀c∈css,c.length=Rep.sz α)->css.flatten.length=css.length*Rep.sz α:=by
    intro css
    induction css with
    |nil=>simp
    |cons c css ih=>
     intro hh;simp only[Zf3,Zeo,Ze3];rw[hh c ZeK,ih λc hc=>hh c (ZeB _ hc),Zgi];omega
   rw[key _ this];simp[h1.1]
  ·simp
  ·simpa using hnc
  ·simp only[Zgb,Zeo,Ze1,Zex,Zfc];rw[hcs,hcl];omega
  ·rw [ZfX]
   apply ZeU;intro k;rw[Gz hlens hcl hnl,<-htake];by_cases hk:k<l.length*Rep.sz α
   ·rw[ZeO,Zei hk];by_cases h6:n*Rep.sz α<=k/\k<n*Rep.sz α+Rep.sz α
    ·rw[Zei h6,ZeD aG,ZeE (by simp only[Ze1,Zfc];omega)];congr 1;simp only[Ze1,Zfc];omega
    ·rw[Zem h6,ZeO,Zei hk];by_cases h7:k<n*Rep.sz α
     ·rw[ZeD aG,ZeD (by simp only[Ze1,Zfc];omega),ZeO,Zei h7]
     ·rw[ZeE aG,Zfb];congr 1;simp only[Zeo,Ze1,Zfc,hcl];omega
   ·rw[ZeO,Zem hk,Zem O,ZeO,Zem hk]
  ·intro g' hg';rw[hgo]at hg';simp only[Option.some.injEq]at hg';subst hg';refine⟨(h4 g hgo).1,?_⟩;rintro(hf|⟨hf,hlt⟩)
   ·exact(h4 g hgo).2 hf
   ·exact(hFu g hlt hf).2 hgo
  ·rintro k (hf|⟨hf,hlt⟩)
   ·exact⟨(h5 k hf).1,by simpa using(h5 k hf).2⟩
   ·exact⟨(hFu k hlt hf).1,by simpa using hlt⟩
 ·refine⟨rfl,rfl,rfl,by simp,λk _ hn=>setRow_other w g k _ λe=>hn (by rw[hgo,e])⟩
def Pq{β:Type}[Flat β]{w:World}{F F':Nat->Prop}(cs:List Value)(x:β)(h:Rep.ok w F cs x):Rep.ok w F' cs x:=Flat.iff.2 (Flat.iff.1 h)
def Qd{β:Type}[Flat β]{w:World}{F:Nat->Prop}(l:List β):Css w F (l.map Flat.enc) l:=⟨by simp,λi cs x h1 h2=>by
 simp_all[ZeL,Ze0,Option.some.injEq,Flat.iff]⟩
def Gy{cells:List Value}{css:List (List Value)}{F:Nat->Prop}(hcss:Css w F css l)(hfl:css.flatten=cells)(hmax:l.length<=maxLen)(hG:G w.heap.size)(hF:∀k,k<w.heap.size->F k->FF k):
  OwnS (w.alloc (.cells cells.toArray E)) E (some w.heap.size) G FF (.slice (some ⟨w.heap.size,0,none⟩) l.length l.length) l:=by
 subst hfl;refine⟨λk=>F k/\k<w.heap.size,css,hcss.keep λk hk hf=>⟨Below.heap_alloc w _ k hk,hf,hk⟩,⟨hcss.flat_len,.inr ⟨w.heap.size,l.length,_,rfl,Zfi _,heap_alloc_new w _,Zes _,hmax,by simpa using hcss.flat_len,?_⟩⟩,rfl,?_,?_⟩
 ·rw[Zfa (by simpa using Nat.le_of_eq hcss.flat_len)]
 all_goals simp_all[Option.some.injEq,Zf2,Nat.lt_succ_of_lt]
end
section
variable{P:Program}{ops:Array Oper}{Q:Exit->Act->World->Prop}{a:Act}{w:World}{N:Nat}{σ:List (Nat×Value)}{k d:Nat}{t ty:TypeId}{x y:Operand}{pos:String}{af:Array Edge}
  {α:Type}[Rep α]{E:TypeId}{go:Option Nat}{G FF:Nat->Prop}{v u:Value}{l m:List α}
def ZaY{y':Operand}{t':TypeId}{Fr:Nat->Prop}(Fu:Nat->Prop)(ho:OwnS w E go G FF v l)(ht:P.underlying t=some (.slice E))(hE:ElT P E α)
  (hop:ops[k]? =some ⟨some d,.call ⟨.builtin .append,#[x,y'],#[t,t']⟩,ty,pos,af,none⟩)(htt:t'=t)(hd:Nat.blt d N=true)(hF:FrS N σ a)(hx:opd σ x=some v)(hy:opd σ y'=some u)(hu:RV w Fr u m)
  (hsub:∀(cs:List Value)(x:α),Rep.ok w Fr cs x->Rep.ok w Fu cs x)(hFu:∀k,k<w.heap.size->Fu k->FF k/\go≠some k)(hG:∀k,w.heap.size<=k->G k){r:List α}(hr:app? l m=some r)
  (h:∀go' a' c' w' fr,OwnS w' E go' G FF (.slice a' (List.length r) c') r->Chg (λk=>go=some k) w w'->(go'=go\/∃g,go'=some g/\w.heap.size<=g)->FrS N ((d,.slice a' (List.length r) c')::σ) fr->wpFrom P ops Q (k+1) fr w'):wpFrom P ops Q k a w:=by
 subst htt;unfold app? at hr;split at hr
 ·rename_i hroom;obtain⟨v',w',go',hrun,h1,h2,h3⟩:=ho.append_run (P:=P) (ty:=ty) ht hE hu hsub hFu hG hroom;obtain⟨a',c',rfl⟩:=h1.slice;refine Zu hF hop rfl rfl (Ze4.mp hd) (R:=λz w1=>z= .slice a' (List.length (l++m)) c'/\w1=w') (Zh (v:=.slice a' (List.length (l++m)) c') (w':=w') ?_ ⟨rfl,rfl⟩) λz w1 fr hz hF'=>?_
  ·simp[execOp,resolve,invoke,builtin,Zd hF hx,Zd hF hy,hrun]
  grind
 ·cases hr
def Zdz{y':Operand}{n:Int}{zc:α}(ht:P.underlying t=some (.slice E))(hE:ElT P E α)(hz:∀i,P.info? E=some i->∀z,i.zero=some z->Rep.ok w (λ_=>False) z.cells.toList zc)
  (hop:ops[k]? =some ⟨some d,.makeSlice t x y',ty,pos,af,none⟩)(hd:Nat.blt d N=true)(hF:FrS N σ a)(hx:opd σ x=some (.int .i64 n))(hy:opd σ y'=some (.int .i64 n)){r:List α}(hr:mk? n zc=some r)(hG:∀k,w.heap.size<=k->G k)
  (h:∀g a' c' w' fr,w.heap.size<=g->OwnS w' E (some g) G FF (.slice a' (List.length r) c') r->Chg Non w w'->FrS N ((d,.slice a' (List.length r) c')::σ) fr->wpFrom P ops Q (k+1) fr w'):wpFrom P ops Q k a w:=by
 unfold mk? at hr;split at hr
 ·rename_i hn;obtain⟨v',w',go',hrun,h1,h2,g,rfl,hg⟩:=ZbB (P:=P) (w:=w) (E:=E) (FF:=FF) ht hE hz hn (hG _ (Zes _));obtain⟨a',c',rfl⟩:=h1.slice;refine Zu hF hop rfl rfl (Ze4.mp hd) (R:=λz w1=>z= .slice a' (List.length (List.replicate n.toNat zc)) c'/\w1=w') (Zh (v:=.slice a' (List.length (List.replicate n.toNat zc)) c') (w':=w') ?_ ⟨rfl,rfl⟩) λz w1 fr hz hF'=>?_
  ·simp[execOp,Zd hF hx,Zd hF hy,hrun]
  grind
 ·cases hr
theorem ZdQ{n:Nat}{parts:Array (Nat×Operand)}(cells:List Value)(css:List (List Value)){F:Nat->Prop}(l:List α)(hop:ops[k]? =some ⟨some d,.buildSlice t n parts,ty,pos,af,none⟩)(hd:Nat.blt d N=true)(hF:FrS N σ a)
  (vals:List Value)(hv:parts.toList.map (λp=>opd σ p.2)=vals.map some)
  (hrun:∀w,(Instr.buildSlice t n ((parts.toList.map (·.1)).zip vals).toArray).run P w= .ok (.slice (some ⟨w.heap.size,0,none⟩) n n) (w.alloc (.cells cells.toArray E)))
  (hcss:Css w F css l)(hfl:css.flatten=cells)(hln:l.length=n)(hmax:Nat.ble l.length room=true)(hG:∀k,w.heap.size<=k->G k)(hFF:∀k,k<w.heap.size->F k->FF k)
  (h:∀g a' c' w' fr,w.heap.size<=g->OwnS w' E (some g) G FF (.slice a' (List.length l) c') l->Chg Non w w'->FrS N ((d,.slice a' (List.length l) c')::σ) fr->wpFrom P ops Q (k+1) fr w'):wpFrom P ops Q k a w:=by
 have hmax':l.length<=maxLen:=by
  have:=ZfG hmax;grind[room,maxLen]
 have hown:=Gy (w:=w) (E:=E) (G:=G) (FF:=FF) hcss hfl hmax' (hG _ (Zes _)) hFF;refine Zu hF hop rfl rfl (Ze4.mp hd) (R:=λz w1=>z= .slice (some ⟨w.heap.size,0,none⟩) l.length l.length/\w1=w.alloc (.cells cells.toArray E)) (Zh ?_ ⟨rfl,rfl⟩) λz w1 fr hz hF'=>?_
 ·have e:(parts.map λp=>(p.1,a.eval p.2))=((parts.toList.map (·.1)).zip vals).toArray:=by
   have key:∀(ps:List (Nat×Operand))(vs:List Value),ps.map (λp=>opd σ p.2)=vs.map some->ps.map (λp=>(p.1,a.eval p.2))=(ps.map (·.1)).zip vs:=by
    intro ps
    induction ps with
    |nil=>simp
    | cons p ps ih=>intro vs h;cases vs with
     |nil=>simp at h
     |cons v vs=>
      grind[List.cons.injEq,List.zip_cons_cons,Zd]
   grind
  simp_all[execOp]
 ·obtain⟨rfl,rfl⟩:=hz;exact h _ _ _ _ fr (Zes _) hown (Chg.alloc _ _) hF'
theorem Zaa{t' ty':TypeId}{i z:Operand}{pos':String}{af':Array Edge}{kd:IntKind}{n:Int}{q:α}{Fr:Nat->Prop}(Fu:Nat->Prop)(ho:OwnS w E go G FF v l)(ht:P.underlying t=some (.slice E))(hE:Ty P E α)
  (hop:ops[k]? =some ⟨some d,.indexAddr t x i,ty,pos,af,none⟩)(hop':ops[k+1]? =some ⟨none,.store t' (.tmp d) z,ty',pos',af',none⟩)(hte:t'=E)(hd:Nat.blt d N=true)(hF:FrS N σ a)
  (hx:opd σ x=some v)(hi:opd σ i=some (.int kd n))(hz:z≠ .tmp d)(hzu:opd σ z=some u)(hu:RV w Fr u q)(hsub:∀(cs:List Value)(x:α),Rep.ok w Fr cs x->Rep.ok w Fu cs x)(hFu:∀k,k<w.heap.size->Fu k->FF k/\go≠some k)
  {r:List α}(hr:set? l n q=some r)
  (h:∀a' c' w' fr,OwnS w' E go G FF (.slice a' (List.length r) c') r->v= .slice a' (List.length r) c'->Chg (λk=>go=some k) w w'->(∃p,FrS N ((d,p)::σ) fr)->wpFrom P ops Q (k+2) fr w'):wpFrom P ops Q k a w:=by
 unfold set? at hr;split at hr
 ·rename_i hn;obtain⟨g,w',hgo,⟨c,rfl⟩,hrun,h1,h2⟩:=ho.set_run (P:=P) hE hu hsub hFu hn.2;refine Zu hF hop rfl rfl (Ze4.mp hd) (R:=λp w1=>p= .pointer (some ((⟨g,0,none⟩:Addr).add (n.toNat*Rep.sz α)))/\w1=w) (Zh ?_ ⟨rfl,rfl⟩) λp w1 fr hp hF1=>?_
  ·have hb:0<=n/\n<(l.length:Int):=⟨hn.1,by omega⟩;simp[execOp,Instr.indexAt,Zd hF hx,Zd hF hi,asIntOf,run_underlying ht,hb,hE.sizeOf]
  ·obtain⟨rfl,rfl⟩:=hp;have hz':fr.eval z=u:=by
    cases z with
    | tmp s=>
     have hne:(s==d)=false:=by
      simp_all
     refine hF1.get s u ?_;rw[ZeG,hne];exact hzu
    |const c=>simp_all[opd,Act.eval]
    |global c=>simp_all[opd,Act.eval]
    |func c=>simp_all[opd,Act.eval]
   refine Qj hF1 hop' rfl rfl (R:=λ_ w2=>w2=w') (SK ?_ rfl) λw2 hw2 hF2=>?_
   ·have hd1:=hF1.get d (.pointer (some ((⟨g,0,none⟩:Addr).add (n.toNat*Rep.sz α)))) U;simp_all[execOp,Instr.storeAt,Instr.sureAddr]
   grind
 ·cases hr
end
def Aw{α:Type}[Flat α]{w:World}{F:Nat->Prop}{P:Program}{E:TypeId}(x:α)(h:(P.info? E).map (λi=>i.zero.map λz=>z.cells.toList)=some (some (Flat.enc x))):∀i,P.info? E=some i->∀z,i.zero=some z->Rep.ok w F z.cells.toList x:=by
 grind[Option.some.injEq,Flat.iff]
def elT{P:Program}{E:TypeId}{α:Type}[Rep α](h:(P.info? E).map (λi=>(i.zero.map (·.cells.size),i.size,decide (i.bytes<=32768)))=some (some (Rep.sz α),Rep.sz α,true)):ElT P E α:=h
def Bh{P:Program}{a b z:Int}{kd:IntKind}(h:shl? a b=some z)(t:TypeId)(w:World):(binOp .shl t (.int .i64 a) (.int kd b)).run P w= .ok (.int .i64 z) w:=by
 unfold shl? at h;split at h
 ·cases h
 ·rename_i hb;simp only[Option.some.injEq]at h;subst h;simp[binOp,Op.shift,hb,IntKind.bits]
def Zcw{P:Program}{a b z:Int}{kd:IntKind}(h:shr? a b=some z)(t:TypeId)(w:World):(binOp .shr t (.int .i64 a) (.int kd b)).run P w= .ok (.int .i64 z) w:=by
 unfold shr? at h;split at h
 ·cases h
 ·rename_i hb;simp only[Option.some.injEq]at h;subst h;simp[binOp,Op.shift,hb,IntKind.bits]
def ZcD{P:Program}{a b z:Int}(h:quo? a b=some z)(t:TypeId)(w:World):(binOp .quo t (.int .i64 a) (.int .i64 b)).run P w= .ok (.int .i64 z) w:=by
 simp_all[quo?,Option.some.injEq,binOp,Op.intDiv]
def ZcM{P:Program}{a b z:Int}(h:rem? a b=some z)(t:TypeId)(w:World):(binOp .rem t (.int .i64 a) (.int .i64 b)).run P w= .ok (.int .i64 z) w:=by
 simp_all[rem?,Option.some.injEq,binOp,Op.intDiv]
def Ev{P:Program}{o:Oper}{a:Act}{w:World}{op:BinOp}{t yt:TypeId}{x y:Operand}(ho:o.op= .binOp op t x y yt){vx vy u:Value}(hx:a.eval x=vx)(hy:a.eval y=vy)
  (hg:(eqGuard op t x y vx vy).run P w= .ok () w)(hr:(binOp op t vx vy).run P w= .ok u w):Does P o a w λv w'=>v=u/\w'=w:=by
 refine Zh (v:=u) (w':=w) ?_ ⟨rfl,rfl⟩;simp_all[guard,execOp]
section
variable{P:Program}{ops:Array Oper}{Q:Exit->Act->World->Prop}{a:Act}{w:World}{N:Nat}{σ:List (Nat×Value)}{k d:Nat}{t yt ty:TypeId}{x y:Operand}{pos:String}{af:Array Edge}{m n z:Int}{kd:IntKind}
def MU{op:BinOp}{vx vy u:Value}(ho:ops[k]? =some ⟨some d,.binOp op t x y yt,ty,pos,af,none⟩)(hd:Nat.blt d N=true)(hF:FrS N σ a)(hx:opd σ x=some vx)(hy:opd σ y=some vy)
  (hg:(eqGuard op t x y vx vy).run P w= .ok () w)(hr:(binOp op t vx vy).run P w= .ok u w)(h:∀fr,FrS N ((d,u)::σ) fr->wpFrom P ops Q (k+1) fr w):wpFrom P ops Q k a w:=
 Zu hF ho rfl rfl (Ze4.mp hd) (Ev rfl (Zd hF hx) (Zd hF hy) hg hr) λ_ _ fr⟨hv,hw⟩hF'=>by simp_all
def ZdO(ho:ops[k]? =some ⟨some d,.binOp .shl t x y yt,ty,pos,af,none⟩)(hd:Nat.blt d N=true)(hF:FrS N σ a)(hx:opd σ x=some (.int .i64 m))(hy:opd σ y=some (.int kd n))(hz:shl? m n=some z)
  (h:∀fr,FrS N ((d,.int .i64 z)::σ) fr->wpFrom P ops Q (k+1) fr w):wpFrom P ops Q k a w:=MU ho hd hF hx hy ar (Bh hz _ _) h
def ZdL(ho:ops[k]? =some ⟨some d,.binOp .shr t x y yt,ty,pos,af,none⟩)(hd:Nat.blt d N=true)(hF:FrS N σ a)(hx:opd σ x=some (.int .i64 m))(hy:opd σ y=some (.int kd n))(hz:shr? m n=some z)
  (h:∀fr,FrS N ((d,.int .i64 z)::σ) fr->wpFrom P ops Q (k+1) fr w):wpFrom P ops Q k a w:=MU ho hd hF hx hy ar (Zcw hz _ _) h
def Zea(ho:ops[k]? =some ⟨some d,.binOp .quo t x y yt,ty,pos,af,none⟩)(hd:Nat.blt d N=true)(hF:FrS N σ a)(hx:opd σ x=some (.int .i64 m))(hy:opd σ y=some (.int .i64 n))(hz:quo? m n=some z)
  (h:∀fr,FrS N ((d,.int .i64 z)::σ) fr->wpFrom P ops Q (k+1) fr w):wpFrom P ops Q k a w:=MU ho hd hF hx hy ar (ZcD hz _ _) h
def ZdM(ho:ops[k]? =some ⟨some d,.binOp .rem t x y yt,ty,pos,af,none⟩)(hd:Nat.blt d N=true)(hF:FrS N σ a)(hx:opd σ x=some (.int .i64 m))(hy:opd σ y=some (.int .i64 n))(hz:rem? m n=some z)
  (h:∀fr,FrS N ((d,.int .i64 z)::σ) fr->wpFrom P ops Q (k+1) fr w):wpFrom P ops Q k a w:=MU ho hd hF hx hy ar (ZcM hz _ _) h
def Ir{α:Type}[Rep α]{w:World}{F:Nat->Prop}{ad:Addr}{l:List α}(h:elems w F ad 0 l)(lo hi:Nat):elems w F (ad.add (lo*Rep.sz α)) 0 ((l.take hi).drop lo):=by
 refine Qg λi x hx=>?_;rw[Zfb,ZeO]at hx;split at hx
 ·obtain⟨cs,h1,h2⟩:=Tk h hx;refine⟨cs,h1,?_⟩;simp_all[add_add,Rep.sz,ZfV,Zgi]
 ·cases hx
theorem DR{α:Type}[Rep α]{o:Oper}{E:TypeId}(he:Ty P E α)(ht:P.underlying t=some (.slice E)){lo hi:Option Operand}(ho:o.op= .slice t x lo hi none){v:Value}{F:Nat->Prop}{l:List α}(hx:a.eval x=v)(hl:RV w F v l)
  {m n:Int}(hlo:match lo with|none=>m=0|some y=>∃k,a.eval y= .int k m)(hhi:match hi with|none=>n=(l.length:Int)|some y=>∃k,a.eval y= .int k n){r:List α}(hr:cut? l m n=some r):Does P o a w λv' w'=>RV w F v' r/\w'=w:=by
 unfold cut? at hr;split at hr
 ·rename_i hb;obtain⟨h0,h1,h2⟩:=hb;simp only[Option.some.injEq]at hr;obtain⟨b,cap,rfl,hc1,hc2,hc3⟩:=hl.slice;have hlen:r.length=n.toNat-m.toNat:=by
   grind
  refine Zh (v:=.slice (if cap=m.toNat then b else b.map (·.add (m.toNat*Rep.sz α))) (n.toNat-m.toNat) (cap-m.toNat)) (w':=w) ?_ ⟨?_,rfl⟩
  ·obtain⟨dst,op,type,pos,after,guard⟩:=o;simp only at ho;subst ho;have hn2:n<=(cap:Int):=by omega
   cases lo with
   | none=>
    simp only at hlo;subst hlo;cases hi with
    |none=>
     simp only at hhi;subst hhi;simp[execOp,Instr.sliceAt,Instr.slice,Instr.sliceBounds,hx,run_underlying ht,he.sizeOf]
    |some y=>
     obtain⟨kk,hy⟩:=hhi;simp[execOp,Instr.sliceAt,Instr.slice,Instr.sliceBounds,Instr.sliceBound,asIntOf,hx,hy,run_underlying ht,he.sizeOf,h1,hn2]
   | some z=>
    obtain⟨kz,hz⟩:=hlo;cases hi with
    |none=>
     simp only at hhi;subst hhi;simp[execOp,Instr.sliceAt,Instr.slice,Instr.sliceBounds,Instr.sliceBound,asIntOf,hx,hz,run_underlying ht,he.sizeOf,h0,h1]
    |some y=>
     obtain⟨kk,hy⟩:=hhi;have hn0:0<=n:=by omega
     have hmn':m<=max n 0:=by omega
     simp[execOp,Instr.sliceAt,Instr.slice,Instr.sliceBounds,Instr.sliceBound,asIntOf,hx,hy,hz,run_underlying ht,he.sizeOf,h0,hn0,hn2,hmn']
  ·rw[<-hlen];refine RV.mk_slice O O λhne=>?_;have hlne:l≠[]:=by
    rintro rfl;apply hne;rw[<-hr];simp
   obtain⟨ad,rfl,hF,hel⟩:=hc3 hlne;have hpos:0<r.length:=by
    cases hr0:r with
    |nil=>exact absurd hr0 hne
    |cons=>simp
   rw[Zem O];refine⟨ad.add (m.toNat*Rep.sz α),rfl,by rw[add_block];exact hF,?_⟩;rw[<-hr];exact Ir hel _ _
 ·cases hr
def Zdb{α:Type}[Rep α]{E:TypeId}{lo hi:Option Operand}{v:Value}{F:Nat->Prop}{l r:List α}(he:Ty P E α)(ht:P.underlying t=some (.slice E))(ho:ops[k]? =some ⟨some d,.slice t x lo hi none,ty,pos,af,none⟩)(hd:Nat.blt d N=true)(hF:FrS N σ a)
  (hx:opd σ x=some v)(hl:RV w F v l)(hlo:match lo with|none=>m=0|some y=>∃k,opd σ y=some (.int k m))(hhi:match hi with|none=>n=(l.length:Int)|some y=>∃k,opd σ y=some (.int k n))(hr:cut? l m n=some r)
  (h:∀u fr,RV w F u r->FrS N ((d,u)::σ) fr->wpFrom P ops Q (k+1) fr w):wpFrom P ops Q k a w:=
 Zu hF ho rfl rfl (Ze4.mp hd) (DR he ht rfl (Zd hF hx) hl (by
  grind[Zd]) (by
  grind[Zd]) hr) λu w' fr⟨h1,h2⟩hF'=>by grind
end
section
variable{P:Program}{draw:Bool}{ms:List Nat}{ops:Array Oper}{a0:Act}{w0:World}{Q:Exit->Act->World->Prop}{pds:List Pd}{σ:List (Nat×Value)}{N j:Nat}{dst:Option Tmp}{g:Option (Nat×Bool)}
  {t yt ty:TypeId}{x y:Operand}{pos:String}{af:Array Edge}{m n z:Int}{kd:IntKind}
def Zb0{op:BinOp}{vx vy u:Value}(hG:Good ops pds [])(hF:FrS N σ a0)(ho:ops[j]? =some ⟨dst,.binOp op t x y yt,ty,pos,af,g⟩)(hx:envP ops σ pds j x=some vx)(hy:envP ops σ pds j y=some vy)
  (hg:∀w,(eqGuard op t x y vx vy).run P w= .ok () w)(hr:gc ops pds ops.size j->∀w,(binOp op t vx vy).run P w= .ok u w)(hpd:pds.getD j .any= .eq u):NPB P draw ms ops pds a0 w0 Q j:=
 RU _ ho hG hF λ_ w _ hgc hv _=>(Ev rfl (hv x _ ai hx) (hv y _ ai hy) (hg w) (hr hgc w)).mono λv w'⟨h1,h2⟩=>by
  subst h1;subst h2;rw[hpd];exact⟨rfl,Chg.refl _ _⟩
def ZdD(hG:Good ops pds [])(hF:FrS N σ a0)(ho:ops[j]? =some ⟨dst,.binOp .shl t x y yt,ty,pos,af,g⟩)(hx:envP ops σ pds j x=some (.int .i64 m))(hy:envP ops σ pds j y=some (.int kd n))
  (hz:gc ops pds ops.size j->shl? m n=some z)(hpd:pds.getD j .any= .eq (.int .i64 z)):NPB P draw ms ops pds a0 w0 Q j:=Zb0 hG hF ho hx hy (λw=>by rfl) (λh w=>Bh (hz h) _ w) hpd
end
def argSpec(ops:Array Oper)(σ:List (Nat×Value))(pds:List Pd)(j:Nat)(x:Operand):Option (Value⊕Nat):=
 match envP ops σ pds j x with
 |some u=>some (.inl u)
 | none=>match x with
  |.tmp t=>match lastW ops t j with
   |some i=>if okG ops ops.size j i then some (.inr i)else none
   |none=>none
  |_=>none
def SpecP(pds:List Pd)(w:World):List (Value⊕Nat)->List Value->Prop
 |[],vs=>vs=[]
 |.inl u::r,vs=>∃rest,vs=u::rest/\SpecP pds w r rest
 |.inr i::r,vs=>∃v rest,vs=v::rest/\(pds.getD i .any).sat v w/\SpecP pds w r rest
section
variable{P:Program}{draw:Bool}{ms:List Nat}{ops:Array Oper}{a0:Act}{w0:World}{Q:Exit->Act->World->Prop}{pds:List Pd}{σ:List (Nat×Value)}{N:Nat}
variable{j d:Nat}{dst:Option Tmp}{g:Option (Nat×Bool)}{t ty:TypeId}{x y:Operand}{pos:String}{af:Array Edge}
theorem JQ{xs:List Operand}{spec:List (Value⊕Nat)}{o:Oper}{a:Act}{w:World}(hG:Good ops pds [])(hj:Nat.blt j ops.size=true)(hg:gc ops pds ops.size j)(hs:∀x∈xs,x∈o.op.operands)
  (hv:∀x v,x∈o.op.operands->envP ops σ pds j x=some v->a.eval x=v)(hk:∀t,Operand.tmp t∈o.op.operands->Know ops (TT ops pds) a0 j t (a.eval (.tmp t)) w)
  (h:xs.map (argSpec ops σ pds j)=spec.map some):SpecP pds w spec (xs.map a.eval):=by
 induction xs generalizing spec with
 |nil=>cases spec with
  |nil=>rfl
  |cons=>simp at h
 | cons x xs ih=>cases spec with
  |nil=>simp at h
  | cons s r=>
   simp only[ZeQ,List.cons.injEq]at h;have hr:=ih (λy hy=>hs y (ZeB _ hy)) h.2;have hx:=h.1;unfold argSpec at hx;cases hu:envP ops σ pds j x with
   |some u=>
    rw[hu]at hx;simp only[Option.some.injEq]at hx;subst hx;exact⟨_,by simp_all,hr⟩
   | none=>
    rw[hu]at hx;simp only at hx;split at hx
    ·rename_i t;split at hx
     ·rename_i i hl;split at hx
      ·rename_i hok;simp only[Option.some.injEq]at hx;subst hx;exact⟨_,_,rfl,Qy hG hj hl hok hg (hk t (hs _ ZeK)),hr⟩
      ·cases hx
     ·cases hx
    ·cases hx
def ZbF{f:FuncId}{xs:Array Operand}{ts:Array TypeId}(spec:List (Value⊕Nat))(hG:Good ops pds [])(hF:FrS N σ a0)(hf:∀(args:Array Value)(w:World),(callFunc f args).run P w= .ok (.enter f args) w)
  (ho:ops[j]? =some ⟨dst,.call ⟨.value (.func f),xs,ts⟩,ty,pos,af,g⟩)(hj:Nat.blt j ops.size=true)(hargs:xs.toList.map (argSpec ops σ pds j)=spec.map some)
  (hc:∀w vs,Chg Non w0 w->gc ops pds ops.size j->SpecP pds w spec vs->Calls P f vs.toArray w λe w'=>∃v,e= .returned v/\Chg Non w w'/\(pds.getD j .any).sat v w'):NPB P draw ms ops pds a0 w0 Q j:=
 RU _ ho hG hF λa w hC hg hv hk=>by
  have h1:=JQ (o:=⟨dst,.call ⟨.value (.func f),xs,ts⟩,ty,pos,af,g⟩) (xs:=xs.toList) hG hj hg (λx hx=>by simp_all[Op.operands,Call.operands]) hv hk hargs;exact PZ (args:=(xs.toList.map a.eval).toArray) rfl hf an ((hc w _ hC hg h1).mono λe w'⟨v,he,h2,h3⟩=>⟨v,he,h3,h2⟩)
end
open Go.RowKit Go.Maps
structure MapT(P:Program)(k e:TypeId)(κ β:Type)[Flat κ][Flat β]where
 R:Value->Option (DataW Value×List MemPlace):=plainElem P e
 fit:κ->Bool
 lit:κ->Lit
 dv:β->DataW Value
 zero:β
 keyed:Keyed P k
 key:∀x,fit x=true->keyOf P k (Rep.val κ (Flat.enc x))=some (lit x)
 inj:∀x y,fit x=true->fit y=true->lit x=lit y->x=y
 efit:β->Bool
 zfit:efit zero=true
 elem:∀y,efit y=true->R (Rep.val β (Flat.enc y))=some (dv y,[])
 back:∀v y ps,R v=some (dv y,ps)->v=Rep.val β (Flat.enc y)
 hz:∀w,(zeroValue e).run P w= .ok (Rep.val β (Flat.enc zero)) w
section
variable{P:Program}{k e t:TypeId}{κ β:Type}[Flat κ][Flat β](T:MapT P k e κ β){w:World}{b:Nat}{m:List (κ×β)}
def MapT.D:List (κ×β)->DataW Value
 |[]=>.map []
 |(x,y)::m=>(MapT.D m).put (T.lit x) (T.dv y)
def OwnM(w:World)(b:Nat)(m:List (κ×β)):Prop:=w.ownsMap P k T.R b m.length (T.D m)/\∀p∈m,T.fit p.1=true
theorem MapT.isMap:∀m:List (κ×β),IsMap (T.D m)
 |[]=>⟨_,rfl⟩
 |(x,y)::m=>by
  obtain⟨es,h⟩:=MapT.isMap m;exact⟨_,by rw[MapT.D,h];rfl⟩
theorem MapT.at_[DecidableEq κ]{x:κ}(hx:T.fit x=true)(z:DataW Value):∀m:List (κ×β),(∀p∈m,T.fit p.1=true)->(T.D m).atKey (T.lit x) z=match m.lookup x with|some y=>T.dv y|none=>z
 |[],_=>rfl
 | (u,y)::m,h=>by
  have ih:=MapT.at_ hx z m λp hp=>h p (ZeB _ hp);have hu:=h (u,y) ZeK;by_cases hxu:x=u
  ·subst hxu;rw[MapT.D,atKey_put_same (T.isMap m) (T.keyed.key (T.key x hx))];simp
  ·have hl:T.lit x≠T.lit u:=λhh=>hxu (T.inj _ _ hx hu hh);grind[MapT.D,atKey_put_other,List.lookup]
def mget[DecidableEq κ](z:β)(m:List (κ×β))(x:κ):β:=(m.lookup x).getD z
theorem OwnM.made:OwnM T (w.alloc (.map #[] 0)) w.heap.size ([]:List (κ×β)):=⟨World.ownsMap_made w P k _,by simp⟩
theorem OwnM.look[DecidableEq κ](h:OwnM T w b m)(ht:P.underlying t=some (.map k e)){x:κ}(hx:T.fit x=true):
  (Instr.lookup t (.map (some b)) (Rep.val κ (Flat.enc x)) false).run P w= .ok (Rep.val β (Flat.enc (mget T.zero m x))) w:=by
 obtain⟨v,ps,hrun,hv⟩:=h.1.lookup T.keyed ht (T.hz w) (T.elem T.zero T.zfit) (T.key x hx);rw[T.at_ hx _ m h.2]at hv;have hd:T.R v=some (T.dv (mget T.zero m x),ps):=by
  grind[mget]
 rw[hrun,T.back v _ ps hd]
theorem MapT.has_[DecidableEq κ]{x:κ}(hx:T.fit x=true):∀m:List (κ×β),(∀p∈m,T.fit p.1=true)->Maps.has (T.D m) (T.lit x)=(m.lookup x).isSome
 |[],_=>rfl
 | (u,y)::m,h=>by
  have ih:=MapT.has_ hx m λp hp=>h p (ZeB _ hp);have hu:=h (u,y) ZeK;by_cases hxu:x=u
  ·subst hxu;rw[MapT.D,has_put_same (T.isMap m) (T.keyed.key (T.key x hx))];simp
  ·have hl:T.lit x≠T.lit u:=λhh=>hxu (T.inj _ _ hx hu hh);grind[MapT.D,has_put_other,List.lookup]
theorem OwnM.look2[DecidableEq κ](h:OwnM T w b m)(ht:P.underlying t=some (.map k e)){x:κ}(hx:T.fit x=true):
  (Instr.lookup t (.map (some b)) (Rep.val κ (Flat.enc x)) true).run P w= .ok (.tuple #[Rep.val β (Flat.enc (mget T.zero m x)),.bool (m.lookup x).isSome]) w:=by
 obtain⟨v,ps,hrun,hv⟩:=h.1.look_ok T.keyed ht (T.hz w) (T.elem T.zero T.zfit) (T.key x hx);rw[T.at_ hx _ m h.2]at hv;have hd:T.R v=some (T.dv (mget T.zero m x),ps):=by
  grind[mget]
 rw[hrun,T.back v _ ps hd,T.has_ hx m h.2]
theorem OwnM.put(h:OwnM T w b m)(ht:P.underlying t=some (.map k e)){x:κ}(hx:T.fit x=true)(y:β)(he:T.efit y=true)(hm:m.length<maxLen):
  ∃w',(Instr.mapUpdate t (.map (some b)) (Rep.val κ (Flat.enc x)) (Rep.val β (Flat.enc y))).run P w= .ok () w'/\OwnM T w' b ((x,y)::m)/\w.grownBy w' (some b):=by
 obtain⟨w',hrun,h1,h2⟩:=h.1.update T.keyed ht hm (T.key x hx) (T.elem y he)
 exact⟨w',hrun,⟨h1,λp hp=>by
  rcases ZeR.1 hp with rfl|hp
  ·exact hx
  ·exact h.2 p hp⟩,h2⟩
theorem OwnM.lt(h:OwnM T w b m):b<w.heap.size:=h.1.lt
theorem OwnM.chg{S:Nat->Prop}{w':World}(h:OwnM T w b m)(hc:Chg S w w')(hs:¬S b):OwnM T w' b m:=by
 obtain⟨⟨es,clock,hb,F,hn,hD⟩,h2⟩:=h;exact⟨⟨es,clock,(hc.block b (Zey.1 hb).1 hs).trans hb,F,hn,hD⟩,h2⟩
theorem Chg.of_grown{w w':World}{b:Nat}(h:w.grownBy w' (some b)):Chg (λk=>k=b) w w':=
 ⟨h.os,h.tape,h.output,h.size,λk hk hs=>h.block k hk λe=>hs (by simpa using e)⟩
variable{a:Act}{ops:Array Oper}{Q:Exit->Act->World->Prop}{σ:List (Nat×Value)}{N j d:Nat}{x y z:Operand}{ty:TypeId}{pos:String}{af:Array Edge}
theorem Gp{o:Oper}(ho:o.op= .makeMap t none)(hm:(Instr.makeMap t none).run P w= .ok (.map (some w.heap.size)) (w.alloc (.map #[] 0))):Does P o a w λv w'=>v= .map (some w.heap.size)/\w'=w.alloc (.map #[] 0):=by
 refine Zh (v:=.map (some w.heap.size)) (w':=w.alloc (.map #[] 0)) ?_ ⟨rfl,rfl⟩;simp_all[guard,execOp]
theorem MW[DecidableEq κ]{o:Oper}(ho:o.op= .lookup t x y false)(h:OwnM T w b m)(ht:P.underlying t=some (.map k e)){u:κ}(hu:T.fit u=true)(hx:a.eval x= .map (some b))(hy:a.eval y=Rep.val κ (Flat.enc u)):
  Does P o a w λv w'=>v=Rep.val β (Flat.enc (mget T.zero m u))/\w'=w:=by
 refine Zh (v:=Rep.val β (Flat.enc (mget T.zero m u))) (w':=w) ?_ ⟨rfl,rfl⟩;obtain⟨dst,op,type,pos,after,guard⟩:=o;subst ho;simp[execOp,hx,hy,h.look T ht hu]
theorem Gc[DecidableEq κ]{o:Oper}(ho:o.op= .lookup t x y true)(h:OwnM T w b m)(ht:P.underlying t=some (.map k e)){u:κ}(hu:T.fit u=true)(hx:a.eval x= .map (some b))(hy:a.eval y=Rep.val κ (Flat.enc u)):
  Does P o a w λv w'=>v= .tuple #[Rep.val β (Flat.enc (mget T.zero m u)),.bool (m.lookup u).isSome]/\w'=w:=by
 refine Zh (v:=.tuple #[Rep.val β (Flat.enc (mget T.zero m u)),.bool (m.lookup u).isSome]) (w':=w) ?_ ⟨rfl,rfl⟩;obtain⟨dst,op,type,pos,after,guard⟩:=o;subst ho;simp[execOp,hx,hy,h.look2 T ht hu]
theorem FI{o:Oper}(ho:o.op= .mapUpdate t x y z)(h:OwnM T w b m)(ht:P.underlying t=some (.map k e)){u:κ}(hu:T.fit u=true)(q:β)(he:T.efit q=true)(hm:m.length<maxLen)(hx:a.eval x= .map (some b))(hy:a.eval y=Rep.val κ (Flat.enc u))(hz:a.eval z=Rep.val β (Flat.enc q)):
  Does P o a w λ_ w'=>OwnM T w' b ((u,q)::m)/\Chg (λk=>k=b) w w':=by
 obtain⟨w',hrun,h1,h2⟩:=h.put T ht hu q he hm;simp_all[SK,Chg.of_grown,guard,execOp]
end
structure HP where
 ok:World->(Nat->Prop)->Prop
 mono:∀{w:World}{A A':Nat->Prop},ok w A->(∀k,k<w.heap.size->A k->A' k)->ok w A'
 keep:∀{w w':World}{A T:Nat->Prop},ok w A->Chg T w w'->(∀k,A k->¬T k)->ok w' A
 box:Option (Nat×List Value):=none
 isb:∀{w:World}{A:Nat->Prop}{p:Nat×List Value},box=some p->ok w A->∃t,Box w p.1 t p.2:=by intro _ _ _ h;cases h
def SL{α:Type}[Rep α](E:TypeId)(v:Value)(l:List α):HP where
 ok w A:=(∃go,OwnS w E go A Non v l)\/(l=[]/\∃a,v= .slice a 0 0)
 mono:=λh hA=>h.elim (λ⟨go,h⟩=>.inl ⟨go,h.regard hA⟩) .inr
 keep:=λh hc hT=>h.elim (λ⟨go,h⟩=>.inl ⟨go,h.chg hc (λk _ hk=>hT k hk) (λ_ h=>h.elim)⟩) .inr
def BX(b:Nat)(t:TypeId)(cs:List Value):HP where
 ok w A:=Box w b t cs/\A b
 mono:=λh hA=>⟨h.1,hA b h.1.lt h.2⟩
 keep:=λh hc hT=>⟨h.1.chg hc (hT b h.2),h.2⟩
 box:=some (b,cs)
 isb:=λh hok=>by grind
def MP{P:Program}{k e:TypeId}{κ β:Type}[Flat κ][Flat β][DecidableEq κ](T:MapT P k e κ β)(b:Nat)(m:List (κ×β)):HP where
 ok w A:=OwnM T w b m/\A b
 mono:=λh hA=>⟨h.1,hA b h.1.lt h.2⟩
 keep:=λh hc hT=>⟨h.1.chg T hc (hT b h.2),h.2⟩
def Sep(L:List HP)(w:World)(S:Nat->Prop):Prop:=
 ∃f:Nat->Nat->Prop,(∀i P,L[i]? =some P->P.ok w (f i)/\∀k,f i k->S k)/\∀i j k,i≠j->f i k->f j k->False
structure Stp(w:World)(S:Nat->Prop)(w':World)(S':Nat->Prop):Prop where
 chg:Chg S w w'
 sub:∀k,S' k->S k\/w.heap.size<=k
 bd:∀k,S' k->k<w'.heap.size
structure Mem(w0:World)(S0 F0:Nat->Prop)(w:World)(S F:Nat->Prop):Prop where
 chg:Chg S0 w0 w
 sub:∀k,S k->S0 k\/w0.heap.size<=k
 bd:∀k,S k->k<w.heap.size
 bdF:∀k,F k->k<w.heap.size
 dj:∀k,S k->F k->False
 dj0:∀k,S0 k->F0 k->False
 fz:∀k,F0 k->F k
 fsub:∀k,F k->F0 k\/S0 k\/w0.heap.size<=k
section
variable{w0 w w' w1:World}{S0 F0 S F S' F' S1 F1:Nat->Prop}{L L' L1 L2:List HP}
def Mem.start(hb:∀k,S k->k<w.heap.size)(hf:∀k,F k->k<w.heap.size)(hd:∀k,S k->F k->False):Mem w S F w S F:=
 ⟨Chg.refl _ _,λ_ h=>.inl h,hb,hf,hd,hd,λ_ h=>h,λ_ h=>.inl h⟩
def Mem.stp(h:Mem w0 S0 F0 w S F)(hp:Stp w S w' S'):Mem w0 S0 F0 w' S' F:=
  ⟨h.chg.trans' hp.chg h.sub,λk hk=>(hp.sub k hk).elim (h.sub k) λhl=>.inr (Zfh h.chg.size hl),hp.bd,λk hk=>Zeu (h.bdF k hk) hp.chg.size,λk hk hf=>(hp.sub k hk).elim (λhs=>h.dj k hs hf) λhl=>Zf2 _ (Zeu (h.bdF k hf) hl),h.dj0,h.fz,h.fsub⟩
def Mem.ext(h:Mem w0 S0 F0 w S F)(hc:Chg Non w w'):Mem w0 S0 F0 w' S F:=
 ⟨h.chg.trans hc.of,h.sub,λk hk=>Zeu (h.bd k hk) hc.size,λk hk=>Zeu (h.bdF k hk) hc.size,h.dj,h.dj0,h.fz,h.fsub⟩
def Mem.trans(h:Mem w0 S0 F0 w1 S1 F1)(k:Mem w1 S1 F1 w S F):Mem w0 S0 F0 w S F:=
 ⟨h.chg.trans' k.chg h.sub,λx hx=>(k.sub x hx).elim (h.sub x) λhl=>.inr (Zfh h.chg.size hl),k.bd,k.bdF,k.dj,h.dj0,λx hx=>k.fz x (h.fz x hx),λx hx=>(k.fsub x hx).elim (h.fsub x) λhx=>.inr (hx.elim (h.sub x) λhl=>.inr (Zfh h.chg.size hl))⟩
def Mem.grow(h:Mem w0 S0 F0 w S F)(hc:Chg Non w w'):∃F',Mem w0 S0 F0 w' S F'/\(∀k,F k->F' k)/\∀k,w.heap.size<=k->k<w'.heap.size->F' k:=
  ⟨λk=>F k\/(w.heap.size<=k/\k<w'.heap.size),⟨h.chg.trans hc.of,h.sub,λk hk=>Zeu (h.bd k hk) hc.size,λk hk=>hk.elim (λhk=>Zeu (h.bdF k hk) hc.size) λhk=>hk.2,λk hk hf=>hf.elim (h.dj k hk) λhf=>Zf2 _ (Zeu (h.bd k hk) hf.1),h.dj0,λk hk=>.inl (h.fz k hk),λk hk=>hk.elim (h.fsub k) λhk=>.inr (.inr (Zfh h.chg.size hk.1))⟩,λ_ h=>.inl h,λ_ h1 h2=>.inr ⟨h1,h2⟩⟩
def Mem.out(h:Mem w0 S0 F0 w S F):Stp w0 S0 w S:=⟨h.chg,h.sub,h.bd⟩
def RV.mem{α:Type}[Rep α]{v:Value}{x:α}(h:RV w0 F0 v x)(hM:Mem w0 S0 F0 w S F):RV w F v x:=
 (h.chg hM.chg λk hf hs=>hM.dj0 k hs hf).sub λk _ hk=>hM.fz k hk
def RV.stp{α:Type}[Rep α]{v:Value}{x:α}(h:RV w F v x)(hM:Mem w0 S0 F0 w S F)(hp:Stp w S w' S'):RV w' F v x:=
 h.chg hp.chg λk hf hs=>hM.dj k hs hf
def RV.big{α:Type}[Rep α]{v:Value}{x:α}(h:RV w F v x)(hf:∀k,F k->F' k):RV w F' v x:=h.sub λk _ hk=>hf k hk
def Sep.nil(w:World)(S:Nat->Prop):Sep [] w S:=⟨λ_=>Non,λi P h=>by simp at h,λ_ _ _ _ h=>h.elim⟩
def Sep.keep{T:Nat->Prop}(h:Sep L w S)(hc:Chg T w w')(hT:∀k,S k->¬T k):Sep L w' S:=by
 obtain⟨f,h1,h2⟩:=h;exact⟨f,λi P hi=>⟨P.keep (h1 i P hi).1 hc λk hk=>hT k ((h1 i P hi).2 k hk),(h1 i P hi).2⟩,h2⟩
def Sep.ext(h:Sep L w S)(hc:Chg Non w w'):Sep L w' S:=h.keep hc λ_ _=>id
def Sep.mono(h:Sep L w S)(hs:∀k,k<w.heap.size->S k->S' k):Sep L w S':=by
 obtain⟨f,h1,h2⟩:=h;exact⟨λi k=>f i k/\k<w.heap.size,λi P hi=>⟨P.mono (h1 i P hi).1 λk hk hf=>⟨hf,hk⟩,λk hk=>hs k hk.2 ((h1 i P hi).2 k hk.1)⟩,λi j k hne hi hj=>h2 i j k hne hi.1 hj.1⟩
theorem Bu{is:List Nat}(hn:is.Nodup){i j x:Nat}(hi:is[i]? =some x)(hj:is[j]? =some x):i=j:=by
 grind[List.getElem?_eq_some_iff,Nat.lt_trichotomy,absurd,List.pairwise_iff_getElem]
theorem Sep.pick(is:List Nat)(h:Sep L w S)(hn:is.Nodup){L':List HP}(hL:is.map (λi=>L[i]?)=L'.map some):Sep L' w S:=by
 obtain⟨f,h1,h2⟩:=h;refine⟨λm k=>∃i,is[m]? =some i/\f i k,λm P hm=>?_,λm m' k hne⟨i,hi,hf⟩⟨j,hj,hg⟩=>?_⟩
 ·have h3:(is.map λi=>L[i]?)[m]? =some (some P):=by simp_all
  rw[ZeL]at h3;cases hi:is[m]? with
  |none=>simp_all
  |some i=>
   rw[hi]at h3;simp only[Ze0,Option.some.injEq]at h3;obtain⟨g1,g2⟩:=h1 i P h3;simp_all
 grind[Bu]
def Sep.get(i:Nat)(h:Sep L w S){P:HP}(hi:L[i]? =some P):∃A,P.ok w A/\∀k,A k->S k:=by
 obtain⟨f,h1,_⟩:=h;grind
def Sep.rv{α:Type}[Rep α]{E:TypeId}{v:Value}{l:List α}(i:Nat)(h:Sep L w S)(hi:L[i]? =some (SL E v l)):RV w S v l:=by
 obtain⟨A,h1,h2⟩:=h.get i hi;rcases h1 with⟨go,h1⟩|⟨rfl,a,rfl⟩
 ·exact h1.rv.sub λk _ hk=>hk.elim (λhk=>h2 k hk.2) λhk=>hk.elim
 ·exact RV.mk_slice (l:=([]:List α)) (Zes _) (Zfi _) λh=>absurd rfl h
def Sep.mp{P:Program}{k e:TypeId}{κ β:Type}[Flat κ][Flat β][DecidableEq κ]{T:MapT P k e κ β}{b:Nat}{m:List (κ×β)}(i:Nat)(h:Sep L w S)(hi:L[i]? =some (MP T b m)):OwnM T w b m:=by
 obtain⟨A,h1,h2⟩:=h.get i hi;exact h1.1
def Sep.upd(i:Nat)(h:Sep L w S){P:HP}(hi:L[i]? =some P)(hM:Mem w0 S0 F0 w S F):∃A,P.ok w A/\∀{w':World}{P':HP},Chg A w w'->P'.ok w' (λk=>A k\/w.heap.size<=k)->
  ∃S',Stp w S w' S'/\Sep (L.set i P') w' S':=by
 obtain⟨f,h1,h2⟩:=h;have hbd:=hM.bd;refine⟨f i,(h1 i P hi).1,λ{w' P'}hc hok=>⟨λk=>(S k\/w.heap.size<=k)/\k<w'.heap.size,⟨hc.mono (h1 i P hi).2,λk hk=>hk.1,λk hk=>hk.2⟩,?_⟩⟩;refine⟨λj k=>if j=i then(f i k\/w.heap.size<=k)/\k<w'.heap.size else j<L.length/\f j k,λj Q hj=>?_,λj j' k hne hf hg=>?_⟩
 ·rw[ZfK]at hj;by_cases e:i=j
  ·subst e;have hlt:i<L.length:=(Zej.1 hi).1;simp only[Ze2,hlt,Option.some.injEq]at hj;subst hj;simp only[Ze2];exact⟨P'.mono hok λk hk hA=>⟨hA,hk⟩,λk hk=>⟨hk.1.elim (λhk=>.inl ((h1 i P hi).2 k hk)) .inr,hk.2⟩⟩
  ·rw[Zem e]at hj;simp only[Zem (Ne.symm e)];have hlt:j<L.length:=(Zej.1 hj).1;refine⟨Q.mono (Q.keep (h1 j Q hj).1 hc λk hk hk'=>h2 i j k e hk' hk) λk _ hk=>⟨hlt,hk⟩,λk hk=>⟨.inl ((h1 j Q hj).2 k hk.2),Zeu (hbd k ((h1 j Q hj).2 k hk.2)) hc.size⟩⟩
 grind
def Sep.split(h:Sep (L1++L2) w S):∃A R,Sep L1 w A/\Sep L2 w R/\(∀k,A k->R k->False)/\(∀k,A k->S k)/\∀k,R k->S k:=by
 obtain⟨f,h1,h2⟩:=h;refine⟨λk=>∃i,i<L1.length/\f i k,λk=>∃i,i<L2.length/\f (i+L1.length) k,⟨λi k=>i<L1.length/\f i k,λi P hi=>?_,λi j k hne a b=>h2 i j k hne a.2 b.2⟩,⟨λi k=>i<L2.length/\f (i+L1.length) k,λi P hi=>?_,λi j k hne a b=>h2 _ _ k O a.2 b.2⟩,?_,?_,?_⟩
 ·have hlt:i<L1.length:=(Zej.1 hi).1;exact⟨P.mono (h1 i P an).1 λk _ hk=>⟨hlt,hk⟩,λk hk=>⟨i,hk⟩⟩
 ·have hlt:i<L2.length:=(Zej.1 hi).1;exact⟨P.mono (h1 (i+L1.length) P an).1 λk _ hk=>⟨hlt,hk⟩,λk hk=>⟨i,hk⟩⟩
 ·grind
 ·rintro k ⟨i,hi,hf⟩;exact(h1 i L1[i] an).2 k hf
 ·rintro k ⟨i,hi,hf⟩;exact(h1 (i+L1.length) L2[i] an).2 k hf
theorem Sep.join{A R:Nat->Prop}(h1:Sep L1 w A)(h2:Sep L2 w R)(hd:∀k,k<w.heap.size->A k->R k->False)(hA:∀k,k<w.heap.size->A k->S k)(hR:∀k,k<w.heap.size->R k->S k):Sep (L1++L2) w S:=by
 obtain⟨f,f1,f2⟩:=h1;obtain⟨g,g1,g2⟩:=h2;have fr:∀i k,i<L1.length->f i k->A k:=λi k hi hf=>(f1 i L1[i] aH).2 k hf;have gr:∀i k,i<L2.length->g i k->R k:=λi k hi hf=>(g1 i L2[i] aH).2 k hf;refine⟨λi k=>k<w.heap.size/\((i<L1.length/\f i k)\/(L1.length<=i/\i-L1.length<L2.length/\g (i-L1.length) k)),λi P hi=>?_,?_⟩
 ·by_cases hlt:i<L1.length
  ·rw[ZeD hlt]at hi;refine⟨P.mono (f1 i P hi).1 λk hk hf=>⟨hk,.inl ⟨hlt,hf⟩⟩,λk hk=>?_⟩;grind
  ·rw[ZeE O]at hi;have hlt2:i-L1.length<L2.length:=(Zej.1 hi).1;refine⟨P.mono (g1 _ P hi).1 λk hk hf=>⟨hk,.inr ⟨by omega,hlt2,hf⟩⟩,λk hk=>?_⟩;grind
 grind
theorem Sep.new{P:HP}(h:Sep L w S)(hM:Mem w0 S0 F0 w S F)(hc:Chg Non w w')(hok:P.ok w' (λk=>w.heap.size<=k)):∃S',Stp w S w' S'/\Sep (P::L) w' S':=by
 refine⟨λk=>(S k\/w.heap.size<=k)/\k<w'.heap.size,⟨hc.of,λk hk=>hk.1,λk hk=>hk.2⟩,?_⟩
 have h1:Sep [P] w' (λk=>w.heap.size<=k):=⟨λi k=>i=0/\w.heap.size<=k,λi Q hi=>by
  cases i with
  |zero=>simp_all
  |succ i=>simp at hi,λi j k hne hi hj=>hne (hi.1.trans hj.1.symm)⟩
 exact Sep.join (L1:=[P]) h1 (h.ext hc) (λk _ ha hr=>Zf2 _ (Zeu (hM.bd k hr) ha)) (λk hk ha=>⟨.inr ha,hk⟩) (λk hk ha=>⟨.inl ha,hk⟩)
theorem Sep.cons_nil{α:Type}[Rep α](E:TypeId)(h:Sep L w S):Sep (SL E (.slice none 0 0) ([]:List α)::L) w S:=by
 have h1:Sep [SL E (.slice none 0 0) ([]:List α)] w Non:=⟨λi k=>False,λi Q hi=>by
  cases i with
  |zero=>simp at hi;subst hi;exact⟨.inr ⟨rfl,none,rfl⟩,λk hk=>hk.elim⟩
  |succ i=>simp at hi,λi j k hne hi hj=>hi.elim⟩
 exact Sep.join (L1:=[SL E (.slice none 0 0) ([]:List α)]) h1 h (λ_ _ h=>h.elim) (λ_ _ h=>h.elim) (λ_ _ h=>h)
def Sep.call(h:Sep (L1++L2) w S)(hM:Mem w0 S0 F0 w S F):∃A R,Sep L1 w A/\Sep L2 w R/\(∀k,A k->(F k\/R k)->False)/\(∀k,A k->k<w.heap.size)/\
  ∀{w':World}{A':Nat->Prop}{L':List HP},Stp w A w' A'->Sep L' w' A'->∃S',Stp w S w' S'/\Sep (L'++L2) w' S':=by
 obtain⟨A,R,h1,h2,h3,h4,h5⟩:=h.split;refine⟨A,R,h1,h2,λk ha hf=>hf.elim (hM.dj k (h4 k ha)) (h3 k ha),λk ha=>hM.bd k (h4 k ha),λ{w' A' L'}hp hs=>?_⟩;refine⟨λk=>A' k\/R k,⟨hp.chg.mono h4,λk hk=>hk.elim (λhk=>(hp.sub k hk).elim (λhk=>.inl (h4 k hk)) .inr) λhk=>.inl (h5 k hk),λk hk=>hk.elim (hp.bd k) λhk=>Zeu (hM.bd k (h5 k hk)) hp.chg.size⟩,?_⟩;refine Sep.join hs (h2.keep hp.chg λk hr ha=>h3 k ha hr) (λk _ ha hr=>?_) (λk _ h=>.inl h) (λk _ h=>.inr h);rcases hp.sub k ha with ha|ha
 ·simp_all
 ·exact Zf2 _ (Zeu (hM.bd k (h5 k hr)) ha)
def Sep.got{A':Nat->Prop}(h:Sep L w S)(hM:Mem w0 S0 F0 w S F)(hp:Stp w Non w' A')(hs:Sep L' w' A'):∃S',Stp w S w' S'/\Sep (L'++L) w' S':=by
 refine⟨λk=>A' k\/S k,⟨hp.chg.of,λk hk=>hk.elim (λhk=>(hp.sub k hk).elim (λhk=>hk.elim) .inr) .inl,λk hk=>hk.elim (hp.bd k) λhk=>Zeu (hM.bd k hk) hp.chg.size⟩,?_⟩;refine Sep.join hs (h.ext hp.chg) (λk _ ha hr=>?_) (λk _ h=>.inl h) (λk _ h=>.inr h);rcases hp.sub k ha with ha|ha
 ·exact ha.elim
 ·exact Zf2 _ (Zeu (hM.bd k hr) ha)
def Sep.freeze{P:HP}(h:Sep (P::L) w S)(hM:Mem w0 S0 F0 w S F):∃S' F',Mem w0 S0 F0 w S' F'/\Sep L w S'/\P.ok w F'/\∀k,F k->F' k:=by
 obtain⟨A,R,h1,h2,h3,h4,h5⟩:=Sep.split (L1:=[P]) (L2:=L) h;refine⟨R,λk=>F k\/A k,⟨hM.chg,λk hk=>hM.sub k (h5 k hk),λk hk=>hM.bd k (h5 k hk),λk hk=>hk.elim (hM.bdF k) λhk=>hM.bd k (h4 k hk),λk hk hf=>hf.elim (hM.dj k (h5 k hk)) λhf=>h3 k hf hk,hM.dj0,λk hk=>.inl (hM.fz k hk),λk hk=>hk.elim (hM.fsub k) λhk=>.inr (hM.sub k (h4 k hk))⟩,h2,?_,λ_ h=>.inl h⟩;obtain⟨B,g1,g2⟩:=h1.get 0 rfl;exact P.mono g1 λk _ hk=>.inr (g2 k hk)
def SL.rv{α:Type}[Rep α]{E:TypeId}{v:Value}{l:List α}(h:(SL E v l).ok w F):RV w F v l:=by
 rcases h with⟨go,h1⟩|⟨rfl,a,rfl⟩
 ·exact h1.rv.sub λk _ hk=>hk.elim (λhk=>hk.2) λhk=>hk.elim
 ·exact RV.mk_slice (l:=([]:List α)) (Zes _) (Zfi _) λh=>absurd rfl h
end
def sufB(ops:Array Oper)(m:Nat):Bool:=
 decide (m<=ops.size)&&(List.range ops.size).all λj=>(ops.getD j default).after.toList.all (λe=>!Region.binds .any e||decide (e.on<j))&&(decide (j<m)||(List.range j).all λi=>((masksN ops ops.size).getD j 0).testBit i)
section
variable{P:Program}{ops:Array Oper}{Q:Exit->Act->World->Prop}
theorem AZ{m0:Nat}(hch:sufB ops m0=true):∀fuel j(L:Array Bool)(a:Act)(w:World),m0<=j+1->L.size=ops.size->(∀i,L.getD i false=true↔i<j)->j<=ops.size->ops.size-j<=fuel->
  wpList P ops Q (ops.toList.drop j) a w->wpAny P .any ops Q fuel L a w:=by
 unfold sufB at hch;simp only[Zev,Ze7,Zek,ZeX,Zeq]at hch;obtain⟨_,hch⟩:=hch;have hearly:∀j o,ops[j]? =some o->∀e∈o.after.toList,Region.binds .any e=true->e.on<j:=λj o ho e he hb=>by
  have hj:j<ops.size:=(Zey.1 ho).1;have h1:=(hch j hj).1 e ag;simp_all
 have hready:∀(L:Array Bool)(i j:Nat),m0<=j+1->L.size=ops.size->(∀i,L.getD i false=true↔i<j)->i∈Region.ready .any ops L->i=j/\i<ops.size:=by
  intro L i j hmj hs hL hi;unfold Region.ready at hi;rw[Ze6,Ze7]at hi;obtain⟨h1,h2⟩:=hi;simp only[Zek,Zfp]at h2;obtain⟨h2,h3⟩:=h2;have hs':i<L.size:=by omega
  have hnl:¬i<j:=λh=>by
   grind
  refine⟨?_,h1⟩;rcases ZfU j i with h|h
  ·exfalso;have hm:=((hch i h1).2.resolve_left O) j h;rw[UF ops ops.size i h1]at hm;have ho:ops[i]? =some (ops.getD i default):=by simp[Zeh,h1]
   have:=Rv L (λj' o' hj' ho' e he hb=>(hL e.on).2 (Nat.lt_trans (hearly j' o' ho' e he hb) ((hL j').1 hj'))) j i h1 hm (λe he hb=>by
    rw[ho]at h3;simp only[Ze0,ZeF,ZeP]at h3;have:=h3 e aS
    simpa[hb]using this)
   have:=(hL j).1 this;omega
  ·omega
 intro fuel
 induction fuel with
 |zero=>
  intro j L a w hmj hs hL hj hf hw;obtain rfl:j=ops.size:=by omega
  rw[Zfw U]at hw;refine⟨?_,hw⟩;cases hr:Region.ready .any ops L with
  |nil=>rfl
  |cons i r=>exact absurd (hready L i _ hmj hs hL (by rw[hr];exact ZeK)) O
 | succ fuel ih=>
  intro j L a w hmj hs hL hj hf hw;refine⟨λhr=>?_,λi hi=>?_⟩
  ·rcases ZfU j ops.size with h|h
   ·exfalso;have hmem:j∈Region.ready .any ops L:=by
     unfold Region.ready;rw[Ze6];refine⟨Ze7.2 h,?_⟩;have ho:ops[j]? =some ops[j]:=by simp[h]
     have h2:((ops[j]).after.all λe=>!Region.binds .any e||L.getD e.on false)=true:=by
      rw[ZeP];intro e he;cases hb:Region.binds .any e with
      |false=>rfl
      |true=>simp[(hL e.on).2 (hearly j _ ho e aS hb)]
     rw[ho];simp only[Ze0,ZeF,h2,ZfL,Zfp];have hs':j<L.size:=by omega
     cases hl:L.getD j false with
     |true=>exact absurd ((hL j).1 hl) O
     |false=>simpa[Zeh,hs']using hl
    rw[hr]at hmem;cases hmem
   ·rw[Zfw O]at hw;exact hw
  ·obtain⟨rfl,hlt⟩:=hready L i j hmj hs hL hi;have ho:ops[i]? =some ops[i]:=by simp[hlt]
   rw[Ze8 (by simpa using hlt)]at hw;have ho':ops.toList[i]'(by simpa using hlt)=ops[i]:=by simp
   rw[ho']at hw;unfold wpOp;rw[ho];have step:∀a w,wpList P ops Q (ops.toList.drop (i+1)) a w->wpAny P .any ops Q fuel (L.setIfInBounds i true) a w:=λa w h=>by
    refine ih (i+1) _ a w O (by simpa using hs) (λm=>?_) O O h;by_cases e:m=i
    ·subst e;have:m<L.size:=by omega
     simp[Zeh,this]
    ·have h1:(L.setIfInBounds i true).getD m false=L.getD m false:=by
      simp[Zeh,Ne.symm e]
     rw[h1,hL m];omega
   unfold wpList at hw;simp only;split at hw
   ·rename_i hwant;rw[Zei hwant];rcases hw with hw|hw
    ·exact .inl (Oper.wp_mono step hw)
    ·exact .inr hw
   ·rename_i hwant;rw[Zem hwant];exact step _ _ hw
end
def RA(P:Program)(ops:Array Oper)(Q:Exit->Act->World->Prop)(a:Act)(w:World):Prop:=
 wpAny P .any ops Q ops.size (Array.replicate ops.size false) a {w with drawn:=w.drawn+1}
def ZK{P:Program}{ops:Array Oper}{Q:Exit->Act->World->Prop}{a:Act}{w:World}{id:Nat}(hmix:P.follows .mixedOrders=true)(h:RA P ops Q a w):(Code.region id ops true).wp P Q a w:=wp_region_any hmix h
def hoist(f:Nat)(ops:Array Oper):Array Oper:=(ops.toList.mapIdx λi o=>if f<i then{o with after:=o.after.push ⟨f,.data⟩}else o).toArray
def hoistB(f:Nat)(ops:Array Oper):Bool:=
 Region.noSelect ops&&Region.free .any ops (Array.replicate ops.size false) f&&
 match ops[f]? with
 |some ⟨some _,.move _,_,_,af,none⟩=>af.all λe=>!Region.binds .any e
 |_=>false
section
variable{P:Program}{ops:Array Oper}{Q:Exit->Act->World->Prop}{f:Nat}
theorem SG(i:Nat):(hoist f ops)[i]? =ops[i]?.map λo=>if f<i then{o with after:=o.after.push ⟨f,.data⟩}else o:=by
 simp[hoist]
def OB:(hoist f ops).size=ops.size:=by simp[hoist]
theorem BH(g:Nat):((hoist f ops)[g]?).bind (·.dst)=(ops[g]?).bind (·.dst):=by
 grind[SG]
def JD(tmps:Array Value):yielded (hoist f ops) tmps=yielded ops tmps:=by
 grind[yielded,BH]
def MM{L:Array Bool}(h:L.getD f false=true):Region.ready .any (hoist f ops) L=Region.ready .any ops L:=by
 unfold Region.ready;rw[OB];grind[SG]
theorem DJ{i:Nat}{K:Act->World->Prop}{a:Act}{w:World}(h:wpOp P (hoist f ops) Q i K a w):wpOp P ops Q i K a w:=by
 unfold wpOp at*;rw[SG,JD]at h;cases ho:ops[i]? with
 |none=>simp_all
 |some o=>
  rw[ho]at h;simp only[Ze0]at h⊢;split at h<;>exact h
theorem RS:∀(fuel:Nat)(L:Array Bool)(a:Act)(w:World),L.getD f false=true->wpAny P .any (hoist f ops) Q fuel L a w->wpAny P .any ops Q fuel L a w
 |0,L,a,w,hf,h=>by
  simp_all[wpAny,MM]
 |fuel+1,L,a,w,hf,h=>by
  unfold wpAny at*;rw[MM hf]at h;refine⟨h.1,λi hi=>wpOp_mono (λa' w' h'=>RS fuel _ a' w' (getD_set_true hf) h') (DJ (h.2 i hi))⟩
def ZbL(f:Nat){a:Act}{w:World}(hb:hoistB f ops=true)(hQ:∀c a d v w,Q (.panic c) (Act.put a (some d) v) w->Q (.panic c) a w)(h:RA P (hoist f ops) Q a w):RA P ops Q a w:=by
 unfold hoistB at hb;simp only[Zek]at hb;obtain⟨⟨h1,h2⟩,h3⟩:=hb;split at h3
 ·rename_i d x ty pos af ho;have hlt:f<ops.size:=(Zey.1 ho).1;obtain⟨n,hn⟩:∃n,ops.size=n+1:=⟨ops.size-1,by omega⟩;have hrd:f∈Region.ready .any ops (Array.replicate ops.size false):=by
   rw[mem_ready];refine⟨by simp_all,_,ho,λe he hbnd=>?_⟩;grind[Array.all_eq_true_iff_forall_mem]
  have hrd':f∈Region.ready .any (hoist f ops) (Array.replicate ops.size false):=by
   simp_all[mem_ready,Zeh,move,SG,ZeP]
  have hy:Yields P ops ⟨some d,.move x,ty,pos,af,none⟩ (a.eval x) a:=.inl ⟨rfl,λw=>by simp[execOp]⟩;unfold RA at*;rw[OB,hn]at h;rw[hn]at hrd hrd' h2;have h4:=h.2 f hrd';rw[hn];refine wpAny_take ho h1 h2 ag (λc a w=>hQ c a d _ w) hy ?_;refine RS (f:=f) n _ _ _ ag ?_;unfold wpOp at h4;rw[SG,ho]at h4;simp only[Ze0,Zf2,Zen]at h4;rcases h4 with h4|h4
  ·simp_all[Oper.wp,execOp,Oper.upon]
  ·have:=h4.1;have h5:noRoomEvent∈(#[]:Array _):=this.1;simp at h5
 ·cases h3
end
section
variable{P:Program}{ops:Array Oper}{Q:Exit->Act->World->Prop}{a:Act}{w w0:World}{S S0 F F0:Nat->Prop}{N:Nat}{σ:List (Nat×Value)}{k d:Nat}{t ty:TypeId}{x y:Operand}{pos:String}{af:Array Edge}
  {L:List HP}
def Zec{v:Value}(hs:Sep L w S)(hM:Mem w0 S0 F0 w S F)(cs:List Value)(ho:ops[k]? =some ⟨some d,.box t x,ty,pos,af,none⟩)(hd:Nat.blt d N=true)(hF:FrS N σ a)(hx:opd σ x=some v)(hcs:v.cells.toList=cs)
  (h:∀b w' S' fr,Sep (BX b t cs::L) w' S'->Stp w S w' S'->FrS N ((d,.pointer (some ⟨b,0,none⟩))::σ) fr->wpFrom P ops Q (k+1) fr w'):wpFrom P ops Q k a w:=
 Zed cs ho hd hF hx hcs λb w' fr hlo hb hc hF'=>by
  obtain⟨S',hp,hs'⟩:=hs.new hM hc (P:=BX b t cs) ⟨hb,hlo⟩;grind
def Zcy{z:Value}(hs:Sep L w S)(hM:Mem w0 S0 F0 w S F)(cs:List Value)(ho:ops[k]? =some ⟨some d,.alloc t,ty,pos,af,none⟩)(hd:Nat.blt d N=true)(hF:FrS N σ a)(hz:(P.info? t).map (·.zero)=some (some z))(hcs:z.cells.toList=cs)
  (h:∀b w' S' fr,Sep (BX b t cs::L) w' S'->Stp w S w' S'->FrS N ((d,.pointer (some ⟨b,0,none⟩))::σ) fr->wpFrom P ops Q (k+1) fr w'):wpFrom P ops Q k a w:=
 Zdn cs ho hd hF hz hcs λb w' fr hlo hb hc hF'=>by
  obtain⟨S',hp,hs'⟩:=hs.new hM hc (P:=BX b t cs) ⟨hb,hlo⟩;grind
def DC{b n:Nat}{bt:TypeId}{cs:List Value}{u:Value}(i:Nat)(hs:Sep L w S)(hM:Mem w0 S0 F0 w S F)(hi:L[i]? =some (BX b bt cs))(cs':List Value)(ho:ops[k]? =some ⟨none,.store t x y,ty,pos,af,none⟩)(hF:FrS N σ a)
  (hx:opd σ x=some (.pointer (some ⟨b,n,none⟩)))(hy:opd σ y=some u)(ht:(P.info? t).map (·.size)=some 1)(hn:Nat.blt n cs.length=true)(h1:u.oneCell'=true)(hcs:cs.set n u=cs')
  (h:∀w' S',Sep (L.set i (BX b bt cs')) w' S'->Stp w S w' S'->FrS N σ a->wpFrom P ops Q (k+1) a w'):wpFrom P ops Q k a w:=by
 obtain⟨A,hok,hup⟩:=hs.upd i hi hM;refine Dc cs' ho hF hx hy ht hok.1 hn h1 hcs λw' hb hc hF'=>?_;obtain⟨S',hp,hs'⟩:=hup (P':=BX b bt cs') (hc.mono λk hk=>by subst hk;exact hok.2) ⟨hb,.inl hok.2⟩;grind
def GK{b:Nat}{bt:TypeId}{cs:List Value}{u:Value}(i:Nat)(hs:Sep L w S)(hM:Mem w0 S0 F0 w S F)(hi:L[i]? =some (BX b bt cs))(cs':List Value)(ho:ops[k]? =some ⟨none,.store t x y,ty,pos,af,none⟩)(hF:FrS N σ a)
  (hx:opd σ x=some (.pointer (some ⟨b,0,none⟩)))(hy:opd σ y=some u)(ht:(P.info? t).map (·.size)=some cs'.length)(hl:cs'.length=cs.length)(huc:u.cells.toList=cs')(h1:(cs'.all λz=>z.oneCell')=true)
  (h:∀w' S',Sep (L.set i (BX b bt cs')) w' S'->Stp w S w' S'->FrS N σ a->wpFrom P ops Q (k+1) a w'):wpFrom P ops Q k a w:=by
 obtain⟨A,hok,hup⟩:=hs.upd i hi hM;refine GI cs' ho hF hx hy ht hok.1 hl huc h1 λw' hb hc hF'=>?_;obtain⟨S',hp,hs'⟩:=hup (P':=BX b bt cs') (hc.mono λk hk=>by subst hk;exact hok.2) ⟨hb,.inl hok.2⟩;grind
variable{α:Type}[Rep α]{E:TypeId}{v u:Value}{l m:List α}
def Zd4{y':Operand}{n:Int}{zc:α}(hs:Sep L w S)(hM:Mem w0 S0 F0 w S F)(ht:P.underlying t=some (.slice E))(hE:ElT P E α)(hz:∀i,P.info? E=some i->∀z,i.zero=some z->Rep.ok w (λ_=>False) z.cells.toList zc)
  (hop:ops[k]? =some ⟨some d,.makeSlice t x y',ty,pos,af,none⟩)(hd:Nat.blt d N=true)(hF:FrS N σ a)(hx:opd σ x=some (.int .i64 n))(hy:opd σ y'=some (.int .i64 n)){r:List α}(hr:mk? n zc=some r)
  (h:∀a' c' w' S' fr,Sep (SL E (.slice a' (List.length r) c') r::L) w' S'->Stp w S w' S'->FrS N ((d,.slice a' (List.length r) c')::σ) fr->wpFrom P ops Q (k+1) fr w'):wpFrom P ops Q k a w:=
 Zdz (G:=λk=>w.heap.size<=k) (FF:=Non) ht hE hz hop hd hF hx hy hr (λ_ h=>h) λg a' c' w' fr _ ho hc hF'=>by
  obtain⟨S',hp,hs'⟩:=hs.new hM hc (P:=SL E (.slice a' (List.length r) c') r) (.inl ⟨_,ho⟩);grind
def ZdV{n:Nat}{parts:Array (Nat×Operand)}(hs:Sep L w S)(hM:Mem w0 S0 F0 w S F)(cells:List Value)(css:List (List Value))(l:List α)(hop:ops[k]? =some ⟨some d,.buildSlice t n parts,ty,pos,af,none⟩)(hd:Nat.blt d N=true)(hF:FrS N σ a)
  (vals:List Value)(hv:parts.toList.map (λp=>opd σ p.2)=vals.map some)
  (hrun:∀w,(Instr.buildSlice t n ((parts.toList.map (·.1)).zip vals).toArray).run P w= .ok (.slice (some ⟨w.heap.size,0,none⟩) n n) (w.alloc (.cells cells.toArray E)))
  (hcss:Css w Non css l)(hfl:css.flatten=cells)(hln:l.length=n)(hmax:Nat.ble l.length room=true)
  (h:∀a' c' w' S' fr,Sep (SL E (.slice a' (List.length l) c') l::L) w' S'->Stp w S w' S'->FrS N ((d,.slice a' (List.length l) c')::σ) fr->wpFrom P ops Q (k+1) fr w'):wpFrom P ops Q k a w:=
 ZdQ (E:=E) (G:=λk=>w.heap.size<=k) (FF:=Non) (F:=Non) cells css l hop hd hF vals hv hrun hcss hfl hln hmax (λ_ h=>h) (λ_ _ h=>h) λg a' c' w' fr _ ho hc hF'=>by
  obtain⟨S',hp,hs'⟩:=hs.new hM hc (P:=SL E (.slice a' (List.length l) c') l) (.inl ⟨_,ho⟩);grind
end
section
variable{P:Program}{ops:Array Oper}{Q:Exit->Act->World->Prop}{a:Act}{w w0:World}{S S0 F F0:Nat->Prop}{N:Nat}{σ:List (Nat×Value)}{k d:Nat}{t ty:TypeId}{x y:Operand}{pos:String}{af:Array Edge}
  {L:List HP}{α:Type}[Flat α]{E:TypeId}{v u:Value}{l m:List α}
def ZdR{t' ty':TypeId}{idx z:Operand}{pos':String}{af':Array Edge}{kd:IntKind}{n:Int}{q:α}(i:Nat)(hs:Sep L w S)(hM:Mem w0 S0 F0 w S F)(hL:L[i]? =some (SL E v l))(ht:P.underlying t=some (.slice E))(hE:Ty P E α)
  (hop:ops[k]? =some ⟨some d,.indexAddr t x idx,ty,pos,af,none⟩)(hop':ops[k+1]? =some ⟨none,.store t' (.tmp d) z,ty',pos',af',none⟩)(hte:t'=E)(hd:Nat.blt d N=true)(hF:FrS N σ a)
  (hx:opd σ x=some v)(hi:opd σ idx=some (.int kd n))(hz:z≠ .tmp d)(hzu:opd σ z=some u)(hu:Rep.val α (Flat.enc q)=u){r:List α}(hr:set? l n q=some r)
  (h:∀w' S' fr p,Sep (L.set i (SL E v r)) w' S'->Stp w S w' S'->FrS N ((d,p)::σ) fr->wpFrom P ops Q (k+2) fr w'):wpFrom P ops Q k a w:=by
 obtain⟨A,hok,hup⟩:=hs.upd i hL hM;rcases hok with⟨go,ho⟩|⟨rfl,_,_⟩
 ·refine Zaa (λ_=>False) ho ht hE hop hop' hte hd hF hx hi hz hzu (Fr:=Non) (q:=q) ⟨_,Flat.iff.2 rfl,hu.symm⟩ Pq (λ_ _ h=>h.elim) hr λa' c' w' fr ho' he hc⟨p,hF'⟩=> ?_;obtain⟨S',hp,hs'⟩:=hup (P':=SL E v r) (hc.mono λk hk=>ho.inG hk) (.inl ⟨go,by rw[he];exact ho'.regard λk _ hk=>.inl hk⟩);grind
 grind[set?]
theorem Ti{t ty:TypeId}{v:Option Addr}(ht:P.underlying t=some (.slice E))(hE:ElT P E α){Fr:Nat->Prop}{u:Value}{m:List α}(hu:RV w Fr u m)(hroom:m.length<=room):
  ∃v' w',(Builtin.append_ #[t,t] ty #[.slice v 0 0,u]).run P w= .ok v' w'/\(SL E v' m).ok w' (λk=>w.heap.size<=k)/\Chg Non w w':=by
 obtain⟨i,z,hi,hz,hsz,hzs,hby⟩:=hE.out;have hnil:OwnS w E none (λk=>w.heap.size<=k) Non (.slice none 0 0) ([]:List α):=OwnS.nil;obtain⟨v',w',go',hrun,h1,h2,h3⟩:=hnil.append_run (P:=P) (ty:=ty) ht hE hu (Fu:=Non) Pq (λ_ _ h=>h.elim) (λ_ h=>h) ag;have hc:Chg Non w w':=h2.mono λk hk=>by cases hk
 cases v with
 |none=>exact⟨v',w',hrun,.inl ⟨go',by simp_all⟩,hc⟩
 | some b=>
  obtain⟨ad,cap,rfl,hcap,hmax,hcells⟩:=hu.slice;by_cases hm:m=[]
  ·subst hm;refine⟨.slice (some b) 0 0,w,?_,.inr ⟨rfl,_,rfl⟩,Chg.refl _ _⟩;cases ad with
   |none=>simp[Builtin.append_,run_underlying ht,sizeOf,typeInfo,hi,Builtin.lenOf,Builtin.firstCells,storeCells]
   |some ad=>simp[Builtin.append_,run_underlying ht,sizeOf,typeInfo,hi,Builtin.lenOf,Builtin.firstCells,storeCells,loadCells,loadCellsFrom]
  ·obtain⟨ad,rfl,_,he⟩:=hcells hm;obtain⟨css,g1,g2⟩:=SE he;have hpos:0<m.length:=by
    grind
   unfold room at hroom;have hb1:m.length*i.bytes<=4294967296*32768:=ZgO hroom hby;have hl:css.flatten.length=m.length*i.size:=by rw[hsz];exact g1.flat_len
   have hn:∀j x,css.flatten[j]? =some x->w.cell? (ad.add j)=some x:=λj x hx=>by simp_all
   have e1:=run_append_nil (P:=P) w t ty E i z ht hi hz ad m.length cap css.flatten hl hn hpos O O
   have e2:=run_append_grow (P:=P) w t ty E i z ht hi hz b 0 0 [] U U ad m.length cap css.flatten hl hn O O (by
    rw[ZfV,nextslicecap_zero hpos];omega)
   rw[e1]at hrun;simp at e2;exact⟨v',w',e2.trans hrun,.inl ⟨go',by simp_all⟩,hc⟩
def ZbY{y':Operand}{t':TypeId}{Fr:Nat->Prop}(i:Nat)(hs:Sep L w S)(hM:Mem w0 S0 F0 w S F)(hL:L[i]? =some (SL E v l))(ht:P.underlying t=some (.slice E))(hE:ElT P E α)
  (hop:ops[k]? =some ⟨some d,.call ⟨.builtin .append,#[x,y'],#[t,t']⟩,ty,pos,af,none⟩)(htt:t'=t)(hd:Nat.blt d N=true)(hF:FrS N σ a)(hx:opd σ x=some v)(hy:opd σ y'=some u)(hu:RV w Fr u m)
  {r:List α}(hr:app? l m=some r)
  (h:∀a' c' w' S' fr,Sep (L.set i (SL E (.slice a' (List.length r) c') r)) w' S'->Stp w S w' S'->FrS N ((d,.slice a' (List.length r) c')::σ) fr->wpFrom P ops Q (k+1) fr w'):wpFrom P ops Q k a w:=by
 obtain⟨A,hok,hup⟩:=hs.upd i hL hM;rcases hok with⟨go,ho⟩|⟨rfl,b,rfl⟩
 ·have ho2:OwnS w E go (λk=>A k\/w.heap.size<=k) Non v l:=ho.regard λk _ hk=>.inl hk;refine ZaY (λ_=>False) ho2 ht hE hop htt hd hF hx hy hu Pq (λ_ _ h=>h.elim) (λk hk=>.inr hk) hr λgo' a' c' w' fr ho' hc _ hF'=>?_;obtain⟨S',hp,hs'⟩:=hup (P':=SL E (.slice a' (List.length r) c') r) (hc.mono λk hk=>ho.inG hk) (.inl ⟨go',ho'⟩);grind
 ·subst htt;unfold app? at hr;split at hr
  ·obtain⟨v',w',hrun,hok',hc⟩:=Ti (P:=P) (ty:=ty) (v:=b) ht hE hu O;have hsl:∃a' c',v'= .slice a' (List.length m) c':=by
    rcases hok' with⟨go,ho⟩|⟨rfl,a',rfl⟩
    ·exact ho.slice
    simp
   obtain⟨a',c',rfl⟩:=hsl;refine Zu hF hop rfl rfl (Ze4.mp hd) (R:=λz w1=>z= .slice a' (List.length m) c'/\w1=w') (Zh ?_ ⟨rfl,rfl⟩) λz w1 fr hz hF'=>?_
   ·simp[execOp,resolve,invoke,builtin,Zd hF hx,Zd hF hy,hrun]
   ·obtain⟨S',hp,hs'⟩:=hup (P':=SL E (.slice a' (List.length m) c') m) hc.of (HP.mono _ hok' λk _ hk=>.inr hk);grind
  ·cases hr
def OwnS.front{w:World}{go:Option Nat}{G:Nat->Prop}{a0:Option Addr}{c n:Nat}(h:OwnS w E go G Non (.slice a0 l.length c) l)(hn:n<=l.length):OwnS w E go G Non (.slice a0 n c) (l.take n):=by
 obtain⟨F,css,h1,h2,h3,h4,h5⟩:=h;have hlen:(css.take n).flatten.length=n*Rep.sz α:=by
  have:Css w F (css.take n) (l.take n):=⟨by simp[h1.1],λi cs x hi hx=>by
   rw[ZeO]at hi hx;split at hi
   ·rename_i hlt;rw[Zei hlt]at hx;exact h1.2 i cs x hi hx
   ·cases hi⟩
  rw[this.flat_len];simp_all
 have hpre:(css.take n).flatten=css.flatten.take (n*Rep.sz α):=by
  grind[List.flatten_append,List.take_append_drop,List.take_left]
 refine⟨F,css.take n,⟨by simp[h1.1],λi cs x hi hx=>?_⟩,⟨by simp_all,?_⟩,?_,h4,h5⟩
 ·rw[ZeO]at hi hx;split at hi
  ·rename_i hlt;rw[Zei hlt]at hx;exact h1.2 i cs x hi hx
  ·cases hi
 ·rcases h2.2 with⟨hv,hz⟩|⟨g,cap,cur,hv,hb,hg,hnc,hcm,hcs,htake⟩
  all_goals grind
 ·rw[<-h3];cases a0<;>rfl
def Zc2{lo:Option Operand}{hi:Operand}{b:Option Addr}{c:Nat}{kh:IntKind}{n:Int}(i:Nat)(hs:Sep L w S)(hM:Mem w0 S0 F0 w S F){len0:Nat}(hL:L[i]? =some (SL E (.slice b len0 c) l))(ht:P.underlying t=some (.slice E))(hE:Ty P E α)
  (hop:ops[k]? =some ⟨some d,.slice t x lo (some hi) none,ty,pos,af,none⟩)(hd:Nat.blt d N=true)(hF:FrS N σ a)(hx:opd σ x=some (.slice b len0 c))
  (hlo:lo=none\/∃o kl,lo=some o/\opd σ o=some (.int kl 0))(hhi:opd σ hi=some (.int kh n)){r:List α}(hr:cut? l 0 n=some r)
  (h:∀c' w' S' fr,Sep (L.set i (SL E (.slice b (List.length r) c') r)) w' S'->Stp w S w' S'->FrS N ((d,.slice b (List.length r) c')::σ) fr->wpFrom P ops Q (k+1) fr w'):wpFrom P ops Q k a w:=by
 unfold cut? at hr;split at hr
 ·rename_i hn;simp only[ZgP,Zfr,Option.some.injEq]at hr;obtain⟨_,hn1,hn2⟩:=hn;have hlen:r.length=n.toNat:=by grind
  obtain⟨A,hok,hup⟩:=hs.upd i hL hM;have hcap:n<=(c:Int)/\len0=l.length/\(SL E (.slice b (List.length r) c) r).ok w (λk=>A k\/w.heap.size<=k):=by
   rcases hok with⟨go,ho⟩|⟨rfl,b',hb'⟩
   ·obtain⟨a',c',hv⟩:=ho.slice;simp only[Value.slice.injEq]at hv;obtain⟨rfl,rfl,rfl⟩:=hv;refine⟨?_,rfl,.inl ⟨go,?_⟩⟩
    ·obtain⟨b2,c2,hv,hc2,_⟩:=ho.rv.slice;grind
    ·rw[hlen,<-hr];exact(ho.front O).regard λk _ hk=>.inl hk
   ·obtain⟨rfl,rfl,rfl⟩:=hb';have h0:r=[]:=by simp_all
    refine⟨?_,rfl,.inr ⟨h0,b,by rw[h0];rfl⟩⟩;omega
  obtain⟨hc,rfl,hok'⟩:=hcap;refine Zu hF hop rfl rfl (Ze4.mp hd) (R:=λz w1=>z= .slice b n.toNat c/\w1=w) (Zh ?_ ⟨rfl,rfl⟩) λz w1 fr hz hF'=>?_
  ·have hadd:b.map (λx=>x.add 0)=b:=by simp[Addr.add]
   rcases hlo with rfl|⟨o,kl,rfl,hlo⟩
   ·simp[execOp,Instr.sliceAt,Instr.slice,Instr.sliceBounds,Instr.sliceBound,asIntOf,Zd hF hx,Zd hF hhi,run_underlying ht,hE.sizeOf,hn1,hc,hadd]
   ·        simp[execOp,Instr.sliceAt,Instr.slice,Instr.sliceBounds,Instr.sliceBound,asIntOf,Zd hF hx,Zd hF hhi,Zd hF hlo,run_underlying ht,hE.sizeOf,hn1,hc,hadd]
  ·grind[SL,List.length,Chg.refl]
 ·cases hr
end
end Go.GL
end
