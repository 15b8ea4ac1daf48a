/- Texts of this claim put into one: library or plain laws, without the program under test. -/
import Derived.IntWalk
import Derived.WalkKit
import Derived.WalkSpells
import Derived.WalkLawsBesides
import Derived.Maps.AppendAt
import Derived.Laws.MakeOwn
import Derived.Maps.Own
import Derived.Maps.Views
import Derived.Maps.OwnSet
set_option linter.unusedSimpArgs false
set_option linter.unusedVariables false
set_option linter.defProp false
section
namespace Go.GL
def O{p:Prop}(h:p:=by omega):p:=h
def U{p:Prop}(h:p:=by simp):p:=h
def aa{p:Prop}(h:p:=by simp;omega):p:=h
def ag{p:Prop}(h:p:=by have:=FV.le (n:=fuel);omega):p:=h
def ah{p:Prop}(h:p:=by simp_all):p:=h
def ai{p:Prop}(h:p:=by rw[Za];simp;omega):p:=h
def aj{p:Prop}(h:p:=by kernel_rfl):p:=h
def ak{p:Prop}(h:p:=by simp_all[Za]):p:=h
def al{p:Prop}(h:p:=by grind):p:=h
def an{p:Prop}(h:p:=by simpa using c):p:=h
def ao{p:Prop}(h:p:=by simp[hy]):p:=h
def ap{p:Prop}(h:p:=by rfl):p:=h
def aq{p:Prop}(h:p:=by grind[Za]):p:=h
def ar{p:Prop}(h:p:=by rw[Za];simp):p:=h
def au{p:Prop}(h:p:=by decide):p:=h
def av{p:Prop}(h:p:=by simp_all[ZV]):p:=h
def ax{p:Prop}(h:p:=by trivial):p:=h
def ay{p:Prop}(h:p:=by cases h):p:=h
def az{p:Prop}(h:p:=by have:=hs.rl;omega):p:=h
def aA{p:Prop}(h:p:=by simpa using h):p:=h
def aB{p:Prop}(h:p:=by unfold waits;rw[ho];exact Zg5.2 ⟨e,Zgv.2 ⟨he,hb⟩,rfl⟩):p:=h
def aC{p:Prop}(h:p:=by simp_all[negs_len]):p:=h
def aD{p:Prop}(h:p:=by unfold room;omega):p:=h
def aF{p:Prop}(h:p:=by have:=EB a.length (by omega) hw;omega):p:=h
def aG{p:Prop}(h:p:=by simp only[ZfI,Zga,Zg6,hcl];omega):p:=h
def aH{p:Prop}(h:p:=by simp[hi]):p:=h
def aI{p:Prop}(h:p:=by grind[fuel0]):p:=h
def aJ{p:Prop}(h:p:=by rw[gpl,ZfX,g.len]):p:=h
def aK{p:Prop}(h:p:=by unfold room;simp;omega):p:=h
def aL{p:Prop}(h:p:=by rw[g.len];omega):p:=h
def aM{p:Prop}(h:p:=by have:=hs.inn;omega):p:=h
def aN{p:Prop}(h:p:=by simp[g.len];omega):p:=h
def aO{p:Prop}(h:p:=by have:=k1.1;omega):p:=h
def aP{p:Prop}(h:p:=by simpa using c1):p:=h
def aQ{p:Prop}(h:p:=by cases hx):p:=h
def aR{p:Prop}(h:p:=by simp[hi,hj]):p:=h
def aS{p:Prop}(h:p:=by rw[hl];exact hi):p:=h
def aT{p:Prop}(h:p:=by simpa using hc (by simp)):p:=h
def aU{p:Prop}(h:p:=by grind[room]):p:=h
def aV{p:Prop}(h:p:=by simp[hc]):p:=h
def aW{p:Prop}(h:p:=by simp[pe,hoff]):p:=h
def aX{p:Prop}(h:p:=by rw[hg1]):p:=h
abbrev Zf9:=@Option.bind_some
abbrev ZfA:=@List.getElem?_eq_getElem
abbrev ZfB:=@Bool.false_eq_true
abbrev ZfC:=@if_pos
abbrev ZfD:=@if_neg
abbrev ZfE:=@List.getElem?_eq_some_iff
abbrev ZfF:=@Bool.and_eq_true
abbrev ZfG:=@List.mem_append
abbrev ZfH:=@List.mem_of_getElem?
abbrev ZfI:=@List.length_append
abbrev ZfJ:=@Bool.not_true
abbrev ZfK:=@if_false
abbrev ZfL:=@List.mem_singleton
abbrev ZfM:=@Array.getD_eq_getD_getElem?
abbrev ZfN:=@decide_eq_true_eq
abbrev ZfO:=@List.append_assoc
abbrev ZfP:=@Nat.le_refl
abbrev ZfQ:=@Nat.lt_of_lt_of_le
abbrev ZfR:=@if_true
abbrev ZfS:=@List.length_cons
abbrev ZfT:=@List.mem_cons_of_mem
abbrev ZfU:=@List.take_succ_eq_append_getElem
abbrev ZfV:=@List.all_eq_true
abbrev ZfW:=@Nat.blt_eq
abbrev ZfX:=@List.length_drop
abbrev ZfY:=@List.mem_cons
abbrev ZfZ:=@List.lookup_cons
abbrev Zga:=@List.length_take
abbrev Zgb:=@List.append_nil
abbrev Zgc:=@List.drop_eq_getElem_cons
abbrev Zgd:=@List.getElem?_eq_none
abbrev Zge:=@List.getD_cons_zero
abbrev Zgf:=@Option.bind_eq_some_iff
abbrev Zgg:=@Array.getElem?_eq_some_iff
abbrev Zgh:=@Option.map_some
abbrev Zgi:=@List.mem_cons_self
abbrev Zgj:=@List.getD_eq_getElem?_getD
abbrev Zgk:=@Bool.true_and
abbrev Zgl:=@Bool.false_or
abbrev Zgm:=@Int.le_refl
abbrev Zgn:=@List.getElem_mem
abbrev Zgo:=@List.getElem?_append_right
abbrev Zgp:=@List.getElem?_map
abbrev Zgq:=@List.singleton_append
abbrev Zgr:=@Int.toNat_natCast
abbrev Zgs:=@List.getElem?_append_left
abbrev Zgt:=@Array.getElem?_eq_getElem
abbrev Zgu:=@List.map_cons
abbrev Zgv:=@List.mem_filter
abbrev Zgw:=@List.getElem?_take
abbrev Zgx:=@Bool.or_eq_true
abbrev Zgy:=@List.ext_getElem?
abbrev Zgz:=@List.getElem?_cons_zero
abbrev Zg0:=@List.length_replicate
abbrev Zg1:=@List.getElem?_drop
abbrev Zg2:=@Nat.eq_of_beq_eq_true
abbrev Zg3:=@List.mem_iff_getElem?
abbrev Zg4:=@List.take_of_length_le
abbrev Zg5:=@List.mem_map
abbrev Zg6:=@Array.length_toList
abbrev Zg7:=@List.eq_nil_of_length_eq_zero
abbrev Zg8:=@Option.getD_some
abbrev Zg9:=@Nat.zero_le
abbrev ZgA:=@List.map_append
abbrev ZgB:=@List.length_singleton
abbrev ZgC:=@List.getD_cons_succ
abbrev ZgD:=@List.foldl_append
abbrev ZgE:=@List.head_eq_of_cons_eq
abbrev ZgF:=@Nat.mul_le_mul_right
abbrev ZgG:=@Bool.and_true
abbrev ZgH:=@List.map_inj_left
abbrev ZgI:=@List.set_append_right
abbrev ZgJ:=@List.mem_of_mem_drop
abbrev ZgK:=@List.drop_of_length_le
abbrev ZgL:=@Array.getElem?_setIfInBounds_ne
abbrev ZgM:=@List.pairwise_iff_getElem
abbrev ZgN:=@List.drop_zero
abbrev ZgO:=@Option.isNone_iff_eq_none
abbrev ZgP:=@Bool.not_false
abbrev ZgQ:=@List.take_append_drop
abbrev ZgR:=@List.length_nil
abbrev ZgS:=@Bool.eq_iff_iff
abbrev ZgT:=@List.mem_filterMap
abbrev ZgU:=@Int.not_lt
abbrev ZgV:=@List.take_length
abbrev ZgW:=@List.getElem?_of_mem
abbrev ZgX:=@Bool.and_self
abbrev ZgY:=@Nat.le_trans
abbrev ZgZ:=@List.flatten_cons
abbrev Zha:=@List.getElem?_set
abbrev Zhb:=@Bool.eq_false_iff
abbrev Zhc:=@beq_iff_eq
abbrev Zhd:=@Bool.false_and
abbrev Zhe:=@Bool.or_eq_false_iff
abbrev Zhf:=@List.pairwise_append
abbrev Zhg:=@List.replicate_succ'
abbrev Zhh:=@List.mem_of_mem_take
abbrev Zhi:=@Bool.not_eq_true'
abbrev Zhj:=@List.getElem?_take_of_lt
abbrev Zhk:=@List.foldl_cons
abbrev Zhl:=@Nat.zero_add
abbrev Zhm:=@Nat.sub_self
abbrev Zhn:=@Bool.or_self
abbrev Zho:=@List.getElem?_replicate
abbrev Zhp:=@List.flatten_append
abbrev Zhq:=@List.length_eq_zero_iff
abbrev Zhr:=@List.getElem?_set_self
abbrev Zhs:=@List.pairwise_cons
abbrev Zht:=@List.set_cons_zero
abbrev Zhu:=@List.mem_replicate
abbrev Zhv:=@List.length_set
abbrev Zhw:=@Array.getElem?_toList
abbrev Zhx:=@List.nil_append
abbrev Zhy:=@List.range_succ
abbrev Zhz:=@List.size_toArray
abbrev Zh0:=@Nat.lt_irrefl
abbrev Zh1:=@List.mem_range'_1
abbrev Zh2:=@List.getElem?_append
abbrev Zh3:=@List.mem_append_left
abbrev Zh4:=@List.mem_or_eq_of_mem_set
abbrev Zh5:=@List.mem_range
abbrev Zh6:=@and_true
abbrev Zh7:=@List.not_mem_nil
abbrev Zh8:=@beq_self_eq_true
abbrev Zh9:=@Nat.add_mul
abbrev ZhA:=@List.replicate_succ
abbrev ZhB:=@List.replicate_zero
abbrev ZhC:=@Option.isSome_iff_exists
abbrev ZhD:=@List.filterMap_cons_some
abbrev ZhE:=@Bool.true_or
abbrev ZhF:=@List.set_eq_take_append_cons_drop
abbrev ZhG:=@List.length_map
abbrev ZhH:=@List.nodup_cons
abbrev ZhI:=@List.length_zip
abbrev ZhJ:=@Bool.or_false
abbrev ZhK:=@Array.all_eq_true_iff_forall_mem
abbrev ZhL:=@Int.natAbs_neg
abbrev ZhM:=@Nat.le_of_ble_eq_true
abbrev ZhN:=@List.getElem?_toArray
abbrev ZhO:=@List.length_filter_le
abbrev ZhP:=@List.range'_succ
abbrev ZhQ:=@List.all_cons
abbrev ZhR:=@Nat.mul_one
abbrev ZhS:=@Option.all_some
abbrev ZhT:=@Int.fdiv_eq_ediv_of_nonneg
abbrev ZhU:=@Nat.lt_or_ge
abbrev ZhV:=@Option.isSome_none
abbrev ZhW:=@List.count_pos_iff
abbrev ZhX:=@List.mapM_cons
abbrev ZhY:=@Nat.mul_le_mul
abbrev ZhZ:=@List.drop_take
abbrev Zia:=@List.nodup_nil
abbrev Zib:=@Array.getElem?_replicate
abbrev Zic:=@List.eq_of_mem_replicate
abbrev Zid:=@List.map_take
abbrev Zie:=@List.isEmpty_iff
abbrev Zif:=@List.mem_reverse
abbrev Zii:=@Nat.succ_mul
abbrev Zij:=@Nat.add_zero
abbrev Zil:=@List.find?_cons
abbrev Zim:=@Nat.min_self
abbrev Zin:=@List.of_mem_zip
abbrev Zio:=@Bool.or_true
abbrev Zip:=@Bool.decide_and
abbrev Ziq:=@List.any_append
abbrev Ziu:=@List.take_left
abbrev Ziv:=@Bool.and_false
abbrev Ziw:=@List.foldl_nil
abbrev Zi3:=@Int.pow_pos
abbrev Zi5:=@true_and
structure Str where
 bytes:List UInt8
deriving DecidableEq,Inhabited
structure Byt where
 n:Int
deriving DecidableEq,Inhabited
abbrev w64(x:Int):Int:=IntKind.i64.wrap x
def len{α:Type}(l:List α):Int:=l.length
def get?{α:Type}(l:List α)(i:Int):Option α:=if 0<=i then l[i.toNat]? else none
def set?{α:Type}(l:List α)(i:Int)(x:α):Option (List α):=if 0<=i/\i.toNat<l.length then some (l.set i.toNat x)else none
def get?_nn{α:Type}{l:List α}{i:Int}{x:α}(h:get? l i=some x):0<=i:=by
 grind[get?]
def get?_at{α:Type}{l:List α}{i:Int}{x:α}(h:get? l i=some x):l[i.toNat]? =some x:=by
 grind[get?]
def band(a b:Int):Int:=w64 (BitVec.ofInt 64 a&&& BitVec.ofInt 64 b).toNat
def bor(a b:Int):Int:=w64 (BitVec.ofInt 64 a|||BitVec.ofInt 64 b).toNat
def bxor(a b:Int):Int:=w64 (BitVec.ofInt 64 a^^^BitVec.ofInt 64 b).toNat
def shl?(a b:Int):Option Int:=if b<0 then none else some (w64 (a*2^min b.toNat 64))
def shr?(a b:Int):Option Int:=if b<0 then none else some (a.fdiv (2^min b.toNat 64))
def Str.eqb(a b:Str):Bool:=(ByteArray.mk a.bytes.toArray).toList==(ByteArray.mk b.bytes.toArray).toList
def Str.ltb(a b:Str):Bool:=Op.bytesLess (ByteArray.mk a.bytes.toArray).toList (ByteArray.mk b.bytes.toArray).toList
def Str.gtb(a b:Str):Bool:=!(Op.bytesLess (ByteArray.mk a.bytes.toArray).toList (ByteArray.mk b.bytes.toArray).toList||Str.eqb a b)
def cat?(a b:Str):Option Str:=if a.bytes.length+b.bytes.length<=9223372036854775807 then some ⟨a.bytes++b.bytes⟩else none
def strOf(l:List Byt):Str:=⟨l.map λb=>UInt8.ofNat b.n.toNat⟩
def sidx?(s:Str)(i:Int):Option Int:=if 0<=i then s.bytes[i.toNat]?.map (λb=>(b.toNat:Int))else none
def shrK?(k:IntKind)(a b:Int):Option Int:=if b<0 then none else some (a.fdiv (2^min b.toNat k.bits))
def quo?(a b:Int):Option Int:=if b=0 then none else some (w64 (a.tdiv b))
def rem?(a b:Int):Option Int:=if b=0 then none else some (a.tmod b)
def imin(a b:Int):Int:=if b<a then b else a
def room:Nat:=4294967296
def mk?{α:Type}(n:Int)(z:α):Option (List α):=if 0<=n/\n.toNat<=room then some (List.replicate n.toNat z)else none
def app?{α:Type}(l m:List α):Option (List α):=if l.length+m.length<=room then some (l++m)else none
def cut?{α:Type}(l:List α)(lo hi:Int):Option (List α):=if 0<=lo/\lo<=hi/\hi<=l.length then some ((l.take hi.toNat).drop lo.toNat)else none
def vcut{α:Type}(l:List α)(lo:Int)(n:Nat):List α:=(l.drop lo.toNat).take n
def vcopy{α:Type}(l:List α)(lo:Int)(n:Nat)(m:List α):List α:=l.take lo.toNat++m.take n++l.drop (lo.toNat+(m.take n).length)
def mget?{κ β:Type}[DecidableEq κ](fit:κ->Bool)(z:β)(m:List (κ×β))(x:κ):Option β:=if fit x=true then some ((m.lookup x).getD z)else none
def mget2?{κ β:Type}[DecidableEq κ](fit:κ->Bool)(z:β)(m:List (κ×β))(x:κ):Option (β×Bool):=if fit x=true then some ((m.lookup x).getD z,(m.lookup x).isSome)else none
def mgeto?{κ β:Type}[DecidableEq κ](fit:κ->Bool)(z:β)(m:Option (List (κ×β)))(x:κ):Option β:=mget? fit z (m.getD []) x
def mputE?{κ β:Type}(fit:κ->Bool)(efit:β->Bool)(m:List (κ×β))(x:κ)(y:β):Option (List (κ×β)):=if fit x=true/\efit y=true/\m.length<=room then some ((x,y)::m)else none
def mput?{κ β:Type}(fit:κ->Bool)(m:List (κ×β))(x:κ)(y:β):Option (List (κ×β)):=if fit x=true/\m.length<=room then some ((x,y)::m)else none
def iterN{σt ρt:Type}(B:σt->Option (σt⊕ρt)):Nat->σt->Option ρt
 |0,_=>none
 |n+1,s=>
  match B s with
  |none=>none
  |some (.inl s')=>iterN B n s'
  |some (.inr r)=>some r
namespace D
structure Gate where
 A:Int
 B:Int
deriving DecidableEq,Inhabited
structure Circuit where
 Inputs:Int
 Gates:List Gate
deriving DecidableEq,Inhabited
structure Ins where
 Op:Int
 A:Int
 B:Int
 C:Int
deriving DecidableEq,Inhabited
structure Program where
 W:Int
 Mem:Int
 In:Int
 Code:List Ins
deriving DecidableEq,Inhabited
structure builder where
 c:Circuit
 line:List (Gate×Int)
 full:Bool
deriving DecidableEq,Inhabited
structure Formula where
 Vars:Int
 Clauses:List (List Int)
deriving DecidableEq,Inhabited
structure l04Net where
 c:Circuit
 full:Bool
deriving DecidableEq,Inhabited
structure Term where
 Op:Int
 W:Int
 N:Int
 Name:Str
 Kids:List Term
deriving Inhabited
structure Value where
 Name:Str
 W:Int
 N:Int
deriving DecidableEq,Inhabited
structure termCheck where
 count:Int
 widths:Option (List (Str×Int))
deriving DecidableEq,Inhabited
structure Path where
 Pc:Int
 Regs:List Term
 Mem:List Term
 Stack:List Int
 In:Int
 Out:List Term
 Code:Int
 Steps:Int
 Cond:List Term
 Turns:List Int
deriving Inhabited
end D
def fitInt(n:Int):Prop:=-9223372036854775808<=n/\n<=9223372036854775807
def fitList{α:Type}(fit:α->Prop)(l:List α):Prop:=l.length<=9223372036854775807/\∀x∈l,fit x
def Qp(x:D.Gate):Prop:=fitInt x.A/\fitInt x.B
def fitZ(x:Int):Bool:=(Lit.int .i64 x).wf
def fitS(s:Str):Bool:=decide (s.bytes.length<=9223372036854775807)
def Yz(x:D.Gate):Bool:=fitZ x.A&&fitZ x.B
def TN(x:D.Circuit):Prop:=fitInt x.Inputs/\fitList Qp x.Gates
def Zaa(x:D.Ins):Prop:=fitInt x.Op/\fitInt x.A/\fitInt x.B/\fitInt x.C
def PT(x:D.Program):Prop:=fitInt x.W/\fitInt x.Mem/\fitInt x.In/\fitList Zaa x.Code
def vtab:List (Str×Int)->List D.Value
 |[]=>[]
 |(s,w)::m=>(vtab m).filter (λv=>Str.ltb v.Name s)++[⟨s,w,0⟩]++(vtab m).filter (λv=>Str.ltb s v.Name)
end Go.GL
end
section
namespace Go.GL
open Go.RowKit
structure Chg(S:Nat->Prop)(w w':World):Prop where
 os:w'.os=w.os
 tape:w'.tape=w.tape
 output:w'.output=w.output
 size:w.heap.size<=w'.heap.size
 block:∀k,k<w.heap.size->¬S k->w'.heap[k]? =w.heap[k]?
def Non:Nat->Prop:=λ_=>False
theorem Chg.refl(S:Nat->Prop)(w:World):Chg S w w:=⟨rfl,rfl,rfl,ZfP _,λ_ _ _=>rfl⟩
def Chg.trans{S:Nat->Prop}{a b c:World}(h:Chg S a b)(k:Chg S b c):Chg S a c:=
  ⟨k.os.trans h.os,k.tape.trans h.tape,k.output.trans h.output,ZgY h.size k.size,λi hi hs=>(k.block i (ZfQ hi h.size) hs).trans (h.block i hi hs)⟩
def Chg.mono{S S':Nat->Prop}{w w':World}(h:Chg S w w')(hs:∀k,S k->S' k):Chg S' w w':=
 ⟨h.os,h.tape,h.output,h.size,λk hk hn=>h.block k hk λhx=>hn (hs k hx)⟩
def Chg.of{S:Nat->Prop}{w w':World}(h:Chg Non w w'):Chg S w w':=h.mono λ_ hx=>hx.elim
def Chg.trans'{S S':Nat->Prop}{a b c:World}(h:Chg S a b)(k:Chg S' b c)(hs:∀x,S' x->S x\/a.heap.size<=x):Chg S a c:=
  ⟨k.os.trans h.os,k.tape.trans h.tape,k.output.trans h.output,ZgY h.size k.size,λi hi hn=>(k.block i (ZfQ hi h.size) λhx=>(hs i hx).elim hn O).trans (h.block i hi hn)⟩
def Chg.drew{S:Nat->Prop}(w:World):Chg S w w.drew:=⟨rfl,rfl,rfl,ZfP _,λ_ _ _=>rfl⟩
def Chg.alloc{S:Nat->Prop}(w:World)(o:Obj):Chg S w (w.alloc o):=
 ⟨rfl,rfl,rfl,by simp,λk hk _=>Below.heap_alloc w o k hk⟩
def Chg.setCell{S:Nat->Prop}(w:World)(a:Addr)(v:Value)(h:S a.block):Chg S w (w.setCell a v):=
 ⟨rfl,rfl,rfl,by simp,λk _ hn=>heap_setCell_other w a k v λe=>hn (e▸h)⟩
def wr(ops:Array Oper)(t:Tmp)(i:Nat):Bool:=(ops[i]?.bind (·.dst))==some t
def lastW(ops:Array Oper)(t:Tmp):Nat->Option Nat
 |0=>none
 |n+1=>if wr ops t n then some n else lastW ops t n
def maskOf(acc:List Nat)(o:Oper):Nat:=
 o.after.toList.foldl (λs e=>if Region.binds .any e then s|||(2^e.on|||acc.getD e.on 0)else s) 0
def masksN(ops:Array Oper):Nat->List Nat
 |0=>[]
 |n+1=>masksN ops n++[maskOf (masksN ops n) (ops.getD n default)]
section
variable{P:Program}{draw:Bool}{ms:List Nat}{ops:Array Oper}{eff:List Nat}{T:Nat->Value->World->Prop}{Φ:Nat->World->Prop}{S:Nat->Prop}
  {a0:Act}{w0:World}{Q:Exit->Act->World->Prop}
def Act.eval_put_eq(a:Act)(d:Tmp)(v:Value)(h:d<a.tmps.size):(a.put (some d) v).eval (.tmp d)=v:=by
 simp_all[Act.put,Act.eval,ZfM]
theorem Act.eval_put_ne(a:Act)(d:Option Tmp)(t:Tmp)(v:Value)(h:d≠some t):(a.put d v).eval (.tmp t)=a.eval (.tmp t):=by
 cases d with
 |none=>rfl
 |some d=>
  simp_all[Act.put,Act.eval,ZfM]
def Act.size_put(a:Act)(d:Option Tmp)(v:Value):(a.put d v).tmps.size=a.tmps.size:=by cases d<;>simp[Act.put]
def Closed(ops:Array Oper)(L:Array Bool):Prop:=
 ∀j o,L.getD j false=true->ops[j]? =some o->∀e∈o.after.toList,Region.binds .any e=true->L.getD e.on false=true
theorem foldMask(acc:List Nat)(i:Nat):∀(l:List Edge)(s:Nat),(l.foldl (λs e=>if Region.binds .any e then s|||(2^e.on|||acc.getD e.on 0)else s) s).testBit i=true->
  s.testBit i=true\/∃e∈l,Region.binds .any e=true/\(e.on=i\/(acc.getD e.on 0).testBit i=true)
 |[],s,h=>.inl h
 |e::l,s,h=>by
  rcases foldMask acc i l _ h with h1|⟨x,hx,hb,hi⟩
  all_goals grind
theorem TA(ops:Array Oper):∀n,(masksN ops n).length=n
 |0=>rfl
 |n+1=>by simp[masksN,TA ops n]
theorem Rn(ops:Array Oper):∀n j,j<n->(masksN ops n).getD j 0=maskOf (masksN ops j) (ops.getD j default)
 |0,j,h=>by omega
 | n+1,j,h=>by
  show(masksN ops n++[maskOf (masksN ops n) (ops.getD n default)]).getD j 0=_;by_cases e:j=n
  ·simp_all[Zgj,Zgo,TA]
  ·rw[Zgj,Zgs (by grind[TA]),<-Zgj];exact Rn ops n j O
theorem LV(L:Array Bool)(hc:Closed ops L)(i:Nat):∀j,j<ops.size->(maskOf (masksN ops j) (ops.getD j default)).testBit i=true->
  (∀e∈(ops.getD j default).after.toList,Region.binds .any e=true->L.getD e.on false=true)->L.getD i false=true:=by
 intro j
 induction j using Nat.strongRecOn with
 | _ j ih=>
  intro hj hbit hafter;rcases foldMask _ i _ _ hbit with h|⟨e,he,hb,hi⟩
  ·simp at h
  ·have hle:=hafter e he hb;rcases hi with rfl|hi
   ·exact hle
   ·by_cases hlt:e.on<j
    ·rw[Rn ops j e.on hlt]at hi;refine ih e.on hlt O hi λe' he' hb'=>?_;have:ops[e.on]? =some (ops.getD e.on default):=by
      simp[ZfM,(by omega:e.on<ops.size)]
     exact hc e.on _ hle this e' he' hb'
    simp_all[Zgj,Zgd,TA]
end
structure FrS(N:Nat)(σ:List (Nat×Value))(a:Act):Prop where
 defers:a.defers=[]
 size:a.tmps.size=N
 get:∀t v,σ.lookup t=some v->a.eval (.tmp t)=v
def FrS.put{N:Nat}{σ:List (Nat×Value)}{a:Act}(h:FrS N σ a){d:Nat}(hd:d<N)(v:Value):FrS N ((d,v)::σ) (a.put (some d) v):=by
 refine⟨by exact h.defers,by rw[Act.size_put];exact h.size,λt u hu=>?_⟩;rw[ZfZ]at hu;by_cases e:t=d
 ·subst e;simp at hu;rw[Act.eval_put_eq _ _ _ (by rw[h.size];exact hd)];exact hu
 ·have:(t==d)=false:=by simpa using e
  rw[this]at hu;rw[Act.eval_put_ne _ _ _ _ al];exact h.get t u hu
def FrS.cons{N:Nat}{σ:List (Nat×Value)}{a:Act}(h:FrS N σ a){t:Nat}{v:Value}(hv:a.eval (.tmp t)=v):FrS N ((t,v)::σ) a:=by
 refine⟨h.defers,h.size,λt' u hu=>?_⟩;rw[ZfZ]at hu;by_cases e:t'=t
 ·simp_all
 ·have:(t'==t)=false:=by simpa using e
  rw[this]at hu;exact h.get t' u hu
theorem Ie{t:Nat}{v:Value}:∀{σ:List (Nat×Value)},σ.lookup t=some v->(t,v)∈σ
 | (t',u)::σ,h=>by
  rw[ZfZ]at h;by_cases e:t=t'
  ·simp_all
  ·have:(t==t')=false:=by simpa using e
   rw[this]at h;exact ZfT _ (Ie h)
 |[],h=>by cases h
def FrS.sub{N:Nat}{σ:List (Nat×Value)}{a:Act}(h:FrS N σ a)(σ':List (Nat×Value))(hs:σ'.map (λp=>σ.lookup p.1)=σ'.map λp=>some p.2):FrS N σ' a:=by
 refine⟨h.defers,h.size,λt v hv=>?_⟩;have hm:=Ie hv;have:=ZgH.1 hs _ hm;exact h.get t v this
def opd(σ:List (Nat×Value)):Operand->Option Value
 |.tmp t=>σ.lookup t
 |.const v=>some v
 |.global g=>some (.pointer (some ⟨g,0,none⟩))
 |.func f=>some (.func (.func f) #[] #[])
theorem Zd{N:Nat}{σ:List (Nat×Value)}{a:Act}(h:FrS N σ a){x:Operand}{v:Value}(hx:opd σ x=some v):a.eval x=v:=by
 cases x with
 |tmp t=>exact h.get t v hx
 |const u=>simp_all[opd,Act.eval]
 |global g=>simp_all[opd,Act.eval]
 |func f=>simp_all[opd,Act.eval]
def binI(op:BinOp)(k:IntKind)(a b:Int):Option Value:=
 match op with
 |.add=>some (.int k (k.wrap (a+b)))
 |.sub=>some (.int k (k.wrap (a-b)))
 |.mul=>some (.int k (k.wrap (a*b)))
 |.and=>some (.int k (k.wrap (BitVec.ofInt k.bits a&&& BitVec.ofInt k.bits b).toNat))
 |.or=>some (.int k (k.wrap (BitVec.ofInt k.bits a|||BitVec.ofInt k.bits b).toNat))
 |.xor=>some (.int k (k.wrap (BitVec.ofInt k.bits a^^^BitVec.ofInt k.bits b).toNat))
 |.eql=>some (.bool (a==b))
 |.neq=>some (.bool (a !=b))
 |.lss=>some (.bool (decide (a<b)))
 |.leq=>some (.bool (decide (a<=b)))
 |.gtr=>some (.bool (decide (a>b)))
 |.geq=>some (.bool (decide (a>=b)))
 |_=>none
def binS(op:BinOp)(a b:ByteArray):Option Value:=
 match op with
 |.eql=>some (.bool (a.toList==b.toList))
 |.neq=>some (.bool (!(a.toList==b.toList)))
 |.lss=>some (.bool (Op.bytesLess a.toList b.toList))
 |.leq=>some (.bool (Op.bytesLess a.toList b.toList||a.toList==b.toList))
 |.gtr=>some (.bool (!(Op.bytesLess a.toList b.toList||a.toList==b.toList)))
 |.geq=>some (.bool (!Op.bytesLess a.toList b.toList))
 |_=>none
def binB(op:BinOp)(a b:Bool):Option Value:=
 match op with
 |.eql=>some (.bool (a==b))
 |.neq=>some (.bool (!(a==b)))
 |_=>none
def fieldOff(P:Program)(s:TypeId)(f:Nat):Option Nat:=
 match P.underlying s with
 | some (.struct fs)=>
  match fs[f]? with
  |some x=>
   match P.info? x.type with
   |some i=>if i.size=0 then none else some x.offset
   |none=>none
  |none=>none
 |_=>none
def pe(P:Program)(ρ:Operand->Option Value)(o:Op):Option Value:=
 match o with
 |.move x|.assign x=>ρ x
 |.binOp op t x y _=>
  match ρ x,ρ y with
  |some (.int k a),some (.int k' b)=>if k=k'/\op≠ .shl/\op≠ .shr then binI op k a b else none
  |some (.string a),some (.string b)=>binS op a b
  |some (.bool a),some (.bool b)=>match P.underlying t with|some .bool=>binB op a b|_=>none
  |_,_=>none
 |.unOp op _ x=>
  match op,ρ x with
  |.not,some (.bool b)=>some (.bool (!b))
  |.neg,some (.int k n)=>some (.int k (k.wrap (0-n)))
  |_,_=>none
 |.fieldAddr s x f=>
  match ρ x,fieldOff P s f with
  |some (.pointer (some a)),some n=>some (.pointer (some (a.add n)))
  |_,_=>none
 | .call {callee:=.builtin .min,args:=xs,argTypes:=_}=>
  match xs.toList with
  |[x,y]=>
   match ρ x,ρ y with
   |some (.int k a),some (.int _ b)=>some (.int k (if b<a then b else a))
   |_,_=>none
  |_=>none
 | .call {callee:=.builtin .max,args:=xs,argTypes:=_}=>
  match xs.toList with
  |[x,y]=>
   match ρ x,ρ y with
   |some (.int k a),some (.int _ b)=>some (.int k (if b>a then b else a))
   |_,_=>none
  |_=>none
 | .call {callee:=.builtin .len,args:=xs,argTypes:=ts}=>
  match xs.toList,ts.toList with
  |[x],[t]=>
   match P.underlying t,ρ x with
   |some (.slice _),some (.slice _ n _)=>some (.int .i64 n)
   |some .string,some (.string s)=>some (.int .i64 s.size)
   |_,_=>none
  |_,_=>none
 |.extract x i=>
  match ρ x with
  |some (.tuple vs)=>vs[i]?
  |_=>none
 |.convert s d x=>
  match P.underlying s,P.underlying d,ρ x with
  |some _,some (.int k),some (.int _ n)=>some (.int k (k.wrap n))
  |_,_,_=>none
 |.build t parts=>
  match parts.toList.mapM (λp=>(ρ p.2).map λv=>(p.1,v))with
  |some vs=>(P.built t vs).map .agg
  |none=>none
 |.nilCheck x=>
  match ρ x with
  |some (.pointer (some a))=>some (.pointer (some a))
  |_=>none
 |.makeFunc (.func f) first captured=>
  match first.toList,captured.toList.mapM ρ with
  |[],some vs=>some (.func (.func f) #[] vs.toArray)
  |_,_=>none
 |_=>none
section
variable{P:Program}
theorem Zb0{op:BinOp}{k:IntKind}{a b:Int}{v:Value}(h:binI op k a b=some v)(h1:op≠ .shl)(h2:op≠ .shr)(t:TypeId)(w:World):(binOp op t (.int k a) (.int k b)).run P w= .ok v w:=by
 cases op<;>simp only[binI,Option.some.injEq,reduceCtorEq]at h<;>first
  |simp_all[binOp,Op.intArith,Op.intBits,Op.intCmp]
  |(exact absurd rfl h1)
  |(exact absurd rfl h2)
def Zcd{op:BinOp}{a b:ByteArray}{v:Value}(h:binS op a b=some v)(t:TypeId)(w:World):(binOp op t (.string a) (.string b)).run P w= .ok v w:=by
 cases op<;>simp only[binS,Option.some.injEq,reduceCtorEq]at h<;>(simp_all[binOp,Op.stringOp])
def Zdg{op:BinOp}{a b:Bool}{v:Value}{t:TypeId}(h:binB op a b=some v)(ht:P.underlying t=some .bool)(w:World):(binOp op t (.bool a) (.bool b)).run P w= .ok v w:=by
 cases op<;>simp only[binB,Option.some.injEq,reduceCtorEq]at h
 all_goals simp_all[run_eql_bool,run_neq_bool]
theorem MN{ρ:Operand->Option Value}{ρ':Operand->Value}(hρ:∀x v,ρ x=some v->ρ' x=v){o:Oper}{v:Value}(h:pe P ρ o.op=some v)(w:World):
  (execOp ρ' o).run P w= .ok (.value v) w:=by
 obtain⟨dst,op,type,pos,after,guard⟩:=o;simp only at h;unfold pe at h;split at h
 ·simp_all[execOp]
 ·simp_all[execOp]
 ·rename_i op t x y _;split at h
  ·rename_i k a k' b hx hy;split at h
   ·rename_i hk;obtain⟨rfl,h1,h2⟩:=hk;simp_all[execOp,Zb0,eqGuard]
   ·cases h
  ·simp_all[execOp,Zcd,eqGuard]
  ·rename_i a b hx hy;split at h
   all_goals simp_all[execOp,Zdg,eqGuard]
  ·cases h
 ·rename_i op t x;split at h
  all_goals simp_all[Option.some.injEq,execOp,Op.unary,Op.intArith]
 ·rename_i s x f;split at h
  ·rename_i a n hx hf;simp only[Option.some.injEq]at h;subst h;unfold fieldOff at hf;split at hf
   ·rename_i fs hs;split at hf
    ·rename_i fld hfl;split at hf
     all_goals simp_all[Option.some.injEq,execOp,Instr.fieldAt,run_underlying,Instr.sureAddr,fieldPlace,sizeOf,typeInfo]
    ·cases hf
   ·cases hf
  ·cases h
 ·rename_i xs ts;split at h
  ·rename_i x y hxs;obtain rfl:xs= #[x,y]:=by grind
   split at h
   ·rename_i k a k' b hx hy;simp only[Option.some.injEq]at h;subst h;simp[execOp,resolve,invoke,builtin,hρ _ _ hx,hρ _ _ hy,run_min_int2]
   ·cases h
  ·cases h
 ·rename_i xs ts;split at h
  ·rename_i x y hxs;obtain rfl:xs= #[x,y]:=by cases xs;simp_all
   split at h
   ·rename_i k a k' b hx hy;simp only[Option.some.injEq]at h;subst h;simp[execOp,resolve,invoke,builtin,hρ _ _ hx,hρ _ _ hy,run_max_int2]
   ·cases h
  ·cases h
 ·rename_i xs ts;split at h
  ·rename_i x t hxs hts;obtain rfl:xs= #[x]:=by cases xs;simp_all
   obtain rfl:ts= #[t]:=by cases ts;simp_all
   split at h
   ·rename_i e a n c ht hx;simp only[Option.some.injEq]at h;subst h;simp[execOp,resolve,invoke,builtin,Builtin.len_,run_underlying ht,hρ _ _ hx,goInt]
   ·rename_i s ht hx;simp only[Option.some.injEq]at h;subst h;simp[execOp,resolve,invoke,builtin,Builtin.len_,run_underlying ht,hρ _ _ hx,goInt]
   ·cases h
  ·cases h
 ·rename_i x i;split at h
  ·rename_i vs hx;simp only[execOp];rw[hρ _ _ hx];simp[Instr.extract,h]
  ·cases h
 ·rename_i s d x;split at h
  ·rename_i sd k k' n hs hd hx;simp only[Option.some.injEq]at h;subst h;simp only[execOp];rw[hρ _ _ hx];simp[convert,run_underlying hs,run_underlying hd,Conv.intToInt]
  ·cases h
 ·rename_i t parts;split at h
  ·rename_i vs hvs;cases hb:P.built t vs with
   |none=>rw[hb]at h;cases h
   | some cells=>
    rw[hb]at h;simp only[Zgh,Option.some.injEq]at h;subst h;have e:(parts.map λp=>(p.1,ρ' p.2)).toList=vs:=by
     have key:∀(ps:List (Nat×Operand))(vs:List (Nat×Value)),ps.mapM (λp=>(ρ p.2).map λv=>(p.1,v))=some vs->ps.map (λp=>(p.1,ρ' p.2))=vs:=by
      intro ps
      induction ps with
      |nil=>intro vs h;simpa using h
      |cons p ps ih=>
       intro vs h;simp only[ZhX,Option.bind_eq_bind,Zgf,Option.map_eq_some_iff,Option.pure_def,Option.some.injEq]at h;obtain⟨q,⟨v,hv,rfl⟩,rs,hrs,rfl⟩:=h;rw[Zgu,ih rs hrs,hρ _ _ hv]
     have:=key parts.toList vs hvs;cases parts;simpa using this
    have:=run_build (P:=P) w t (parts.map λp=>(p.1,ρ' p.2)) cells (by rw[e];exact hb);simp only[execOp];simpa using congrArg (λr=>r.andThen λv w=>Result.ok (Next.value v) w) this
  ·cases h
 ·rename_i x;split at h
  ·rename_i a hx;simp only[Option.some.injEq]at h;subst h;simp[execOp,hρ _ _ hx]
  ·cases h
 ·rename_i f first captured
  split at h
  ·rename_i vs hf hvs;simp only[Option.some.injEq]at h;subst h;obtain rfl:first= #[]:=by cases first;simp_all
   have key:∀(ps:List Operand)(vs:List Value),ps.mapM ρ=some vs->ps.map ρ'=vs:=by
    intro ps
    induction ps with
    |nil=>intro vs h;simpa using h
    |cons p ps ih=>
     intro vs h;simp only[ZhX,Option.bind_eq_bind,Zgf,Option.pure_def,Option.some.injEq]at h;obtain⟨v,hv,rs,hrs,rfl⟩:=h;rw[Zgu,ih rs hrs,hρ _ _ hv]
   have:=key captured.toList vs hvs;have e:captured.map ρ'=vs.toArray:=by rw[<-this];cases captured;simp
   simp[execOp,Instr.makeFunc,e]
  ·cases h
 ·cases h
end
def guardOf(ops:Array Oper)(j:Nat):Option (Nat×Bool):=ops[j]?.bind (·.guard)
def okG(ops:Array Oper):Nat->Nat->Nat->Bool
 |0,_,i=>(guardOf ops i).isNone
 |n+1,j,i=>(guardOf ops i).isNone||guardOf ops i==guardOf ops j||i==j||
  match guardOf ops j with
  |some (g,_)=>okG ops n g i
  |none=>false
def pickV(x:Bool)(u v:Value):Value:=
 match u,v with
 |.bool p,.bool q=>.bool (cond x p q)
 |u,v=>cond x u v
def Zcr(x:Bool)(u v:Value):pickV x u v=if x then u else v:=by
 unfold pickV;grind
section
variable{P:Program}{draw:Bool}{ms:List Nat}{ops:Array Oper}{eff:List Nat}{Φ:Nat->World->Prop}{S:Nat->Prop}
  {a0:Act}{w0:World}{Q:Exit->Act->World->Prop}{σ:List (Nat×Value)}{N:Nat}
theorem EF{t:Tmp}:∀{n i:Nat},lastW ops t n=some i->i<n/\wr ops t i=true
 |0,i,h=>by cases h
 | n+1,i,h=>by
  unfold lastW at h;split at h
  ·simp_all
  ·have:=EF h;grind
end
theorem add_add(a:Addr)(i j:Nat):(a.add i).add j=a.add (i+j):=by
 grind[Addr.add,Nat.add_assoc]
theorem add_block(a:Addr)(n:Nat):(a.add n).block=a.block:=by grind[Addr.add]
def ZaW{w w':World}{a:Addr}{v:Value}(h:w.cell? a=some v)(hk:w'.heap[a.block]? =w.heap[a.block]?):w'.cell? a=some v:=
 (World.cell?_of_block hk).trans h
class Rep(α:Type)where
 sz:Nat
 agg:Bool
 ok:World->(Nat->Prop)->List Value->α->Prop
 len:∀{w F cs x},ok w F cs x->cs.length=sz
 one:∀{w F cs x},ok w F cs x->∀u∈cs,u.oneCell'=true
 pos:0<sz
 sgl:agg=false->sz=1
 keep:∀{w w':World}{F F':Nat->Prop}{cs x},ok w F cs x->(∀k,k<w.heap.size->F k->w'.heap[k]? =w.heap[k]? /\F' k)->ok w' F' cs x
def Rep.val(α:Type)[Rep α](cs:List Value):Value:=if Rep.agg α then .agg cs.toArray else cs.headD undef
def RV{α:Type}[Rep α](w:World)(F:Nat->Prop)(v:Value)(x:α):Prop:=∃cs,Rep.ok w F cs x/\v=Rep.val α cs
section
variable{α:Type}[Rep α]
def RV.keep{w w':World}{F F':Nat->Prop}{v:Value}{x:α}(h:RV w F v x)(hk:∀k,k<w.heap.size->F k->w'.heap[k]? =w.heap[k]? /\F' k):RV w' F' v x:=by
 obtain⟨cs,h1,h2⟩:=h;exact⟨cs,Rep.keep h1 hk,h2⟩
def RV.chg{S:Nat->Prop}{w w':World}{F:Nat->Prop}{v:Value}{x:α}(h:RV w F v x)(hc:Chg S w w')(hs:∀k,F k->¬S k):RV w' F v x:=
 h.keep λk hk hf=>⟨hc.block k hk (hs k hf),hf⟩
def RV.sub{w:World}{F F':Nat->Prop}{v:Value}{x:α}(h:RV w F v x)(hs:∀k,k<w.heap.size->F k->F' k):RV w F' v x:=
 h.keep λk hk hf=>⟨rfl,hs k hk hf⟩
def Cells(w:World)(ad:Addr)(cs:List Value):Prop:=∀j u,cs[j]? =some u->w.cell? (ad.add j)=some u
def Cells.keep{w w':World}{ad:Addr}{cs:List Value}(h:Cells w ad cs)(hk:cs≠[]->w'.heap[ad.block]? =w.heap[ad.block]?):Cells w' ad cs:=λj u hu=>
 ZaW (h j u hu) (by grind[add_block])
theorem Cells.lt{w:World}{ad:Addr}{cs:List Value}(h:Cells w ad cs)(hn:cs≠[]):ad.block<w.heap.size:=by
 cases cs with
 |nil=>simp_all
 |cons u cs=>
  have:=World.block_lt_of_cell? w _ (h 0 u rfl);simp_all[add_block]
def elems(w:World)(F:Nat->Prop)(ad:Addr):Nat->List α->Prop
 |_,[]=>True
 |i,x::xs=>(∃cs,Rep.ok w F cs x/\Cells w (ad.add (i*Rep.sz α)) cs)/\elems w F ad (i+1) xs
theorem Ui{w:World}{F:Nat->Prop}{ad:Addr}:∀{l:List α}{n i:Nat}{x:α},elems w F ad n l->l[i]? =some x->∃cs,Rep.ok w F cs x/\Cells w (ad.add ((n+i)*Rep.sz α)) cs
 |y::l,n,0,x,h,hx=>by
  simp at hx;subst hx;exact h.1
 |y::l,n,i+1,x,h,hx=>by
  have:=Ui (l:=l) (n:=n+1) (i:=i) h.2 (by simpa using hx);grind
theorem Mh{w:World}{F:Nat->Prop}{ad:Addr}:∀{l:List α}{n:Nat},(∀i x,l[i]? =some x->∃cs,Rep.ok w F cs x/\Cells w (ad.add ((n+i)*Rep.sz α)) cs)->elems w F ad n l
 |[],_,_=>trivial
 | y::l,n,h=>⟨by simpa using h 0 y rfl,Mh λi x hx=>by
   have:=h (i+1) x ah
   grind⟩
def ZeG{w:World}{F:Nat->Prop}{cs:List Value}{x:α}(h:Rep.ok w F cs x):cs≠[]:=by
 have:=Rep.len h;grind[Rep.pos]
theorem Dm{w:World}{F:Nat->Prop}{ad:Addr}{l:List α}{n:Nat}(h:elems w F ad n l)(hl:l≠[]):ad.block<w.heap.size:=by
 cases l with
 |nil=>simp_all
 |cons x l=>
  obtain⟨cs,h1,h2⟩:=h.1;have:=h2.lt (ZeG h1);simp_all[add_block]
theorem Nr{w w':World}{F F':Nat->Prop}{ad:Addr}(hk:∀k,k<w.heap.size->F k->w'.heap[k]? =w.heap[k]? /\F' k)(hF:F ad.block):∀{l:List α}{n:Nat},elems w F ad n l->elems w' F' ad n l
 |[],_,_=>trivial
 | x::l,n,h=>by
  obtain⟨⟨cs,h1,h2⟩,h3⟩:=h;have hlt:ad.block<w.heap.size:=by
   have:=h2.lt (ZeG h1);simp_all[add_block]
  exact⟨⟨cs,Rep.keep h1 hk,h2.keep λ_=>by simp_all[add_block]⟩,Nr hk hF h3⟩
end
instance:Rep Int where
 sz:=1
 agg:=false
 ok:=λ_ _ cs n=>cs=[.int .i64 n]
 len:=by simp
 one:=by rintro w F cs x rfl u hu;simp at hu;subst hu;rfl
 pos:=by decide
 sgl:=λ_=>rfl
 keep:=λh _=>h
instance:Rep Byt where
 sz:=1
 agg:=false
 ok:=λ_ _ cs x=>cs=[.int .u8 x.n]
 len:=by simp
 one:=by rintro w F cs x rfl u hu;simp at hu;subst hu;rfl
 pos:=by decide
 sgl:=λ_=>rfl
 keep:=λh _=>h
instance:Rep Bool where
 sz:=1
 agg:=false
 ok:=λ_ _ cs n=>cs=[.bool n]
 len:=by simp_all
 one:=by rintro w F cs x rfl u hu;simp at hu;subst hu;rfl
 pos:=by decide
 sgl:=λ_=>rfl
 keep:=λh _=>h
def Str.val(s:Str):Value:=.string ⟨s.bytes.toArray⟩
instance:Rep Str where
 sz:=1
 agg:=false
 ok:=λ_ _ cs s=>cs=[s.val]
 len:=by simp
 one:=by rintro w F cs x rfl u hu;simp at hu;subst hu;rfl
 pos:=by decide
 sgl:=λ_=>rfl
 keep:=λh _=>h
instance{α:Type}[Rep α]:Rep (List α)where
 sz:=1
 agg:=false
 ok:=λw F cs l=>∃a cap,cs=[.slice a l.length cap]/\l.length<=cap/\cap<=maxLen/\(l≠[]->∃ad,a=some ad/\F ad.block/\elems w F ad 0 l)
 len:=by simp_all
 one:=by rintro w F cs x ⟨a,cap,rfl,_⟩ u hu;simp at hu;subst hu;rfl
 pos:=by decide
 sgl:=λ_=>rfl
 keep:=by
  rintro w w' F F' cs l ⟨a,cap,rfl,h1,h2,h3⟩ hk;refine⟨a,cap,rfl,h1,h2,λhl=>?_⟩;obtain⟨ad,rfl,hF,he⟩:=h3 hl;exact⟨ad,rfl,(hk _ (Dm he hl) hF).2,Nr hk hF he⟩
section
variable{α:Type}[Rep α]
def RV.slice{w:World}{F:Nat->Prop}{v:Value}{l:List α}(h:RV w F v l):
  ∃a cap,v= .slice a l.length cap/\l.length<=cap/\cap<=maxLen/\(l≠[]->∃ad,a=some ad/\F ad.block/\elems w F ad 0 l):=by
 obtain⟨cs,⟨a,cap,rfl,h⟩,rfl⟩:=h;exact⟨a,cap,rfl,h⟩
def RV.mk_slice{w:World}{F:Nat->Prop}{a:Option Addr}{cap:Nat}{l:List α}(h1:l.length<=cap)(h2:cap<=maxLen)(h3:l≠[]->∃ad,a=some ad/\F ad.block/\elems w F ad 0 l):
  RV w F (.slice a l.length cap) l:=⟨[.slice a l.length cap],⟨a,cap,rfl,h1,h2,h3⟩,rfl⟩
def RV.nil{w:World}{F:Nat->Prop}:RV w F (.slice none 0 0) ([]:List α):=RV.mk_slice (ZfP _) U (λh=>absurd rfl h)
theorem RV.one{w:World}{F:Nat->Prop}{v:Value}{x:α}(ha:Rep.agg α=false)(h:RV w F v x):Rep.ok w F [v] x:=by
 obtain⟨cs,h1,rfl⟩:=h;have hl:=Rep.len h1;rw[Rep.sgl ha]at hl
 match cs,hl with
 |[c],_=>simp_all[Rep.val]
def RV.of_one{w:World}{F:Nat->Prop}{v:Value}{x:α}(ha:Rep.agg α=false)(h:Rep.ok w F [v] x):RV w F v x:=⟨[v],h,by simp_all[Rep.val]⟩
end
structure Ty(P:Program)(t:TypeId)(α:Type)[Rep α]:Prop where
 size:(P.info? t).map (·.size)=some (Rep.sz α)
 agg:(match P.underlying t with|some (.struct _)=>true|some (.array _ _)=>true|some _=>false|none=>!(Rep.agg α))=Rep.agg α
theorem Ty.isAgg{P:Program}{t:TypeId}{α:Type}[Rep α](h:Ty P t α)(w:World):(isAgg t).run P w= .ok (Rep.agg α) w:=by
 have h1:=h.agg;unfold Go.isAgg;cases hu:P.underlying t with
 |none=>simp_all
 |some d=>
  rw[hu]at h1;rw[<-h1];cases d<;>simp[run_underlying hu]
theorem Ty.sizeOf{P:Program}{t:TypeId}{α:Type}[Rep α](h:Ty P t α)(w:World):(sizeOf t).run P w= .ok (Rep.sz α) w:=by
 have h1:=h.size;cases hi:P.info? t with
 |none=>simp_all
 |some i=>
  simp_all[Zgh,Option.some.injEq,Go.sizeOf,typeInfo]
theorem YO{P:Program}{t:TypeId}{α:Type}[Rep α](h:Ty P t α){w:World}{ad:Addr}{cs:List Value}(hl:cs.length=Rep.sz α)(hc:Cells w ad cs):
  (loadVar t ad).run P w= .ok (Rep.val α cs) w:=by
 unfold loadVar Rep.val;simp only[Sem.run_bind,h.isAgg,Result.andThen_ok];cases hh:Rep.agg α with
 |true=>
  simp only[ZfR,Sem.run_bind,h.sizeOf,Result.andThen_ok,Sem.run_pure];have:=run_loadCells_list (P:=P) (w:=w) ad cs hc;simp_all
 | false=>
  rw[Rep.sgl hh]at hl
  match cs,hl with
  |[c],_=>
   have:=hc 0 c rfl;simp_all[Addr.add]
def Does(P:Program)(o:Oper)(a:Act)(w:World)(R:Value->World->Prop):Prop:=
 ∀(K:Act->World->Prop)(Q:Exit->Act->World->Prop),(∀v w',R v w'->K (a.put o.dst v) w')->o.wp P a w K Q
section
variable{P:Program}{o:Oper}{a:Act}{w:World}{R R':Value->World->Prop}
def Zh{v:Value}{w':World}(h:(execOp a.eval o).run P w= .ok (.value v) w')(hr:R v w'):Does P o a w R:=by
 intro K Q hK;unfold Oper.wp;rw[h];exact hK v w' hr
def Tn{w':World}(h:(execOp a.eval o).run P w= .ok .skip w')(hr:R undef w'):Does P o a w R:=by
 intro K Q hK;unfold Oper.wp;rw[h];exact hK undef w' hr
def Zbc{f:FuncId}{xs:Array Operand}{ts:Array TypeId}(ho:o.op= .call {callee:=.value (.func f),args:=xs,argTypes:=ts})
  (hf:∀(args:Array Value)(w:World),(callFunc f args).run P w= .ok (.enter f args) w){args:Array Value}(ha:xs.map a.eval=args)
  (h:Calls P f args w λe w'=>∃v,e= .returned v/\R v w'):Does P o a w R:=by
 intro K Q hK;obtain⟨dst,op,type,pos,after,guard⟩:=o;subst ho;have hrun:(execOp a.eval {dst,op:=.call {callee:=.value (.func f),args:=xs,argTypes:=ts},type,pos,after,guard}).run P w= .ok (.enter f args) w:=by
  simp_all[execOp,resolve,Deferred.ofValue,Act.eval,Sem.run_bind,Sem.run_pure,Result.andThen_ok,invoke]
 unfold Oper.wp;rw[hrun];refine h.mono λe w' he=>?_;grind
end
def wpFrom(P:Program)(ops:Array Oper)(Q:Exit->Act->World->Prop)(k:Nat)(a:Act)(w:World):Prop:=wpList P ops Q (ops.toList.drop k) a w
section
variable{P:Program}{ops:Array Oper}{Q:Exit->Act->World->Prop}{a:Act}{w:World}{N:Nat}{σ:List (Nat×Value)}
def Fb{id:Nat}(h:wpFrom P ops Q 0 a w):(Code.region id ops false).wp P Q a w:=wp_region_list (by simp_all[wpFrom])
def Jz{id:Nat}{l:List Oper}(h:wpFrom P l.toArray Q 0 a w):(Code.region id l.toArray false).wp P Q a w:=Fb h
def Es{k:Nat}(hk:ops.size=k)(h:Q .normal a w):wpFrom P ops Q k a w:=by
 simp_all[wpFrom,ZgK,wpList_nil]
def Le{k:Nat}{o:Oper}(ho:ops[k]? =some o)(hg:o.guard=none){R:Value->World->Prop}(hd:Does P o a w R)
  (h:∀v w',R v w'->wpFrom P ops Q (k+1) (a.put o.dst v) w'):wpFrom P ops Q k a w:=by
 unfold wpFrom at h⊢;have hk:k<ops.toList.length:=by grind
 rw[Zgc hk];have e:ops.toList[k]=o:=by
  grind
 rw[e];exact wpList_plain hg λK hK=>hd K Q λv w' hv=>hK _ _ (h v w' hv)
def Zp{k d:Nat}{o:Oper}(hF:FrS N σ a)(ho:ops[k]? =some o)(hg:o.guard=none)(hd:o.dst=some d)(hdN:d<N){R:Value->World->Prop}(hdo:Does P o a w R)
  (h:∀v w' a',R v w'->FrS N ((d,v)::σ) a'->wpFrom P ops Q (k+1) a' w'):wpFrom P ops Q k a w:=
 Le ho hg hdo λv w' hv=>by rw[hd];exact h v w' _ hv (hF.put hdN v)
def Rh{k:Nat}{o:Oper}(hF:FrS N σ a)(ho:ops[k]? =some o)(hg:o.guard=none)(hd:o.dst=none){R:Value->World->Prop}(hdo:Does P o a w R)
  (h:∀w',(∃v,R v w')->FrS N σ a->wpFrom P ops Q (k+1) a w'):wpFrom P ops Q k a w:=
 Le ho hg hdo λv w' hv=>by rw[hd];exact h w' ⟨v,hv⟩ hF
def seqV(P:Program)(N:Nat):List Oper->List (Nat×Value)->Option (List (Nat×Value))
 |[],σ=>some σ
 |o::os,σ=>
  match o.guard,o.dst,pe P (opd σ) o.op with
  |none,some d,some v=>if d<N then seqV P N os ((d,v)::σ)else none
  |_,_,_=>none
theorem GK{rest:List Oper}:∀{l:List Oper}{σ σ1:List (Nat×Value)}{a:Act},FrS N σ a->seqV P N l σ=some σ1->(∀a',FrS N σ1 a'->wpList P ops Q rest a' w)->wpList P ops Q (l++rest) a w
 |[],σ,σ1,a,hF,hs,h=>by
  simp_all[seqV,Option.some.injEq]
 | o::l,σ,σ1,a,hF,hs,h=>by
  unfold seqV at hs;split at hs
  ·rename_i d v hg hd hv;split at hs
   ·rename_i hdN;refine wpList_plain hg λK hK=>?_;unfold Oper.wp;rw[MN (P:=P) (ρ':=a.eval) (λx u hx=>Zd hF hx) hv w];refine hK _ _ ?_;rw[hd];exact GK (hF.put hdN v) hs h
   ·cases hs
  ·cases hs
end
section
variable{P:Program}{draw:Bool}{ms:List Nat}{ops:Array Oper}{eff:List Nat}{Φ:Nat->World->Prop}{S:Nat->Prop}
  {a0:Act}{w0:World}{Q:Exit->Act->World->Prop}{σ:List (Nat×Value)}{N:Nat}
end
section
variable{P:Program}{o:Oper}{a:Act}{w:World}{R:Value->World->Prop}{α:Type}[Rep α]
def ElemP(w:World)(F:Nat->Prop)(v:Value)(x:α):Prop:=∃ad cs,v= .pointer (some ad)/\F ad.block/\Rep.ok w F cs x/\Cells w ad cs
def Nt{t e:TypeId}{x i:Operand}(ho:o.op= .indexAddr t x i)(ht:P.underlying t=some (.slice e))(he:Ty P e α){F:Nat->Prop}{v:Value}{l:List α}(hv:a.eval x=v)(hl:RV w F v l)
  {k:IntKind}{n:Int}(hi:a.eval i= .int k n)(hn:0<=n){y:α}(hy:l[n.toNat]? =some y):Does P o a w λv w'=>ElemP w F v y/\w'=w:=by
 obtain⟨b,cap,rfl,h1,h2,h3⟩:=hl.slice;have hlt:n.toNat<l.length:=(ZfE.1 hy).1;obtain⟨ad,rfl,hF,hel⟩:=h3 al;obtain⟨cs,hok,hc⟩:=Ui hel hy;refine Zh (v:=.pointer (some (ad.add (n.toNat*Rep.sz α)))) (w':=w) ?_ ⟨⟨_,cs,rfl,by simp_all[add_block],hok,?_⟩,rfl⟩
 ·obtain⟨dst,op,type,pos,after,guard⟩:=o;subst ho;have hb:0<=n/\n<(l.length:Int):=⟨hn,by omega⟩;simp[execOp,Instr.indexAt,hv,hi,asIntOf,run_underlying ht,hb,he.sizeOf]
 simp_all
def ZaO{t:TypeId}{x:Operand}(ho:o.op= .load t x)(ht:Ty P t α){F:Nat->Prop}{v:Value}{y:α}(hv:a.eval x=v)(hp:ElemP w F v y):Does P o a w λv w'=>RV w F v y/\w'=w:=by
 obtain⟨ad,cs,rfl,hF,hok,hc⟩:=hp;refine Zh (v:=Rep.val α cs) (w':=w) ?_ ⟨⟨cs,hok,rfl⟩,rfl⟩;obtain⟨dst,op,type,pos,after,guard⟩:=o;subst ho;simp[execOp,Instr.loadAt,hv,Instr.sureAddr,YO ht (Rep.len hok) hc]
def Box(w:World)(b:Nat)(t:TypeId)(cs:List Value):Prop:=w.heap[b]? =some (.cells cs.toArray t (0,0))
def Box.lt{b:Nat}{t:TypeId}{cs:List Value}(h:Box w b t cs):b<w.heap.size:=(Zgg.1 h).1
def Box.chg{S:Nat->Prop}{w w':World}{b:Nat}{t:TypeId}{cs:List Value}(h:Box w b t cs)(hc:Chg S w w')(hs:¬S b):Box w' b t cs:=(hc.block b h.lt hs).trans h
def Box.cell{b:Nat}{t:TypeId}{cs:List Value}(h:Box w b t cs)(i:Nat):w.cell? ⟨b,i,none⟩=cs[i]?:=by
 rw[cell_of_row w b i cs.toArray t (0,0) h];simp
def Box.cells{b:Nat}{t:TypeId}{cs:List Value}(h:Box w b t cs):Cells w ⟨b,0,none⟩ cs:=λj u hu=>by
 have:(⟨b,0,none⟩:Addr).add j=⟨b,j,none⟩:=by simp_all[Addr.add]
 rw[this,h.cell,hu]
def Zce{t:TypeId}{x:Operand}(ho:o.op= .box t x){v:Value}(hv:a.eval x=v):
  Does P o a w λu w'=>∃b,u= .pointer (some ⟨b,0,none⟩)/\b=w.heap.size/\Box w' b t v.cells.toList/\Chg Non w w':=by
 refine Zh (v:=.pointer (some ⟨w.heap.size,0,none⟩)) (w':=w.alloc (.cells v.cells t)) ?_ ⟨_,rfl,rfl,?_,Chg.alloc _ _⟩
 ·simp_all[guard,execOp,Instr.box,newVar,newRow]
 ·unfold Box;rw[heap_alloc_new]
theorem Cn{t:TypeId}(ho:o.op= .alloc t){z:Value}(hz:(P.info? t).map (·.zero)=some (some z)):
  Does P o a w λu w'=>∃b,u= .pointer (some ⟨b,0,none⟩)/\b=w.heap.size/\Box w' b t z.cells.toList/\Chg Non w w':=by
 refine Zh (v:=.pointer (some ⟨w.heap.size,0,none⟩)) (w':=w.alloc (.cells z.cells t)) ?_ ⟨_,rfl,rfl,?_,Chg.alloc _ _⟩
 ·cases hi:P.info? t with
  |none=>simp_all
  |some i=>
   simp_all[guard,execOp,Instr.alloc,zeroValue,typeInfo,newVar,newRow]
 ·unfold Box;rw[heap_alloc_new]
theorem IU{t:TypeId}{x y:Operand}(ho:o.op= .store t x y)(ht:(P.info? t).map (·.size)=some 1){b i:Nat}{bt:TypeId}{cs:List Value}(hv:a.eval x= .pointer (some ⟨b,i,none⟩))(hb:Box w b bt cs)
  (hi:i<cs.length){u:Value}(hu:a.eval y=u)(h1:u.oneCell'=true):Does P o a w λ_ w'=>Box w' b bt (cs.set i u)/\Chg (λk=>k=b) w w':=by
 refine Tn (w':=w.setCell ⟨b,i,none⟩ u) ?_ ⟨?_,Chg.setCell _ _ _ rfl⟩
 ·cases hinf:P.info? t with
  |none=>simp_all
  |some inf=>
   rw[hinf]at ht;simp only[Zgh,Option.some.injEq]at ht;have hcell:u.cells= #[u]:=by cases u<;>simp_all[Value.cells,Value.oneCell']
   have hc:w.cell? ⟨b,i,none⟩=some cs[i]:=by rw[hb.cell];simp[hi]
   have hfr:w.frozen? ⟨b,i,none⟩=false:=frozen_of_row w b i cs.toArray bt hb;obtain⟨dst,op,type,pos,after,guard⟩:=o;subst ho;simp[execOp,Instr.storeAt,hv,hu,Instr.sureAddr,storeVar,sizeOf,typeInfo,hinf,ht,hcell,storeCells,run_store _ _ _ _ _ h1,Addr.add,hc,hfr]
 ·unfold Box;rw[heap_setCell_same w b i cs.toArray bt u hb];simp
def IA{t:TypeId}{x y:Operand}(ho:o.op= .store t x y){b:Nat}{bt:TypeId}{cs new:List Value}(ht:(P.info? t).map (·.size)=some new.length)(hv:a.eval x= .pointer (some ⟨b,0,none⟩))(hb:Box w b bt cs)
  (hl:new.length=cs.length){u:Value}(hu:a.eval y=u)(huc:u.cells.toList=new)(h1:∀z∈new,z.oneCell'=true):Does P o a w λ_ w'=>Box w' b bt new/\Chg (λk=>k=b) w w':=by
 refine Tn (w':=w.setRow b u.cells) ?_ ⟨?_,?_⟩
 ·have h:=run_storeVar_row (P:=P) w b bt t cs.toArray u.cells hb al al (by
   grind)
  have h2:(storeVar t ⟨b,0,none⟩ u).run P w= .ok () (w.setRow b u.cells):=by
   rw[<-h];rfl
  simp_all[guard,execOp,Instr.storeAt,Instr.sureAddr]
 ·unfold Box;rw[setRow_heap w b cs.toArray u.cells bt (0,0) hb,<-huc]
 ·exact⟨rfl,rfl,rfl,by simp,λk _ hn=>setRow_other w b k u.cells hn⟩
end
section
variable{P:Program}{Q:Exit->Act->World->Prop}{a:Act}{w:World}{N:Nat}{σ:List (Nat×Value)}
def AR{c:Operand}{x y:Code}(hF:FrS N σ a){b:Bool}(hc:opd σ c=some (.bool b))(ht:b=true->x.wp P Q a w)(hf:b=false->y.wp P Q a w):(Code.cond c x y).wp P Q a w:=
 wp_cond_split (Zd hF hc) ht hf
theorem KL{σt ρt:Type}{c:Code}{B:σt->Option (σt⊕ρt)}(Inv:σt->Act->World->Prop){n:Nat}{s0:σt}{r:ρt}(h:iterN B n s0=some r)(Z:Inv s0 a w)
  (round:∀(s:σt)(s1:σt⊕ρt)(a:Act)(w:World),Inv s a w->B s=some s1->(∀r0,s1= .inr r0->r0=r)->c.wp P (Exit.then (λa' w'=>∃s',s1= .inl s'/\Inv s' a' w') Q) a w):(Code.loop c).wp P Q a w:=by
 let I:Act×World->Nat->Prop:=λp k=>∃s,iterN B k s=some r/\Inv s p.1 p.2
 have key:∀k a w,I (a,w) k->∀(b:Frame)(K:List Item)(cs:List Frame),
   ∃e a' w',Q e a' w'/\Arrives P (lone (b.at a (.code c:: .inLoop c::K)) cs w) b K cs e a' w':=by
  intro k
  induction k with
  |zero=>rintro a w ⟨s,hs,_⟩;cases hs
  | succ k ih=>
   rintro a w ⟨s,hs,hI⟩ b K cs;unfold iterN at hs;cases hB:B s with
   |none=>simp_all
   | some s1=>
    rw[hB]at hs;have hr:∀r0,s1= .inr r0->r0=r:=by
     grind
    obtain⟨e,a₁,w₁,hq,harr⟩:=round s s1 a w hI hB hr b (.inLoop c::K) cs;cases e with
    |normal=>
     obtain⟨s',rfl,hI'⟩:=hq;obtain⟨e₂,a₂,w₂,hq₂,harr₂⟩:=ih a₁ w₁ ⟨s',hs,hI'⟩ b K cs;exact⟨e₂,a₂,w₂,hq₂,.of_steps (Steps.trans harr (.one step_inLoop)) harr₂⟩
    |exit id=>exact⟨_,a₁,w₁,hq,.pass (x:=.inLoop c) rfl (λ_ _=>.inl U) harr⟩
    |goto l=>exact⟨_,a₁,w₁,hq,.pass (x:=.inLoop c) rfl (λ_ _=>.inl U) harr⟩
    |ret=>exact⟨_,a₁,w₁,hq,.pass (x:=.inLoop c) rfl (λ_ _=>.inl U) harr⟩
    |panic ch=>exact⟨_,a₁,w₁,hq,.pass (x:=.inLoop c) rfl (λ_ _=>.inl U) harr⟩
    |outgrown=>exact⟨_,a₁,w₁,hq,.pass (x:=.inLoop c) rfl (λ_ _=>.inl U) harr⟩
 intro b K cs;obtain⟨e,a',w',hq,harr⟩:=key n a w ⟨s0,h,Z⟩ b K cs;exact⟨e,a',w',hq,.of_steps (.one step_loop) harr⟩
theorem bindE{α β:Type}{o:Option α}{f:α->Option β}{r:β}(h:o.bind f=some r):∃x,o=some x/\f x=some r:=by
 cases o with
 |none=>cases h
 |some x=>simp_all
def iteT{β:Type}{c:Bool}{x y:β}{r:β}(hc:c=true)(h:(if c=true then x else y)=r):x=r:=by simp_all
def iteF{β:Type}{c:Bool}{x y:β}{r:β}(hc:c=false)(h:(if c=true then x else y)=r):y=r:=by simp_all
def args0:Nat->List Value->List (Nat×Value)
 |_,[]=>[]
 |n,v::vs=>(n,v)::args0 (n+1) vs
theorem Zco(args:List Value)(m:Nat):FrS (args.length+m) (args0 0 args) {tmps:=args.toArray++Array.replicate m undef,defers:=[]}:=by
 refine⟨rfl,by simp,λt v h=>?_⟩;have key:∀(l:List Value)(n:Nat),(args0 n l).lookup t=some v->n<=t/\l[t-n]? =some v:=by
  intro l
  induction l with
  |nil=>intro n h;cases h
  |cons u l ih=>
   grind[args0]
 obtain⟨_,h2⟩:=key args 0 h;have hlt:t<args.length:=by
  grind
 simp_all[Act.eval,ZfM,Array.getElem?_append_left,congrArg,undef]
def enter{f:FuncId}{fn:Func}{c:Code}{args:List Value}{R:Ending->World->Prop}(hf:P.funcs[f]? =some fn)(hb:fn.body=some c)(hN:fn.ntmps=N)(hle':Nat.ble args.length N=true)
  (h:∀a,FrS N (args0 0 args) a->c.wp P (bodyPost P fn R) a w):Calls P f args.toArray w R:=by
 have hle:=ZhM hle';grind[calls_of_wp,Zco]
def ret1{fn:Func}{R:Ending->World->Prop}{t:Tmp}(hr:fn.results= #[.tmp t])(hF:FrS N σ a){v:Value}(hv:σ.lookup t=some v)(h:R (.returned v) w):bodyPost P fn R .ret a w:=by
 refine⟨hF.defers,v,?_,h⟩;have:=hF.get t v hv;simp_all[Act.eval,ZfM,results]
end
section
variable{P:Program}{Q:Exit->Act->World->Prop}{a:Act}{w:World}{K:Act->World->Prop}{i j:Nat}
def Oo(h:K a w):Exit.then K Q .normal a w:=h
def DZ(h:Q .normal a w):Exit.inBlock i Q (.exit i) a w:=by simp_all[Exit.inBlock,ZfR]
def wp_cut{c:Code}{M:Act->World->Prop}(h1:c.wp P (Exit.then M Q) a w)(h2:∀a w,M a w->K a w):c.wp P (Exit.then K Q) a w:=
 wp_mono h1 λe a w he=>by cases e<;>first|exact h2 a w he|exact he
def wp_cut'{c:Code}{M:Act->World->Prop}(h1:c.wp P (Exit.then M Q) a w)(h2:∀a w,M a w->Q .normal a w):c.wp P Q a w:=
 wp_mono h1 λe a w he=>by cases e<;>first|exact h2 a w he|exact he
end
class Flat(α:Type)extends Rep α where
 enc:α->List Value
 iff:∀{w F cs x},Rep.ok w F cs x↔cs=enc x
instance:Flat Int where
 enc:=λn=>[.int .i64 n]
 iff:=Iff.rfl
instance:Flat Byt where
 enc:=λx=>[.int .u8 x.n]
 iff:=Iff.rfl
instance:Flat Bool where
 enc:=λn=>[.bool n]
 iff:=Iff.rfl
instance:Flat Str where
 enc:=λn=>[n.val]
 iff:=Iff.rfl
def RV.flat{α:Type}[Flat α]{w:World}{F:Nat->Prop}{v:Value}{x:α}(h:RV w F v x):v=Rep.val α (Flat.enc x):=by
 obtain⟨cs,h1,rfl⟩:=h;simp_all[Flat.iff]
section
variable{P:Program}{ops:Array Oper}{Q:Exit->Act->World->Prop}{a:Act}{w:World}{N:Nat}{σ:List (Nat×Value)}{k d:Nat}{t ty:TypeId}{x y:Operand}{pos:String}{af:Array Edge}
def CJ{b i:Nat}{bt:TypeId}{cs:List Value}{u:Value}(cs':List Value)(ho:ops[k]? =some ⟨none,.store t x y,ty,pos,af,none⟩)(hF:FrS N σ a)(hx:opd σ x=some (.pointer (some ⟨b,i,none⟩)))
  (hy:opd σ y=some u)(ht:(P.info? t).map (·.size)=some 1)(hb:Box w b bt cs)(hi:Nat.blt i cs.length=true)(h1:u.oneCell'=true)(hcs:cs.set i u=cs')
  (h:∀w',Box w' b bt cs'->Chg (λk=>k=b) w w'->FrS N σ a->wpFrom P ops Q (k+1) a w'):wpFrom P ops Q k a w:=
 Rh hF ho rfl rfl (IU rfl ht (Zd hF hx) hb (ZfW.mp hi) (Zd hF hy) h1) λw'⟨_,hb',hc⟩hF'=>h w' (hcs▸hb') hc hF'
def Eu{b:Nat}{bt:TypeId}{cs:List Value}{u:Value}(cs':List Value)(ho:ops[k]? =some ⟨none,.store t x y,ty,pos,af,none⟩)(hF:FrS N σ a)(hx:opd σ x=some (.pointer (some ⟨b,0,none⟩)))
  (hy:opd σ y=some u)(ht:(P.info? t).map (·.size)=some cs'.length)(hb:Box w b bt cs)(hl:cs'.length=cs.length)(huc:u.cells.toList=cs')(h1:(cs'.all λz=>z.oneCell')=true)
  (h:∀w',Box w' b bt cs'->Chg (λk=>k=b) w w'->FrS N σ a->wpFrom P ops Q (k+1) a w'):wpFrom P ops Q k a w:=
 Rh hF ho rfl rfl (IA rfl ht (Zd hF hx) hb hl (Zd hF hy) huc ah) λw'⟨_,hb',hc⟩hF'=>h w' hb' hc hF'
def Zf8{v:Value}(cs:List Value)(ho:ops[k]? =some ⟨some d,.box t x,ty,pos,af,none⟩)(hd:Nat.blt d N=true)(hF:FrS N σ a)(hx:opd σ x=some v)(hcs:v.cells.toList=cs)
  (h:∀b w' fr,w.heap.size<=b->Box w' b t cs->Chg Non w w'->FrS N ((d,.pointer (some ⟨b,0,none⟩))::σ) fr->wpFrom P ops Q (k+1) fr w'):wpFrom P ops Q k a w:=
 Zp hF ho rfl rfl (ZfW.mp hd) (Zce rfl (Zd hF hx)) λ_ w' fr⟨b,hv,hb,hB,hc⟩hF'=>by grind
def Ze1{z:Value}(cs:List Value)(ho:ops[k]? =some ⟨some d,.alloc t,ty,pos,af,none⟩)(hd:Nat.blt d N=true)(hF:FrS N σ a)(hz:(P.info? t).map (·.zero)=some (some z))(hcs:z.cells.toList=cs)
  (h:∀b w' fr,w.heap.size<=b->Box w' b t cs->Chg Non w w'->FrS N ((d,.pointer (some ⟨b,0,none⟩))::σ) fr->wpFrom P ops Q (k+1) fr w'):wpFrom P ops Q k a w:=
 Zp hF ho rfl rfl (ZfW.mp hd) (Cn rfl hz) λ_ w' fr⟨b,hv,hb,hB,hc⟩hF'=>by grind
theorem EH{xs:List Operand}{args:List Value}(hF:FrS N σ a)(h:xs.map (opd σ)=args.map some):xs.map a.eval=args:=by
 induction xs generalizing args with
 |nil=>simp_all
 | cons x xs ih=>cases args with
  |nil=>simp at h
  |cons v vs=>
   grind[List.cons.injEq,Zd]
def FN{xs:Array Operand}{args:List Value}(hF:FrS N σ a)(h:xs.toList.map (opd σ)=args.map some):xs.map a.eval=args.toArray:=by
 have:=EH hF h;grind
def s_call{f:FuncId}{xs:Array Operand}{ts:Array TypeId}(args:List Value){R:Value->World->Prop}(hf:∀(args:Array Value)(w:World),(callFunc f args).run P w= .ok (.enter f args) w)
  (ho:ops[k]? =some ⟨some d,.call ⟨.value (.func f),xs,ts⟩,ty,pos,af,none⟩)(hd:Nat.blt d N=true)(hF:FrS N σ a)(hargs:xs.toList.map (opd σ)=args.map some)
  (hc:Calls P f args.toArray w λe w'=>∃v,e= .returned v/\R v w')(h:∀v w' fr,R v w'->FrS N ((d,v)::σ) fr->wpFrom P ops Q (k+1) fr w'):wpFrom P ops Q k a w:=
 Zp hF ho rfl rfl (ZfW.mp hd) (Zbc rfl hf (FN hF hargs) hc) λv w' fr hr hF'=>h v w' fr hr hF'
def ZcB{α:Type}[Rep α]{e d' t' ty':TypeId}{pos':String}{af':Array Edge}{F:Nat->Prop}{v:Value}{l:List α}{kd:IntKind}{n:Int}{z:α}(he:Ty P e α)(ht:P.underlying t=some (.slice e))
  (ho:ops[k]? =some ⟨some d,.indexAddr t x y,ty,pos,af,none⟩)(ho':ops[k+1]? =some ⟨some d',.load t' (.tmp d),ty',pos',af',none⟩)(hte:t'=e)(hd:Nat.blt d N=true)(hd':Nat.blt d' N=true)(hF:FrS N σ a)
  (hx:opd σ x=some v)(hl:RV w F v l)(hy:opd σ y=some (.int kd n))(hn:0<=n)(hz:l[n.toNat]? =some z)
  (h:∀p u fr,RV w F u z->FrS N ((d',u)::(d,p)::σ) fr->wpFrom P ops Q (k+2) fr w):wpFrom P ops Q k a w:=by
 subst hte;refine Zp hF ho rfl rfl (ZfW.mp hd) (Nt rfl ht he (Zd hF hx) hl (Zd hF hy) hn hz) λp w1 fr1 hpw hF1=>?_;obtain⟨hp,rfl⟩:=hpw;refine Zp hF1 ho' rfl rfl (ZfW.mp hd') (ZaO rfl he (hF1.get d p U) hp) λu w2 fr2 huw hF2=>?_;grind
def Ze4{α:Type}[Flat α]{e d' t' ty':TypeId}{pos':String}{af':Array Edge}{F:Nat->Prop}{v:Value}{l:List α}{kd:IntKind}{n:Int}{z:α}(u:Value)(he:Ty P e α)(ht:P.underlying t=some (.slice e))
  (ho:ops[k]? =some ⟨some d,.indexAddr t x y,ty,pos,af,none⟩)(ho':ops[k+1]? =some ⟨some d',.load t' (.tmp d),ty',pos',af',none⟩)(hte:t'=e)(hd:Nat.blt d N=true)(hd':Nat.blt d' N=true)(hF:FrS N σ a)
  (hx:opd σ x=some v)(hl:RV w F v l)(hy:opd σ y=some (.int kd n))(hn:0<=n)(hz:l[n.toNat]? =some z)(hu:Rep.val α (Flat.enc z)=u)
  (h:∀p fr,FrS N ((d',u)::(d,p)::σ) fr->wpFrom P ops Q (k+2) fr w):wpFrom P ops Q k a w:=
 ZcB he ht ho ho' hte hd hd' hF hx hl hy hn hz λp v fr hv hF'=>h p fr (by rw[<-hu,<-hv.flat];exact hF')
end
theorem Ru{s:Nat}:∀{css:List (List Value)}{i j:Nat}{cs:List Value}{u:Value},(∀c∈css,c.length=s)->css[i]? =some cs->cs[j]? =some u->css.flatten[i*s+j]? =some u
 |[],_,_,_,_,_,h,_=>by simp at h
 |c::css,0,j,cs,u,hs,h,hu=>by
  grind
 |c::css,i+1,j,cs,u,hs,h,hu=>by
  have:=Ru (s:=s) (css:=css) (i:=i) (j:=j) (λc hc=>hs c (ZfT _ hc)) aA hu;grind
section
variable{α:Type}[Rep α]
def Css(w:World)(F:Nat->Prop)(css:List (List Value))(l:List α):Prop:=
 css.length=l.length/\∀(i:Nat)(cs:List Value)(x:α),css[i]? =some cs->l[i]? =some x->Rep.ok w F cs x
def Css.lens{w:World}{F:Nat->Prop}{css:List (List Value)}{l:List α}(h:Css w F css l):∀c∈css,c.length=Rep.sz α:=by
 intro c hc;obtain⟨i,hi⟩:=ZgW hc;have hlt:i<l.length:=by rw[<-h.1];grind
 exact Rep.len (h.2 i c l[i] hi U)
theorem Css.flat_len{w:World}{F:Nat->Prop}{css:List (List Value)}{l:List α}(h:Css w F css l):css.flatten.length=l.length*Rep.sz α:=by
 have:=h.lens;rw[<-h.1];have key:∀(css:List (List Value)),(∀c∈css,c.length=Rep.sz α)->css.flatten.length=css.length*Rep.sz α:=by
  intro css
  induction css with
  |nil=>simp
  |cons c css ih=>
   grind
 simp_all
def Css.one{w:World}{F:Nat->Prop}{css:List (List Value)}{l:List α}(h:Css w F css l):∀u∈css.flatten,u.oneCell'=true:=by
 intro u hu;obtain⟨c,hc,huc⟩:=List.mem_flatten.1 hu;obtain⟨i,hi⟩:=ZgW hc;have hlt:i<l.length:=by rw[<-h.1];grind
 exact Rep.one (h.2 i c l[i] hi U) u huc
def Css.keep{w w':World}{F F':Nat->Prop}{css:List (List Value)}{l:List α}(h:Css w F css l)(hk:∀k,k<w.heap.size->F k->w'.heap[k]? =w.heap[k]? /\F' k):Css w' F' css l:=
 ⟨h.1,λi cs x h1 h2=>Rep.keep (h.2 i cs x h1 h2) hk⟩
def Css.append{w:World}{F:Nat->Prop}{css css':List (List Value)}{l l':List α}(h:Css w F css l)(h':Css w F css' l'):Css w F (css++css') (l++l'):=by
 refine⟨by simp[h.1,h'.1],λi cs x h1 h2=>?_⟩;by_cases hi:i<css.length
 ·rw[Zgs hi]at h1;rw[Zgs (by rw[<-h.1];exact hi)]at h2;exact h.2 i cs x h1 h2
 ·rw[Zgo O]at h1;rw[Zgo (by rw[<-h.1];omega),<-h.1]at h2;exact h'.2 _ cs x h1 h2
theorem Um{w:World}{F:Nat->Prop}{ad:Addr}:∀{l:List α}{n:Nat},elems w F ad n l->∃css,Css w F css l/\∀j u,css.flatten[j]? =some u->w.cell? (ad.add (n*Rep.sz α+j))=some u
 |[],n,_=>⟨[],⟨rfl,λi cs x h=>by simp at h⟩,λj u h=>by simp at h⟩
 | x::l,n,⟨⟨cs,h1,h2⟩,h3⟩=>by
  obtain⟨css,h4,h5⟩:=Um h3;refine⟨cs::css,⟨by simp[h4.1],λi c y hc hy=>?_⟩,λj u hu=>?_⟩
  ·cases i with
   |zero=>simp_all
   |succ i=>exact h4.2 i c y ah ah
  ·simp only[ZgZ]at hu;have hl:=Rep.len h1;by_cases hj:j<cs.length
   ·rw[Zgs hj]at hu;rw[<-add_add];exact h2 j u hu
   grind
def ZaA{w:World}{F:Nat->Prop}{ad:Addr}{css:List (List Value)}{l:List α}(h:Css w F css l)(hc:∀j u,css.flatten[j]? =some u->w.cell? (ad.add j)=some u):elems w F ad 0 l:=by
 refine Mh λi x hx=>?_;have hi:i<css.length:=by rw[h.1];grind
 have hcs:css[i]? =some css[i]:=ZfA hi;refine⟨css[i],h.2 i _ x hcs hx,λj u hu=>?_⟩;rw[Zhl,add_add];exact hc _ u (Ru h.lens hcs hu)
def OwnS(w:World)(E:TypeId)(go:Option Nat)(G FF:Nat->Prop)(v:Value)(l:List α):Prop:=
 ∃(F:Nat->Prop)(css:List (List Value)),Css w F css l/\w.ownsRow 0 E (Rep.sz α) v l.length css.flatten/\v.ownBlock=go/\(∀g,go=some g->G g/\¬F g)/\(∀k,F k->FF k/\k<w.heap.size)
variable{w w':World}{E:TypeId}{go:Option Nat}{G G' FF FF':Nat->Prop}{v:Value}{l:List α}
def OwnS.slice(h:OwnS w E go G FF v l):∃a c,v= .slice a l.length c:=by
 obtain⟨F,css,h1,h2,h3,h4,h5⟩:=h;rcases h2.2 with⟨rfl,hn⟩|⟨g,cap,cur,rfl,_⟩
 all_goals grind
def OwnS.nil:OwnS w E none G FF (.slice none 0 0) ([]:List α):=
 ⟨λ_=>False,[],⟨rfl,λi cs x h=>by simp at h⟩,World.ownsRow_nil w 0 E _,rfl,λ_ h=>ay,λ_ h=>h.elim⟩
def OwnS.inG(h:OwnS w E go G FF v l){g:Nat}(hg:go=some g):G g:=by
 obtain⟨F,css,h1,h2,h3,h4,h5⟩:=h;simp_all
def OwnS.lt(h:OwnS w E go G FF v l){g:Nat}(hg:go=some g):g<w.heap.size:=by
 obtain⟨F,css,h1,h2,h3,h4,h5⟩:=h;exact(h2.lt g (by rw[h3,hg])).2
def OwnS.regard(h:OwnS w E go G FF v l)(hG:∀k,k<w.heap.size->G k->G' k):OwnS w E go G' FF v l:=by
 have hlt:=λg hg=>h.lt (g:=g) hg;obtain⟨F,css,h1,h2,h3,h4,h5⟩:=h;exact⟨F,css,h1,h2,h3,λg hg=>⟨hG g (hlt g hg) (h4 g hg).1,(h4 g hg).2⟩,h5⟩
def OwnS.chg{S:Nat->Prop}(h:OwnS w E go G FF v l)(hc:Chg S w w')(h1:∀k,go=some k->G k->¬S k)(h2:∀k,FF k->¬S k):OwnS w' E go G FF v l:=by
 obtain⟨F,css,g1,g2,g3,g4,g5⟩:=h;refine⟨F,css,g1.keep λk hk hf=>⟨hc.block k hk (h2 k (g5 k hf).1),hf⟩,?_,g3,g4,λk hk=>⟨(g5 k hk).1,ZfQ (g5 k hk).2 hc.size⟩⟩;refine⟨g2.1,?_⟩;rcases g2.2 with hn|⟨g,cap,cur,rfl,hb,hg,rest⟩
 ·exact .inl hn
 ·refine .inr ⟨g,cap,cur,rfl,hb, ?_,rest⟩;have hgo:go=some g:=by rw[<-g3];rfl
  rw[hc.block g (Zgg.1 hg).1 (h1 g hgo (g4 g hgo).1)];exact hg
def OwnS.rv(h:OwnS w E go G FF v l):RV w (λk=>(go=some k/\G k)\/FF k) v l:=by
 obtain⟨F,css,h1,h2,h3,h4,h5⟩:=h;rcases h2.2 with⟨rfl,hn⟩|⟨g,cap,cur,rfl,hb,hg,hnc,hcm,hcs,htake⟩
 ·simp_all[Zg7,RV.nil]
 ·have hgo:go=some g:=by rw[<-h3];rfl
  refine RV.mk_slice hnc hcm λ_=>⟨⟨g,0,none⟩,rfl,.inl ⟨hgo,(h4 g hgo).1⟩,?_⟩;exact ZaA (h1.keep λk _ hf=>⟨rfl,.inr (h5 k hf).1⟩) (h2.cells (g:=g) rfl)
def ElT(P:Program)(E:TypeId)(α:Type)[Rep α]:Prop:=
 (P.info? E).map (λi=>(i.zero.map (·.cells.size),i.size,decide (i.bytes<=32768)))=some (some (Rep.sz α),Rep.sz α,true)
theorem ElT.out{P:Program}(h:ElT P E α):∃i z,P.info? E=some i/\i.zero=some z/\i.size=Rep.sz α/\z.cells.size=Rep.sz α/\i.bytes<=32768:=by
 unfold ElT at h;cases hi:P.info? E with
 |none=>simp_all
 |some i=>
  simp_all
theorem OwnS.append_run{P:Program}{t ty:TypeId}(h:OwnS w E go G FF v l)(ht:P.underlying t=some (.slice E))(hE:ElT P E α){Fr Fu:Nat->Prop}{u:Value}{m:List α}(hu:RV w Fr u m)
  (hsub:∀(cs:List Value)(x:α),Rep.ok w Fr cs x->Rep.ok w Fu cs x)(hFu:∀k,k<w.heap.size->Fu k->FF k/\go≠some k)(hG:∀k,w.heap.size<=k->G k)(hroom:l.length+m.length<=room):
  ∃v' w' go',(Builtin.append_ #[t,t] ty #[v,u]).run P w= .ok v' w'/\OwnS w' E go' G FF v' (l++m)/\Chg (λk=>go=some k) w w'/\(go'=go\/∃g,go'=some g/\w.heap.size<=g):=by
 obtain⟨i,z,hi,hz,hsz,hzs,hby⟩:=hE.out;obtain⟨F,css,h1,h2,h3,h4,h5⟩:=h;obtain⟨a,cap,rfl,hcap,hmax,hcells⟩:=hu.slice;unfold room at hroom;have hsrc:∃cssm,Css w (λk=>Fu k/\k<w.heap.size) cssm m/\∀ad,a=some ad->∀j x,cssm.flatten[j]? =some x->w.cell? (ad.add j)=some x:=by
  by_cases hm:m=[]
  ·subst hm;exact⟨[],⟨rfl,λi cs x h=>by simp at h⟩,λad _ j x h=>by simp at h⟩
  ·obtain⟨ad,rfl,_,he⟩:=hcells hm;obtain⟨cssm,g1,g2⟩:=Um he;have g1:Css w Fu cssm m:=⟨g1.1,λi cs x h1 h2=>hsub cs x (g1.2 i cs x h1 h2)⟩;refine⟨cssm,g1.keep λk hk hf=>⟨rfl,hf,hk⟩,λad' e j x hx=>?_⟩;simp_all
 obtain⟨cssm,g1,g2⟩:=hsrc;have hFall:∀k,(F k\/(Fu k/\k<w.heap.size))->FF k/\k<w.heap.size:=by
  grind
 have hnotgo:∀g,go=some g->¬(F g\/(Fu g/\g<w.heap.size)):=by
  grind
 have finish:∀(v':Value)(w':World),w'.ownsRow 0 E (Rep.sz α) v' (l.length+m.length) (css.flatten++cssm.flatten)->w.grownBy w' v.ownBlock->(v'.ownBlock=v.ownBlock\/v'.ownBlock=some w.heap.size)->
   OwnS w' E v'.ownBlock G FF v' (l++m)/\Chg (λk=>go=some k) w w'/\(v'.ownBlock=go\/∃g,v'.ownBlock=some g/\w.heap.size<=g):=by
  intro v' w' k1 k2 k3;have hch:Chg (λk=>go=some k) w w':=⟨k2.os,k2.tape,k2.output,k2.size,λk hk hn=>k2.block k hk al⟩;refine⟨⟨λk=>F k\/(Fu k/\k<w.heap.size),css++cssm,?_,by simp_all,rfl,?_,λk hk=>⟨(hFall k hk).1,ZfQ (hFall k hk).2 k2.size⟩⟩,hch,?_⟩
  ·refine Css.append (h1.keep λk hk hf=>⟨hch.block k hk λe=>hnotgo k e (.inl hf),.inl hf⟩) (g1.keep λk hk hf=>⟨hch.block k hk λe=>hnotgo k e (.inr hf),.inr hf⟩)
  all_goals grind
 cases a with
 | none=>
  have hm:m=[]:=by
   simp_all
  subst hm;have hc0:cssm=[]:=Zg7 g1.1;subst hc0;have hrun:(Builtin.append_ #[t,t] ty #[v,.slice none ([]:List α).length cap]).run P w= .ok v w:=by
   rcases h2.2 with⟨rfl,_⟩|⟨g,cap',cur,rfl,_,_,hnc,_⟩
   ·simp[Builtin.append_,run_underlying ht,sizeOf,typeInfo,hi,Builtin.lenOf,Builtin.firstCells]
   ·simp[Builtin.append_,run_underlying ht,sizeOf,typeInfo,hi,Builtin.lenOf,Builtin.firstCells,hnc,storeCells]
  obtain⟨k1,k2,k3⟩:=finish v w (by simpa using h2) ⟨rfl,rfl,rfl,ZfP _,λ_ _ _=>rfl⟩ (.inl rfl);exact⟨v,w,_,hrun,k1,k2,k3⟩
 | some ad=>
  obtain⟨v',w',hrun,k1,k2,_,k3⟩:=run_append_own_at (P:=P) w 0 t ty E i z (Rep.sz α) i.bytes ht hi hz hsz rfl hzs Rep.pos v l.length css.flatten h2 ad m.length cap cssm.flatten g1.flat_len (g2 ad rfl) g1.one
   (by simp only[maxLen];omega) (by
    have:(l.length+m.length)*i.bytes<=4294967296*32768:=ZhY hroom hby
    omega) (Zg9 _)
  obtain⟨q1,q2,q3⟩:=finish v' w' k1 k2 k3;exact⟨v',w',_,hrun,q1,q2,q3⟩
def Zdj{P:Program}{t:TypeId}(ht:P.underlying t=some (.slice E))(hE:ElT P E α){zc:α}(hz:∀i,P.info? E=some i->∀z,i.zero=some z->Rep.ok w (λ_=>False) z.cells.toList zc)
  {n:Int}(hn:0<=n/\n.toNat<=room)(hG:G w.heap.size):
  ∃v' w' go',(Instr.makeSlice t (.int .i64 n) (.int .i64 n)).run P w= .ok v' w'/\OwnS w' E go' G FF v' (List.replicate n.toNat zc)/\Chg Non w w'/\∃g,go'=some g/\w.heap.size<=g:=by
 obtain⟨i,z,hi,hzz,hsz,hzs,hby⟩:=hE.out;obtain⟨hn0,hroom⟩:=hn;unfold room at hroom
 have hrun:=run_make (P:=P) w t E i z ht hi hzz .i64 .i64 n n hn0 (Zgm _) (by
  have h1:(i.bytes:Int)*n<=32768*4294967296:=Int.mul_le_mul O O hn0 O
  omega) O
 refine⟨_,_,some w.heap.size,hrun,?_,Chg.alloc _ _,_,rfl,ZfP _⟩;have hzl:z.cells.toList.length=Rep.sz α:=by omega
 have hmc:∀m,(madeCells z.cells (m*i.size)).toList=(List.replicate m z.cells.toList).flatten:=by
  intro m;have hlens:∀c∈List.replicate m z.cells.toList,c.length=Rep.sz α:=λc hc=>by simp_all
  apply Zgy;intro k;by_cases hk:k<m*Rep.sz α
  ·have hp:=Rep.pos (α:=α);have h1:k/Rep.sz α<m:=(Nat.div_lt_iff_lt_mul hp).2 hk;have h2:k%Rep.sz α<Rep.sz α:=Nat.mod_lt _ hp;have h3:z.cells.toList[k%Rep.sz α]? =some (z.cells.toList[k%Rep.sz α]' O):=ZfA O;have h4:=Ru (s:=Rep.sz α) (css:=List.replicate m z.cells.toList) (i:=k/Rep.sz α) (j:=k%Rep.sz α) hlens (by simp[h1]) h3;simp_all[Nat.div_add_mod',Rep.sz,madeCells,Array.toList_map,Zgp,Array.toList_range]
  simp_all[Zgd,size_madeCells]
 refine⟨λ_=>False,List.replicate n.toNat z.cells.toList,⟨by simp,?_⟩,⟨?_,.inr ⟨w.heap.size,n.toNat,madeCells z.cells (n.toNat*i.size),?_,Zg9 _,heap_alloc_new w _,?_,?_,?_,?_⟩⟩,rfl,?_,λ_ h=>h.elim⟩
 ·intro j cs x h1 h2;rw[Zho]at h1 h2;split at h1
  ·grind[Option.some.injEq,Rep.keep]
  ·cases h1
 ·simp_all
 ·simp
 ·simp
 ·grind[maxLen]
 ·simp_all[size_madeCells]
 all_goals simp_all[Zg0,Zg4,List.length_flatten,List.map_replicate,List.sum_replicate_nat,ZfP,Option.some.injEq,id]
end
section
variable{α:Type}[Rep α]{w w':World}{E:TypeId}{go:Option Nat}{G G' FF FF':Nat->Prop}{v:Value}{l:List α}
theorem Dt{s:Nat}{css:List (List Value)}{cs:List Value}(hs:∀c∈css,c.length=s)(hc:cs.length=s){n:Nat}(hn:n<css.length)(k:Nat):
  (css.set n cs).flatten[k]? =if n*s<=k/\k<n*s+s then cs[k-n*s]? else css.flatten[k]?:=by
 induction css generalizing n k with
 |nil=>simp at hn
 | cons c css ih=>
  cases n with
  |zero=>
   grind
  |succ n=>
   simp only[List.set_cons_succ,ZgZ];grind[Nat.succ_mul]
theorem OwnS.set_run{P:Program}(h:OwnS w E go G FF v l)(hE:Ty P E α){Fr Fu:Nat->Prop}{u:Value}{x:α}(hu:RV w Fr u x)(hsub:∀(cs:List Value)(x:α),Rep.ok w Fr cs x->Rep.ok w Fu cs x)
  (hFu:∀k,k<w.heap.size->Fu k->FF k/\go≠some k){n:Nat}(hn:n<l.length):
  ∃g w',go=some g/\(∃c,v= .slice (some ⟨g,0,none⟩) l.length c)/\(storeVar E ((⟨g,0,none⟩:Addr).add (n*Rep.sz α)) u).run P w= .ok () w'/\OwnS w' E go G FF v (l.set n x)/\Chg (λk=>go=some k) w w':=by
 obtain⟨F,css,h1,h2,h3,h4,h5⟩:=h;obtain⟨cs,hok,rfl⟩:=hu;have hok:=hsub cs x hok;rcases h2.2 with⟨rfl,hz⟩|⟨g,cap,cur,rfl,hb,hg,hnc,hcm,hcs,htake⟩
 ·omega
 have hgo:go=some g:=by rw[<-h3];rfl
 have hcl:=Rep.len hok;have hvc:(Rep.val α cs).cells=cs.toArray:=by
  unfold Rep.val;cases hh:Rep.agg α with
  |true=>rfl
  | false=>
   rw[Rep.sgl hh]at hcl
   match cs,hcl with
   |[c],_=>
    have h1:=Rep.one hok c U;simp only[ZfB,ZfK,List.headD_cons];cases c<;>simp_all[Value.cells,Value.oneCell']
 have hoff:n*Rep.sz α+Rep.sz α<=l.length*Rep.sz α:=by
  rw[<-Zii];exact ZgF _ hn
 have hcap:l.length*Rep.sz α<=cap*Rep.sz α:=ZgF _ hnc;have hrun:=run_storeCells_at (P:=P) g (n*Rep.sz α) E cs 0 cur w hg O (Rep.one hok);simp only[Zij]at hrun;have haddr:(⟨g,0,none⟩:Addr).add (n*Rep.sz α)=⟨g,n*Rep.sz α,none⟩:=by simp_all[Addr.add]
 refine⟨g,w.setRow g (cur.toList.take (n*Rep.sz α)++cs++cur.toList.drop (n*Rep.sz α+cs.length)).toArray,hgo,⟨cap,rfl⟩,?_,?_,?_⟩
 ·rw[haddr];unfold storeVar;simp only[Sem.run_bind,hE.sizeOf,Result.andThen_ok,hvc,Zhz,hcl];simp_all
 ·have hch:∀k,k<w.heap.size->g≠k->(w.setRow g (cur.toList.take (n*Rep.sz α)++cs++cur.toList.drop (n*Rep.sz α+cs.length)).toArray).heap[k]? =w.heap[k]? :=λk _ hne=>setRow_other w g k _ (Ne.symm hne);have hlens:=h1.lens;have hnl:n<css.length:=by rw[h1.1];exact hn
  refine⟨λk=>F k\/(Fu k/\k<w.heap.size),css.set n cs,⟨by simp[h1.1],λi c y hc hy=>?_⟩,⟨?_,.inr ⟨g,cap,_,?_,hb,setRow_heap w g cur _ E _ hg,?_,hcm,?_,?_⟩⟩,h3,?_,?_⟩
  ·rw[Zha]at hc hy;split at hc
   ·rename_i hin;subst hin;rw[ZfC rfl]at hy;simp only[hn,ZfR,Option.some.injEq]at hc hy;subst hc;subst hy;exact Rep.keep hok λk hk hf=>⟨hch k hk λe=>(hFu k hk hf).2 (by rw[hgo,e]),.inr ⟨hf,hk⟩⟩
   ·rename_i hin;rw[ZfD hin]at hy;exact Rep.keep (h1.2 i c y hc hy) λk hk hf=>⟨hch k hk λe=>(h4 g hgo).2 (e▸hf),.inl hf⟩
  ·have:∀c∈css.set n cs,c.length=Rep.sz α:=λc hc=>by
    rcases Zh4 hc with hc|rfl
    ·exact hlens c hc
    ·exact hcl
   have key:∀(css:List (List Value)),(∀c∈css,c.length=Rep.sz α)->css.flatten.length=css.length*Rep.sz α:=by
    intro css
    induction css with
    |nil=>simp
    |cons c css ih=>
     intro hh;simp only[ZgZ,ZfI,ZfS];rw[hh c Zgi,ih λc hc=>hh c (ZfT _ hc),Zh9];omega
   rw[key _ this];simp[h1.1]
  ·simp
  ·simpa using hnc
  ·simp only[Zhz,ZfI,Zga,ZfX,Zg6];rw[hcs,hcl];omega
  ·rw [Zhv]
   apply Zgy;intro k;rw[Dt hlens hcl hnl,<-htake];by_cases hk:k<l.length*Rep.sz α
   ·rw[Zgw,ZfC hk];by_cases h6:n*Rep.sz α<=k/\k<n*Rep.sz α+Rep.sz α
    ·rw[ZfC h6,Zgs aG,Zgo (by simp only[Zga,Zg6];omega)];congr 1;simp only[Zga,Zg6];omega
    ·rw[ZfD h6,Zgw,ZfC hk];by_cases h7:k<n*Rep.sz α
     ·rw[Zgs aG,Zgs (by simp only[Zga,Zg6];omega),Zgw,ZfC h7]
     ·rw[Zgo aG,Zg1];congr 1;simp only[ZfI,Zga,Zg6,hcl];omega
   ·rw[Zgw,ZfD hk,ZfD O,Zgw,ZfD hk]
  ·intro g' hg';rw[hgo]at hg';simp only[Option.some.injEq]at hg';subst hg';refine⟨(h4 g hgo).1,?_⟩;rintro(hf|⟨hf,hlt⟩)
   ·exact(h4 g hgo).2 hf
   ·exact(hFu g hlt hf).2 hgo
  ·rintro k (hf|⟨hf,hlt⟩)
   ·exact⟨(h5 k hf).1,by simpa using(h5 k hf).2⟩
   ·exact⟨(hFu k hlt hf).1,by simpa using hlt⟩
 ·refine⟨rfl,rfl,rfl,by simp,λk _ hn=>setRow_other w g k _ λe=>hn (by rw[hgo,e])⟩
def Re{β:Type}[Flat β]{w:World}{F F':Nat->Prop}(cs:List Value)(x:β)(h:Rep.ok w F cs x):Rep.ok w F' cs x:=Flat.iff.2 (Flat.iff.1 h)
def Oa{β:Type}[Flat β]{w:World}{F:Nat->Prop}(l:List β):Css w F (l.map Flat.enc) l:=⟨by simp,λi cs x h1 h2=>by
 simp_all[Zgp,Zgh,Option.some.injEq,Flat.iff]⟩
def ZdR{cells:List Value}{css:List (List Value)}{F:Nat->Prop}(hcss:Css w F css l)(hfl:css.flatten=cells)(hmax:l.length<=maxLen)(hG:G w.heap.size)(hF:∀k,k<w.heap.size->F k->FF k):
  OwnS (w.alloc (.cells cells.toArray E)) E (some w.heap.size) G FF (.slice (some ⟨w.heap.size,0,none⟩) l.length l.length) l:=by
 subst hfl;refine⟨λk=>F k/\k<w.heap.size,css,hcss.keep λk hk hf=>⟨Below.heap_alloc w _ k hk,hf,hk⟩,⟨hcss.flat_len,.inr ⟨w.heap.size,l.length,_,rfl,Zg9 _,heap_alloc_new w _,ZfP _,hmax,by simpa using hcss.flat_len,?_⟩⟩,rfl,?_,?_⟩
 ·rw[Zg4 (by simpa using Nat.le_of_eq hcss.flat_len)]
 all_goals simp_all[Option.some.injEq,Zh0,Nat.lt_succ_of_lt]
end
section
variable{P:Program}{ops:Array Oper}{Q:Exit->Act->World->Prop}{a:Act}{w:World}{N:Nat}{σ:List (Nat×Value)}{k d:Nat}{t ty:TypeId}{x y:Operand}{pos:String}{af:Array Edge}
  {α:Type}[Rep α]{E:TypeId}{go:Option Nat}{G FF:Nat->Prop}{v u:Value}{l m:List α}
def Zda{y':Operand}{t':TypeId}{Fr:Nat->Prop}(Fu:Nat->Prop)(ho:OwnS w E go G FF v l)(ht:P.underlying t=some (.slice E))(hE:ElT P E α)
  (hop:ops[k]? =some ⟨some d,.call ⟨.builtin .append,#[x,y'],#[t,t']⟩,ty,pos,af,none⟩)(htt:t'=t)(hd:Nat.blt d N=true)(hF:FrS N σ a)(hx:opd σ x=some v)(hy:opd σ y'=some u)(hu:RV w Fr u m)
  (hsub:∀(cs:List Value)(x:α),Rep.ok w Fr cs x->Rep.ok w Fu cs x)(hFu:∀k,k<w.heap.size->Fu k->FF k/\go≠some k)(hG:∀k,w.heap.size<=k->G k){r:List α}(hr:app? l m=some r)
  (h:∀go' a' c' w' fr,OwnS w' E go' G FF (.slice a' (List.length r) c') r->Chg (λk=>go=some k) w w'->(go'=go\/∃g,go'=some g/\w.heap.size<=g)->FrS N ((d,.slice a' (List.length r) c')::σ) fr->wpFrom P ops Q (k+1) fr w'):wpFrom P ops Q k a w:=by
 subst htt;unfold app? at hr;split at hr
 ·rename_i hroom;obtain⟨v',w',go',hrun,h1,h2,h3⟩:=ho.append_run (P:=P) (ty:=ty) ht hE hu hsub hFu hG hroom;obtain⟨a',c',rfl⟩:=h1.slice;refine Zp hF hop rfl rfl (ZfW.mp hd) (R:=λz w1=>z= .slice a' (List.length (l++m)) c'/\w1=w') (Zh (v:=.slice a' (List.length (l++m)) c') (w':=w') ?_ ⟨rfl,rfl⟩) λz w1 fr hz hF'=>?_
  ·simp[execOp,resolve,invoke,builtin,Zd hF hx,Zd hF hy,hrun]
  grind
 ·cases hr
def ZeK{y':Operand}{n:Int}{zc:α}(ht:P.underlying t=some (.slice E))(hE:ElT P E α)(hz:∀i,P.info? E=some i->∀z,i.zero=some z->Rep.ok w (λ_=>False) z.cells.toList zc)
  (hop:ops[k]? =some ⟨some d,.makeSlice t x y',ty,pos,af,none⟩)(hd:Nat.blt d N=true)(hF:FrS N σ a)(hx:opd σ x=some (.int .i64 n))(hy:opd σ y'=some (.int .i64 n)){r:List α}(hr:mk? n zc=some r)(hG:∀k,w.heap.size<=k->G k)
  (h:∀g a' c' w' fr,w.heap.size<=g->OwnS w' E (some g) G FF (.slice a' (List.length r) c') r->Chg Non w w'->FrS N ((d,.slice a' (List.length r) c')::σ) fr->wpFrom P ops Q (k+1) fr w'):wpFrom P ops Q k a w:=by
 unfold mk? at hr;split at hr
 ·rename_i hn;obtain⟨v',w',go',hrun,h1,h2,g,rfl,hg⟩:=Zdj (P:=P) (w:=w) (E:=E) (FF:=FF) ht hE hz hn (hG _ (ZfP _));obtain⟨a',c',rfl⟩:=h1.slice;refine Zp hF hop rfl rfl (ZfW.mp hd) (R:=λz w1=>z= .slice a' (List.length (List.replicate n.toNat zc)) c'/\w1=w') (Zh (v:=.slice a' (List.length (List.replicate n.toNat zc)) c') (w':=w') ?_ ⟨rfl,rfl⟩) λz w1 fr hz hF'=>?_
  ·simp[execOp,Zd hF hx,Zd hF hy,hrun]
  grind
 ·cases hr
theorem Zfq{n:Nat}{parts:Array (Nat×Operand)}(cells:List Value)(css:List (List Value)){F:Nat->Prop}(l:List α)(hop:ops[k]? =some ⟨some d,.buildSlice t n parts,ty,pos,af,none⟩)(hd:Nat.blt d N=true)(hF:FrS N σ a)
  (vals:List Value)(hv:parts.toList.map (λp=>opd σ p.2)=vals.map some)
  (hrun:∀w,(Instr.buildSlice t n ((parts.toList.map (·.1)).zip vals).toArray).run P w= .ok (.slice (some ⟨w.heap.size,0,none⟩) n n) (w.alloc (.cells cells.toArray E)))
  (hcss:Css w F css l)(hfl:css.flatten=cells)(hln:l.length=n)(hmax:Nat.ble l.length room=true)(hG:∀k,w.heap.size<=k->G k)(hFF:∀k,k<w.heap.size->F k->FF k)
  (h:∀g a' c' w' fr,w.heap.size<=g->OwnS w' E (some g) G FF (.slice a' (List.length l) c') l->Chg Non w w'->FrS N ((d,.slice a' (List.length l) c')::σ) fr->wpFrom P ops Q (k+1) fr w'):wpFrom P ops Q k a w:=by
 have hmax':l.length<=maxLen:=by
  have:=ZhM hmax;grind[room,maxLen]
 have hown:=ZdR (w:=w) (E:=E) (G:=G) (FF:=FF) hcss hfl hmax' (hG _ (ZfP _)) hFF;refine Zp hF hop rfl rfl (ZfW.mp hd) (R:=λz w1=>z= .slice (some ⟨w.heap.size,0,none⟩) l.length l.length/\w1=w.alloc (.cells cells.toArray E)) (Zh ?_ ⟨rfl,rfl⟩) λz w1 fr hz hF'=>?_
 ·have e:(parts.map λp=>(p.1,a.eval p.2))=((parts.toList.map (·.1)).zip vals).toArray:=by
   have key:∀(ps:List (Nat×Operand))(vs:List Value),ps.map (λp=>opd σ p.2)=vs.map some->ps.map (λp=>(p.1,a.eval p.2))=(ps.map (·.1)).zip vs:=by
    intro ps
    induction ps with
    |nil=>simp
    | cons p ps ih=>intro vs h;cases vs with
     |nil=>simp at h
     |cons v vs=>
      grind[List.cons.injEq,List.zip_cons_cons,Zd]
   grind
  simp_all[execOp]
 ·obtain⟨rfl,rfl⟩:=hz;exact h _ _ _ _ fr (ZfP _) hown (Chg.alloc _ _) hF'
theorem Zbn{t' ty':TypeId}{i z:Operand}{pos':String}{af':Array Edge}{kd:IntKind}{n:Int}{q:α}{Fr:Nat->Prop}(Fu:Nat->Prop)(ho:OwnS w E go G FF v l)(ht:P.underlying t=some (.slice E))(hE:Ty P E α)
  (hop:ops[k]? =some ⟨some d,.indexAddr t x i,ty,pos,af,none⟩)(hop':ops[k+1]? =some ⟨none,.store t' (.tmp d) z,ty',pos',af',none⟩)(hte:t'=E)(hd:Nat.blt d N=true)(hF:FrS N σ a)
  (hx:opd σ x=some v)(hi:opd σ i=some (.int kd n))(hz:z≠ .tmp d)(hzu:opd σ z=some u)(hu:RV w Fr u q)(hsub:∀(cs:List Value)(x:α),Rep.ok w Fr cs x->Rep.ok w Fu cs x)(hFu:∀k,k<w.heap.size->Fu k->FF k/\go≠some k)
  {r:List α}(hr:set? l n q=some r)
  (h:∀a' c' w' fr,OwnS w' E go G FF (.slice a' (List.length r) c') r->v= .slice a' (List.length r) c'->Chg (λk=>go=some k) w w'->(∃p,FrS N ((d,p)::σ) fr)->wpFrom P ops Q (k+2) fr w'):wpFrom P ops Q k a w:=by
 unfold set? at hr;split at hr
 ·rename_i hn;obtain⟨g,w',hgo,⟨c,rfl⟩,hrun,h1,h2⟩:=ho.set_run (P:=P) hE hu hsub hFu hn.2;refine Zp hF hop rfl rfl (ZfW.mp hd) (R:=λp w1=>p= .pointer (some ((⟨g,0,none⟩:Addr).add (n.toNat*Rep.sz α)))/\w1=w) (Zh ?_ ⟨rfl,rfl⟩) λp w1 fr hp hF1=>?_
  ·have hb:0<=n/\n<(l.length:Int):=⟨hn.1,by omega⟩;simp[execOp,Instr.indexAt,Zd hF hx,Zd hF hi,asIntOf,run_underlying ht,hb,hE.sizeOf]
  ·obtain⟨rfl,rfl⟩:=hp;have hz':fr.eval z=u:=by
    cases z with
    | tmp s=>
     have hne:(s==d)=false:=by
      simp_all
     refine hF1.get s u ?_;rw[ZfZ,hne];exact hzu
    |const c=>simp_all[opd,Act.eval]
    |global c=>simp_all[opd,Act.eval]
    |func c=>simp_all[opd,Act.eval]
   refine Rh hF1 hop' rfl rfl (R:=λ_ w2=>w2=w') (Tn ?_ rfl) λw2 hw2 hF2=>?_
   ·have hd1:=hF1.get d (.pointer (some ((⟨g,0,none⟩:Addr).add (n.toNat*Rep.sz α)))) U;simp_all[execOp,Instr.storeAt,Instr.sureAddr]
   grind
 ·cases hr
end
def ZaR{α:Type}[Flat α]{w:World}{F:Nat->Prop}{P:Program}{E:TypeId}(x:α)(h:(P.info? E).map (λi=>i.zero.map λz=>z.cells.toList)=some (some (Flat.enc x))):∀i,P.info? E=some i->∀z,i.zero=some z->Rep.ok w F z.cells.toList x:=by
 grind[Option.some.injEq,Flat.iff]
def elT{P:Program}{E:TypeId}{α:Type}[Rep α](h:(P.info? E).map (λi=>(i.zero.map (·.cells.size),i.size,decide (i.bytes<=32768)))=some (some (Rep.sz α),Rep.sz α,true)):ElT P E α:=h
def Zd6{P:Program}{a b z:Int}{kd:IntKind}(h:shl? a b=some z)(t:TypeId)(w:World):(binOp .shl t (.int .i64 a) (.int kd b)).run P w= .ok (.int .i64 z) w:=by
 unfold shl? at h;split at h
 ·cases h
 ·rename_i hb;simp only[Option.some.injEq]at h;subst h;simp[binOp,Op.shift,hb,IntKind.bits]
def Zem{P:Program}{a b z:Int}{kd:IntKind}(h:shr? a b=some z)(t:TypeId)(w:World):(binOp .shr t (.int .i64 a) (.int kd b)).run P w= .ok (.int .i64 z) w:=by
 unfold shr? at h;split at h
 ·cases h
 ·rename_i hb;simp only[Option.some.injEq]at h;subst h;simp[binOp,Op.shift,hb,IntKind.bits]
def Zet{P:Program}{a b z:Int}(h:quo? a b=some z)(t:TypeId)(w:World):(binOp .quo t (.int .i64 a) (.int .i64 b)).run P w= .ok (.int .i64 z) w:=by
 simp_all[quo?,Option.some.injEq,binOp,Op.intDiv]
def ZdC{P:Program}{a b z:Int}(h:rem? a b=some z)(t:TypeId)(w:World):(binOp .rem t (.int .i64 a) (.int .i64 b)).run P w= .ok (.int .i64 z) w:=by
 simp_all[rem?,Option.some.injEq,binOp,Op.intDiv]
def Zct{P:Program}{o:Oper}{a:Act}{w:World}{op:BinOp}{t yt:TypeId}{x y:Operand}(ho:o.op= .binOp op t x y yt){vx vy u:Value}(hx:a.eval x=vx)(hy:a.eval y=vy)
  (hg:(eqGuard op t x y vx vy).run P w= .ok () w)(hr:(binOp op t vx vy).run P w= .ok u w):Does P o a w λv w'=>v=u/\w'=w:=by
 refine Zh (v:=u) (w':=w) ?_ ⟨rfl,rfl⟩;simp_all[guard,execOp]
section
variable{P:Program}{ops:Array Oper}{Q:Exit->Act->World->Prop}{a:Act}{w:World}{N:Nat}{σ:List (Nat×Value)}{k d:Nat}{t yt ty:TypeId}{x y:Operand}{pos:String}{af:Array Edge}{m n z:Int}{kd:IntKind}
def Ka{op:BinOp}{vx vy u:Value}(ho:ops[k]? =some ⟨some d,.binOp op t x y yt,ty,pos,af,none⟩)(hd:Nat.blt d N=true)(hF:FrS N σ a)(hx:opd σ x=some vx)(hy:opd σ y=some vy)
  (hg:(eqGuard op t x y vx vy).run P w= .ok () w)(hr:(binOp op t vx vy).run P w= .ok u w)(h:∀fr,FrS N ((d,u)::σ) fr->wpFrom P ops Q (k+1) fr w):wpFrom P ops Q k a w:=
 Zp hF ho rfl rfl (ZfW.mp hd) (Zct rfl (Zd hF hx) (Zd hF hy) hg hr) λ_ _ fr⟨hv,hw⟩hF'=>by simp_all
def Zf1(ho:ops[k]? =some ⟨some d,.binOp .shl t x y yt,ty,pos,af,none⟩)(hd:Nat.blt d N=true)(hF:FrS N σ a)(hx:opd σ x=some (.int .i64 m))(hy:opd σ y=some (.int kd n))(hz:shl? m n=some z)
  (h:∀fr,FrS N ((d,.int .i64 z)::σ) fr->wpFrom P ops Q (k+1) fr w):wpFrom P ops Q k a w:=Ka ho hd hF hx hy ap (Zd6 hz _ _) h
def Zf4(ho:ops[k]? =some ⟨some d,.binOp .shr t x y yt,ty,pos,af,none⟩)(hd:Nat.blt d N=true)(hF:FrS N σ a)(hx:opd σ x=some (.int .i64 m))(hy:opd σ y=some (.int kd n))(hz:shr? m n=some z)
  (h:∀fr,FrS N ((d,.int .i64 z)::σ) fr->wpFrom P ops Q (k+1) fr w):wpFrom P ops Q k a w:=Ka ho hd hF hx hy ap (Zem hz _ _) h
def Zfx(ho:ops[k]? =some ⟨some d,.binOp .quo t x y yt,ty,pos,af,none⟩)(hd:Nat.blt d N=true)(hF:FrS N σ a)(hx:opd σ x=some (.int .i64 m))(hy:opd σ y=some (.int .i64 n))(hz:quo? m n=some z)
  (h:∀fr,FrS N ((d,.int .i64 z)::σ) fr->wpFrom P ops Q (k+1) fr w):wpFrom P ops Q k a w:=Ka ho hd hF hx hy ap (Zet hz _ _) h
def Zf2(ho:ops[k]? =some ⟨some d,.binOp .rem t x y yt,ty,pos,af,none⟩)(hd:Nat.blt d N=true)(hF:FrS N σ a)(hx:opd σ x=some (.int .i64 m))(hy:opd σ y=some (.int .i64 n))(hz:rem? m n=some z)
  (h:∀fr,FrS N ((d,.int .i64 z)::σ) fr->wpFrom P ops Q (k+1) fr w):wpFrom P ops Q k a w:=Ka ho hd hF hx hy ap (ZdC hz _ _) h
def Hu{α:Type}[Rep α]{w:World}{F:Nat->Prop}{ad:Addr}{l:List α}(h:elems w F ad 0 l)(lo hi:Nat):elems w F (ad.add (lo*Rep.sz α)) 0 ((l.take hi).drop lo):=by
 refine Mh λi x hx=>?_;rw[Zg1,Zgw]at hx;split at hx
 ·obtain⟨cs,h1,h2⟩:=Ui h hx;refine⟨cs,h1,?_⟩;simp_all[add_add,Rep.sz,Zhl,Zh9]
 ·cases hx
theorem Cq{α:Type}[Rep α]{o:Oper}{E:TypeId}(he:Ty P E α)(ht:P.underlying t=some (.slice E)){lo hi:Option Operand}(ho:o.op= .slice t x lo hi none){v:Value}{F:Nat->Prop}{l:List α}(hx:a.eval x=v)(hl:RV w F v l)
  {m n:Int}(hlo:match lo with|none=>m=0|some y=>∃k,a.eval y= .int k m)(hhi:match hi with|none=>n=(l.length:Int)|some y=>∃k,a.eval y= .int k n){r:List α}(hr:cut? l m n=some r):Does P o a w λv' w'=>RV w F v' r/\w'=w:=by
 unfold cut? at hr;split at hr
 ·rename_i hb;obtain⟨Z,h1,h2⟩:=hb;simp only[Option.some.injEq]at hr;obtain⟨b,cap,rfl,hc1,hc2,hc3⟩:=hl.slice;have hlen:r.length=n.toNat-m.toNat:=by
   grind
  refine Zh (v:=.slice (if cap=m.toNat then b else b.map (·.add (m.toNat*Rep.sz α))) (n.toNat-m.toNat) (cap-m.toNat)) (w':=w) ?_ ⟨?_,rfl⟩
  ·obtain⟨dst,op,type,pos,after,guard⟩:=o;simp only at ho;subst ho;have hn2:n<=(cap:Int):=by omega
   cases lo with
   | none=>
    simp only at hlo;subst hlo;cases hi with
    |none=>
     simp only at hhi;subst hhi;simp[execOp,Instr.sliceAt,Instr.slice,Instr.sliceBounds,hx,run_underlying ht,he.sizeOf]
    |some y=>
     obtain⟨kk,hy⟩:=hhi;simp[execOp,Instr.sliceAt,Instr.slice,Instr.sliceBounds,Instr.sliceBound,asIntOf,hx,hy,run_underlying ht,he.sizeOf,h1,hn2]
   | some z=>
    obtain⟨kz,hz⟩:=hlo;cases hi with
    |none=>
     simp only at hhi;subst hhi;simp[execOp,Instr.sliceAt,Instr.slice,Instr.sliceBounds,Instr.sliceBound,asIntOf,hx,hz,run_underlying ht,he.sizeOf,Z,h1]
    |some y=>
     obtain⟨kk,hy⟩:=hhi;have hn0:0<=n:=by omega
     have hmn':m<=max n 0:=by omega
     simp[execOp,Instr.sliceAt,Instr.slice,Instr.sliceBounds,Instr.sliceBound,asIntOf,hx,hy,hz,run_underlying ht,he.sizeOf,Z,hn0,hn2,hmn']
  ·rw[<-hlen];refine RV.mk_slice O O λhne=>?_;have hlne:l≠[]:=by
    rintro rfl;apply hne;rw[<-hr];simp
   obtain⟨ad,rfl,hF,hel⟩:=hc3 hlne;have hpos:0<r.length:=by
    cases hr0:r with
    |nil=>exact absurd hr0 hne
    |cons=>simp
   rw[ZfD O];refine⟨ad.add (m.toNat*Rep.sz α),rfl,by rw[add_block];exact hF,?_⟩;rw[<-hr];exact Hu hel _ _
 ·cases hr
def Ze0{α:Type}[Rep α]{E:TypeId}{lo hi:Option Operand}{v:Value}{F:Nat->Prop}{l r:List α}(he:Ty P E α)(ht:P.underlying t=some (.slice E))(ho:ops[k]? =some ⟨some d,.slice t x lo hi none,ty,pos,af,none⟩)(hd:Nat.blt d N=true)(hF:FrS N σ a)
  (hx:opd σ x=some v)(hl:RV w F v l)(hlo:match lo with|none=>m=0|some y=>∃k,opd σ y=some (.int k m))(hhi:match hi with|none=>n=(l.length:Int)|some y=>∃k,opd σ y=some (.int k n))(hr:cut? l m n=some r)
  (h:∀u fr,RV w F u r->FrS N ((d,u)::σ) fr->wpFrom P ops Q (k+1) fr w):wpFrom P ops Q k a w:=
 Zp hF ho rfl rfl (ZfW.mp hd) (Cq he ht rfl (Zd hF hx) hl (by
  grind[Zd]) (by
  grind[Zd]) hr) λu w' fr⟨h1,h2⟩hF'=>by grind
end
section
variable{P:Program}{draw:Bool}{ms:List Nat}{ops:Array Oper}{a0:Act}{w0:World}{Q:Exit->Act->World->Prop}{σ:List (Nat×Value)}{N j:Nat}{dst:Option Tmp}{g:Option (Nat×Bool)}
  {t yt ty:TypeId}{x y:Operand}{pos:String}{af:Array Edge}{m n z:Int}{kd:IntKind}
end
open Go.RowKit Go.Maps
structure MapT(P:Program)(k e:TypeId)(κ β:Type)[Flat κ][Flat β]where
 R:Value->Option (DataW Value×List MemPlace):=plainElem P e
 fit:κ->Bool
 lit:κ->Lit
 dv:β->DataW Value
 zero:β
 keyed:Keyed P k
 key:∀x,fit x=true->keyOf P k (Rep.val κ (Flat.enc x))=some (lit x)
 inj:∀x y,fit x=true->fit y=true->lit x=lit y->x=y
 efit:β->Bool
 zfit:efit zero=true
 elem:∀y,efit y=true->R (Rep.val β (Flat.enc y))=some (dv y,[])
 back:∀v y ps,R v=some (dv y,ps)->v=Rep.val β (Flat.enc y)
 hz:∀w,(zeroValue e).run P w= .ok (Rep.val β (Flat.enc zero)) w
section
variable{P:Program}{k e t:TypeId}{κ β:Type}[Flat κ][Flat β](T:MapT P k e κ β){w:World}{b:Nat}{m:List (κ×β)}
def MapT.D:List (κ×β)->DataW Value
 |[]=>.map []
 |(x,y)::m=>(MapT.D m).put (T.lit x) (T.dv y)
def OwnM(w:World)(b:Nat)(m:List (κ×β)):Prop:=w.ownsMap P k T.R b m.length (T.D m)/\∀p∈m,T.fit p.1=true
theorem MapT.isMap:∀m:List (κ×β),IsMap (T.D m)
 |[]=>⟨_,rfl⟩
 |(x,y)::m=>by
  obtain⟨es,h⟩:=MapT.isMap m;exact⟨_,by rw[MapT.D,h];rfl⟩
theorem MapT.at_[DecidableEq κ]{x:κ}(hx:T.fit x=true)(z:DataW Value):∀m:List (κ×β),(∀p∈m,T.fit p.1=true)->(T.D m).atKey (T.lit x) z=match m.lookup x with|some y=>T.dv y|none=>z
 |[],_=>rfl
 | (u,y)::m,h=>by
  have ih:=MapT.at_ hx z m λp hp=>h p (ZfT _ hp);have hu:=h (u,y) Zgi;by_cases hxu:x=u
  ·subst hxu;rw[MapT.D,atKey_put_same (T.isMap m) (T.keyed.key (T.key x hx))];simp
  ·have hl:T.lit x≠T.lit u:=λhh=>hxu (T.inj _ _ hx hu hh);grind[MapT.D,atKey_put_other,List.lookup]
def mget[DecidableEq κ](z:β)(m:List (κ×β))(x:κ):β:=(m.lookup x).getD z
theorem OwnM.made:OwnM T (w.alloc (.map #[] 0)) w.heap.size ([]:List (κ×β)):=⟨World.ownsMap_made w P k _,by simp⟩
theorem OwnM.look[DecidableEq κ](h:OwnM T w b m)(ht:P.underlying t=some (.map k e)){x:κ}(hx:T.fit x=true):
  (Instr.lookup t (.map (some b)) (Rep.val κ (Flat.enc x)) false).run P w= .ok (Rep.val β (Flat.enc (mget T.zero m x))) w:=by
 obtain⟨v,ps,hrun,hv⟩:=h.1.lookup T.keyed ht (T.hz w) (T.elem T.zero T.zfit) (T.key x hx);rw[T.at_ hx _ m h.2]at hv;have hd:T.R v=some (T.dv (mget T.zero m x),ps):=by
  grind[mget]
 rw[hrun,T.back v _ ps hd]
theorem MapT.has_[DecidableEq κ]{x:κ}(hx:T.fit x=true):∀m:List (κ×β),(∀p∈m,T.fit p.1=true)->Maps.has (T.D m) (T.lit x)=(m.lookup x).isSome
 |[],_=>rfl
 | (u,y)::m,h=>by
  have ih:=MapT.has_ hx m λp hp=>h p (ZfT _ hp);have hu:=h (u,y) Zgi;by_cases hxu:x=u
  ·subst hxu;rw[MapT.D,has_put_same (T.isMap m) (T.keyed.key (T.key x hx))];simp
  ·have hl:T.lit x≠T.lit u:=λhh=>hxu (T.inj _ _ hx hu hh);grind[MapT.D,has_put_other,List.lookup]
theorem OwnM.look2[DecidableEq κ](h:OwnM T w b m)(ht:P.underlying t=some (.map k e)){x:κ}(hx:T.fit x=true):
  (Instr.lookup t (.map (some b)) (Rep.val κ (Flat.enc x)) true).run P w= .ok (.tuple #[Rep.val β (Flat.enc (mget T.zero m x)),.bool (m.lookup x).isSome]) w:=by
 obtain⟨v,ps,hrun,hv⟩:=h.1.look_ok T.keyed ht (T.hz w) (T.elem T.zero T.zfit) (T.key x hx);rw[T.at_ hx _ m h.2]at hv;have hd:T.R v=some (T.dv (mget T.zero m x),ps):=by
  grind[mget]
 rw[hrun,T.back v _ ps hd,T.has_ hx m h.2]
theorem OwnM.put(h:OwnM T w b m)(ht:P.underlying t=some (.map k e)){x:κ}(hx:T.fit x=true)(y:β)(he:T.efit y=true)(hm:m.length<maxLen):
  ∃w',(Instr.mapUpdate t (.map (some b)) (Rep.val κ (Flat.enc x)) (Rep.val β (Flat.enc y))).run P w= .ok () w'/\OwnM T w' b ((x,y)::m)/\w.grownBy w' (some b):=by
 obtain⟨w',hrun,h1,h2⟩:=h.1.update T.keyed ht hm (T.key x hx) (T.elem y he)
 exact⟨w',hrun,⟨h1,λp hp=>by
  rcases ZfY.1 hp with rfl|hp
  ·exact hx
  ·exact h.2 p hp⟩,h2⟩
theorem OwnM.lt(h:OwnM T w b m):b<w.heap.size:=h.1.lt
theorem OwnM.chg{S:Nat->Prop}{w':World}(h:OwnM T w b m)(hc:Chg S w w')(hs:¬S b):OwnM T w' b m:=by
 obtain⟨⟨es,clock,hb,F,hn,hD⟩,h2⟩:=h;exact⟨⟨es,clock,(hc.block b (Zgg.1 hb).1 hs).trans hb,F,hn,hD⟩,h2⟩
theorem Chg.of_grown{w w':World}{b:Nat}(h:w.grownBy w' (some b)):Chg (λk=>k=b) w w':=
 ⟨h.os,h.tape,h.output,h.size,λk hk hs=>h.block k hk λe=>hs (by simpa using e)⟩
variable{a:Act}{ops:Array Oper}{Q:Exit->Act->World->Prop}{σ:List (Nat×Value)}{N j d:Nat}{x y z:Operand}{ty:TypeId}{pos:String}{af:Array Edge}
theorem FT{o:Oper}(ho:o.op= .makeMap t none)(hm:(Instr.makeMap t none).run P w= .ok (.map (some w.heap.size)) (w.alloc (.map #[] 0))):Does P o a w λv w'=>v= .map (some w.heap.size)/\w'=w.alloc (.map #[] 0):=by
 refine Zh (v:=.map (some w.heap.size)) (w':=w.alloc (.map #[] 0)) ?_ ⟨rfl,rfl⟩;simp_all[guard,execOp]
theorem Ch[DecidableEq κ]{o:Oper}(ho:o.op= .lookup t x y false)(h:OwnM T w b m)(ht:P.underlying t=some (.map k e)){u:κ}(hu:T.fit u=true)(hx:a.eval x= .map (some b))(hy:a.eval y=Rep.val κ (Flat.enc u)):
  Does P o a w λv w'=>v=Rep.val β (Flat.enc (mget T.zero m u))/\w'=w:=by
 refine Zh (v:=Rep.val β (Flat.enc (mget T.zero m u))) (w':=w) ?_ ⟨rfl,rfl⟩;obtain⟨dst,op,type,pos,after,guard⟩:=o;subst ho;simp[execOp,hx,hy,h.look T ht hu]
theorem Ff[DecidableEq κ]{o:Oper}(ho:o.op= .lookup t x y true)(h:OwnM T w b m)(ht:P.underlying t=some (.map k e)){u:κ}(hu:T.fit u=true)(hx:a.eval x= .map (some b))(hy:a.eval y=Rep.val κ (Flat.enc u)):
  Does P o a w λv w'=>v= .tuple #[Rep.val β (Flat.enc (mget T.zero m u)),.bool (m.lookup u).isSome]/\w'=w:=by
 refine Zh (v:=.tuple #[Rep.val β (Flat.enc (mget T.zero m u)),.bool (m.lookup u).isSome]) (w':=w) ?_ ⟨rfl,rfl⟩;obtain⟨dst,op,type,pos,after,guard⟩:=o;subst ho;simp[execOp,hx,hy,h.look2 T ht hu]
theorem Ey{o:Oper}(ho:o.op= .mapUpdate t x y z)(h:OwnM T w b m)(ht:P.underlying t=some (.map k e)){u:κ}(hu:T.fit u=true)(q:β)(he:T.efit q=true)(hm:m.length<maxLen)(hx:a.eval x= .map (some b))(hy:a.eval y=Rep.val κ (Flat.enc u))(hz:a.eval z=Rep.val β (Flat.enc q)):
  Does P o a w λ_ w'=>OwnM T w' b ((u,q)::m)/\Chg (λk=>k=b) w w':=by
 obtain⟨w',hrun,h1,h2⟩:=h.put T ht hu q he hm;simp_all[Tn,Chg.of_grown,guard,execOp]
end
structure HP where
 ok:World->(Nat->Prop)->Prop
 mono:∀{w:World}{A A':Nat->Prop},ok w A->(∀k,k<w.heap.size->A k->A' k)->ok w A'
 keep:∀{w w':World}{A T:Nat->Prop},ok w A->Chg T w w'->(∀k,A k->¬T k)->ok w' A
 box:Option (Nat×List Value):=none
 isb:∀{w:World}{A:Nat->Prop}{p:Nat×List Value},box=some p->ok w A->∃t,Box w p.1 t p.2:=by intro _ _ _ h;cases h
def SL{α:Type}[Rep α](E:TypeId)(v:Value)(l:List α):HP where
 ok w A:=(∃go,OwnS w E go A Non v l)\/(l=[]/\∃a,v= .slice a 0 0)
 mono:=λh hA=>h.elim (λ⟨go,h⟩=>.inl ⟨go,h.regard hA⟩) .inr
 keep:=λh hc hT=>h.elim (λ⟨go,h⟩=>.inl ⟨go,h.chg hc (λk _ hk=>hT k hk) (λ_ h=>h.elim)⟩) .inr
def BX(b:Nat)(t:TypeId)(cs:List Value):HP where
 ok w A:=Box w b t cs/\A b
 mono:=λh hA=>⟨h.1,hA b h.1.lt h.2⟩
 keep:=λh hc hT=>⟨h.1.chg hc (hT b h.2),h.2⟩
 box:=some (b,cs)
 isb:=λh hok=>by grind
def MP{P:Program}{k e:TypeId}{κ β:Type}[Flat κ][Flat β][DecidableEq κ](T:MapT P k e κ β)(b:Nat)(m:List (κ×β)):HP where
 ok w A:=OwnM T w b m/\A b
 mono:=λh hA=>⟨h.1,hA b h.1.lt h.2⟩
 keep:=λh hc hT=>⟨h.1.chg T hc (hT b h.2),h.2⟩
def Sep(L:List HP)(w:World)(S:Nat->Prop):Prop:=
 ∃f:Nat->Nat->Prop,(∀i P,L[i]? =some P->P.ok w (f i)/\∀k,f i k->S k)/\∀i j k,i≠j->f i k->f j k->False
structure Stp(w:World)(S:Nat->Prop)(w':World)(S':Nat->Prop):Prop where
 chg:Chg S w w'
 sub:∀k,S' k->S k\/w.heap.size<=k
 bd:∀k,S' k->k<w'.heap.size
structure Mem(w0:World)(S0 F0:Nat->Prop)(w:World)(S F:Nat->Prop):Prop where
 chg:Chg S0 w0 w
 sub:∀k,S k->S0 k\/w0.heap.size<=k
 bd:∀k,S k->k<w.heap.size
 bdF:∀k,F k->k<w.heap.size
 dj:∀k,S k->F k->False
 dj0:∀k,S0 k->F0 k->False
 fz:∀k,F0 k->F k
 fsub:∀k,F k->F0 k\/S0 k\/w0.heap.size<=k
section
variable{w0 w w' w1:World}{S0 F0 S F S' F' S1 F1:Nat->Prop}{L L' L1 L2:List HP}
def Mem.start(hb:∀k,S k->k<w.heap.size)(hf:∀k,F k->k<w.heap.size)(hd:∀k,S k->F k->False):Mem w S F w S F:=
 ⟨Chg.refl _ _,λ_ h=>.inl h,hb,hf,hd,hd,λ_ h=>h,λ_ h=>.inl h⟩
def Mem.stp(h:Mem w0 S0 F0 w S F)(hp:Stp w S w' S'):Mem w0 S0 F0 w' S' F:=
  ⟨h.chg.trans' hp.chg h.sub,λk hk=>(hp.sub k hk).elim (h.sub k) λhl=>.inr (ZgY h.chg.size hl),hp.bd,λk hk=>ZfQ (h.bdF k hk) hp.chg.size,λk hk hf=>(hp.sub k hk).elim (λhs=>h.dj k hs hf) λhl=>Zh0 _ (ZfQ (h.bdF k hf) hl),h.dj0,h.fz,h.fsub⟩
def Mem.ext(h:Mem w0 S0 F0 w S F)(hc:Chg Non w w'):Mem w0 S0 F0 w' S F:=
 ⟨h.chg.trans hc.of,h.sub,λk hk=>ZfQ (h.bd k hk) hc.size,λk hk=>ZfQ (h.bdF k hk) hc.size,h.dj,h.dj0,h.fz,h.fsub⟩
def Sep.nil(w:World)(S:Nat->Prop):Sep [] w S:=⟨λ_=>Non,λi P h=>by simp at h,λ_ _ _ _ h=>h.elim⟩
def Sep.keep{T:Nat->Prop}(h:Sep L w S)(hc:Chg T w w')(hT:∀k,S k->¬T k):Sep L w' S:=by
 obtain⟨f,h1,h2⟩:=h;exact⟨f,λi P hi=>⟨P.keep (h1 i P hi).1 hc λk hk=>hT k ((h1 i P hi).2 k hk),(h1 i P hi).2⟩,h2⟩
def Sep.ext(h:Sep L w S)(hc:Chg Non w w'):Sep L w' S:=h.keep hc λ_ _=>id
def Sep.mono(h:Sep L w S)(hs:∀k,k<w.heap.size->S k->S' k):Sep L w S':=by
 obtain⟨f,h1,h2⟩:=h;exact⟨λi k=>f i k/\k<w.heap.size,λi P hi=>⟨P.mono (h1 i P hi).1 λk hk hf=>⟨hf,hk⟩,λk hk=>hs k hk.2 ((h1 i P hi).2 k hk.1)⟩,λi j k hne hi hj=>h2 i j k hne hi.1 hj.1⟩
theorem ZdO{is:List Nat}(hn:is.Nodup){i j x:Nat}(hi:is[i]? =some x)(hj:is[j]? =some x):i=j:=by
 grind[List.getElem?_eq_some_iff,Nat.lt_trichotomy,absurd,List.pairwise_iff_getElem]
theorem Sep.pick(is:List Nat)(h:Sep L w S)(hn:is.Nodup){L':List HP}(hL:is.map (λi=>L[i]?)=L'.map some):Sep L' w S:=by
 obtain⟨f,h1,h2⟩:=h;refine⟨λm k=>∃i,is[m]? =some i/\f i k,λm P hm=>?_,λm m' k hne⟨i,hi,hf⟩⟨j,hj,hg⟩=>?_⟩
 ·have h3:(is.map λi=>L[i]?)[m]? =some (some P):=by simp_all
  rw[Zgp]at h3;cases hi:is[m]? with
  |none=>simp_all
  |some i=>
   rw[hi]at h3;simp only[Zgh,Option.some.injEq]at h3;obtain⟨g1,g2⟩:=h1 i P h3;simp_all
 grind[ZdO]
def Sep.get(i:Nat)(h:Sep L w S){P:HP}(hi:L[i]? =some P):∃A,P.ok w A/\∀k,A k->S k:=by
 obtain⟨f,h1,_⟩:=h;grind
def Sep.rv{α:Type}[Rep α]{E:TypeId}{v:Value}{l:List α}(i:Nat)(h:Sep L w S)(hi:L[i]? =some (SL E v l)):RV w S v l:=by
 obtain⟨A,h1,h2⟩:=h.get i hi;rcases h1 with⟨go,h1⟩|⟨rfl,a,rfl⟩
 ·exact h1.rv.sub λk _ hk=>hk.elim (λhk=>h2 k hk.2) λhk=>hk.elim
 ·exact RV.mk_slice (l:=([]:List α)) (ZfP _) (Zg9 _) λh=>absurd rfl h
def Sep.mp{P:Program}{k e:TypeId}{κ β:Type}[Flat κ][Flat β][DecidableEq κ]{T:MapT P k e κ β}{b:Nat}{m:List (κ×β)}(i:Nat)(h:Sep L w S)(hi:L[i]? =some (MP T b m)):OwnM T w b m:=by
 obtain⟨A,h1,h2⟩:=h.get i hi;exact h1.1
def Sep.upd(i:Nat)(h:Sep L w S){P:HP}(hi:L[i]? =some P)(hM:Mem w0 S0 F0 w S F):∃A,P.ok w A/\∀{w':World}{P':HP},Chg A w w'->P'.ok w' (λk=>A k\/w.heap.size<=k)->
  ∃S',Stp w S w' S'/\Sep (L.set i P') w' S':=by
 obtain⟨f,h1,h2⟩:=h;have hbd:=hM.bd;refine⟨f i,(h1 i P hi).1,λ{w' P'}hc hok=>⟨λk=>(S k\/w.heap.size<=k)/\k<w'.heap.size,⟨hc.mono (h1 i P hi).2,λk hk=>hk.1,λk hk=>hk.2⟩,?_⟩⟩;refine⟨λj k=>if j=i then(f i k\/w.heap.size<=k)/\k<w'.heap.size else j<L.length/\f j k,λj Q hj=>?_,λj j' k hne hf hg=>?_⟩
 ·rw[Zha]at hj;by_cases e:i=j
  ·subst e;have hlt:i<L.length:=(ZfE.1 hi).1;simp only[ZfR,hlt,Option.some.injEq]at hj;subst hj;simp only[ZfR];exact⟨P'.mono hok λk hk hA=>⟨hA,hk⟩,λk hk=>⟨hk.1.elim (λhk=>.inl ((h1 i P hi).2 k hk)) .inr,hk.2⟩⟩
  ·rw[ZfD e]at hj;simp only[ZfD (Ne.symm e)];have hlt:j<L.length:=(ZfE.1 hj).1;refine⟨Q.mono (Q.keep (h1 j Q hj).1 hc λk hk hk'=>h2 i j k e hk' hk) λk _ hk=>⟨hlt,hk⟩,λk hk=>⟨.inl ((h1 j Q hj).2 k hk.2),ZfQ (hbd k ((h1 j Q hj).2 k hk.2)) hc.size⟩⟩
 grind
def Sep.split(h:Sep (L1++L2) w S):∃A R,Sep L1 w A/\Sep L2 w R/\(∀k,A k->R k->False)/\(∀k,A k->S k)/\∀k,R k->S k:=by
 obtain⟨f,h1,h2⟩:=h;refine⟨λk=>∃i,i<L1.length/\f i k,λk=>∃i,i<L2.length/\f (i+L1.length) k,⟨λi k=>i<L1.length/\f i k,λi P hi=>?_,λi j k hne a b=>h2 i j k hne a.2 b.2⟩,⟨λi k=>i<L2.length/\f (i+L1.length) k,λi P hi=>?_,λi j k hne a b=>h2 _ _ k O a.2 b.2⟩,?_,?_,?_⟩
 ·have hlt:i<L1.length:=(ZfE.1 hi).1;exact⟨P.mono (h1 i P al).1 λk _ hk=>⟨hlt,hk⟩,λk hk=>⟨i,hk⟩⟩
 ·have hlt:i<L2.length:=(ZfE.1 hi).1;exact⟨P.mono (h1 (i+L1.length) P al).1 λk _ hk=>⟨hlt,hk⟩,λk hk=>⟨i,hk⟩⟩
 ·grind
 ·rintro k ⟨i,hi,hf⟩;exact(h1 i L1[i] al).2 k hf
 ·rintro k ⟨i,hi,hf⟩;exact(h1 (i+L1.length) L2[i] al).2 k hf
theorem Sep.join{A R:Nat->Prop}(h1:Sep L1 w A)(h2:Sep L2 w R)(hd:∀k,k<w.heap.size->A k->R k->False)(hA:∀k,k<w.heap.size->A k->S k)(hR:∀k,k<w.heap.size->R k->S k):Sep (L1++L2) w S:=by
 obtain⟨f,f1,f2⟩:=h1;obtain⟨g,g1,g2⟩:=h2;have fr:∀i k,i<L1.length->f i k->A k:=λi k hi hf=>(f1 i L1[i] aH).2 k hf;have gr:∀i k,i<L2.length->g i k->R k:=λi k hi hf=>(g1 i L2[i] aH).2 k hf;refine⟨λi k=>k<w.heap.size/\((i<L1.length/\f i k)\/(L1.length<=i/\i-L1.length<L2.length/\g (i-L1.length) k)),λi P hi=>?_,?_⟩
 ·by_cases hlt:i<L1.length
  ·rw[Zgs hlt]at hi;refine⟨P.mono (f1 i P hi).1 λk hk hf=>⟨hk,.inl ⟨hlt,hf⟩⟩,λk hk=>?_⟩;grind
  ·rw[Zgo O]at hi;have hlt2:i-L1.length<L2.length:=(ZfE.1 hi).1;refine⟨P.mono (g1 _ P hi).1 λk hk hf=>⟨hk,.inr ⟨by omega,hlt2,hf⟩⟩,λk hk=>?_⟩;grind
 grind
theorem Sep.new{P:HP}(h:Sep L w S)(hM:Mem w0 S0 F0 w S F)(hc:Chg Non w w')(hok:P.ok w' (λk=>w.heap.size<=k)):∃S',Stp w S w' S'/\Sep (P::L) w' S':=by
 refine⟨λk=>(S k\/w.heap.size<=k)/\k<w'.heap.size,⟨hc.of,λk hk=>hk.1,λk hk=>hk.2⟩,?_⟩
 have h1:Sep [P] w' (λk=>w.heap.size<=k):=⟨λi k=>i=0/\w.heap.size<=k,λi Q hi=>by
  cases i with
  |zero=>simp_all
  |succ i=>simp at hi,λi j k hne hi hj=>hne (hi.1.trans hj.1.symm)⟩
 exact Sep.join (L1:=[P]) h1 (h.ext hc) (λk _ ha hr=>Zh0 _ (ZfQ (hM.bd k hr) ha)) (λk hk ha=>⟨.inr ha,hk⟩) (λk hk ha=>⟨.inl ha,hk⟩)
theorem Sep.cons_nil{α:Type}[Rep α](E:TypeId)(h:Sep L w S):Sep (SL E (.slice none 0 0) ([]:List α)::L) w S:=by
 have h1:Sep [SL E (.slice none 0 0) ([]:List α)] w Non:=⟨λi k=>False,λi Q hi=>by
  cases i with
  |zero=>simp at hi;subst hi;exact⟨.inr ⟨rfl,none,rfl⟩,λk hk=>hk.elim⟩
  |succ i=>simp at hi,λi j k hne hi hj=>hi.elim⟩
 exact Sep.join (L1:=[SL E (.slice none 0 0) ([]:List α)]) h1 h (λ_ _ h=>h.elim) (λ_ _ h=>h.elim) (λ_ _ h=>h)
def Sep.freeze{P:HP}(h:Sep (P::L) w S)(hM:Mem w0 S0 F0 w S F):∃S' F',Mem w0 S0 F0 w S' F'/\Sep L w S'/\P.ok w F'/\∀k,F k->F' k:=by
 obtain⟨A,R,h1,h2,h3,h4,h5⟩:=Sep.split (L1:=[P]) (L2:=L) h;refine⟨R,λk=>F k\/A k,⟨hM.chg,λk hk=>hM.sub k (h5 k hk),λk hk=>hM.bd k (h5 k hk),λk hk=>hk.elim (hM.bdF k) λhk=>hM.bd k (h4 k hk),λk hk hf=>hf.elim (hM.dj k (h5 k hk)) λhf=>h3 k hf hk,hM.dj0,λk hk=>.inl (hM.fz k hk),λk hk=>hk.elim (hM.fsub k) λhk=>.inr (hM.sub k (h4 k hk))⟩,h2,?_,λ_ h=>.inl h⟩;obtain⟨B,g1,g2⟩:=h1.get 0 rfl;exact P.mono g1 λk _ hk=>.inr (g2 k hk)
def SL.rv{α:Type}[Rep α]{E:TypeId}{v:Value}{l:List α}(h:(SL E v l).ok w F):RV w F v l:=by
 rcases h with⟨go,h1⟩|⟨rfl,a,rfl⟩
 ·exact h1.rv.sub λk _ hk=>hk.elim (λhk=>hk.2) λhk=>hk.elim
 ·exact RV.mk_slice (l:=([]:List α)) (ZfP _) (Zg9 _) λh=>absurd rfl h
end
def sufB(ops:Array Oper)(m:Nat):Bool:=
 decide (m<=ops.size)&&(List.range ops.size).all λj=>(ops.getD j default).after.toList.all (λe=>!Region.binds .any e||decide (e.on<j))&&(decide (j<m)||(List.range j).all λi=>((masksN ops ops.size).getD j 0).testBit i)
section
variable{P:Program}{ops:Array Oper}{Q:Exit->Act->World->Prop}
theorem ZaJ{m0:Nat}(hch:sufB ops m0=true):∀fuel j(L:Array Bool)(a:Act)(w:World),m0<=j+1->L.size=ops.size->(∀i,L.getD i false=true↔i<j)->j<=ops.size->ops.size-j<=fuel->
  wpList P ops Q (ops.toList.drop j) a w->wpAny P .any ops Q fuel L a w:=by
 unfold sufB at hch;simp only[ZfV,Zh5,ZfF,Zgx,ZfN]at hch;obtain⟨_,hch⟩:=hch;have hearly:∀j o,ops[j]? =some o->∀e∈o.after.toList,Region.binds .any e=true->e.on<j:=λj o ho e he hb=>by
  have hj:j<ops.size:=(Zgg.1 ho).1;have h1:=(hch j hj).1 e ah;simp_all
 have hready:∀(L:Array Bool)(i j:Nat),m0<=j+1->L.size=ops.size->(∀i,L.getD i false=true↔i<j)->i∈Region.ready .any ops L->i=j/\i<ops.size:=by
  intro L i j hmj hs hL hi;unfold Region.ready at hi;rw[Zgv,Zh5]at hi;obtain⟨h1,h2⟩:=hi;simp only[ZfF,Zhi]at h2;obtain⟨h2,h3⟩:=h2;have hs':i<L.size:=by omega
  have hnl:¬i<j:=λh=>by
   grind
  refine⟨?_,h1⟩;rcases ZhU j i with h|h
  ·exfalso;have hm:=((hch i h1).2.resolve_left O) j h;rw[Rn ops ops.size i h1]at hm;have ho:ops[i]? =some (ops.getD i default):=by simp[ZfM,h1]
   have:=LV L (λj' o' hj' ho' e he hb=>(hL e.on).2 (Nat.lt_trans (hearly j' o' ho' e he hb) ((hL j').1 hj'))) j i h1 hm (λe he hb=>by
    rw[ho]at h3;simp only[Zgh,Zg8,ZhK]at h3;have:=h3 e (by simpa using he)
    simpa[hb]using this)
   have:=(hL j).1 this;omega
  ·omega
 intro fuel
 induction fuel with
 |zero=>
  intro j L a w hmj hs hL hj hf hw;obtain rfl:j=ops.size:=by omega
  rw[ZgK U]at hw;refine⟨?_,hw⟩;cases hr:Region.ready .any ops L with
  |nil=>rfl
  |cons i r=>exact absurd (hready L i _ hmj hs hL (by rw[hr];exact Zgi)) O
 | succ fuel ih=>
  intro j L a w hmj hs hL hj hf hw;refine⟨λhr=>?_,λi hi=>?_⟩
  ·rcases ZhU j ops.size with h|h
   ·exfalso;have hmem:j∈Region.ready .any ops L:=by
     unfold Region.ready;rw[Zgv];refine⟨Zh5.2 h,?_⟩;have ho:ops[j]? =some ops[j]:=by simp[h]
     have h2:((ops[j]).after.all λe=>!Region.binds .any e||L.getD e.on false)=true:=by
      rw[ZhK];intro e he;cases hb:Region.binds .any e with
      |false=>rfl
      |true=>simp[(hL e.on).2 (hearly j _ ho e (by simpa using he) hb)]
     rw[ho];simp only[Zgh,Zg8,h2,ZgG,Zhi];have hs':j<L.size:=by omega
     cases hl:L.getD j false with
     |true=>exact absurd ((hL j).1 hl) O
     |false=>simpa[ZfM,hs']using hl
    rw[hr]at hmem;cases hmem
   ·rw[ZgK O]at hw;exact hw
  ·obtain⟨rfl,hlt⟩:=hready L i j hmj hs hL hi;have ho:ops[i]? =some ops[i]:=by simp[hlt]
   rw[Zgc (by simpa using hlt)]at hw;have ho':ops.toList[i]'(by simpa using hlt)=ops[i]:=by simp
   rw[ho']at hw;unfold wpOp;rw[ho];have step:∀a w,wpList P ops Q (ops.toList.drop (i+1)) a w->wpAny P .any ops Q fuel (L.setIfInBounds i true) a w:=λa w h=>by
    refine ih (i+1) _ a w O (by simpa using hs) (λm=>?_) O O h;by_cases e:m=i
    ·subst e;have:m<L.size:=by omega
     simp[ZfM,this]
    ·have h1:(L.setIfInBounds i true).getD m false=L.getD m false:=by
      simp[ZfM,Ne.symm e]
     rw[h1,hL m];omega
   unfold wpList at hw;simp only;split at hw
   ·rename_i hwant;rw[ZfC hwant];rcases hw with hw|hw
    ·exact .inl (Oper.wp_mono step hw)
    ·exact .inr hw
   ·rename_i hwant;rw[ZfD hwant];exact step _ _ hw
end
section
variable{P:Program}{ops:Array Oper}{Q:Exit->Act->World->Prop}{a:Act}{w w0:World}{S S0 F F0:Nat->Prop}{N:Nat}{σ:List (Nat×Value)}{k d:Nat}{t ty:TypeId}{x y:Operand}{pos:String}{af:Array Edge}
  {L:List HP}
def Zfr{v:Value}(hs:Sep L w S)(hM:Mem w0 S0 F0 w S F)(cs:List Value)(ho:ops[k]? =some ⟨some d,.box t x,ty,pos,af,none⟩)(hd:Nat.blt d N=true)(hF:FrS N σ a)(hx:opd σ x=some v)(hcs:v.cells.toList=cs)
  (h:∀b w' S' fr,Sep (BX b t cs::L) w' S'->Stp w S w' S'->FrS N ((d,.pointer (some ⟨b,0,none⟩))::σ) fr->wpFrom P ops Q (k+1) fr w'):wpFrom P ops Q k a w:=
 Zf8 cs ho hd hF hx hcs λb w' fr hlo hb hc hF'=>by
  obtain⟨S',hp,hs'⟩:=hs.new hM hc (P:=BX b t cs) ⟨hb,hlo⟩;grind
def Ze3{z:Value}(hs:Sep L w S)(hM:Mem w0 S0 F0 w S F)(cs:List Value)(ho:ops[k]? =some ⟨some d,.alloc t,ty,pos,af,none⟩)(hd:Nat.blt d N=true)(hF:FrS N σ a)(hz:(P.info? t).map (·.zero)=some (some z))(hcs:z.cells.toList=cs)
  (h:∀b w' S' fr,Sep (BX b t cs::L) w' S'->Stp w S w' S'->FrS N ((d,.pointer (some ⟨b,0,none⟩))::σ) fr->wpFrom P ops Q (k+1) fr w'):wpFrom P ops Q k a w:=
 Ze1 cs ho hd hF hz hcs λb w' fr hlo hb hc hF'=>by
  obtain⟨S',hp,hs'⟩:=hs.new hM hc (P:=BX b t cs) ⟨hb,hlo⟩;grind
def Bz{b n:Nat}{bt:TypeId}{cs:List Value}{u:Value}(i:Nat)(hs:Sep L w S)(hM:Mem w0 S0 F0 w S F)(hi:L[i]? =some (BX b bt cs))(cs':List Value)(ho:ops[k]? =some ⟨none,.store t x y,ty,pos,af,none⟩)(hF:FrS N σ a)
  (hx:opd σ x=some (.pointer (some ⟨b,n,none⟩)))(hy:opd σ y=some u)(ht:(P.info? t).map (·.size)=some 1)(hn:Nat.blt n cs.length=true)(h1:u.oneCell'=true)(hcs:cs.set n u=cs')
  (h:∀w' S',Sep (L.set i (BX b bt cs')) w' S'->Stp w S w' S'->FrS N σ a->wpFrom P ops Q (k+1) a w'):wpFrom P ops Q k a w:=by
 obtain⟨A,hok,hup⟩:=hs.upd i hi hM;refine CJ cs' ho hF hx hy ht hok.1 hn h1 hcs λw' hb hc hF'=>?_;obtain⟨S',hp,hs'⟩:=hup (P':=BX b bt cs') (hc.mono λk hk=>by subst hk;exact hok.2) ⟨hb,.inl hok.2⟩;grind
def Em{b:Nat}{bt:TypeId}{cs:List Value}{u:Value}(i:Nat)(hs:Sep L w S)(hM:Mem w0 S0 F0 w S F)(hi:L[i]? =some (BX b bt cs))(cs':List Value)(ho:ops[k]? =some ⟨none,.store t x y,ty,pos,af,none⟩)(hF:FrS N σ a)
  (hx:opd σ x=some (.pointer (some ⟨b,0,none⟩)))(hy:opd σ y=some u)(ht:(P.info? t).map (·.size)=some cs'.length)(hl:cs'.length=cs.length)(huc:u.cells.toList=cs')(h1:(cs'.all λz=>z.oneCell')=true)
  (h:∀w' S',Sep (L.set i (BX b bt cs')) w' S'->Stp w S w' S'->FrS N σ a->wpFrom P ops Q (k+1) a w'):wpFrom P ops Q k a w:=by
 obtain⟨A,hok,hup⟩:=hs.upd i hi hM;refine Eu cs' ho hF hx hy ht hok.1 hl huc h1 λw' hb hc hF'=>?_;obtain⟨S',hp,hs'⟩:=hup (P':=BX b bt cs') (hc.mono λk hk=>by subst hk;exact hok.2) ⟨hb,.inl hok.2⟩;grind
variable{α:Type}[Rep α]{E:TypeId}{v u:Value}{l m:List α}
def Zfn{y':Operand}{n:Int}{zc:α}(hs:Sep L w S)(hM:Mem w0 S0 F0 w S F)(ht:P.underlying t=some (.slice E))(hE:ElT P E α)(hz:∀i,P.info? E=some i->∀z,i.zero=some z->Rep.ok w (λ_=>False) z.cells.toList zc)
  (hop:ops[k]? =some ⟨some d,.makeSlice t x y',ty,pos,af,none⟩)(hd:Nat.blt d N=true)(hF:FrS N σ a)(hx:opd σ x=some (.int .i64 n))(hy:opd σ y'=some (.int .i64 n)){r:List α}(hr:mk? n zc=some r)
  (h:∀a' c' w' S' fr,Sep (SL E (.slice a' (List.length r) c') r::L) w' S'->Stp w S w' S'->FrS N ((d,.slice a' (List.length r) c')::σ) fr->wpFrom P ops Q (k+1) fr w'):wpFrom P ops Q k a w:=
 ZeK (G:=λk=>w.heap.size<=k) (FF:=Non) ht hE hz hop hd hF hx hy hr (λ_ h=>h) λg a' c' w' fr _ ho hc hF'=>by
  obtain⟨S',hp,hs'⟩:=hs.new hM hc (P:=SL E (.slice a' (List.length r) c') r) (.inl ⟨_,ho⟩);grind
def Zf0{n:Nat}{parts:Array (Nat×Operand)}(hs:Sep L w S)(hM:Mem w0 S0 F0 w S F)(cells:List Value)(css:List (List Value))(l:List α)(hop:ops[k]? =some ⟨some d,.buildSlice t n parts,ty,pos,af,none⟩)(hd:Nat.blt d N=true)(hF:FrS N σ a)
  (vals:List Value)(hv:parts.toList.map (λp=>opd σ p.2)=vals.map some)
  (hrun:∀w,(Instr.buildSlice t n ((parts.toList.map (·.1)).zip vals).toArray).run P w= .ok (.slice (some ⟨w.heap.size,0,none⟩) n n) (w.alloc (.cells cells.toArray E)))
  (hcss:Css w Non css l)(hfl:css.flatten=cells)(hln:l.length=n)(hmax:Nat.ble l.length room=true)
  (h:∀a' c' w' S' fr,Sep (SL E (.slice a' (List.length l) c') l::L) w' S'->Stp w S w' S'->FrS N ((d,.slice a' (List.length l) c')::σ) fr->wpFrom P ops Q (k+1) fr w'):wpFrom P ops Q k a w:=
 Zfq (E:=E) (G:=λk=>w.heap.size<=k) (FF:=Non) (F:=Non) cells css l hop hd hF vals hv hrun hcss hfl hln hmax (λ_ h=>h) (λ_ _ h=>h) λg a' c' w' fr _ ho hc hF'=>by
  obtain⟨S',hp,hs'⟩:=hs.new hM hc (P:=SL E (.slice a' (List.length l) c') l) (.inl ⟨_,ho⟩);grind
end
section
variable{P:Program}{ops:Array Oper}{Q:Exit->Act->World->Prop}{a:Act}{w w0:World}{S S0 F F0:Nat->Prop}{N:Nat}{σ:List (Nat×Value)}{k d:Nat}{t ty:TypeId}{x y:Operand}{pos:String}{af:Array Edge}
  {L:List HP}{α:Type}[Flat α]{E:TypeId}{v u:Value}{l m:List α}
def Zfy{t' ty':TypeId}{idx z:Operand}{pos':String}{af':Array Edge}{kd:IntKind}{n:Int}{q:α}(i:Nat)(hs:Sep L w S)(hM:Mem w0 S0 F0 w S F)(hL:L[i]? =some (SL E v l))(ht:P.underlying t=some (.slice E))(hE:Ty P E α)
  (hop:ops[k]? =some ⟨some d,.indexAddr t x idx,ty,pos,af,none⟩)(hop':ops[k+1]? =some ⟨none,.store t' (.tmp d) z,ty',pos',af',none⟩)(hte:t'=E)(hd:Nat.blt d N=true)(hF:FrS N σ a)
  (hx:opd σ x=some v)(hi:opd σ idx=some (.int kd n))(hz:z≠ .tmp d)(hzu:opd σ z=some u)(hu:Rep.val α (Flat.enc q)=u){r:List α}(hr:set? l n q=some r)
  (h:∀w' S' fr p,Sep (L.set i (SL E v r)) w' S'->Stp w S w' S'->FrS N ((d,p)::σ) fr->wpFrom P ops Q (k+2) fr w'):wpFrom P ops Q k a w:=by
 obtain⟨A,hok,hup⟩:=hs.upd i hL hM;rcases hok with⟨go,ho⟩|⟨rfl,_,_⟩
 ·refine Zbn (λ_=>False) ho ht hE hop hop' hte hd hF hx hi hz hzu (Fr:=Non) (q:=q) ⟨_,Flat.iff.2 rfl,hu.symm⟩ Re (λ_ _ h=>h.elim) hr λa' c' w' fr ho' he hc⟨p,hF'⟩=> ?_;obtain⟨S',hp,hs'⟩:=hup (P':=SL E v r) (hc.mono λk hk=>ho.inG hk) (.inl ⟨go,by rw[he];exact ho'.regard λk _ hk=>.inl hk⟩);grind
 grind[set?]
theorem Tg{t ty:TypeId}{v:Option Addr}(ht:P.underlying t=some (.slice E))(hE:ElT P E α){Fr:Nat->Prop}{u:Value}{m:List α}(hu:RV w Fr u m)(hroom:m.length<=room):
  ∃v' w',(Builtin.append_ #[t,t] ty #[.slice v 0 0,u]).run P w= .ok v' w'/\(SL E v' m).ok w' (λk=>w.heap.size<=k)/\Chg Non w w':=by
 obtain⟨i,z,hi,hz,hsz,hzs,hby⟩:=hE.out;have hnil:OwnS w E none (λk=>w.heap.size<=k) Non (.slice none 0 0) ([]:List α):=OwnS.nil;obtain⟨v',w',go',hrun,h1,h2,h3⟩:=hnil.append_run (P:=P) (ty:=ty) ht hE hu (Fu:=Non) Re (λ_ _ h=>h.elim) (λ_ h=>h) ah;have hc:Chg Non w w':=h2.mono λk hk=>by cases hk
 cases v with
 |none=>exact⟨v',w',hrun,.inl ⟨go',by simp_all⟩,hc⟩
 | some b=>
  obtain⟨ad,cap,rfl,hcap,hmax,hcells⟩:=hu.slice;by_cases hm:m=[]
  ·subst hm;refine⟨.slice (some b) 0 0,w,?_,.inr ⟨rfl,_,rfl⟩,Chg.refl _ _⟩;cases ad with
   |none=>simp[Builtin.append_,run_underlying ht,sizeOf,typeInfo,hi,Builtin.lenOf,Builtin.firstCells,storeCells]
   |some ad=>simp[Builtin.append_,run_underlying ht,sizeOf,typeInfo,hi,Builtin.lenOf,Builtin.firstCells,storeCells,loadCells,loadCellsFrom]
  ·obtain⟨ad,rfl,_,he⟩:=hcells hm;obtain⟨css,g1,g2⟩:=Um he;have hpos:0<m.length:=by
    grind
   unfold room at hroom;have hb1:m.length*i.bytes<=4294967296*32768:=ZhY hroom hby;have hl:css.flatten.length=m.length*i.size:=by rw[hsz];exact g1.flat_len
   have hn:∀j x,css.flatten[j]? =some x->w.cell? (ad.add j)=some x:=λj x hx=>by simp_all
   have e1:=run_append_nil (P:=P) w t ty E i z ht hi hz ad m.length cap css.flatten hl hn hpos O O
   have e2:=run_append_grow (P:=P) w t ty E i z ht hi hz b 0 0 [] U U ad m.length cap css.flatten hl hn O O (by
    rw[Zhl,nextslicecap_zero hpos];omega)
   rw[e1]at hrun;simp at e2;exact⟨v',w',e2.trans hrun,.inl ⟨go',by simp_all⟩,hc⟩
def ZbA{y':Operand}{t':TypeId}{Fr:Nat->Prop}(i:Nat)(hs:Sep L w S)(hM:Mem w0 S0 F0 w S F)(hL:L[i]? =some (SL E v l))(ht:P.underlying t=some (.slice E))(hE:ElT P E α)
  (hop:ops[k]? =some ⟨some d,.call ⟨.builtin .append,#[x,y'],#[t,t']⟩,ty,pos,af,none⟩)(htt:t'=t)(hd:Nat.blt d N=true)(hF:FrS N σ a)(hx:opd σ x=some v)(hy:opd σ y'=some u)(hu:RV w Fr u m)
  {r:List α}(hr:app? l m=some r)
  (h:∀a' c' w' S' fr,Sep (L.set i (SL E (.slice a' (List.length r) c') r)) w' S'->Stp w S w' S'->FrS N ((d,.slice a' (List.length r) c')::σ) fr->wpFrom P ops Q (k+1) fr w'):wpFrom P ops Q k a w:=by
 obtain⟨A,hok,hup⟩:=hs.upd i hL hM;rcases hok with⟨go,ho⟩|⟨rfl,b,rfl⟩
 ·have ho2:OwnS w E go (λk=>A k\/w.heap.size<=k) Non v l:=ho.regard λk _ hk=>.inl hk;refine Zda (λ_=>False) ho2 ht hE hop htt hd hF hx hy hu Re (λ_ _ h=>h.elim) (λk hk=>.inr hk) hr λgo' a' c' w' fr ho' hc _ hF'=>?_;obtain⟨S',hp,hs'⟩:=hup (P':=SL E (.slice a' (List.length r) c') r) (hc.mono λk hk=>ho.inG hk) (.inl ⟨go',ho'⟩);grind
 ·subst htt;unfold app? at hr;split at hr
  ·obtain⟨v',w',hrun,hok',hc⟩:=Tg (P:=P) (ty:=ty) (v:=b) ht hE hu O;have hsl:∃a' c',v'= .slice a' (List.length m) c':=by
    rcases hok' with⟨go,ho⟩|⟨rfl,a',rfl⟩
    ·exact ho.slice
    simp
   obtain⟨a',c',rfl⟩:=hsl;refine Zp hF hop rfl rfl (ZfW.mp hd) (R:=λz w1=>z= .slice a' (List.length m) c'/\w1=w') (Zh ?_ ⟨rfl,rfl⟩) λz w1 fr hz hF'=>?_
   ·simp[execOp,resolve,invoke,builtin,Zd hF hx,Zd hF hy,hrun]
   ·obtain⟨S',hp,hs'⟩:=hup (P':=SL E (.slice a' (List.length m) c') m) hc.of (HP.mono _ hok' λk _ hk=>.inr hk);grind
  ·cases hr
def OwnS.front{w:World}{go:Option Nat}{G:Nat->Prop}{a0:Option Addr}{c n:Nat}(h:OwnS w E go G Non (.slice a0 l.length c) l)(hn:n<=l.length):OwnS w E go G Non (.slice a0 n c) (l.take n):=by
 obtain⟨F,css,h1,h2,h3,h4,h5⟩:=h;have hlen:(css.take n).flatten.length=n*Rep.sz α:=by
  have:Css w F (css.take n) (l.take n):=⟨by simp[h1.1],λi cs x hi hx=>by
   rw[Zgw]at hi hx;split at hi
   ·rename_i hlt;rw[ZfC hlt]at hx;exact h1.2 i cs x hi hx
   ·cases hi⟩
  rw[this.flat_len];simp_all
 have hpre:(css.take n).flatten=css.flatten.take (n*Rep.sz α):=by
  grind[List.flatten_append,List.take_append_drop,List.take_left]
 refine⟨F,css.take n,⟨by simp[h1.1],λi cs x hi hx=>?_⟩,⟨by simp_all,?_⟩,?_,h4,h5⟩
 ·rw[Zgw]at hi hx;split at hi
  ·rename_i hlt;rw[ZfC hlt]at hx;exact h1.2 i cs x hi hx
  ·cases hi
 ·rcases h2.2 with⟨hv,hz⟩|⟨g,cap,cur,hv,hb,hg,hnc,hcm,hcs,htake⟩
  all_goals grind
 ·rw[<-h3];cases a0<;>rfl
def ZdX{lo:Option Operand}{hi:Operand}{b:Option Addr}{c:Nat}{kh:IntKind}{n:Int}(i:Nat)(hs:Sep L w S)(hM:Mem w0 S0 F0 w S F){len0:Nat}(hL:L[i]? =some (SL E (.slice b len0 c) l))(ht:P.underlying t=some (.slice E))(hE:Ty P E α)
  (hop:ops[k]? =some ⟨some d,.slice t x lo (some hi) none,ty,pos,af,none⟩)(hd:Nat.blt d N=true)(hF:FrS N σ a)(hx:opd σ x=some (.slice b len0 c))
  (hlo:lo=none\/∃o kl,lo=some o/\opd σ o=some (.int kl 0))(hhi:opd σ hi=some (.int kh n)){r:List α}(hr:cut? l 0 n=some r)
  (h:∀c' w' S' fr,Sep (L.set i (SL E (.slice b (List.length r) c') r)) w' S'->Stp w S w' S'->FrS N ((d,.slice b (List.length r) c')::σ) fr->wpFrom P ops Q (k+1) fr w'):wpFrom P ops Q k a w:=by
 unfold cut? at hr;split at hr
 ·rename_i hn;simp only[Int.toNat_zero,ZgN,Option.some.injEq]at hr;obtain⟨_,hn1,hn2⟩:=hn;have hlen:r.length=n.toNat:=by grind
  obtain⟨A,hok,hup⟩:=hs.upd i hL hM;have hcap:n<=(c:Int)/\len0=l.length/\(SL E (.slice b (List.length r) c) r).ok w (λk=>A k\/w.heap.size<=k):=by
   rcases hok with⟨go,ho⟩|⟨rfl,b',hb'⟩
   ·obtain⟨a',c',hv⟩:=ho.slice;simp only[Value.slice.injEq]at hv;obtain⟨rfl,rfl,rfl⟩:=hv;refine⟨?_,rfl,.inl ⟨go,?_⟩⟩
    ·obtain⟨b2,c2,hv,hc2,_⟩:=ho.rv.slice;grind
    ·rw[hlen,<-hr];exact(ho.front O).regard λk _ hk=>.inl hk
   ·obtain⟨rfl,rfl,rfl⟩:=hb';have Z:r=[]:=by simp_all
    refine⟨?_,rfl,.inr ⟨Z,b,by rw[Z];rfl⟩⟩;omega
  obtain⟨hc,rfl,hok'⟩:=hcap;refine Zp hF hop rfl rfl (ZfW.mp hd) (R:=λz w1=>z= .slice b n.toNat c/\w1=w) (Zh ?_ ⟨rfl,rfl⟩) λz w1 fr hz hF'=>?_
  ·have hadd:b.map (λx=>x.add 0)=b:=by simp[Addr.add]
   rcases hlo with rfl|⟨o,kl,rfl,hlo⟩
   ·simp[execOp,Instr.sliceAt,Instr.slice,Instr.sliceBounds,Instr.sliceBound,asIntOf,Zd hF hx,Zd hF hhi,run_underlying ht,hE.sizeOf,hn1,hc,hadd]
   ·        simp[execOp,Instr.sliceAt,Instr.slice,Instr.sliceBounds,Instr.sliceBound,asIntOf,Zd hF hx,Zd hF hhi,Zd hF hlo,run_underlying ht,hE.sizeOf,hn1,hc,hadd]
  ·grind[SL,List.length,Chg.refl]
 ·cases hr
end
def row_one{cur cs:List Value}{s p off:Nat}{u:Value}(hcs:cs.length=s)(hoff:off<s)(hfit:p+s<=cur.length)(heq:∀j,j<s->cur[p+j]? =cs[j]?):
  cur.take (p+off)++[u]++cur.drop (p+off+1)=cur.take p++cs.set off u++cur.drop (p+(cs.set off u).length):=by
 apply Zgy;simp only[Zh2,ZfI,Zga,ZfS,ZgR,Zhv,Zgw,Zg1,Zha,hcs];grind
section
variable{P:Program}{α:Type}[Flat α]{w:World}{E T:TypeId}{go:Option Nat}{G:Nat->Prop}{v:Value}{l:List α}
theorem OwnS.setCell_run(h:OwnS w E go G Non v l)(hE:Ty P E α){n off:Nat}{x x':α}(hx:l[n]? =some x)(hoff:off<Rep.sz α){u:Value}(h1:u.oneCell'=true)(hx':Flat.enc x'=(Flat.enc x).set off u)(hT:(P.info? T).map (·.size)=some 1):
  ∃g w',go=some g/\(∃c,v= .slice (some ⟨g,0,none⟩) l.length c)/\(storeVar T ((⟨g,0,none⟩:Addr).add (n*Rep.sz α+off)) u).run P w= .ok () w'/\OwnS w' E go G Non v (l.set n x')/\Chg (λk=>go=some k) w w':=by
 have hn:n<l.length:=(ZfE.1 hx).1;obtain⟨g,w1,hgo,⟨c,hv⟩,hrun,ho,hc⟩:=h.set_run (P:=P) hE (Fr:=Non) (u:=Rep.val α (Flat.enc x')) (x:=x') ⟨_,Flat.iff.2 rfl,rfl⟩ (Fu:=Non) Re (λ_ _ h=>h.elim) hn;refine⟨g,w1,hgo,⟨c,hv⟩,?_,ho,hc⟩;obtain⟨F,css,g1,g2,g3,g4,g5⟩:=h;rcases g2.2 with⟨hv2,hz⟩|⟨g',cap,cur,hv2,hb,hg,hnc,hcm,hcs,htake⟩
 ·omega
 rw[hv]at hv2;simp only[Value.slice.injEq,Option.some.injEq,Addr.mk.injEq,Zh6,Zi5]at hv2;obtain⟨rfl,rfl⟩:=hv2;have hlenx:(Flat.enc x).length=Rep.sz α:=Rep.len (Flat.iff (w:=w) (F:=Non).2 rfl);have hlenx':(Flat.enc x').length=Rep.sz α:=Rep.len (Flat.iff (w:=w) (F:=Non).2 rfl);have hone':∀z∈Flat.enc x',z.oneCell'=true:=Rep.one (Flat.iff (w:=w) (F:=Non).2 rfl);have hvc:(Rep.val α (Flat.enc x')).cells=(Flat.enc x').toArray:=by
  unfold Rep.val;cases hh:Rep.agg α with
  |true=>rfl
  | false=>
   have hcl:=hlenx';rw[Rep.sgl hh]at hcl
   match hq:Flat.enc x',hcl with
   |[c],_=>
    have h1:=hone' c (by rw[hq];simp);simp only[ZfB,ZfK,List.headD_cons];cases c<;>simp_all[Value.cells,Value.oneCell']
 have hoffn:n*Rep.sz α+Rep.sz α<=l.length*Rep.sz α:=by
  rw[<-Zii];exact ZgF _ hn
 have hcap:l.length*Rep.sz α<=c*Rep.sz α:=ZgF _ hnc;have e1:=run_storeCells_at (P:=P) g (n*Rep.sz α) E (Flat.enc x') 0 cur w hg O hone';have e2:=run_storeCells_at (P:=P) g (n*Rep.sz α+off) E [u] 0 cur w hg al ah;simp only[Zij]at e1 e2;have haddr:∀p,(⟨g,0,none⟩:Addr).add p=⟨g,p,none⟩:=λp=>by simp_all[Addr.add]
 have r1:(storeVar E ((⟨g,0,none⟩:Addr).add (n*Rep.sz α)) (Rep.val α (Flat.enc x'))).run P w= .ok () (w.setRow g (cur.toList.take (n*Rep.sz α)++Flat.enc x'++cur.toList.drop (n*Rep.sz α+(Flat.enc x').length)).toArray):=by
  rw[haddr];unfold storeVar;simp only[Sem.run_bind,hE.sizeOf,Result.andThen_ok,hvc,Zhz,hlenx'];simp_all
 rw[hrun]at r1;simp only[Result.ok.injEq,Zi5]at r1;have hcu:u.cells= #[u]:=by cases u<;>simp_all[Value.cells,Value.oneCell']
 have r2:(storeVar T ((⟨g,0,none⟩:Addr).add (n*Rep.sz α+off)) u).run P w= .ok () (w.setRow g (cur.toList.take (n*Rep.sz α+off)++[u]++cur.toList.drop (n*Rep.sz α+off+1)).toArray):=by
  cases hinf:P.info? T with
  |none=>rw[hinf]at hT;cases hT
  |some inf=>
   rw[hinf]at hT;simp only[Zgh,Option.some.injEq]at hT;rw[haddr];unfold storeVar;simp only[Sem.run_bind,sizeOf,typeInfo,hcu];simpa[hinf,hT]using e2
 rw[r2,r1];congr 3;rw[hx'];refine row_one (s:=Rep.sz α) hlenx hoff (by simp only[Zg6];rw[hcs];omega) λj hj=>?_;have hxn:css[n]? =some (Flat.enc x):=by
  have hlt:n<css.length:=by rw[g1.1];exact hn
  rw[ZfA hlt];exact congrArg some (Flat.iff.1 (g1.2 n css[n] x (ZfA hlt) hx))
 have hj':j<(Flat.enc x).length:=by omega
 have:=Ru (s:=Rep.sz α) g1.lens hxn (ZfA hj');rw[<-htake,Zgw]at this;split at this
 ·rw[this,ZfA hj']
 ·cases this
variable{ops:Array Oper}{Q:Exit->Act->World->Prop}{a:Act}{w0:World}{S S0 F F0:Nat->Prop}{N:Nat}{σ:List (Nat×Value)}{k d d2:Nat}{t ty:TypeId}{x y:Operand}{pos:String}{af:Array Edge}{L:List HP}
theorem Cm{t' s' ty' ty2:TypeId}{fl:Nat}{idx z:Operand}{pos' pos2:String}{af' af2:Array Edge}{kd:IntKind}{n:Int}{q q':α}{off:Nat}{u:Value}(i:Nat)(hs:Sep L w S)(hM:Mem w0 S0 F0 w S F)(hL:L[i]? =some (SL E v l))(ht:P.underlying t=some (.slice E))(hE:Ty P E α)
  (hop:ops[k]? =some ⟨some d,.indexAddr t x idx,ty,pos,af,none⟩)(hop2:ops[k+1]? =some ⟨some d2,.fieldAddr s' (.tmp d) fl,ty2,pos2,af2,none⟩)(hop':ops[k+2]? =some ⟨none,.store t' (.tmp d2) z,ty',pos',af',none⟩)(hd:Nat.blt d N=true)(hd2:Nat.blt d2 N=true)(hF:FrS N σ a)
  (hx:opd σ x=some v)(hi:opd σ idx=some (.int kd n))(hz:(match z with|.tmp s=>s !=d&&s !=d2|_=>true)=true)(hzu:opd σ z=some u)(hoff:fieldOff P s' fl=some off)(hlt:Nat.blt off (Rep.sz α)=true)(hT:(P.info? t').map (·.size)=some 1)(h1:u.oneCell'=true)
  (hq:get? l n=some q)(hu:Flat.enc q'=(Flat.enc q).set off u){r:List α}(hr:set? l n q'=some r)
  (h:∀w' S' fr p p2,Sep (L.set i (SL E v r)) w' S'->Stp w S w' S'->FrS N ((d2,p2)::(d,p)::σ) fr->wpFrom P ops Q (k+3) fr w'):wpFrom P ops Q k a w:=by
 obtain⟨A,hok,hup⟩:=hs.upd i hL hM;rcases hok with⟨go,ho⟩|⟨rfl,_,_⟩
 ·unfold set? at hr;split at hr
  ·rename_i hn;simp only[Option.some.injEq]at hr;subst hr;obtain⟨g,w',hgo,⟨c,rfl⟩,hrun,ho',hc⟩:=ho.setCell_run (P:=P) (T:=t') hE (get?_at hq) (ZfW.mp hlt) h1 hu hT;have hb:0<=n/\n<(l.length:Int):=⟨hn.1,by omega⟩;refine Zp hF hop rfl rfl (ZfW.mp hd) (R:=λp w1=>p= .pointer (some ((⟨g,0,none⟩:Addr).add (n.toNat*Rep.sz α)))/\w=w1) (Zh ?_ ⟨rfl,rfl⟩) λp w1 fr hp hF1=>?_
   ·simp[execOp,Instr.indexAt,Zd hF hx,Zd hF hi,asIntOf,run_underlying ht,hb,hE.sizeOf]
   ·obtain⟨rfl,rfl⟩:=hp;have hp1:=hF1.get d (.pointer (some ((⟨g,0,none⟩:Addr).add (n.toNat*Rep.sz α)))) U
    refine Zp hF1 hop2 rfl rfl (ZfW.mp hd2) (R:=λp w1=>p= .pointer (some (((⟨g,0,none⟩:Addr).add (n.toNat*Rep.sz α)).add off))/\w=w1) (Zh (MN (P:=P) (ρ:=λy=>match y with|.tmp s=>if s=d then some (.pointer (some ((⟨g,0,none⟩:Addr).add (n.toNat*Rep.sz α))))else none|_=>none) (λy z hy=>by
     grind) aW w) ⟨rfl,rfl⟩) λp2 w1 fr2 hp2 hF2=>?_
    obtain⟨rfl,rfl⟩:=hp2;have hz':fr2.eval z=u:=by
     cases z with
     |tmp s=>
      refine hF2.get s u ?_;have e1:(s==d2)=false:=by simp_all
      have e2:(s==d)=false:=by simp_all
      rw[ZfZ,e1,ZfZ,e2];exact hzu
     |const c=>simp_all[opd,Act.eval]
     |global c=>simp_all[opd,Act.eval]
     |func c=>simp_all[opd,Act.eval]
    refine Rh hF2 hop' rfl rfl (R:=λ_ w2=>w2=w') (Tn ?_ rfl) λw2 hw2 hF3=>?_
    ·have hd1:=hF2.get d2 (.pointer (some (((⟨g,0,none⟩:Addr).add (n.toNat*Rep.sz α)).add off))) U;simp_all[add_add,execOp,Instr.storeAt,Instr.sureAddr]
    ·obtain⟨_,rfl⟩:=hw2;obtain⟨S',hp,hs'⟩:=hup (w':=w2) (P':=SL E _ (l.set n.toNat q')) (hc.mono λk hk=>ho.inG hk) (.inl ⟨go,ho'.regard λk _ hk=>.inl hk⟩);grind
  ·cases hr
 grind[set?]
end
section
open Go.Maps
variable{P:Program}{k e t:TypeId}{κ β:Type}[Flat κ][Flat β][DecidableEq κ](T:MapT P k e κ β)
variable{ops:Array Oper}{Q:Exit->Act->World->Prop}{a:Act}{w w0:World}{S S0 F F0:Nat->Prop}{N:Nat}{σ:List (Nat×Value)}{j d:Nat}{ty:TypeId}{x y z:Operand}{pos:String}{af:Array Edge}{L:List HP}{b:Nat}{m:List (κ×β)}
theorem mget?_fit{κ β:Type}[DecidableEq κ]{fit:κ->Bool}{z y:β}{m:List (κ×β)}{x:κ}(h:mget? fit z m x=some y):fit x=true:=by
 simp_all[mget?]
theorem mget?_val{κ β:Type}[DecidableEq κ]{fit:κ->Bool}{z y:β}{m:List (κ×β)}{x:κ}(h:mget? fit z m x=some y):mget z m x=y:=by
 unfold mget? at h;split at h
 ·exact Option.some.inj h
 ·cases h
theorem mput?_fit{κ β:Type}{fit:κ->Bool}{y:β}{m r:List (κ×β)}{x:κ}(h:mput? fit m x y=some r):fit x=true:=by
 simp_all[mput?]
theorem mput?_val{κ β:Type}{fit:κ->Bool}{y:β}{m r:List (κ×β)}{x:κ}(h:mput? fit m x y=some r):r=(x,y)::m:=by
 grind[mput?,Option.some.inj]
theorem mput?_len{κ β:Type}{fit:κ->Bool}{y:β}{m r:List (κ×β)}{x:κ}(h:mput? fit m x y=some r):m.length<maxLen:=by
 grind[mput?,room,maxLen]
theorem GR(hs:Sep L w S)(hM:Mem w0 S0 F0 w S F)(hm:∀w,(Instr.makeMap t none).run P w= .ok (.map (some w.heap.size)) (w.alloc (.map #[] 0)))(hop:ops[j]? =some ⟨some d,.makeMap t none,ty,pos,af,none⟩)(hd:Nat.blt d N=true)(hF:FrS N σ a)
  (h:∀b w' S' fr,Sep (MP T b []::L) w' S'->Stp w S w' S'->FrS N ((d,.map (some b))::σ) fr->wpFrom P ops Q (j+1) fr w'):wpFrom P ops Q j a w:=by
 refine Zp hF hop rfl rfl (ZfW.mp hd) (FT rfl (hm w)) λv w' fr hv hF'=>?_;obtain⟨S',hp,hs'⟩:=hs.new hM (Chg.alloc w (.map #[] 0)) (P:=MP T w.heap.size []) ⟨OwnM.made T,ZfP _⟩;grind
theorem JZ(i:Nat)(hs:Sep L w S)(hL:L[i]? =some (MP T b m))(ht:P.underlying t=some (.map k e))(hop:ops[j]? =some ⟨some d,.lookup t x y false,ty,pos,af,none⟩)(hd:Nat.blt d N=true)(hF:FrS N σ a){u:κ}(hu:T.fit u=true)(hx:opd σ x=some (.map (some b))){vk:Value}(hy:opd σ y=some vk)(hk:Rep.val κ (Flat.enc u)=vk)
  {vr:Value}(hr:Rep.val β (Flat.enc (mget T.zero m u))=vr)(h:∀fr,FrS N ((d,vr)::σ) fr->wpFrom P ops Q (j+1) fr w):wpFrom P ops Q j a w:=by
 subst hk;exact Zp hF hop rfl rfl (ZfW.mp hd) (Ch T rfl (hs.mp i hL) ht hu (Zd hF hx) (Zd hF hy)) λv w' fr⟨h1,h2⟩hF'=>by simp_all
theorem mget2?_fit{κ β:Type}[DecidableEq κ]{fit:κ->Bool}{z:β}{y:β×Bool}{m:List (κ×β)}{x:κ}(h:mget2? fit z m x=some y):fit x=true:=by
 simp_all[mget2?]
theorem mget2?_val{κ β:Type}[DecidableEq κ]{fit:κ->Bool}{z:β}{y:β×Bool}{m:List (κ×β)}{x:κ}(h:mget2? fit z m x=some y):mget z m x=y.1/\(m.lookup x).isSome=y.2:=by
 unfold mget2? at h;split at h
 ·rw[<-Option.some.inj h];exact⟨rfl,rfl⟩
 ·cases h
theorem mputE?_fit{κ β:Type}{fit:κ->Bool}{efit:β->Bool}{y:β}{m r:List (κ×β)}{x:κ}(h:mputE? fit efit m x y=some r):fit x=true:=by
 simp_all[mputE?]
theorem mputE?_efit{κ β:Type}{fit:κ->Bool}{efit:β->Bool}{y:β}{m r:List (κ×β)}{x:κ}(h:mputE? fit efit m x y=some r):efit y=true:=by
 simp_all[mputE?]
theorem mputE?_val{κ β:Type}{fit:κ->Bool}{efit:β->Bool}{y:β}{m r:List (κ×β)}{x:κ}(h:mputE? fit efit m x y=some r):r=(x,y)::m:=by
 grind[mputE?,Option.some.inj]
theorem mputE?_len{κ β:Type}{fit:κ->Bool}{efit:β->Bool}{y:β}{m r:List (κ×β)}{x:κ}(h:mputE? fit efit m x y=some r):m.length<maxLen:=by
 grind[mputE?,room,maxLen]
theorem Zaj(i:Nat)(hs:Sep L w S)(hL:L[i]? =some (MP T b m))(ht:P.underlying t=some (.map k e))(hop:ops[j]? =some ⟨some d,.lookup t x y true,ty,pos,af,none⟩)(hd:Nat.blt d N=true)(hF:FrS N σ a){u:κ}(hu:T.fit u=true)(hx:opd σ x=some (.map (some b))){vk:Value}(hy:opd σ y=some vk)(hk:Rep.val κ (Flat.enc u)=vk)
  {r:β×Bool}(hr:mget T.zero m u=r.1/\(m.lookup u).isSome=r.2){vr:Value}(hvr:Rep.val β (Flat.enc r.1)=vr)(h:∀fr,FrS N ((d,.tuple #[vr,.bool r.2])::σ) fr->wpFrom P ops Q (j+1) fr w):wpFrom P ops Q j a w:=by
 subst hk;exact Zp hF hop rfl rfl (ZfW.mp hd) (Ff T rfl (hs.mp i hL) ht hu (Zd hF hx) (Zd hF hy)) λv w' fr⟨h1,h2⟩hF'=>by simp_all
theorem JI(i:Nat)(hs:Sep L w S)(hM:Mem w0 S0 F0 w S F)(hL:L[i]? =some (MP T b m))(ht:P.underlying t=some (.map k e))(hop:ops[j]? =some ⟨none,.mapUpdate t x y z,ty,pos,af,none⟩)(hF:FrS N σ a){u:κ}(hu:T.fit u=true)(q:β)(he:T.efit q=true)(hm:m.length<maxLen)(hx:opd σ x=some (.map (some b)))
  {vk:Value}(hy:opd σ y=some vk)(hk:Rep.val κ (Flat.enc u)=vk){vr:Value}(hz:opd σ z=some vr)(hr:Rep.val β (Flat.enc q)=vr)
  (h:∀w' S',Sep (L.set i (MP T b ((u,q)::m))) w' S'->Stp w S w' S'->FrS N σ a->wpFrom P ops Q (j+1) a w'):wpFrom P ops Q j a w:=by
 subst hr;subst hk;obtain⟨A,hok,hup⟩:=hs.upd i hL hM;refine Rh hF hop rfl rfl (Ey T rfl hok.1 ht hu q he hm (Zd hF hx) (Zd hF hy) (Zd hF hz)) λw'⟨_,h1,h2⟩hF'=>?_;obtain⟨S',hp,hs'⟩:=hup (P':=MP T b ((u,q)::m)) (h2.mono λk hk=>by subst hk;exact hok.2) ⟨h1,.inl hok.2⟩;grind
end
end Go.GL
end
section
namespace Go.GL
open Go.RowKit
section
variable{P:Program}{a:Act}{w:World}{N:Nat}{σ:List (Nat×Value)}
def getRes(a:Act):ResultVar->Sem Value
 |.tmp t=>pure (a.tmps.getD t undef)
 |.cell a' t=>do loadVar t (<-asAddr (a.tmps.getD a' undef))
end
section
variable{P:Program}{draw:Bool}{ms:List Nat}{ops:Array Oper}{a0:Act}{w0:World}{Q:Exit->Act->World->Prop}{σ:List (Nat×Value)}{N j:Nat}{dst:Option Tmp}{g:Option (Nat×Bool)}
  {t ty:TypeId}{x y:Operand}{pos:String}{af:Array Edge}{ι:Type}{V:ι->Value}{H:ι->HP}{ow:Nat->Nat}
end
end Go.GL
namespace Go.GL
def Sep.relen{w:World}{S:Nat->Prop}{L:List HP}{α:Type}[Rep α]{E:TypeId}{a:Option Addr}{n c:Nat}{l:List α}(i:Nat)(h:Sep L w S)(hi:L[i]? =some (SL E (.slice a n c) l)):n=l.length/\Sep (L.set i (SL E (.slice a l.length c) l)) w S:=by
 obtain⟨A,h1,h2⟩:=h.get i hi;have e:n=l.length:=by
  rcases h1 with⟨go,h1⟩|⟨rfl,a',h1⟩
  ·obtain⟨a',c',hv⟩:=h1.slice;simp_all
  simp_all
 have:L.set i (SL E (.slice a l.length c) l)=L:=by
  apply Zgy;grind
 simp_all
end Go.GL
namespace Go.GL
def BL{α:Type}[Rep α]{w:World}{F:Nat->Prop}{a:Option Addr}{n c:Nat}{l:List α}(h:RV w F (.slice a n c) l)(ha:a=none):l=[]:=by
 obtain⟨a',c',hv,_,_,hne⟩:=h.slice;grind
def Fz{α:Type}{l r:List α}(hl:l=[])(h:((app? ([]:List α) l).bind λx=>some x)=some r):some ([]:List α)=some r:=by
 grind[app?]
def Lp{P:Program}(t:TypeId)(x y:Operand)(a b:Option Addr)(n m c d:Nat)(w:World):(eqGuard .eql t x y (.slice a n c) (.slice b m d)).run P w= .ok () w:=by
 rfl
def nil_eq{P:Program}{t e:TypeId}(ht:P.underlying t=some (.slice e))(a:Option Addr)(n c:Nat)(w:World):(binOp .eql t (.slice a n c) (.slice none 0 0)).run P w= .ok (.bool (Option.isNone a)) w:=by
 have h:(Op.equalIn (9999+1) t (.slice a n c) (.slice none 0 0)).run P w= .ok (Option.isNone a) w:=by
  unfold Op.equalIn;cases a<;>simp[run_underlying ht]
 simp_all[binOp,Op.equal,Op.maxDepth,Sem.run_bind,Sem.run_pure]
end Go.GL
namespace Go.GL
def HP.sep(L:List HP):HP:={ok:=Sep L,mono:=λh hA=>h.mono hA,keep:=λh hc hT=>h.keep hc hT}
def Sep.flat{w:World}{S:Nat->Prop}{L1 L2:List HP}(h:Sep (HP.sep L1::L2) w S):Sep (L1++L2) w S:=by
 obtain⟨A,R,h1,h2,h3,h4,h5⟩:=Sep.split (L1:=[HP.sep L1]) (L2:=L2) h;obtain⟨B,g1,g2⟩:=h1.get 0 rfl;exact Sep.join (L1:=L1) g1 h2 (λk _ ha hr=>h3 k (g2 k ha) hr) (λk _ h=>h4 k (g2 k h)) (λk _ h=>h5 k h)
section
variable{P:Program}{ops:Array Oper}{Q:Exit->Act->World->Prop}{a:Act}{w:World}{L:Array Bool}
def ZaQ{id:Nat}{l:List Oper}(hmix:P.follows .mixedOrders=true)(h:∀w',Chg Non w w'->wpAny P .any l.toArray Q l.toArray.size (Array.replicate l.toArray.size false) a w'):(Code.region id l.toArray true).wp P Q a w:=
 wp_region_any hmix (h _ (Chg.drew w))
theorem Zbg{o:Oper}{K' K:Act->World->Prop}(hk:∀a w,K' a w->K a w)(h:o.wp P a w K' (Exit.then K Q)):o.wp P a w K Q:=by
 unfold Oper.wp at*;generalize (execOp a.eval o).run P w=r at*;cases r with
 | ok n w=>
  cases n with
  |value v=>exact hk _ w h
  |skip=>exact hk _ w h
  |defer d=>exact hk _ w h
  |enter f args=>
   refine Calls.mono h λe w' he=>?_;cases e with
   |returned v=>simp_all
   |panicked c=>exact he
   |outgrown=>exact he
  |row r args=>exact Rows.mono h λv w' he=>hk _ w' he
  |_=>exact h
 |halt hh w=>
  cases hh with
  |panic v=>exact h
  |_=>exact h
def Zc6{i:Nat}{K:Act->World->Prop}(o:Oper)(ho:ops[i]? =some o)(hg:o.guard=none)(h:wpFrom P #[o] (Exit.then K Q) 0 a w):wpOp P ops Q i K a w:=by
 unfold wpOp;simp only[ho];have hw:∀y,Region.wanted o y=true:=λy=>by simp_all[Region.wanted]
 rw[ZfC (hw _)];unfold wpFrom at h;simp only[ZgN]at h;unfold wpList at h;rw[ZfC (hw _)]at h;rcases h with h|⟨h1,h2⟩
 ·grind[Zbg,wpList,Exit.then]
 ·exact .inr ⟨h1,h2⟩
end
end Go.GL
namespace Go.GL
section
variable{P:Program}{a:Act}{w:World}{N:Nat}{σ:List (Nat×Value)}
def ZbV{Q:Exit->Act->World->Prop}{x y:Code}{c:Operand}{b:Bool}(σ':List (Nat×Value))(hF:FrS N σ a)(hc:opd σ c=some (.bool b))(ht:b=true->x.wp P (λe a' w'=>e= .normal/\w'=w/\FrS N σ' a') a w)(hf:b=false->y.wp P (λe a' w'=>e= .normal/\w'=w/\FrS N σ' a') a w)
  (h:∀a',FrS N σ' a'->Q .normal a' w):(Code.cond c x y).wp P Q a w:=
 AR hF hc (λhb=>wp_mono (ht hb) λe a' w'⟨h1,h2,h3⟩=>by simp_all) (λhb=>wp_mono (hf hb) λe a' w'⟨h1,h2,h3⟩=>by simp_all)
end
end Go.GL
end
section
namespace Go.GL
open Go.RowKit
section
variable{P:Program}{ops:Array Oper}{Q:Exit->Act->World->Prop}{a:Act}{w:World}{N:Nat}{σ:List (Nat×Value)}{k d:Nat}{t yt ty:TypeId}{x y:Operand}{pos:String}{af:Array Edge}{m n z:Int}{kd kk:IntKind}{s:Str}
theorem ZaK(ht:P.underlying t=some .string)(hz:sidx? s n=some z)(w:World):(Instr.index t s.val (.int kd n)).run P w= .ok (.int .u8 z) w:=by
 unfold sidx? at hz;split at hz
 ·cases hb:s.bytes[n.toNat]? with
  |none=>simp_all
  | some b=>
   have e:(⟨s.bytes.toArray⟩:ByteArray)[n.toNat]? =some b:=by
    have hlt:n.toNat<s.bytes.length:=(ZfE.1 hb).1;have hlt':n.toNat<(⟨s.bytes.toArray⟩:ByteArray).size:=by simp_all[ByteArray.size]
    rw[getElem?_pos (⟨s.bytes.toArray⟩:ByteArray) n.toNat hlt'];have:=(ZfE.1 hb).2;refine congrArg some ?_;rw[<-this];show(⟨s.bytes.toArray⟩:ByteArray).data[n.toNat]=_;simp
   simp_all[Instr.index,asIntOf,run_underlying,Str.val]
 ·cases hz
def Jt{o:Oper}(ho:o.op= .index t x y)(ht:P.underlying t=some .string)(hx:a.eval x=s.val)(hy:a.eval y= .int kd n)(hz:sidx? s n=some z):Does P o a w λv w'=>v= .int .u8 z/\w'=w:=by
 refine Zh (v:=.int .u8 z) (w':=w) ?_ ⟨rfl,rfl⟩;simp_all[guard,execOp,ZaK]
def Zex(ht:P.underlying t=some .string)(ho:ops[k]? =some ⟨some d,.index t x y,ty,pos,af,none⟩)(hd:Nat.blt d N=true)(hF:FrS N σ a)(hx:opd σ x=some s.val)(hy:opd σ y=some (.int kd n))(hz:sidx? s n=some z)
  (h:∀fr,FrS N ((d,.int .u8 z)::σ) fr->wpFrom P ops Q (k+1) fr w):wpFrom P ops Q k a w:=
 Zp hF ho rfl rfl (ZfW.mp hd) (Jt rfl ht (Zd hF hx) (Zd hF hy) hz) λ_ _ fr⟨hv,hw⟩hF'=>by simp_all
def Zdd(h:shrK? kk m n=some z)(t:TypeId)(w:World):(binOp .shr t (.int kk m) (.int kd n)).run P w= .ok (.int kk z) w:=by
 simp_all[shrK?,Option.some.injEq,binOp,Op.shift]<;>grind
def Zfe(ho:ops[k]? =some ⟨some d,.binOp .shr t x y yt,ty,pos,af,none⟩)(hd:Nat.blt d N=true)(hF:FrS N σ a)(hx:opd σ x=some (.int kk m))(hy:opd σ y=some (.int kd n))(hz:shrK? kk m n=some z)
  (h:∀fr,FrS N ((d,.int kk z)::σ) fr->wpFrom P ops Q (k+1) fr w):wpFrom P ops Q k a w:=Ka ho hd hF hx hy ap (Zdd hz _ _) h
end
section
variable{P:Program}{draw:Bool}{ms:List Nat}{ops:Array Oper}{a0:Act}{w0:World}{Q:Exit->Act->World->Prop}{σ:List (Nat×Value)}{N j:Nat}{dst:Option Tmp}{g:Option (Nat×Bool)}
  {t yt ty:TypeId}{x y:Operand}{pos:String}{af:Array Edge}{m n z:Int}{kd kk:IntKind}{s:Str}
end
end Go.GL
end
section
namespace Go.GL
open Go.RowKit
section
variable{P:Program}{ops:Array Oper}{Q:Exit->Act->World->Prop}{a a0:Act}{w w0:World}{N:Nat}{σ:List (Nat×Value)}{k d j:Nat}{t ty:TypeId}{x y:Operand}{pos:String}{af:Array Edge}{α:Type}[Rep α]{b off:Nat}{bt:TypeId}{cs ps:List Value}
  {draw:Bool}{ms:List Nat}{dst:Option Tmp}{g:Option (Nat×Bool)}
def Box.part(h:Box w b bt cs)(hp:(cs.drop off).take ps.length=ps):Cells w ⟨b,off,none⟩ ps:=λj u hu=>by
 have e:(⟨b,off,none⟩:Addr).add j=(⟨b,0,none⟩:Addr).add (off+j):=by grind[Addr.add]
 rw[e];refine h.cells (off+j) u ?_;grind
end
section
variable{P:Program}{draw:Bool}{ms:List Nat}{ops:Array Oper}{a0:Act}{w0:World}{Q:Exit->Act->World->Prop}{σ:List (Nat×Value)}{N j:Nat}{dst:Option Tmp}{g:Option (Nat×Bool)}
  {t ty:TypeId}{x y:Operand}{pos:String}{af:Array Edge}{ow:Nat->Nat}
open Classical in
section
open Go.Maps
variable{k e:TypeId}{κ β:Type}[Flat κ][Flat β][DecidableEq κ](T:MapT P k e κ β)
end
end
end Go.GL
namespace Go.GL
open Go.RowKit
section
variable{P:Program}{ops:Array Oper}{Q:Exit->Act->World->Prop}{a:Act}{w:World}{N:Nat}{σ:List (Nat×Value)}{k d:Nat}{ty:TypeId}{x:Operand}{pos:String}{af:Array Edge}{f:FuncId}{xs:Array Operand}{ts:Array TypeId}
def Bj{o:Oper}{R:Value->World->Prop}(caps:List Value)(ho:o.op= .call {callee:=.value x,args:=xs,argTypes:=ts})(hx:a.eval x= .func (.func f) #[] caps.toArray)
  (hf:∀(args:Array Value)(w:World),(callFunc f args).run P w= .ok (.enter f args) w){args:List Value}(ha:xs.toList.map a.eval=args)
  (h:Calls P f (args++caps).toArray w λe w'=>∃v,e= .returned v/\R v w'):Does P o a w R:=by
 intro K Q hK;obtain⟨dst,op,type,pos,after,guard⟩:=o;subst ho;have hrun:(execOp a.eval {dst,op:=.call {callee:=.value x,args:=xs,argTypes:=ts},type,pos,after,guard}).run P w= .ok (.enter f (args++caps).toArray) w:=by
  simp_all[execOp,resolve,Deferred.ofValue,Sem.run_bind,Sem.run_pure,Result.andThen_ok,invoke]
 unfold Oper.wp;rw[hrun];refine h.mono λe w' he=>?_;grind
def ZdJ(args caps:List Value){R:Value->World->Prop}(hf:∀(args:Array Value)(w:World),(callFunc f args).run P w= .ok (.enter f args) w)
  (ho:ops[k]? =some ⟨some d,.call ⟨.value x,xs,ts⟩,ty,pos,af,none⟩)(hd:Nat.blt d N=true)(hF:FrS N σ a)(hx:opd σ x=some (.func (.func f) #[] caps.toArray))(hargs:xs.toList.map (opd σ)=args.map some)
  (hc:Calls P f (args++caps).toArray w λe w'=>∃v,e= .returned v/\R v w')(h:∀v w' fr,R v w'->FrS N ((d,v)::σ) fr->wpFrom P ops Q (k+1) fr w'):wpFrom P ops Q k a w:=
 Zp hF ho rfl rfl (ZfW.mp hd) (Bj caps rfl (Zd hF hx) hf (EH hF hargs) hc) λv w' fr hr hF'=>h v w' fr hr hF'
end
end Go.GL
namespace Go.GL
open Go.RowKit
section
variable{P:Program}{draw:Bool}{ms:List Nat}{ops:Array Oper}{a0:Act}{w0:World}{Q:Exit->Act->World->Prop}{σ:List (Nat×Value)}{N j:Nat}{dst:Option Tmp}{g:Option (Nat×Bool)}
  {t ty:TypeId}{pos:String}{af:Array Edge}
end
end Go.GL
end
section
namespace Go.GL
open Go.RowKit
structure Hd where
 a:Option Addr
 n:Nat
 c:Nat
def Hd.v(h:Hd):Value:=.slice h.a h.n h.c
instance:Rep Hd where
 sz:=1
 agg:=false
 ok:=λ_ _ cs x=>cs=[x.v]
 len:=by simp
 one:=by rintro w F cs x rfl u hu;simp at hu;subst hu;rfl
 pos:=by decide
 sgl:=λ_=>rfl
 keep:=λh _=>h
instance:Flat Hd where
 enc:=λx=>[x.v]
 iff:=Iff.rfl
def HP.pure(p:Prop):HP:={ok:=λ_ _=>p,mono:=λh _=>h,keep:=λh _ _=>h}
def HP.ex{ι:Type}(P:ι->HP):HP:={ok:=λw A=>∃i,(P i).ok w A,mono:=λ⟨i,h⟩hA=>⟨i,(P i).mono h hA⟩,keep:=λ⟨i,h⟩hc hT=>⟨i,(P i).keep h hc hT⟩}
def HP.two(P Q:HP):HP where
 ok w A:=∃B C:Nat->Prop,P.ok w B/\Q.ok w C/\(∀k,B k->C k->False)/\∀k,B k\/C k->A k
 mono:=λ{w A A'}⟨B,C,h1,h2,h3,h4⟩hA=>⟨λk=>B k/\k<w.heap.size,λk=>C k/\k<w.heap.size,P.mono h1 λ_ hk h=>⟨h,hk⟩,Q.mono h2 λ_ hk h=>⟨h,hk⟩,λk h h'=>h3 k h.1 h'.1,λk h=>h.elim (λh=>hA k h.2 (h4 k (.inl h.1))) λh=>hA k h.2 (h4 k (.inr h.1))⟩
 keep:=λ⟨B,C,h1,h2,h3,h4⟩hc hT=>⟨B,C,P.keep h1 hc λk h=>hT k (h4 k (.inl h)),Q.keep h2 hc λk h=>hT k (h4 k (.inr h)),h3,h4⟩
def HP.all{R α:Type}(own:R->α->HP):List R->List α->HP
 |[],[]=>.pure True
 |r::rs,x::xs=>.two (own r x) (HP.all own rs xs)
 |_,_=>.pure False
def HP.but{R α:Type}(own:R->α->HP)(i:Nat)(rs:List R)(xs:List α):HP:=.two (.all own (rs.take i) (xs.take i)) (.all own (rs.drop (i+1)) (xs.drop (i+1)))
section
variable{w:World}{A:Nat->Prop}{P Q P' Q':HP}
def HP.big{A':Nat->Prop}(h:P.ok w A)(hA:∀k,A k->A' k):P.ok w A':=P.mono h λk _=>hA k
def QW(h1:∀A,P.ok w A->P'.ok w A)(h2:∀A,Q.ok w A->Q'.ok w A)(h:(HP.two P Q).ok w A):(HP.two P' Q').ok w A:=by
 obtain⟨B,C,a,b,c,d⟩:=h;exact⟨B,C,h1 B a,h2 C b,c,d⟩
theorem Qw(h:(HP.two P Q).ok w A):(HP.two Q P).ok w A:=by
 obtain⟨B,C,a,b,c,d⟩:=h;exact⟨C,B,b,a,λk h h'=>c k h' h,λk h=>d k h.symm⟩
def Lc{R:HP}(h:(HP.two P (.two Q R)).ok w A):(HP.two (.two P Q) R).ok w A:=by
 obtain⟨B,C,a,⟨D,E,b,c,d,e⟩,f,g⟩:=h;exact⟨λk=>B k\/D k,E,⟨B,D,a,b,λk h h'=>f k h (e k (.inl h')),λ_ h=>h⟩,c,λk h h'=>h.elim (λh=>f k h (e k (.inr h'))) λh=>d k h h',λk h=>g k (h.elim (λh=>h.elim .inl λh=>.inr (e k (.inl h))) λh=>.inr (e k (.inr h)))⟩
def SE(h:(HP.two P Q).ok w A):P.ok w A:=by
 obtain⟨B,C,a,b,c,d⟩:=h;exact P.big a λk hk=>d k (.inl hk)
theorem Tv(h:(HP.two P Q).ok w A):Q.ok w A:=SE (Qw h)
def QY(h:P.ok w A)(hq:Q.ok w Non):(HP.two P Q).ok w A:=⟨A,Non,h,hq,λ_ _ h=>h.elim,λ_ h=>h.elim id λh=>h.elim⟩
def FZ(h:Q.ok w A)(hp:P.ok w Non):(HP.two P Q).ok w A:=Qw (QY h hp)
variable{R α:Type}{own:R->α->HP}{rs rs':List R}{xs xs':List α}
theorem UX(h:(HP.all own rs xs).ok w A):rs.length=xs.length:=by
 induction rs generalizing xs A with
 |nil=>cases xs with
  |nil=>rfl
  |cons=>exact h.elim
 |cons r rs ih=>cases xs with
  |nil=>exact h.elim
  |cons x xs=>simp[ih (Tv h)]
theorem all_append(h:(HP.two (.all own rs xs) (.all own rs' xs')).ok w A):(HP.all own (rs++rs') (xs++xs')).ok w A:=by
 induction rs generalizing xs A with
 |nil=>cases xs with
  |nil=>grind[Tv]
  |cons=>exact(SE h).elim
 | cons r rs ih=>cases xs with
  |nil=>exact(SE h).elim
  |cons x xs=>
   obtain⟨B,C,⟨D,E,a,b,c,d⟩,e,f,g⟩:=h;exact⟨D,λk=>E k\/C k,a,ih ⟨E,C,b,e,λk h h'=>f k (d k (.inr h)) h',λ_ h=>h⟩,λk h h'=>h'.elim (c k h) (f k (d k (.inl h))),λk h=>g k (h.elim (λh=>.inl (d k (.inl h))) λh=>h.elim (λh=>.inl (d k (.inr h))) .inr)⟩
theorem Zbr(n:Nat)(h:(HP.all own rs xs).ok w A):(HP.two (.all own (rs.take n) (xs.take n)) (.all own (rs.drop n) (xs.drop n))).ok w A:=by
 induction rs generalizing xs A n with
 |nil=>cases xs with
  |nil=>simp only[List.take_nil,List.drop_nil];exact QY h trivial
  |cons=>exact h.elim
 | cons r rs ih=>cases xs with
  |nil=>exact h.elim
  | cons x xs=>
   cases n with
   |zero=>exact FZ h trivial
   |succ n=>
    obtain⟨B,C,a,b,c,d⟩:=h;exact Lc ⟨B,C,a,ih n b,c,d⟩
def all_cons{r:R}{x:α}:HP.all own (r::rs) (x::xs)= .two (own r x) (.all own rs xs):=rfl
def QB{i:Nat}{r:R}{x:α}(h:(HP.all own rs xs).ok w A)(hr:rs[i]? =some r)(hx:xs[i]? =some x):(HP.two (own r x) (.but own i rs xs)).ok w A:=by
 have h1:=Zbr i h;have e1:rs.drop i=r::rs.drop (i+1):=by
  grind[List.getElem?_eq_some_iff,List.drop_eq_getElem_cons]
 have e2:xs.drop i=x::xs.drop (i+1):=by
  grind[List.getElem?_eq_some_iff,List.drop_eq_getElem_cons]
 rw[e1,e2,all_cons]at h1;have h2:=Lc h1;have h3:=QW (λA h=>Qw h) (λA h=>h) h2;obtain⟨B,C,⟨D,E,a,b,c,d⟩,e,f,g⟩:=h3;exact⟨D,λk=>E k\/C k,a,⟨E,C,b,e,λk h h'=>f k (d k (.inr h)) h',λ_ h=>h⟩,λk h h'=>h'.elim (c k h) (f k (d k (.inl h))),λk h=>g k (h.elim (λh=>.inl (d k (.inl h))) λh=>h.elim (λh=>.inl (d k (.inr h))) .inr)⟩
def Io{i:Nat}{r:R}{x:α}(hi:i<rs.length)(hi':i<xs.length)(h:(HP.two (own r x) (.but own i rs xs)).ok w A):(HP.all own (rs.set i r) (xs.set i x)).ok w A:=by
 have e1:rs.set i r=rs.take i++(r::rs.drop (i+1)):=by simp_all[ZhF,ZfC]
 have e2:xs.set i x=xs.take i++(x::xs.drop (i+1)):=by simp_all[ZhF,ZfC]
 rw[e1,e2];refine all_append ?_;have h1:=Lc h;have h2:=QW (λA h=>Qw h) (λA h=>h) h1;obtain⟨B,C,⟨D,E,a,b,c,d⟩,e,f,g⟩:=h2;exact⟨D,λk=>E k\/C k,a,⟨E,C,b,e,λk h h'=>f k (d k (.inr h)) h',λ_ h=>h⟩,λk h h'=>h'.elim (c k h) (f k (d k (.inl h))),λk h=>g k (h.elim (λh=>.inl (d k (.inl h))) λh=>h.elim (λh=>.inl (d k (.inr h))) .inr)⟩
theorem Zec{i:Nat}{r:R}{x:α}(hi:i<xs.length)(h:(HP.two (own r x) (.all own rs xs)).ok w A):(HP.all own (rs.set i r) (xs.set i x)).ok w A:=by
 have hl:=UX (Tv h);refine Io O hi (QW (λ_ h=>h) (λA h=>?_) h);obtain⟨r0,hr0⟩:∃r0,rs[i]? =some r0:=⟨rs[i],ZfA O⟩;obtain⟨x0,hx0⟩:∃x0,xs[i]? =some x0:=⟨xs[i],ZfA hi⟩;exact Tv (QB h hr0 hx0)
def Tz{i:Nat}{r:R}{x:α}(h:(HP.all own rs xs).ok w A)(hr:rs[i]? =some r)(hx:xs[i]? =some x):(own r x).ok w A:=SE (QB h hr hx)
theorem Zbk{r:R}{x:α}(hr:∀w,(own r x).ok w Non)(n:Nat)(w:World):(HP.all own (List.replicate n r) (List.replicate n x)).ok w Non:=by
 induction n with
 |zero=>trivial
 |succ n ih=>exact QY (hr w) ih
def Ze2{r:R}{x:α}(h:(own r x).ok w A):(HP.all own [r] [x]).ok w A:=QY h trivial
end
section
variable{w w0:World}{S S0 F F0:Nat->Prop}{L:List HP}{P Q R:HP}
def Sep.cons_ok(h:Sep (P::L) w S):∃A B,P.ok w A/\Sep L w B/\(∀k,A k->B k->False)/\(∀k,A k->S k)/\∀k,B k->S k:=by
 obtain⟨A,B,h1,h2,h3,h4,h5⟩:=Sep.split (L1:=[P]) (L2:=L) h;obtain⟨C,g1,g2⟩:=h1.get 0 rfl;grind
theorem Sep.of_ok{A:Nat->Prop}(h:P.ok w A):Sep [P] w A:=⟨λi k=>i=0/\A k,λi Q hi=>by
  cases i with
  |zero=>simp_all
  |succ i=>simp at hi,λi j k hne hi hj=>hne (hi.1.trans hj.1.symm)⟩
theorem Sep.mk_cons{A B:Nat->Prop}(h1:P.ok w A)(h2:Sep L w B)(hd:∀k,A k->B k->False)(hA:∀k,A k->S k)(hB:∀k,B k->S k):Sep (P::L) w S:=
 Sep.join (L1:=[P]) (Sep.of_ok h1) h2 (λk _=>hd k) (λk _=>hA k) (λk _=>hB k)
def Sep.imp(h:Sep (P::L) w S)(hi:∀A,P.ok w A->Q.ok w A):Sep (Q::L) w S:=by
 obtain⟨A,B,h1,h2,h3,h4,h5⟩:=h.cons_ok;grind[Sep.mk_cons]
def Sep.emp(P:HP)(h:Sep L w S)(hp:P.ok w Non):Sep (P::L) w S:=Sep.mk_cons hp h (λ_ h=>h.elim) (λ_ h=>h.elim) λ_ h=>h
def Sep.swap(h:Sep (P::Q::L) w S):Sep (Q::P::L) w S:=by
 obtain⟨A,B,h1,h2,h3,h4,h5⟩:=h.cons_ok;obtain⟨C,D,g1,g2,g3,g4,g5⟩:=h2.cons_ok;exact Sep.mk_cons (B:=λk=>A k\/D k) g1 (Sep.mk_cons h1 g2 (λk h h'=>h3 k h (g5 k h')) (λ_ h=>.inl h) λ_ h=>.inr h) (λk h h'=>h'.elim (λh'=>h3 k h' (g4 k h)) (g3 k h)) (λk h=>h5 k (g4 k h)) λk h=>h.elim (h4 k) λh=>h5 k (g5 k h)
def Sep.under(h:Sep (P::L) w S){L':List HP}(hf:∀A,Sep L w A->Sep L' w A):Sep (P::L') w S:=by
 obtain⟨A,B,h1,h2,h3,h4,h5⟩:=h.cons_ok;grind[Sep.mk_cons]
def Sep.two(h:Sep (HP.two P Q::L) w S):Sep (P::Q::L) w S:=by
 obtain⟨A,B,⟨C,D,a,b,c,d⟩,h2,h3,h4,h5⟩:=h.cons_ok;refine Sep.mk_cons (S:=S) (B:=λk=>D k\/B k) a (Sep.mk_cons b h2 (λk h h'=>h3 k (d k (.inr h)) h') (λ_ h=>.inl h) λ_ h=>.inr h) (λk h h'=>h'.elim (c k h) (h3 k (d k (.inl h)))) (λk h=>h4 k (d k (.inl h))) λk h=>h.elim (λh=>h4 k (d k (.inr h))) (h5 k)
def Sep.join2(h:Sep (P::Q::L) w S):Sep (HP.two P Q::L) w S:=by
 obtain⟨A,B,h1,h2,h3,h4,h5⟩:=h.cons_ok;obtain⟨C,D,g1,g2,g3,g4,g5⟩:=h2.cons_ok;exact Sep.mk_cons (A:=λk=>A k\/C k) ⟨A,C,h1,g1,λk h h'=>h3 k h (g4 k h'),λ_ h=>h⟩ g2 (λk h h'=>h.elim (λh=>h3 k h (g5 k h')) λh=>g3 k h h') (λk h=>h.elim (h4 k) λh=>h5 k (g4 k h)) λk h=>h5 k (g5 k h)
theorem Sep.merge(h:Sep (P::Q::L) w S)(hi:∀A,(HP.two P Q).ok w A->R.ok w A):Sep (R::L) w S:=h.join2.imp hi
def Sep.open{ι:Type}{P:ι->HP}(h:Sep (HP.ex P::L) w S):∃i,Sep (P i::L) w S:=by
 obtain⟨A,B,⟨i,h1⟩,h2,h3,h4,h5⟩:=h.cons_ok;grind[Sep.mk_cons]
def Sep.shut{ι:Type}{P:ι->HP}(i:ι)(h:Sep (P i::L) w S):Sep (HP.ex P::L) w S:=h.imp λ_ h=>⟨i,h⟩
def Sep.fact{p:Prop}(h:Sep (HP.pure p::L) w S):p/\Sep L w S:=by
 obtain⟨A,B,h1,h2,h3,h4,h5⟩:=h.cons_ok;exact⟨h1,h2.mono λk _=>h5 k⟩
end
section
variable{w:World}{A:Nat->Prop}{R α:Type}[Flat R]{own:R->α->HP}{E:TypeId}{v:Value}{rs:List R}{xs:List α}
theorem ZbJ(h:(HP.two (SL E v rs) (.all own rs xs)).ok w A):∃a c,v= .slice a xs.length c:=by
 obtain⟨B,C,h1,h2,h3,h4⟩:=h;rw[<-UX h2];rcases h1 with⟨go,h1⟩|⟨rfl,a,rfl⟩
 ·exact h1.slice
 simp
end
section
variable{w:World}{S:Nat->Prop}{L:List HP}{R α:Type}{own:R->α->HP}{rs:List R}{xs:List α}
def Sep.dlen(j:Nat)(h:Sep L w S)(hj:L[j]? =some (.all own rs xs)):rs.length=xs.length:=by
 obtain⟨A,h1,_⟩:=h.get j hj;grind[UX]
end
section
variable{w:World}{A:Nat->Prop}{R α:Type}[Flat R][Rep α]{own:R->α->HP}{E:TypeId}{v:Value}{rs:List R}{xs:List α}
structure Owns(own:R->α->HP):Prop where
 sz:Rep.sz R=Rep.sz α
 agg:Rep.agg R=Rep.agg α
 rv:∀w A r x,(own r x).ok w A->Rep.ok w A (Flat.enc r) x
theorem Ea(ho:Owns own)(h:(HP.two (SL E v rs) (.all own rs xs)).ok w A):RV w A v xs:=by
 obtain⟨B,C,h1,h2,h3,h4⟩:=h;have hl:=UX h2;rcases h1 with⟨go,h1⟩|⟨rfl,a,rfl⟩
 ·obtain⟨F,css,g1,g2,g3,g4,g5⟩:=h1
  have hcss:Css w C css xs:=⟨g1.1.trans hl,λi cs x hcs hx=>by
   have hlt:i<rs.length:=by grind
   have:=g1.2 i cs rs[i] hcs (ZfA hlt);rw[Flat.iff.1 this]
   exact ho.rv w C _ x (Tz h2 (ZfA hlt) hx)⟩
  have hcb:Css w (λk=>C k/\k<w.heap.size) css xs:=hcss.keep λk hk hc=>⟨rfl,hc,hk⟩;have:OwnS w E go B C v xs:=⟨λk=>C k/\k<w.heap.size,css,hcb,by rw[<-ho.sz,<-hl];exact g2,g3,λg hg=>⟨(g4 g hg).1,λhc=>h3 g (g4 g hg).1 hc.1⟩,λk hk=>hk⟩;exact this.rv.sub λk _ hk=>hk.elim (λhk=>h4 k (.inl hk.2)) λhk=>h4 k (.inr hk)
 ·have:xs=[]:=Zg7 hl.symm;subst this;exact RV.mk_slice (l:=([]:List α)) (ZfP _) (Zg9 _) λh=>absurd rfl h
def Zeu(α:Type)[Rep α](E:TypeId):Owns (λ(h:Hd)(xs:List α)=>SL E h.v xs):=⟨rfl,rfl,λw A r x h=>RV.one rfl (SL.rv h)⟩
end
end Go.GL
namespace Go.GL
open Go.RowKit
def mk?_raw{α β:Type}{n:Int}{z:α}{z':β}{r:List α}(h:mk? n z=some r):mk? n z'=some (List.replicate r.length z')/\r=List.replicate r.length z:=by
 grind[mk?]
def app?_raw{α β:Type}{l m r:List α}{l' m':List β}(h:app? l m=some r)(hl:l'.length=l.length)(hm:m'.length=m.length):app? l' m'=some (l'++m')/\r=l++m:=by
 simp_all[app?]
def set?_raw{α β:Type}{l r:List α}{l':List β}{i:Int}{x:α}(y:β)(h:set? l i x=some r)(hl:l'.length=l.length):set? l' i y=some (l'.set i.toNat y)/\r=l.set i.toNat x/\i.toNat<l.length:=by
 simp_all[set?]
section
variable{w:World}{S:Nat->Prop}{L:List HP}{R α:Type}{own:R->α->HP}{rs:List R}{xs:List α}
def Sep.focus{n:Int}{r:R}{z:α}(hs:Sep (HP.all own rs xs::L) w S)(hr:rs[n.toNat]? =some r)(hz:get? xs n=some z):Sep (own r z::HP.but own n.toNat rs xs::L) w S:=
 (hs.imp λ_ h=>QB h hr (get?_at hz)).two
def Sep.fill{n:Int}{r:R}{z:α}{ys:List α}(hs:Sep (own r z::HP.but own n.toNat rs xs::L) w S)(hl:rs.length=xs.length)(hr:rs[n.toNat]? =some r)(hz:set? xs n z=some ys):Sep (HP.all own rs ys::L) w S:=by
 obtain⟨_,h2,h3⟩:=set?_raw (l':=xs) z hz rfl;have e:rs.set n.toNat r=rs:=by
  rw[ZfE]at hr;obtain⟨h,rfl⟩:=hr;simp
 have:=hs.merge λA h=>Io O h3 h;simp_all
end
section
variable{P:Program}{ops:Array Oper}{Q:Exit->Act->World->Prop}{a:Act}{w w0:World}{S S0 F F0:Nat->Prop}{N:Nat}{σ:List (Nat×Value)}{k d:Nat}{t ty:TypeId}{x:Operand}{pos:String}{af:Array Edge}
  {L:List HP}{R α:Type}[Flat R]{own:R->α->HP}{E:TypeId}
end
section
variable{P:Program}{ops:Array Oper}{Q:Exit->Act->World->Prop}{a:Act}{w w0:World}{S S0 F F0:Nat->Prop}{N:Nat}{σ:List (Nat×Value)}{k d d':Nat}{t ty:TypeId}{x y:Operand}{pos:String}{af:Array Edge}
  {L:List HP}{R α:Type}[Flat R]{own:R->α->HP}{E:TypeId}{v u:Value}{rs rs2:List R}{xs ms:List α}
def Sep.relenD{b:Option Addr}{n c:Nat}(i j:Nat)(h:Sep L w S)(hi:L[i]? =some (SL E (.slice b n c) rs))(hj:L[j]? =some (HP.all own rs xs)):n=xs.length/\Sep (L.set i (SL E (.slice b xs.length c) rs)) w S:=by
 have h1:=h.relen i hi;have h2:=h.dlen j hj;simp_all
def Sep.freezeD[Rep α](ho:Owns own){F:Nat->Prop}(h:Sep (SL E v rs::HP.all own rs xs::L) w S)(hM:Mem w0 S0 F0 w S F):∃S' F',Mem w0 S0 F0 w S' F'/\Sep L w S'/\RV w F' v xs/\∀k,F k->F' k:=by
 obtain⟨S',F',a,b,c,d⟩:=Sep.freeze h.join2 hM;grind[Ea]
end
end Go.GL
namespace Go.GL
open Go.RowKit
structure VW(sz:Nat)(b:Option Addr)(c:Nat)(lo:Int)(a':Option Addr)(c':Nat):Prop where
 nn:0<=lo
 addr:a'=(if c=lo.toNat then b else b.map (·.add (lo.toNat*sz)))
 cap:c'=c-lo.toNat
section
variable{P:Program}{ops:Array Oper}{Q:Exit->Act->World->Prop}{a:Act}{w w0:World}{S S0 F F0:Nat->Prop}{N:Nat}{σ:List (Nat×Value)}{k d d':Nat}{t ty:TypeId}{x y:Operand}{pos:String}{af:Array Edge}
  {L:List HP}{E:TypeId}
theorem Zcv{α:Type}[Rep α]{lo hi:Option Operand}{b:Option Addr}{n0 c:Nat}{l r:List α}{m n:Int}(he:Ty P E α)(ht:P.underlying t=some (.slice E))(ho:ops[k]? =some ⟨some d,.slice t x lo hi none,ty,pos,af,none⟩)(hd:Nat.blt d N=true)(hF:FrS N σ a)
  (hx:opd σ x=some (.slice b n0 c))(hl:RV w F (.slice b n0 c) l)(hlo:match lo with|none=>m=0|some y=>∃k,opd σ y=some (.int k m))(hhi:match hi with|none=>n=(l.length:Int)|some y=>∃k,opd σ y=some (.int k n))(hr:cut? l m n=some r)
  (h:∀a' c' fr,VW (Rep.sz α) b c m a' c'->m.toNat+r.length<=l.length->FrS N ((d,.slice a' (List.length r) c')::σ) fr->wpFrom P ops Q (k+1) fr w):wpFrom P ops Q k a w:=by
 have hr':=hr;unfold cut? at hr;split at hr
 ·rename_i hb;obtain⟨Z,h1,h2⟩:=hb;simp only[Option.some.injEq]at hr;have hlen:r.length=n.toNat-m.toNat:=by
   grind
  obtain⟨b',cap,hv,hc1,hc2,hc3⟩:=hl.slice;simp only[Value.slice.injEq]at hv;obtain⟨rfl,rfl,rfl⟩:=hv;refine Zp hF ho rfl rfl (ZfW.mp hd) (R:=λv w'=>v= .slice (if c=m.toNat then b else b.map (·.add (m.toNat*Rep.sz α))) (n.toNat-m.toNat) (c-m.toNat)/\w'=w) (Zh ?_ ⟨rfl,rfl⟩) λv w' fr hv hF'=>?_
  ·have hn2:n<=(c:Int):=by omega
   cases lo with
   | none=>
    simp only at hlo;subst hlo;cases hi with
    |none=>
     simp only at hhi;subst hhi;simp[execOp,Instr.sliceAt,Instr.slice,Instr.sliceBounds,Zd hF hx,run_underlying ht,he.sizeOf]
    |some y=>
     obtain⟨kk,hy⟩:=hhi;simp[execOp,Instr.sliceAt,Instr.slice,Instr.sliceBounds,Instr.sliceBound,asIntOf,Zd hF hx,Zd hF hy,run_underlying ht,he.sizeOf,h1,hn2]
   | some z=>
    obtain⟨kz,hz⟩:=hlo;cases hi with
    |none=>
     simp only at hhi;subst hhi;simp[execOp,Instr.sliceAt,Instr.slice,Instr.sliceBounds,Instr.sliceBound,asIntOf,Zd hF hx,Zd hF hz,run_underlying ht,he.sizeOf,Z,h1]
    |some y=>
     obtain⟨kk,hy⟩:=hhi;have h01:0<=n:=by omega
     simp[execOp,Instr.sliceAt,Instr.slice,Instr.sliceBounds,Instr.sliceBound,asIntOf,Zd hF hx,Zd hF hy,Zd hF hz,run_underlying ht,he.sizeOf,Z,h01,hn2]
     try omega
  ·obtain⟨rfl,rfl⟩:=hv;exact h _ _ fr ⟨Z,rfl,rfl⟩ O (by rw[hlen];exact hF')
 ·cases hr
end
end Go.GL
end
section
namespace Go.GL
open Go.RowKit
section
variable{w:World}{F:Nat->Prop}{α:Type}[Rep α]{b a':Option Addr}{n0 c c':Nat}{lo:Int}{l:List α}{n:Nat}
def Ai(h:RV w F (.slice b n0 c) l)(hv:VW (Rep.sz α) b c lo a' c')(hn:lo.toNat+n<=l.length):RV w F (.slice a' n c') (vcut l lo n):=by
 obtain⟨b',cap,he,hc1,hc2,hc3⟩:=h.slice;obtain⟨rfl,rfl,rfl⟩:=he;obtain⟨Z,rfl,rfl⟩:=hv;have hlen:(vcut l lo n).length=n:=by grind[vcut,List.length_take,List.length_drop]
 have e:vcut l lo n=(l.take (lo.toNat+n)).drop lo.toNat:=by
  simp[vcut,ZhZ]
 have key:RV w F (.slice (if c=lo.toNat then b else b.map (·.add (lo.toNat*Rep.sz α))) (vcut l lo n).length (c-lo.toNat)) (vcut l lo n):=by
  refine RV.mk_slice O O λhne=>?_;have hpos:0<n:=by
   grind
  have hlne:l≠[]:=by grind
  obtain⟨ad,rfl,hF,hel⟩:=hc3 hlne;rw[ZfD O];refine⟨ad.add (lo.toNat*Rep.sz α),rfl,by simp_all[add_block],?_⟩;simp_all[Hu]
 simp_all
end
theorem PM{css:List (List Value)}{s:Nat}(h:∀c∈css,c.length=s)(p:Nat)(hp:p<=css.length):(css.take p).flatten=css.flatten.take (p*s)/\(css.drop p).flatten=css.flatten.drop (p*s)/\(css.take p).flatten.length=p*s:=by
 have key:∀(css:List (List Value)),(∀c∈css,c.length=s)->css.flatten.length=css.length*s:=by
  intro css
  induction css with
  |nil=>simp
  |cons c css ih=>
   grind
 have hl:(css.take p).flatten.length=p*s:=by
  grind
 grind[List.flatten_append,List.take_append_drop,List.take_left,List.drop_left]
def Zcf{cur cs:List Value}{a n:Nat}(h1:a+cs.length<=n)(h2:n<=cur.length):(cur.take a++cs++cur.drop (a+cs.length)).take n=(cur.take n).take a++cs++(cur.take n).drop (a+cs.length):=by
 apply Zgy;grind
section
variable{P:Program}{α:Type}[Flat α]{w:World}{E:TypeId}{go:Option Nat}{G:Nat->Prop}{v:Value}{l:List α}
def OwnS.put_run(h:OwnS w E go G Non v l){p:Nat}{m:List α}(hm:m≠[])(hp:p+m.length<=l.length):
  ∃g w',go=some g/\(∃c,v= .slice (some ⟨g,0,none⟩) l.length c)/\(storeCells ((⟨g,0,none⟩:Addr).add (p*Rep.sz α)) (m.map Flat.enc).flatten).run P w= .ok () w'/\OwnS w' E go G Non v (l.take p++m++l.drop (p+m.length))/\Chg (λk=>go=some k) w w':=by
 obtain⟨F,css,h1,h2,h3,h4,h5⟩:=h;have hpos:0<m.length:=by
  grind
 rcases h2.2 with⟨rfl,hz⟩|⟨g,cap,cur,rfl,hb,hg,hnc,hcm,hcs,htake⟩
 ·omega
 have hgo:go=some g:=by rw[<-h3];rfl
 have hcss:css=l.map Flat.enc:=by
  apply Zgy;intro i;rw[Zgp];by_cases hi:i<l.length
  ·have hi':i<css.length:=by rw[h1.1];exact hi
   rw[ZfA hi,ZfA hi'];exact congrArg some (Flat.iff.1 (h1.2 i css[i] l[i] (ZfA hi') (ZfA hi)))
  ·rw[Zgd (by rw[h1.1];omega),Zgd O];rfl
 subst hcss;have hlen:∀(x:List α),∀c∈x.map Flat.enc,c.length=Rep.sz α:=λx c hc=>by
  obtain⟨y,_,rfl⟩:=Zg5.1 hc;exact Rep.len (Flat.iff (w:=w) (F:=Non).2 rfl)
 have hone:∀z∈(m.map Flat.enc).flatten,z.oneCell'=true:=λz hz=>by
  obtain⟨c,hc,hzc⟩:=List.mem_flatten.1 hz;obtain⟨y,_,rfl⟩:=Zg5.1 hc;exact Rep.one (Flat.iff (w:=w) (F:=Non).2 rfl) z hzc
 have hml:(m.map Flat.enc).flatten.length=m.length*Rep.sz α:=by
  have:=(PM (hlen m) m.length U).2.2;simp_all[Zg4]
 have hcap:l.length*Rep.sz α<=cap*Rep.sz α:=ZgF _ hnc;have hoff:p*Rep.sz α+m.length*Rep.sz α<=l.length*Rep.sz α:=by
  rw[<-Zh9];simp_all[ZgF]
 have hrun:=run_storeCells_at (P:=P) g (p*Rep.sz α) E (m.map Flat.enc).flatten 0 cur w hg O hone;have haddr:(⟨g,0,none⟩:Addr).add (p*Rep.sz α)=⟨g,p*Rep.sz α,none⟩:=by simp_all[Addr.add]
 refine⟨g,w.setRow g (cur.toList.take (p*Rep.sz α)++(m.map Flat.enc).flatten++cur.toList.drop (p*Rep.sz α+(m.map Flat.enc).flatten.length)).toArray,hgo,⟨cap,rfl⟩,by simp_all,?_,⟨rfl,rfl,rfl,by simp,λk _ hn=>setRow_other w g k _ λe=>hn (by rw[hgo,e])⟩⟩;have hll:(l.take p++m++l.drop (p+m.length)).length=l.length:=by simp;omega
 refine⟨Non,(l.take p++m++l.drop (p+m.length)).map Flat.enc,Oa _,⟨?_,.inr ⟨g,cap,_,by rw[hll],hb,setRow_heap w g cur _ E _ hg,by omega,hcm,?_,?_⟩⟩,h3,λg' hg'=>⟨(h4 g' hg').1,id⟩,λ_ h=>h.elim⟩
 ·have:=(PM (hlen (l.take p++m++l.drop (p+m.length))) (l.take p++m++l.drop (p+m.length)).length U).2.2;rw[Zg4 U]at this;exact this
 ·simp only[Zhz,ZfI,Zga,ZfX,Zg6];omega
 ·rw[hll];have hcl:cur.toList.length=cap*Rep.sz α:=by simpa using hcs
  rw[Zcf (by rw[hml];exact hoff) (by rw[hcl];exact hcap),htake,ZgA,ZgA,Zhp,Zhp,Zid,List.map_drop,(PM (hlen l) p aa).1,(PM (hlen l) (p+m.length) aa).2.1,hml,<-Zh9]
end
section
variable{P:Program}{ops:Array Oper}{Q:Exit->Act->World->Prop}{a:Act}{w w0:World}{S S0 F F0:Nat->Prop}{N:Nat}{σ:List (Nat×Value)}{k d:Nat}{t ty:TypeId}{x y:Operand}{pos:String}{af:Array Edge}
  {L:List HP}{E:TypeId}{α:Type}[Flat α]{l m:List α}{b a':Option Addr}{n0 c c' n:Nat}{lo:Int}{u:Value}
theorem Zd4{t':TypeId}{Fr:Nat->Prop}(i:Nat)(hs:Sep L w S)(hM:Mem w0 S0 F0 w S F)(hL:L[i]? =some (SL E (.slice b n0 c) l))(ht:P.underlying t=some (.slice E))(hE:Ty P E α)
  (hop:ops[k]? =some ⟨some d,.call ⟨.builtin .copy,#[x,y],#[t,t']⟩,ty,pos,af,none⟩)(hd:Nat.blt d N=true)(hF:FrS N σ a)(hx:opd σ x=some (.slice a' n c'))(hy:opd σ y=some u)(hu:RV w Fr u m)
  (hv:VW (Rep.sz α) b c lo a' c')(hn:lo.toNat+n<=l.length)
  (h:∀w' S' fr q,Sep (L.set i (SL E (.slice b n0 c) (vcopy l lo n m))) w' S'->Stp w S w' S'->FrS N ((d,q)::σ) fr->wpFrom P ops Q (k+1) fr w'):wpFrom P ops Q k a w:=by
 obtain⟨A,hok,hup⟩:=hs.upd i hL hM;obtain⟨ad,cap,rfl,hcap,hmax,hcells⟩:=hu.slice;by_cases hm:m.take n=[]
 ·
  have e:vcopy l lo n m=l:=by
   unfold vcopy;rw[hm];simp
  have hz:Nat.min m.length n=0:=by
   have:=congrArg List.length hm;grind
  obtain⟨S',hp,hs'⟩:=hup (w':=w) (P':=SL E (.slice b n0 c) (vcopy l lo n m)) (Chg.refl _ _) (by grind[HP.mono]);refine Zp hF hop rfl rfl (ZfW.mp hd) (R:=λ_ w'=>w'=w) (Zh (v:=goInt 0) (w':=w) ?_ rfl) λv w1 fr hw hF'=>by grind
  have e1:(min m.length n)=0:=hz;cases ad with
  |none=>cases a'<;>simp[execOp,resolve,invoke,builtin,Builtin.copy_,Zd hF hx,Zd hF hy,run_underlying ht,Builtin.lenOf,Builtin.firstCells,hE.sizeOf,e1,storeCells]
  |some ad=>cases a'<;>simp[execOp,resolve,invoke,builtin,Builtin.copy_,Zd hF hx,Zd hF hy,run_underlying ht,Builtin.lenOf,Builtin.firstCells,hE.sizeOf,e1,storeCells,loadCells,loadCellsFrom]
 ·have hpos:0<(m.take n).length:=by
   grind
  have hml:(m.take n).length=min m.length n:=by grind
  rcases hok with⟨go,ho⟩|⟨rfl,q,hq⟩
  ·obtain⟨g,w',hgo,⟨c2,hv2⟩,hrun,ho',hc⟩:=ho.put_run (P:=P) (p:=lo.toNat) (m:=m.take n) hm O;simp only[Value.slice.injEq]at hv2;obtain⟨rfl,rfl,rfl⟩:=hv2;have hca:c≠lo.toNat:=by
    obtain⟨_,cap',he',hl',_⟩:=ho.rv.slice;grind
   have ha':a'=some ((⟨g,0,none⟩:Addr).add (lo.toNat*Rep.sz α)):=by rw[hv.addr,ZfD hca];rfl
   have hmne:m≠[]:=by simp_all
   obtain⟨ad,rfl,_,hel⟩:=hcells hmne;obtain⟨css,g1,g2⟩:=Um hel;have hcss:css=m.map Flat.enc:=by
    apply Zgy;intro i;rw[Zgp];by_cases hi:i<m.length
    ·have hi':i<css.length:=by rw[g1.1];exact hi
     rw[ZfA hi,ZfA hi'];exact congrArg some (Flat.iff.1 (g1.2 i css[i] m[i] (ZfA hi') (ZfA hi)))
    ·rw[Zgd (by rw[g1.1];omega),Zgd O];rfl
   subst hcss;have hlen:∀c∈m.map Flat.enc,c.length=Rep.sz α:=λc hc=>by
    obtain⟨y,_,rfl⟩:=Zg5.1 hc;exact Rep.len (Flat.iff (w:=w) (F:=Non).2 rfl)
   have hfc:=PM hlen (min m.length n) aa;have hmt:m.take n=m.take (min m.length n):=by
    rw[List.take_eq_take_iff];omega
   have hcl:((m.take n).map Flat.enc).flatten=(m.map Flat.enc).flatten.take (min m.length n*Rep.sz α):=by rw[hmt,Zid,hfc.1]
   have hll:(((m.take n).map Flat.enc).flatten).length=min m.length n*Rep.sz α:=by rw[hmt,Zid,hfc.2.2]
   have hload:(loadCells ad (min m.length n*Rep.sz α)).run P w= .ok (((m.take n).map Flat.enc).flatten).toArray w:=by
    rw[<-hll];refine run_loadCells_list w ad _ λj v hj=>?_;rw[hcl,Zgw]at hj;split at hj
    ·simpa using g2 j v hj
    ·cases hj
   obtain⟨S',hp,hs'⟩:=hup (w':=w') (P':=SL E (.slice (some ⟨g,0,none⟩) l.length c) (vcopy l lo n m)) (hc.mono λk hk=>ho.inG hk) (.inl ⟨go,ho'.regard λk _ hk=>.inl hk⟩);refine Zp hF hop rfl rfl (ZfW.mp hd) (R:=λ_ w1=>w1=w') (Zh (v:=goInt ((Nat.min m.length n:Nat):Int)) (w':=w') ?_ rfl) λv w1 fr hw hF'=>by subst hw;exact h _ S' fr v hs' hp hF'
   subst ha';rw[Zid]at hrun hload;simp[execOp,resolve,invoke,builtin,Builtin.copy_,Zd hF hx,Zd hF hy,run_underlying ht,Builtin.lenOf,Builtin.firstCells,hE.sizeOf,hload,hrun]
  simp_all
end
end Go.GL
namespace Go.GL
open Go.RowKit
section
variable{P:Program}{ops:Array Oper}{Q:Exit->Act->World->Prop}{a:Act}{w w0:World}{S S0 F F0:Nat->Prop}{N:Nat}{σ:List (Nat×Value)}{k:Nat}{t ty:TypeId}{x:Operand}{pos:String}{af:Array Edge}
  {L:List HP}{E:TypeId}{α:Type}[Flat α]{l:List α}{b a':Option Addr}{n0 c c' n:Nat}{lo:Int}
end
end Go.GL
end
