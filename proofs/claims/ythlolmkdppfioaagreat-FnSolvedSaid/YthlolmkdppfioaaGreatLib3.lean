/- Texts of this claim put into one: library or plain laws, without the program under test. -/
import Derived.Test.YthlolmkdppfioaaGreatLib2
import Derived.ChangeArms
import Derived.ChangeOld
import Derived.WideShapes
import Derived.Test.YthlolmkdppfioaaGreatLib1
set_option linter.unusedSimpArgs false
set_option linter.unusedVariables false
section
set_option linter.unusedVariables false
namespace Go.GL
open Go.RowKit
structure RF where
 ok:World → (Nat → Prop) → Prop
 sub:∀ {w:World} {F F':Nat → Prop},ok w F → (∀ k,k < w.heap.size → F k → F' k) → ok w F'
 chg:∀ {w w':World} {F T:Nat → Prop},ok w F → Chg T w w' → (∀ k,F k → ¬ T k) → ok w' F
 box:Option (Nat × List Value):=none
 isb:∀ {w:World} {F:Nat → Prop} {p:Nat × List Value},box = some p → ok w F → ∃ t,Box w p.1 t p.2:=by intro _ _ _ h; cases h
def RO {α:Type} [Rep α] (v:Value) (x:α):RF where
 ok w F:=RV w F v x
 sub h hs:=RV.sub h hs
 chg h hc ht:=RV.chg h hc ht
def FX (b:Nat) (t:TypeId) (cs:List Value):RF where
 ok w F:=Box w b t cs ∧ F b
 sub h hs:=⟨h.1,hs b h.1.lt h.2⟩
 chg h hc ht:=⟨h.1.chg hc (ht b h.2),h.2⟩
 box:=some (b,cs)
 isb h hok:=by cases h; exact ⟨t,hok.1⟩
def CS {ρ α:Type} [Flat ρ] [Rep α] (rs:List ρ) (xs:List α):RF where
 ok w F:=Css w F (rs.map Flat.enc) xs
 sub h hs:=⟨h.1,fun i cs x hi hx=>Rep.keep (h.2 i cs x hi hx) fun k hk hf=>⟨rfl,hs k hk hf⟩⟩
 chg h hc ht:=⟨h.1,fun i cs x hi hx=>Rep.keep (h.2 i cs x hi hx) fun k hk hf=>⟨hc.block k hk (ht k hf),hf⟩⟩
def AllF (Φ:List RF) (w:World) (F:Nat → Prop):Prop:=∀ R ∈ Φ,R.ok w F
section
variable {w w':World} {F F' T:Nat → Prop} {Φ Ψ:List RF} {R:RF}
theorem AllF.sub (h:AllF Φ w F) (hs:∀ k,k < w.heap.size → F k → F' k):AllF Φ w F':=fun R hR=>R.sub (h R hR) hs
theorem AllF.chg (h:AllF Φ w F) (hc:Chg T w w') (ht:∀ k,F k → ¬ T k):AllF Φ w' F:=fun R hR=>R.chg (h R hR) hc ht
theorem AllF.nil:AllF [] w F:=fun R hR=>by cases hR
theorem AllF.add (h:AllF Φ w F) (hR:R.ok w F):AllF (Φ ++ [R]) w F:=fun R' h'=>by
 rcases ZnS.1 h' with h' | h'
 ·exact h R' h'
 ·rw [ZnX] at h'; subst h'; exact hR
theorem AllF.join (h:AllF Φ w F) (h':AllF Ψ w F):AllF (Φ ++ Ψ) w F:=fun R hR=>(ZnS.1 hR).elim (h R) (h' R)
theorem AllF.get (h:AllF Φ w F) {i:Nat} (hi:Φ[i]? = some R):R.ok w F:=h R (ZnN hi)
theorem AllF.pick (fs:List Nat) (h:AllF Φ w F) (hf:fs.map (fun i=>Φ[i]?) = Ψ.map some):AllF Ψ w F:=fun R hR=>by
 obtain ⟨j,hj,hR⟩:=List.mem_iff_getElem.1 hR
 have h1:(fs.map fun i=>Φ[i]?)[j]? = some (some R):=by rw [hf]; simp [hj,hR]
 rw [ZnW] at h1
 cases hi:fs[j]? with
 | none=>rw [hi] at h1; cases h1
 | some i=>rw [hi] at h1; exact h.get (by simpa using h1)
end
structure Bs where
 w:World
 S:Nat → Prop
 F:Nat → Prop
structure Cx (B:Bs) (N:Nat) (σ:List (Nat × Value)) (Γ:List HP) (Φ:List RF) (a:Act) (w:World):Prop where
 fr:FrS N σ a
 me:∃ S F,Mem B.w B.S B.F w S F ∧ Sep Γ w S ∧ AllF Φ w F
def bxsOf (Γ:List HP) (Φ:List RF):Bxs:=Γ.filterMap (·.box) ++ Φ.filterMap (·.box)
theorem Cx.bxs {B:Bs} {N:Nat} {σ:List (Nat × Value)} {Γ:List HP} {Φ:List RF} {a:Act} {w:World} (c:Cx B N σ Γ Φ a w):(bxsOf Γ Φ).at w:=fun p hp=>by
 obtain ⟨_,S,F,_,hs,hf⟩:=c
 rcases ZnS.1 hp with hp | hp
 ·rw [ZpZ] at hp
  obtain ⟨H,hH,hb⟩:=hp
  obtain ⟨i,hi⟩:=Zpz hH
  obtain ⟨A,h1,_⟩:=hs.get i hi
  exact H.isb hb h1
 ·rw [ZpZ] at hp
  obtain ⟨R,hR,hb⟩:=hp
  exact R.isb hb (hf R hR)
def Ava (Γ:List HP) (Φ:List RF) (w:World) (R:RF):Prop:=∀ S F,Sep Γ w S → AllF Φ w F → R.ok w (fun k=>F k ∨ S k)
def AvaL (Γ:List HP) (Φ:List RF) (w:World):List RF → Prop
 | []=>True
 | R :: Ψ=>Ava Γ Φ w R ∧ AvaL Γ Φ w Ψ
section
variable {Γ:List HP} {Φ Ψ:List RF} {w:World}
theorem Ava.f (i:Nat) {R:RF} (h:Φ[i]? = some R:=by rfl):Ava Γ Φ w R:=fun _ _ _ hf=>R.sub (hf.get h) fun _ _ h=>.inl h
theorem Ava.g {α:Type} [Rep α] {E:TypeId} {v:Value} {l:List α} (i:Nat) (h:Γ[i]? = some (SL E v l):=by rfl):Ava Γ Φ w (RO v l):=fun _ _ hs _=>RV.sub (hs.rv i h) fun _ _ h=>.inr h
theorem Ava.b {b:Nat} {t:TypeId} {cs:List Value} (i:Nat) (h:Γ[i]? = some (BX b t cs):=by rfl):Ava Γ Φ w (FX b t cs):=fun _ _ hs _=>by
 obtain ⟨A,h1,h2⟩:=hs.get i h
 exact ⟨h1.1,.inr (h2 b h1.2)⟩
theorem Ava.nil {α:Type} [Rep α]:Ava Γ Φ w (RO (.slice none 0 0) ([]:List α)):=fun _ _ _ _=>RV.nil
theorem Ava.fl {α:Type} [Flat α] (x:α):Ava Γ Φ w (RO (Rep.val α (Flat.enc x)) x):=fun _ _ _ _=>RV.mk_flat x
theorem AvaL.all {S F:Nat → Prop}:∀ {Ψ:List RF},AvaL Γ Φ w Ψ → Sep Γ w S → AllF Φ w F → AllF Ψ w (fun k=>F k ∨ S k)
 | [],_,_,_=>AllF.nil
 | R :: Ψ,h,hs,hf=>fun R' hR=>by
  rcases Zof.1 hR with rfl | hR
  ·exact h.1 S F hs hf
  ·exact AvaL.all h.2 hs hf R' hR
end
def tup:List Value → Value
 | [v]=>v
 | vs=>.tuple vs.toArray
abbrev Res:=List Value × List HP × List RF
def Con (P:Program) (f:FuncId) (args:List Value) (Γ:List HP) (Φ:List RF) {ι:Type} (R:ι → Res):Prop:=
 ∀ (w:World) (S F:Nat → Prop),Sep Γ w S → AllF Φ w F → (∀ k,S k → k < w.heap.size) → (∀ k,F k → k < w.heap.size) → (∀ k,S k → F k → False) →
  Calls P f args.toArray w fun e w'=>∃ i S' F',e = .returned (tup (R i).1) ∧ Mem w S F w' S' F' ∧ Sep (R i).2.1 w' S' ∧ AllF (R i).2.2 w' F'
def Rp (B:Bs) {ι:Type} (R:ι → Res):Ending → World → Prop:=fun e w'=>∃ i S' F',e = .returned (tup (R i).1) ∧ Mem B.w B.S B.F w' S' F' ∧ Sep (R i).2.1 w' S' ∧ AllF (R i).2.2 w' F'
section
variable {P:Program} {B:Bs} {N:Nat} {σ:List (Nat × Value)} {Γ:List HP} {Φ:List RF} {a a':Act} {w w':World} {Q:Exit → Act → World → Prop} {K:Act → World → Prop} {ι:Type} {R:ι → Res} {fn:Func}
theorem En {f:FuncId} {c:Code} {args:List Value} (hf:P.funcs[f]? = some fn) (hb:fn.body = some c) (hN:fn.ntmps = N)
  (h:∀ B a w,Cx B N (args0 0 args) Γ Φ a w → c.wp P (bodyPost P fn (Rp B R)) a w) (hle:Nat.ble args.length N = true:=by rfl):Con P f args Γ Φ R:=
 fun w S F hs hf' hS hF hd=>enter hf hb hN hle fun a hF'=>h ⟨w,S,F⟩ a w ⟨hF',S,F,Mem.start hS hF hd,hs,hf'⟩
theorem Cx.to {σ':List (Nat × Value)} (c:Cx B N σ Γ Φ a w) (h:FrS N σ' a'):Cx B N σ' Γ Φ a' w:=⟨h,c.me⟩
theorem Cx.ext (c:Cx B N σ Γ Φ a w) (hc:Chg Non w w'):Cx B N σ Γ Φ a w':=by
 obtain ⟨h,S,F,h1,h2,h3⟩:=c
 exact ⟨h,S,F,h1.ext hc,h2.ext hc,h3.chg hc fun _ _ h=>h.elim⟩
theorem Cx.use {Rf:RF} (c:Cx B N σ Γ Φ a w) (h:Ava Γ Φ w Rf):∃ F,Rf.ok w F:=by
 obtain ⟨_,S,F,_,h2,h3⟩:=c
 exact ⟨_,h S F h2 h3⟩
theorem Cx.usebx {b:Nat} {t:TypeId} {cs:List Value} (c:Cx B N σ Γ Φ a w) (h:Ava Γ Φ w (FX b t cs)):Box w b t cs:=by
 obtain ⟨F,h⟩:=c.use h
 exact h.1
theorem Cx.add {Rf:RF} (c:Cx B N σ Γ Φ a w) (h:Ava [] Φ w Rf):Cx B N σ Γ (Φ ++ [Rf]) a w:=by
 obtain ⟨hF,S,F,h1,h2,h3⟩:=c
 exact ⟨hF,S,F,h1,h2,h3.add (Rf.sub (h Non F (Sep.nil w Non) h3) fun _ _ h=>h.elim id fun h=>h.elim)⟩
def rg:Nat → List Nat
 | 0=>[]
 | n + 1=>rg n ++ [n]
theorem Cx.re {σ':List (Nat × Value)} {Γ':List HP} {Φ':List RF} (c:Cx B N σ Γ Φ a w) (gs fs:List Nat) (hg:gs.map (fun i=>Γ[i]?) = Γ'.map some:=by rfl) (hf:fs.map (fun i=>Φ[i]?) = Φ'.map some:=by rfl)
  (hn:gs.Nodup:=by decide) (hσ:σ'.map (fun p=>σ.lookup p.1) = σ'.map fun p=>some p.2:=by kernel_rfl):Cx B N σ' Γ' Φ' a w:=by
 obtain ⟨h,S,F,h1,h2,h3⟩:=c
 exact ⟨h.sub σ' hσ,S,F,h1,h2.pick gs hn hg,h3.pick fs hf⟩
theorem Cx.frs (σ':List (Nat × Value)) (c:Cx B N σ Γ Φ a w) (hσ:σ'.map (fun p=>σ.lookup p.1) = σ'.map fun p=>some p.2:=by kernel_rfl):Cx B N σ' Γ Φ a w:=⟨c.fr.sub σ' hσ,c.me⟩
theorem Cx.pick {Γ':List HP} (c:Cx B N σ Γ Φ a w) (gs:List Nat) (hg:gs.map (fun i=>Γ[i]?) = Γ'.map some:=by rfl) (hn:gs.Nodup:=by decide):Cx B N σ Γ' Φ a w:=by
 obtain ⟨h,S,F,h1,h2,h3⟩:=c
 exact ⟨h,S,F,h1,h2.pick gs hn hg,h3⟩
theorem Cx.gam {Γ':List HP} (c:Cx B N σ Γ Φ a w) (f:∀ S,Sep Γ w S → Sep Γ' w S):Cx B N σ Γ' Φ a w:=by
 obtain ⟨h,S,F,h1,h2,h3⟩:=c
 exact ⟨h,S,F,h1,f S h2,h3⟩
theorem ZE {Γ2:List HP} {S:Nat → Prop} (h:Sep (Γ2 ++ Γ) w S):Sep (Γ ++ Γ2) w S:=by
 obtain ⟨A,R,h1,h2,h3,h4,h5⟩:=h.split
 exact Sep.join h2 h1 (fun k _ h h'=>h3 k h' h) (fun k _ h=>h5 k h) fun k _ h=>h4 k h
theorem Cx.relen {α:Type} [Rep α] {E:TypeId} {b:Option Addr} {n cp:Nat} {l:List α} (i:Nat) (c:Cx B N σ Γ Φ a w) (hi:Γ[i]? = some (SL E (.slice b n cp) l):=by rfl):n = l.length ∧ Cx B N σ (Γ.set i (SL E (.slice b l.length cp) l)) Φ a w:=by
 obtain ⟨h,S,F,h1,h2,h3⟩:=c
 obtain ⟨he,hs⟩:=h2.relen i hi
 exact ⟨he,h,S,F,h1,hs,h3⟩
theorem Cx.eqs {v u:Value} (t:Nat) (c:Cx B N σ Γ Φ a w) (he:v = u) (hv:σ.lookup t = some v:=by kernel_rfl):Cx B N ((t,u) :: σ) Γ Φ a w:=⟨c.fr.cons (he ▸ c.fr.get t v hv),c.me⟩
theorem Fp {ops:Array Oper} {k:Nat} (hs:List (Nat × Nat)) (m:Nat) (c:Cx B N σ Γ Φ a w) (h:∀ fr,Cx B N ((seqB P N (bxsOf Γ Φ) hs k ((ops.toList.drop k).take m) σ).getD ([],[])).1 Γ Φ fr w → wpFrom P ops Q (k + m) fr w)
  (hk:(seqB P N (bxsOf Γ Φ) hs k ((ops.toList.drop k).take m) σ).map (fun r=>r.2.map (·.1)) = some (((seqB P N (bxsOf Γ Φ) hs k ((ops.toList.drop k).take m) σ).map (fun r=>r.2.map (·.2))).getD []):=by kernel_rfl):wpFrom P ops Q k a w:=by
 obtain ⟨σ',e,hσ,he⟩:=Zit hk
 rw [hσ] at h
 unfold wpFrom at h ⊢
 have:ops.toList.drop k = (ops.toList.drop k).take m ++ ops.toList.drop (k + m):=by
  rw [← ZqD,Zo0]
 rw [this]
 exact Zct c.bxs c.fr hσ he fun a' hF'=>h a' (c.to hF')
theorem P1 {id:Nat} {ops:Array Oper} (hs:List (Nat × Nat)) (c:Cx B N σ Γ Φ a w) (h:∀ fr,Cx B N ((seqB P N (bxsOf Γ Φ) hs 0 ops.toList σ).getD ([],[])).1 Γ Φ fr w → K fr w)
  (hk:(seqB P N (bxsOf Γ Φ) hs 0 ops.toList σ).map (fun r=>r.2.map (·.1)) = some (((seqB P N (bxsOf Γ Φ) hs 0 ops.toList σ).map (fun r=>r.2.map (·.2))).getD []):=by kernel_rfl):(Code.region id ops false).wp P (Exit.then K Q) a w:=by
 obtain ⟨σ',e,hσ,he⟩:=Zit hk
 rw [hσ] at h
 refine ZfT ?_
 unfold wpFrom
 rw [Zpu,← Zoz ops.toList]
 exact Zct c.bxs c.fr hσ he fun a' hF'=>wpList_nil (h a' (c.to hF'))
theorem P0 {id:Nat} {ops:Array Oper} {b:Code} (hs:List (Nat × Nat)) (c:Cx B N σ Γ Φ a w) (h:∀ fr,Cx B N ((seqB P N (bxsOf Γ Φ) hs 0 ops.toList σ).getD ([],[])).1 Γ Φ fr w → b.wp P Q fr w)
  (hk:(seqB P N (bxsOf Γ Φ) hs 0 ops.toList σ).map (fun r=>r.2.map (·.1)) = some (((seqB P N (bxsOf Γ Φ) hs 0 ops.toList σ).map (fun r=>r.2.map (·.2))).getD []):=by kernel_rfl):(Code.seq (.region id ops false) b).wp P Q a w:=wp_seq (P1 hs c h hk)
theorem Tq {x:Code} (h:x.wp P (Exit.then (fun a w=>Q .normal a w) Q) a w):x.wp P Q a w:=wp_cut' h fun _ _ h=>h
theorem T0 {id:Nat} {l:List Oper} {b:Code} (h:wpFrom P l.toArray (Exit.then (fun a w=>b.wp P Q a w) Q) 0 a w):(Code.seq (.region id l.toArray false) b).wp P Q a w:=wp_seq (Zge h)
theorem T1 {id:Nat} {l:List Oper} (h:wpFrom P l.toArray Q 0 a w):(Code.region id l.toArray false).wp P Q a w:=Zge h
theorem E0 {ops:Array Oper} {k:Nat} (h:K a w) (hk:ops.size = k:=by rfl):wpFrom P ops (Exit.then K Q) k a w:=Zg0 hk (ZbL h)
theorem E1 {ops:Array Oper} {k:Nat} (h:Q .normal a w) (hk:ops.size = k:=by rfl):wpFrom P ops Q k a w:=Zg0 hk h
theorem S0 {x:Code} {b:Code} (h:x.wp P (Exit.then (fun a w=>b.wp P Q a w) Q) a w):(Code.seq x b).wp P Q a w:=wp_seq h
theorem K0 (h:K a w):Code.skip.wp P (Exit.then K Q) a w:=wp_skip (ZbL h)
theorem K1 (h:Q .normal a w):Code.skip.wp P Q a w:=wp_skip h
theorem I0 {x y:Code} {o:Operand} {β:Type} {X Y:Option β} {r:Option β} {b:Bool} (c:Cx B N σ Γ Φ a w) (h:(if b = true then X else Y) = r) (ht:X = r → x.wp P Q a w) (hf:Y = r → y.wp P Q a w) (hb:opd σ o = some (.bool b):=by kernel_rfl) :
  (Code.cond o x y).wp P Q a w:=Zid c.fr hb (fun hb=>ht (iteT hb h)) fun hb=>hf (iteF hb h)
abbrev Lpt:=List (Nat × Value) × (List HP → List HP) × List RF
abbrev CxL (B:Bs) (N:Nat) (Γ:List HP) (Φ:List RF) (J:Lpt) (a:Act) (w:World):Prop:=Cx B N J.1 (J.2.1 Γ) (Φ ++ J.2.2) a w
theorem Lp {id:Nat} {b:Code} {σt ρt ι' κ:Type} {F:σt → Option (σt ⊕ ρt)} {n:Nat} {s0:σt} {r:ρt} (J:σt → ι' → Lpt) (M:κ → Lpt) (hit:iterN F n s0 = some r) (c:Cx B N σ Γ Φ a w) (i0:ι') (h0:CxL B N Γ Φ (J s0 i0) a w)
  (round : ∀ s q i a w, CxL B N Γ Φ (J s i) a w → F s = some q → (∀ r0, q = .inr r0 → r0 = r) →
   b.wp P (Exit.then (fun a' w'=>∃ s' i',q = .inl s' ∧ CxL B N Γ Φ (J s' i') a' w') (Exit.inBlock id (Exit.then (fun a' w'=>∃ k,CxL B N Γ Φ (M k) a' w') Q))) a w)
  (cont:∀ k a w,CxL B N Γ Φ (M k) a w → K a w):(Code.block id (.loop b)).wp P (Exit.then K Q) a w:=
 wp_cut (wp_block (Zin (Inv:=fun s a w=>∃ i,CxL B N Γ Φ (J s i) a w) hit ⟨i0,h0⟩ fun s q a w hI hF hr=>by
  obtain ⟨i,hi⟩:=hI
  have:=round s q i a w hi hF hr
  refine wp_mono this fun e a w he=>?_
  cases e with
  | normal=>obtain ⟨s',i',h1,h2⟩:=he; exact ⟨s',h1,i',h2⟩
  | _=>exact he)) fun a w hI=>by
   obtain ⟨k,h⟩:=hI
   exact cont k a w h
theorem LpR {id:Nat} {b:Code} {σt ρ1 ρ2 ι' κ:Type} {F:σt → Option (σt ⊕ (ρ1 ⊕ ρ2))} {n:Nat} {s0:σt} {r:ρ1 ⊕ ρ2} (J:σt → ι' → Lpt) (M:ρ1 → κ → Lpt) (hit:iterN F n s0 = some r) (c:Cx B N σ Γ Φ a w) (i0:ι') (h0:CxL B N Γ Φ (J s0 i0) a w)
  (round : ∀ s q i a w, CxL B N Γ Φ (J s i) a w → F s = some q → (∀ r0, q = .inr r0 → r0 = r) →
   b.wp P (Exit.then (fun a' w'=>∃ s' i',q = .inl s' ∧ CxL B N Γ Φ (J s' i') a' w') (Exit.inBlock id (Exit.then (fun a' w'=>∃ s k,r = .inl s ∧ CxL B N Γ Φ (M s k) a' w') Q))) a w)
  (cont:∀ s k a w,r = .inl s → CxL B N Γ Φ (M s k) a w → K a w):(Code.block id (.loop b)).wp P (Exit.then K Q) a w:=
 wp_cut (wp_block (Zin (Inv:=fun s a w=>∃ i,CxL B N Γ Φ (J s i) a w) hit ⟨i0,h0⟩ fun s q a w hI hF hr=>by
  obtain ⟨i,hi⟩:=hI
  have:=round s q i a w hi hF hr
  refine wp_mono this fun e a w he=>?_
  cases e with
  | normal=>obtain ⟨s',i',h1,h2⟩:=he; exact ⟨s',h1,i',h2⟩
  | _=>exact he)) fun a w hI=>by
   obtain ⟨s,k,h1,h⟩:=hI
   exact cont s k a w h1 h
theorem Nx {σt ρt ι':Type} {J:σt → ι' → Lpt} {s:σt} {q:σt ⊕ ρt} (h:some (Sum.inl s) = some q) (i:ι') (c:CxL B N Γ Φ (J s i) a w):∃ s' i',q = .inl s' ∧ CxL B N Γ Φ (J s' i') a w:=⟨s,i,(Option.some.inj h).symm,c⟩
theorem tn (h:K a w):Exit.then K Q .normal a w:=h
theorem tr (h:Q .ret a w):Exit.then K Q .ret a w:=h
theorem te {i:Nat} (h:Q (.exit i) a w):Exit.then K Q (.exit i) a w:=h
theorem br {i:Nat} (h:Q .ret a w):Exit.inBlock i Q .ret a w:=h
theorem bk {i:Nat} (h:Q .normal a w):Exit.inBlock i Q .normal a w:=h
theorem be {i:Nat} (h:Q .normal a w):Exit.inBlock i Q (.exit i) a w:=ZgL h
theorem AllP.of {α:Type} {q:α → Prop} {l:List α} (h:AllP q l) {x:α} (hx:x ∈ l):q x:=AllP.mem h hx
theorem Rz {id:Nat} {ops:Array Oper} {draw:Bool} (np:List (Nat × Pd)) (hs:List (Nat × Nat)) (hmix:P.follows .mixedOrders = true) (c:Cx B N σ Γ Φ a w) (hmono:AllP (fun p=>p.2.Mono Non) np)
  (hnp:Good ops (pdsM P (bxsOf Γ Φ) hs ops σ np ops.size) [] → AllP (fun p=>(pdsM P (bxsOf Γ Φ) hs ops σ np ops.size).getD p.1 .any = p.2 → NPB P draw (cond draw (masksN ops ops.size) []) ops (pdsM P (bxsOf Γ Φ) hs ops σ np ops.size) a w (Exit.then K Q) p.1) np)
  (h:∀ fr w',Cx B N (outS ops σ (pdsM P (bxsOf Γ Φ) hs ops σ np ops.size) ops.size) Γ Φ fr w' → K fr w')
  (hst:(stat draw (cond draw (masksN ops ops.size) []) ops [] N && statG ops (pdsM P (bxsOf Γ Φ) hs ops σ np ops.size) []) = true:=by kernel_rfl)
  (h1:(freeI np ops.size).map (fun j=>(pureB P (bxsOf Γ Φ) hs ops σ (pdsM P (bxsOf Γ Φ) hs ops σ np ops.size) j).map (·.1)) = (freeI np ops.size).map fun j=>((pdsM P (bxsOf Γ Φ) hs ops σ np ops.size).getD j .any).val?:=by kernel_rfl)
  (h2:((freeI np ops.size).all fun j=>((pdsM P (bxsOf Γ Φ) hs ops σ np ops.size).getD j .any).val?.isSome) = true:=by kernel_rfl)
  (h3:(freeI np ops.size).map (fun j=>(pureB P (bxsOf Γ Φ) hs ops σ (pdsM P (bxsOf Γ Φ) hs ops σ np ops.size) j).map fun r=>r.2.map (·.1)) = (freeI np ops.size).map fun j=>(pureB P (bxsOf Γ Φ) hs ops σ (pdsM P (bxsOf Γ Φ) hs ops σ np ops.size) j).map fun r=>r.2.map (·.2):=by kernel_rfl) :
  (Code.region id ops draw).wp P (Exit.then K Q) a w:=by
 have hck:ChkB P (bxsOf Γ Φ) hs ops σ np ops.size (pdsM P (bxsOf Γ Φ) hs ops σ np ops.size):=⟨h1,h2,h3⟩
 have npsplit:∀ j ∈ npIdx ops (isPB hs np ops.size),j < ops.size ∧ ((∃ p,np.lookup j = some p) ∨ (np.lookup j = none ∧ ∃ i,hs.lookup j = some i)):=fun j hj=>by
  obtain ⟨g1,g2⟩:=Zoc.1 hj
  have hlt:=Zoa.1 g1
  rw [Zdj hlt] at g2
  refine ⟨hlt,?_⟩
  cases hn:np.lookup j with
  | some p=>exact .inl ⟨p,rfl⟩
  | none=>
   cases hh:hs.lookup j with
   | some i=>exact .inr ⟨rfl,i,rfl⟩
   | none=>rw [hn,hh] at g2; cases g2
 have pfree:∀ j ∈ pIdx ops (isPB hs np ops.size),j < ops.size ∧ np.lookup j = none ∧ hs.lookup j = none:=fun j hj=>by
  obtain ⟨g1,g2⟩:=Zoc.1 hj
  have hlt:=Zoa.1 g1
  rw [Zdj hlt] at g2
  simpa [hlt] using g2
 refine Zk7 _ (isPB hs np ops.size) _ [] hmix c.fr hst (ZoI.2 fun j hj=>?_) (ZnP.2 fun j hj=>?_) ?_ (fun hG=>?_) rfl fun a' w' _ hE hc=>h a' w' ((c.ext hc).to ⟨hE.1.trans c.fr.defers,hE.2.1.trans c.fr.size,fun t v hv=>ZeY c.fr hE ?_⟩)
 ·obtain ⟨hlt, hn, hh⟩ := pfree j hj
  obtain ⟨v,e,g1,g2,_⟩:=hck.at hlt hn
  unfold pureB at g1
  rw [hh] at g1
  simp only at g1
  cases hp:pureV P ops σ (pdsM P (bxsOf Γ Φ) hs ops σ np ops.size) j with
  | none=>rw [hp] at g1; cases g1
  | some u=>
   rw [hp] at g1
   simp only [ZnM,Option.some.injEq,Prod.mk.injEq] at g1
   rw [g2,g1.1]; rfl
 ·obtain ⟨hlt, hn, hh⟩ := pfree j hj
  obtain ⟨v,e,g1,g2,_⟩:=hck.at hlt hn
  rw [g2]; rfl
 ·exact ZcL fun j hj=>by
   obtain ⟨hlt,⟨p,hp⟩ | ⟨hn,i,hi⟩⟩:=npsplit j hj
   ·rw [ZaB hlt hp]; exact hmono.of (X7 hp)
   ·obtain ⟨v, e, g1, g2, g3⟩ := hck.at hlt hn
    rw [g2]; exact Pd.mono_eq
 ·exact ZcL fun j hj=>by
   obtain ⟨hlt,⟨p,hp⟩ | ⟨hn,i,hi⟩⟩:=npsplit j hj
   ·exact (hnp hG).of (X7 hp) (ZaB hlt hp)
   ·obtain ⟨v, e, g1, g2, g3⟩ := hck.at hlt hn
    exact ZgA c.bxs hG c.fr hi g1 g3 g2
 ·exact Zgo hv
def Pd.nw {κ:Type} (w0:World) (tag:Nat) (V:κ → Value) (H:κ → HP):Pd:=.own fun ow v w=>∃ i,v = V i ∧ (H i).ok w (fun k=>w0.heap.size ≤ k ∧ k < w.heap.size ∧ ow k = tag)
theorem nwM {κ:Type} {w0:World} {tag:Nat} {V:κ → Value} {H:κ → HP}:(Pd.nw w0 tag V H).MonoO:=Zki
theorem EndM.nw {κ:Type} {ops:Array Oper} {bx:Bxs} {hs:List (Nat × Nat)} {np:List (Nat × Pd)} {m tag:Nat} {ow:Nat → Nat} {w0:World} {V:κ → Value} {H:κ → HP} (hE:EndM ops (TT ops (instL ow (pdsM P bx hs ops σ np m))) a m a' w') (j d:Nat)
  (hp:np.lookup j = some (Pd.nw w0 tag V H):=by rfl) (hl:lastW ops d m = some j:=by rfl) (hg:guardOf ops j = none:=by rfl) (hj:Nat.blt j m = true:=by rfl):∃ i,a'.eval (.tmp d) = V i ∧ (H i).ok w' (fun k=>w0.heap.size ≤ k ∧ k < w'.heap.size ∧ ow k = tag):=by
 have h:=hE.is d j hl hg
 rw [YC,ZaB (Zon.mp hj) hp] at h
 exact h
theorem Rm {ops:Array Oper} (m:Nat) (np:List (Nat × Pd)) (hs:List (Nat × Nat)) (c:Cx B N σ Γ Φ a w) (hmono:AllP (fun p=>p.2.MonoO) np)
  (hnp:∀ ow,Good ops (instL ow (pdsM P (bxsOf Γ Φ) hs ops σ np m)) [] → AllP (fun p=>(instL ow (pdsM P (bxsOf Γ Φ) hs ops σ np m)).getD p.1 .any = p.2.inst ow → NPO P (masksN ops ops.size) ops (instL ow (pdsM P (bxsOf Γ Φ) hs ops σ np m)) a w Q ow p.1) np)
  (h:∀ ow fr w',EndM ops (TT ops (instL ow (pdsM P (bxsOf Γ Φ) hs ops σ np m))) a m fr w' → Chg Non w w' → Cx B N (outS ops σ (pdsM P (bxsOf Γ Φ) hs ops σ np m) m) Γ Φ fr w' → wpFrom P ops Q m fr w')
  (hst:(stat true (masksN ops ops.size) ops [] N && statG ops (pdsM P (bxsOf Γ Φ) hs ops σ np m) [] && sufB ops m) = true:=by kernel_rfl)
  (h1:(freeI np m).map (fun j=>(pureB P (bxsOf Γ Φ) hs ops σ (pdsM P (bxsOf Γ Φ) hs ops σ np m) j).map (·.1)) = (freeI np m).map fun j=>((pdsM P (bxsOf Γ Φ) hs ops σ np m).getD j .any).val?:=by kernel_rfl)
  (h2:((freeI np m).all fun j=>((pdsM P (bxsOf Γ Φ) hs ops σ np m).getD j .any).val?.isSome) = true:=by kernel_rfl)
  (h3:(freeI np m).map (fun j=>(pureB P (bxsOf Γ Φ) hs ops σ (pdsM P (bxsOf Γ Φ) hs ops σ np m) j).map fun r=>r.2.map (·.1)) = (freeI np m).map fun j=>(pureB P (bxsOf Γ Φ) hs ops σ (pdsM P (bxsOf Γ Φ) hs ops σ np m) j).map fun r=>r.2.map (·.2):=by kernel_rfl) :
  RA P ops Q a w:=by
 have hck:ChkB P (bxsOf Γ Φ) hs ops σ np m (pdsM P (bxsOf Γ Φ) hs ops σ np m):=⟨h1,h2,h3⟩
 have npsplit:∀ j ∈ npIdxM m (isPB hs np m),j < m ∧ ((∃ p,np.lookup j = some p) ∨ (np.lookup j = none ∧ ∃ i,hs.lookup j = some i)):=fun j hj=>by
  obtain ⟨g1,g2⟩:=Zoc.1 hj
  have hlt:=Zoa.1 g1
  rw [Zdj hlt] at g2
  refine ⟨hlt,?_⟩
  cases hn:np.lookup j with
  | some p=>exact .inl ⟨p,rfl⟩
  | none=>
   cases hh:hs.lookup j with
   | some i=>exact .inr ⟨rfl,i,rfl⟩
   | none=>rw [hn,hh] at g2; cases g2
 have pfree:∀ j ∈ pIdxM m (isPB hs np m),j < m ∧ np.lookup j = none ∧ hs.lookup j = none:=fun j hj=>by
  obtain ⟨g1,g2⟩:=Zoc.1 hj
  have hlt:=Zoa.1 g1
  rw [Zdj hlt] at g2
  simpa [hlt] using g2
 refine Znm m _ (isPB hs np m) _ [] c.fr hst (ZoI.2 fun j hj=>?_) (ZnP.2 fun j hj=>?_) (ZnP.2 fun j hj=>?_) ?_ (fun ow hG=>?_) rfl fun ow a' w' _ hE hc=>h ow a' w' hE hc ((c.ext hc).to ⟨hE.1.trans c.fr.defers,hE.2.1.trans c.fr.size,fun t v hv=>?_⟩)
 ·obtain ⟨hlt, hn, hh⟩ := pfree j hj
  obtain ⟨v,e,g1,g2,_⟩:=hck.at hlt hn
  unfold pureB at g1
  rw [hh] at g1
  simp only at g1
  cases hp:pureV P ops σ (pdsM P (bxsOf Γ Φ) hs ops σ np m) j with
  | none=>rw [hp] at g1; cases g1
  | some u=>
   rw [hp] at g1
   simp only [ZnM,Option.some.injEq,Prod.mk.injEq] at g1
   rw [g2,g1.1]; rfl
 ·obtain ⟨hlt, hn, hh⟩ := pfree j hj
  obtain ⟨v,e,g1,g2,_⟩:=hck.at hlt hn
  rw [g2]; rfl
 ·by_cases hjm : j < m
  ·simp [hjm]
  ·rw [Zje (by omega)]; simp
 ·exact ZcL fun j hj=>by
   obtain ⟨hlt,⟨p,hp⟩ | ⟨hn,i,hi⟩⟩:=npsplit j hj
   ·rw [ZaB hlt hp]; exact hmono.of (X7 hp)
   ·obtain ⟨v, e, g1, g2, g3⟩ := hck.at hlt hn
    rw [g2]; exact Pd.monoO_eq
 ·exact ZcL fun j hj=>by
   obtain ⟨hlt,⟨p,hp⟩ | ⟨hn,i,hi⟩⟩:=npsplit j hj
   ·exact (hnp ow hG).of (X7 hp) (by rw [YC,ZaB hlt hp])
   ·obtain ⟨v, e, g1, g2, g3⟩ := hck.at hlt hn
    refine Zm1 ow (ZgA (hs:=hs) c.bxs hG c.fr hi (v:=v) (e:=e) ?_ g3 (by rw [YC,g2]; rfl))
    unfold pureB at g1 ⊢
    rw [hi] at g1 ⊢
    simp only at g1 ⊢
    rw [Zfw]
    exact g1
 ·have := Zgo hv
  exact Zhm c.fr hE (by
   unfold outVm at this ⊢
   split at this
   ·rename_i i hl
    rw [Zc7]; exact this
   ·exact this)
theorem Cx.out (c:Cx B N σ Γ Φ a w) (i:ι) (gs fs:List Nat) (hg:gs.map (fun j=>Γ[j]?) = (R i).2.1.map some) (hf:fs.map (fun j=>Φ[j]?) = (R i).2.2.map some) (hn:gs.Nodup):Rp B R (.returned (tup (R i).1)) w:=by
 obtain ⟨_,S,F,h1,h2,h3⟩:=c
 exact ⟨i,S,F,rfl,h1,h2.pick gs hn hg,h3.pick fs hf⟩
theorem Rt {t:Tmp} {v:Value} (c:Cx B N σ Γ Φ a w) (i:ι) (gs fs:List Nat) (hr:fn.results = #[.tmp t]:=by rfl) (hv:(R i).1 = [v]:=by rfl) (hl:σ.lookup t = some v:=by kernel_rfl) (hg:gs.map (fun j=>Γ[j]?) = (R i).2.1.map some:=by rfl) (hf:fs.map (fun j=>Φ[j]?) = (R i).2.2.map some:=by rfl)
  (hn:gs.Nodup:=by decide):bodyPost P fn (Rp B R) .ret a w:=
 ret1 hr c.fr hl (by have:=c.out (R:=R) i gs fs hg hf hn; rw [hv] at this; exact this)
inductive RV' (P:Program) (σ:List (Nat × Value)) (Γ:List HP) (Φ:List RF) (w:World):List ResultVar → List Value → Prop
 | nil:RV' P σ Γ Φ w [] []
 | tmp {t:Tmp} {v:Value} {rs:List ResultVar} {vs:List Value} (r:RV' P σ Γ Φ w rs vs) (h:σ.lookup t = some v:=by kernel_rfl):RV' P σ Γ Φ w (.tmp t :: rs) (v :: vs)
 | cell {t:Tmp} {ty bt:TypeId} {α:Type} [Rep α] {b:Nat} {cs:List Value} {v:Value} {rs:List ResultVar} {vs:List Value} (hty:Ty P ty α) (hb:Ava Γ Φ w (FX b bt cs)) (r:RV' P σ Γ Φ w rs vs) (h:σ.lookup t = some (.pointer (some ⟨b,0,none⟩)):=by kernel_rfl)
  (hl:cs.length = Rep.sz α:=by rfl) (hv:Rep.val α cs = v:=by rfl):RV' P σ Γ Φ w (.cell t ty :: rs) (v :: vs)
theorem RV'.out {rs:List ResultVar} {vs:List Value} (h:RV' P σ Γ Φ w rs vs) (c:Cx B N σ Γ Φ a w):Rets P σ w rs vs:=by
 induction h with
 | nil=>exact .nil
 | tmp r h ih=>exact .tmp h ih
 | cell hty hb r h hl hv ih=>exact .cell h hty (c.usebx hb) hl hv ih
theorem ZmP:∀ vs:List Value,(if h:vs.toArray.size = 1 then vs.toArray[0] else .tuple vs.toArray) = tup vs
 | []=>rfl
 | [_]=>rfl
 | _ :: _ :: _=>rfl
theorem Rg {rs:List ResultVar} {vs:List Value} (c:Cx B N σ Γ Φ a w) (i:ι) (gs fs:List Nat) (hv:RV' P σ Γ Φ w rs vs) (hvs:vs = (R i).1:=by rfl) (hr:fn.results = rs.toArray:=by rfl) (hg:gs.map (fun j=>Γ[j]?) = (R i).2.1.map some:=by rfl)
  (hf:fs.map (fun j=>Φ[j]?) = (R i).2.2.map some:=by rfl) (hn:gs.Nodup:=by decide):bodyPost P fn (Rp B R) .ret a w:=
 retG hr c.fr (hv.out c) (ZmP vs) (by have:=c.out (R:=R) i gs fs hg hf hn; rw [← hvs] at this; exact this)
theorem Zbe (h:bodyPost P fn (Rp B R) .ret a w):bodyPost P fn (Rp B R) .normal a w:=h
end
def memN:List Nat → Nat → Bool
 | [],_=>false
 | x :: l,j=>Nat.beq x j || memN l j
def restG (gs:List Nat):Nat → List HP → List HP
 | _,[]=>[]
 | j,x :: l=>cond (memN gs j) (restG gs (j + 1) l) (x :: restG gs (j + 1) l)
def rest (gs:List Nat) (Γ:List HP):List HP:=restG gs 0 Γ
theorem ZdV (gs:List Nat) (j:Nat):memN gs j = gs.contains j:=by
 induction gs with
 | nil=>rfl
 | cons x l ih=>
  unfold memN
  rw [ih,Zqe]
  congr 1
  by_cases h:x = j
  ·subst h; simp
  ·have : (j == x) = false := by simpa using Ne.symm h
   rw [this]
   cases hb:Nat.beq x j with
   | false=>rfl
   | true=>exact absurd (ZpF hb) h
theorem Ziw (gs:List Nat) (Γ:List HP):rest gs Γ = ((List.range Γ.length).filter fun i=>!gs.contains i).filterMap fun i=>Γ[i]?:=by
 have key:∀ (l pre:List HP),restG gs pre.length l = ((List.range' pre.length l.length).filter fun i=>!gs.contains i).filterMap fun i=>(pre ++ l)[i]?:=by
  intro l
  induction l with
  | nil=>intro pre; rfl
  | cons x l ih=>
   intro pre
   have h:=ih (pre ++ [x])
   simp only [ZnD,Zpl,Zoh,Zox] at h
   unfold restG
   rw [ZdV,ZnL,Zqw,List.filter_cons]
   cases hc:gs.contains pre.length with
   | true=>simp only [cond_true,ZnY,Zn6,ZnI]; exact h
   | false=>
    simp only [cond_false,Zp6,ZnV,ZpS]
    rw [ZnH (ZnK _),ZoR,Zo9]
    simp only
    rw [h]
 have:=key Γ []
 simpa [rest,List.range_eq_range'] using this
theorem Sep.part {Γ Γ1:List HP} {w:World} {S:Nat → Prop} (gs:List Nat) (h:Sep Γ w S) (hg:gs.map (fun i=>Γ[i]?) = Γ1.map some) (hn:gs.Nodup):Sep (Γ1 ++ rest gs Γ) w S:=by
 let is:=gs ++ (List.range Γ.length).filter fun i=>!gs.contains i
 have hd:is.Nodup:=List.nodup_append.2 ⟨hn,(List.nodup_range).filter _,fun a ha b hb e=>by
  subst e
  rw [Zoc] at hb
  simp [ha] at hb⟩
 refine h.pick is hd ?_
 rw [Zo2,Zo2,hg]
 congr 1
 rw [Ziw]
 have key:∀ l:List Nat,(∀ i ∈ l,i < Γ.length) → l.map (fun i=>Γ[i]?) = (l.filterMap fun i=>Γ[i]?).map some:=by
  intro l
  induction l with
  | nil=>intro _; rfl
  | cons i l ih=>
   intro h
   have hi:=h i ZnR
   simp only [ZnE,ZpS,Zn5 hi]
   rw [ih fun j hj=>h j (ZnZ _ hj)]
 exact key _ fun i hi=>Zoa.1 (Zoc.1 hi).1
section
variable {P:Program} {B:Bs} {N:Nat} {σ:List (Nat × Value)} {Γ Γ1:List HP} {Φ Φ1:List RF} {a:Act} {w:World} {Q:Exit → Act → World → Prop} {ι:Type} {R:ι → Res} {args caps:List Value} {f:FuncId}
  {ops:Array Oper} {k d:Nat} {ty:TypeId} {pos:String} {af:Array Edge} {x:Operand} {xs:Array Operand} {ts:Array TypeId}
theorem Cx.calls (c:Cx B N σ Γ Φ a w) (gs:List Nat) (hcon:Con P f args Γ1 Φ1 R) (ro:AvaL (rest gs Γ) Φ w Φ1) (hg:gs.map (fun i=>Γ[i]?) = Γ1.map some) (hn:gs.Nodup) :
  Calls P f args.toArray w fun e w'=>∃ i,e = .returned (tup (R i).1) ∧ ∀ a' σ',FrS N σ' a' → Cx B N σ' (rest gs Γ ++ (R i).2.1) Φ a' w':=by
 obtain ⟨_,S,F,hM,hs,hf⟩:=c
 obtain ⟨A,Rm,h1,h2,h3,h4,h5⟩:=(hs.part gs hg hn).split
 have hfd:∀ k,A k → ¬ (F k ∨ Rm k):=fun k ha hf=>hf.elim (hM.dj k (h4 k ha)) (h3 k ha)
 refine (hcon w A (fun k=>F k ∨ Rm k) h1 (AvaL.all ro h2 hf) (fun k hk=>hM.bd k (h4 k hk)) (fun k hk=>hk.elim (hM.bdF k) fun hk=>hM.bd k (h5 k hk)) hfd).mono ?_
 rintro e w' ⟨i,S',F',rfl,hM',hs',_⟩
 refine ⟨i,rfl,fun a' σ' hF=>⟨hF,fun k=>S' k ∨ Rm k,F,?_,?_,?_⟩⟩
 ·have hrd : ∀ k, Rm k → ¬ A k := fun k hr ha => h3 k ha hr
  refine ⟨hM.chg.trans' hM'.chg fun k hk=>hM.sub k (h4 k hk),fun k hk=>hk.elim (fun hk=>(hM'.sub k hk).elim (fun hk=>hM.sub k (h4 k hk)) fun hk=>.inr (Zpb hM.chg.size hk)) fun hk=>hM.sub k (h5 k hk),
   fun k hk=>hk.elim (hM'.bd k) fun hk=>ZnQ (hM.bd k (h5 k hk)) hM'.chg.size,fun k hk=>ZnQ (hM.bdF k hk) hM'.chg.size,fun k hk hf=>hk.elim (fun hk=>?_) fun hk=>hM.dj k (h5 k hk) hf,hM.dj0,hM.fz,hM.fsub⟩
  rcases hM'.sub k hk with ha | ha
  ·exact hM.dj k (h4 k ha) hf
  ·exact Zpo _ (ZnQ (hM.bdF k hf) ha)
 ·refine Sep.join (h2.keep hM'.chg fun k hr ha => h3 k ha hr) hs' (fun k _ hr ha => ?_) (fun k _ h => .inr h) fun k _ h => .inl h
  rcases hM'.sub k ha with h | h
  ·exact h3 k h hr
  ·exact Zpo _ (ZnQ (hM.bd k (h5 k hr)) h)
 ·exact hf.chg hM'.chg fun k hk ha=>hM.dj k (h4 k ha) hk
theorem Cx.callsF (c:Cx B N σ Γ Φ a w) (gs:List Nat) (hcon:Con P f args Γ1 Φ1 R) (ro:AvaL [] Φ w Φ1) (hg:gs.map (fun i=>Γ[i]?) = Γ1.map some) (hn:gs.Nodup) :
  Calls P f args.toArray w fun e w'=>∃ i,e = .returned (tup (R i).1) ∧ ∀ a' σ',FrS N σ' a' → Cx B N σ' (rest gs Γ ++ (R i).2.1) (Φ ++ (R i).2.2) a' w':=by
 obtain ⟨_,S,F,hM,hs,hf⟩:=c
 obtain ⟨A,Rm,h1,h2,h3,h4,h5⟩:=(hs.part gs hg hn).split
 have hfd:∀ k,A k → ¬ F k:=fun k ha hf=>hM.dj k (h4 k ha) hf
 refine (hcon w A F h1 ((AvaL.all ro (Sep.nil w Non) hf).sub fun _ _ h=>h.elim id fun h=>h.elim) (fun k hk=>hM.bd k (h4 k hk)) hM.bdF hfd).mono ?_
 rintro e w' ⟨i,S',F',rfl,hM',hs',hf'⟩
 have hrn:∀ k,Rm k → ¬ (A k ∨ w.heap.size ≤ k):=fun k hr h=>h.elim (fun ha=>h3 k ha hr) fun h=>Zpo _ (ZnQ (hM.bd k (h5 k hr)) h)
 refine ⟨i,rfl,fun a' σ' hF=>⟨hF,fun k=>S' k ∨ Rm k,F',?_,?_,?_⟩⟩
 ·refine ⟨hM.chg.trans' hM'.chg fun k hk=>hM.sub k (h4 k hk),fun k hk=>hk.elim (fun hk=>(hM'.sub k hk).elim (fun hk=>hM.sub k (h4 k hk)) fun hk=>.inr (Zpb hM.chg.size hk)) fun hk=>hM.sub k (h5 k hk),
   fun k hk=>hk.elim (hM'.bd k) fun hk=>ZnQ (hM.bd k (h5 k hk)) hM'.chg.size,hM'.bdF,fun k hk hf=>hk.elim (fun hk=>hM'.dj k hk hf) fun hk=>?_,hM.dj0,fun k hk=>hM'.fz k (hM.fz k hk),fun k hk=>?_⟩
  ·rcases hM'.fsub k hf with h | h
   ·exact hM.dj k (h5 k hk) h
   ·exact hrn k hk h
  ·rcases hM'.fsub k hk with h | h | h
   ·exact hM.fsub k h
   ·exact .inr (hM.sub k (h4 k h))
   ·exact .inr (.inr (Zpb hM.chg.size h))
 ·refine Sep.join (h2.keep hM'.chg fun k hr ha=>h3 k ha hr) hs' (fun k _ hr ha=>hrn k hr (hM'.sub k ha)) (fun k _ h=>.inr h) fun k _ h=>.inl h
 ·exact ((hf.chg hM'.chg fun k hk ha=>hM.dj k (h4 k ha) hk).sub fun k _ hk=>hM'.fz k hk).join hf'
theorem Ca (gs:List Nat) (c:Cx B N σ Γ Φ a w) (hcon:Con P f args Γ1 Φ1 R) (ro:AvaL (rest gs Γ) Φ w Φ1) (hf:∀ (args:Array Value) (w:World),(callFunc f args).run P w = .ok (.enter f args) w)
  (h:∀ i fr w',Cx B N ((d,tup (R i).1) :: σ) (rest gs Γ ++ (R i).2.1) Φ fr w' → wpFrom P ops Q (k + 1) fr w')
  (ho:ops[k]? = some ⟨some d,.call ⟨.value (.func f),xs,ts⟩,ty,pos,af,none⟩:=by rfl) (hd:Nat.blt d N = true:=by rfl) (hg:gs.map (fun i=>Γ[i]?) = Γ1.map some:=by rfl) (hn:gs.Nodup:=by decide)
  (hargs:xs.toList.map (opd σ) = args.map some:=by kernel_rfl):wpFrom P ops Q k a w:=
 s_call args (R:=fun v w'=>∃ i,v = tup (R i).1 ∧ ∀ a' σ',FrS N σ' a' → Cx B N σ' (rest gs Γ ++ (R i).2.1) Φ a' w') hf ho hd c.fr hargs ((c.calls gs hcon ro hg hn).mono fun e w' ⟨i,h1,h2⟩=>⟨_,h1,i,rfl,h2⟩)
  fun v w' fr hR hF=>by obtain ⟨i,rfl,hR⟩:=hR; exact h i fr w' (hR fr _ hF)
theorem Cf (gs:List Nat) (c:Cx B N σ Γ Φ a w) (hcon:Con P f args Γ1 Φ1 R) (ro:AvaL [] Φ w Φ1) (hf:∀ (args:Array Value) (w:World),(callFunc f args).run P w = .ok (.enter f args) w)
  (h:∀ i fr w',Cx B N ((d,tup (R i).1) :: σ) (rest gs Γ ++ (R i).2.1) (Φ ++ (R i).2.2) fr w' → wpFrom P ops Q (k + 1) fr w')
  (ho:ops[k]? = some ⟨some d,.call ⟨.value (.func f),xs,ts⟩,ty,pos,af,none⟩:=by rfl) (hd:Nat.blt d N = true:=by rfl) (hg:gs.map (fun i=>Γ[i]?) = Γ1.map some:=by rfl) (hn:gs.Nodup:=by decide)
  (hargs:xs.toList.map (opd σ) = args.map some:=by kernel_rfl):wpFrom P ops Q k a w:=
 s_call args (R:=fun v w'=>∃ i,v = tup (R i).1 ∧ ∀ a' σ',FrS N σ' a' → Cx B N σ' (rest gs Γ ++ (R i).2.1) (Φ ++ (R i).2.2) a' w') hf ho hd c.fr hargs ((c.callsF gs hcon ro hg hn).mono fun e w' ⟨i,h1,h2⟩=>⟨_,h1,i,rfl,h2⟩)
  fun v w' fr hR hF=>by obtain ⟨i,rfl,hR⟩:=hR; exact h i fr w' (hR fr _ hF)
theorem Cx.fz {α:Type} [Rep α] {E:TypeId} {v:Value} {l:List α} (i:Nat) (c:Cx B N σ Γ Φ a w) (hi:Γ[i]? = some (SL E v l):=by rfl):Cx B N σ (rest [i] Γ) (Φ ++ [RO v l]) a w:=by
 obtain ⟨h,S,F,h1,h2,h3⟩:=c
 have hp:=h2.part [i] (Γ1:=[SL E v l]) (by simp [hi]) (by simp)
 obtain ⟨S',F',hM,hs,hr,hfz⟩:=Sep.freeze (L:=rest [i] Γ) hp h1
 exact ⟨h,S',F',hM,hs,(h3.sub fun k _ hk=>hfz k hk).add (SL.rv hr)⟩
theorem Cx.fzb {b:Nat} {t:TypeId} {cs:List Value} (i:Nat) (c:Cx B N σ Γ Φ a w) (hi:Γ[i]? = some (BX b t cs):=by rfl):Cx B N σ (rest [i] Γ) (Φ ++ [FX b t cs]) a w:=by
 obtain ⟨h,S,F,h1,h2,h3⟩:=c
 have hp:=h2.part [i] (Γ1:=[BX b t cs]) (by simp [hi]) (by simp)
 obtain ⟨S',F',hM,hs,hr,hfz⟩:=Sep.freeze (L:=rest [i] Γ) hp h1
 exact ⟨h,S',F',hM,hs,(h3.sub fun k _ hk=>hfz k hk).add hr⟩
theorem Cx.dp (gs:List Nat) (c:Cx B N σ Γ Φ a w):Cx B N σ (rest gs Γ) Φ a w:=by
 obtain ⟨h,S,F,h1,h2,h3⟩:=c
 refine ⟨h,S,F,h1,?_,h3⟩
 rw [Ziw]
 refine h2.pick ((List.range Γ.length).filter fun i=>!gs.contains i) ((List.nodup_range).filter _) ?_
 have key:∀ l:List Nat,(∀ i ∈ l,i < Γ.length) → l.map (fun i=>Γ[i]?) = (l.filterMap fun i=>Γ[i]?).map some:=by
  intro l
  induction l with
  | nil=>intro _; rfl
  | cons i l ih=>
   intro h
   have hi:=h i ZnR
   simp only [ZnE,ZpS,Zn5 hi]
   rw [ih fun j hj=>h j (ZnZ _ hj)]
 exact key _ fun i hi=>Zoa.1 (Zoc.1 hi).1
theorem Cx.nil {α:Type} [Rep α] (E:TypeId) (c:Cx B N σ Γ Φ a w):Cx B N σ (Γ ++ [SL E (.slice none 0 0) ([]:List α)]) Φ a w:=c.gam fun S h=>ZE (Γ2:=[SL E (.slice none 0 0) ([]:List α)]) (h.cons_nil E)
end
section
variable {P:Program} {B:Bs} {N:Nat} {σ:List (Nat × Value)} {Γ:List HP} {Φ:List RF} {a:Act} {w:World} {Q:Exit → Act → World → Prop}
  {ops:Array Oper} {k d d2 d3:Nat} {t t' s' ty ty' ty2 yt:TypeId} {pos pos' pos2:String} {af af' af2:Array Edge} {x y y' z:Operand} {kd kk:IntKind}
def numOf:Option Value → Option Int
 | some (.int _ n)=>some n
 | _=>none
theorem ZL {o:Option Value} {n:Int} (h:numOf o = some n):∃ kd,o = some (.int kd n):=by
 unfold numOf at h
 split at h
 ·rename_i kd m; exact ⟨kd,by rw [Option.some.inj h]⟩
 ·cases h
theorem Eix {s:Str} {n r:Int} (c:Cx B N σ Γ Φ a w) (hz:sidx? s n = some r) (h:∀ fr,Cx B N ((d,.int .u8 r) :: σ) Γ Φ fr w → wpFrom P ops Q (k + 1) fr w)
  (ho:ops[k]? = some ⟨some d,.index t x y,ty,pos,af,none⟩:=by rfl) (hd:Nat.blt d N = true:=by rfl) (ht:P.underlying t = some .string:=by kernel_rfl) (hx:opd σ x = some s.val:=by kernel_rfl) (hy:opd σ y = some (.int kd n):=by kernel_rfl):wpFrom P ops Q k a w:=
 ZlL ht ho hd c.fr hx hy hz fun fr hF=>h fr (c.to hF)
theorem Ecat {s1 s2 s3:Str} (c:Cx B N σ Γ Φ a w) (hz:cat? s1 s2 = some s3) (h:∀ fr,Cx B N ((d,s3.val) :: σ) Γ Φ fr w → wpFrom P ops Q (k + 1) fr w)
  (ho:ops[k]? = some ⟨some d,.binOp .add t x y yt,ty,pos,af,none⟩:=by rfl) (hd:Nat.blt d N = true:=by rfl) (hx:opd σ x = some s1.val:=by kernel_rfl) (hy:opd σ y = some s2.val:=by kernel_rfl):wpFrom P ops Q k a w:=
 Znr ho hd c.fr hx hy hz fun fr hF=>h fr (c.to hF)
theorem Ebs {E:TypeId} {v:Value} {l:List Byt} (c:Cx B N σ Γ Φ a w) (hl:Ava Γ Φ w (RO v l)) (h:∀ fr,Cx B N ((d,(strOf l).val) :: σ) Γ Φ fr w → wpFrom P ops Q (k + 1) fr w) (ht:P.underlying t = some (.slice E))
  (ho:ops[k]? = some ⟨some d,.convert t t' x,ty,pos,af,none⟩:=by rfl) (hd:Nat.blt d N = true:=by rfl) (hE:P.underlying E = some (.int .u8):=by kernel_rfl) (ht':P.underlying t' = some .string:=by kernel_rfl) (hx:opd σ x = some v:=by kernel_rfl):wpFrom P ops Q k a w:=by
 obtain ⟨F,hl⟩:=c.use hl
 exact Zhj ht hE ht' ho hd c.fr hx hl fun fr hF=>h fr (c.to hF)
theorem Eshk {m n r:Int} (c:Cx B N σ Γ Φ a w) (hz:shrK? kk m n = some r) (h:∀ fr,Cx B N ((d,.int kk r) :: σ) Γ Φ fr w → wpFrom P ops Q (k + 1) fr w)
  (ho:ops[k]? = some ⟨some d,.binOp .shr t x y yt,ty,pos,af,none⟩:=by rfl) (hd:Nat.blt d N = true:=by rfl) (hx:opd σ x = some (.int kk m):=by kernel_rfl) (hy:numOf (opd σ y) = some n:=by kernel_rfl):wpFrom P ops Q k a w:=by
 obtain ⟨kd,hy⟩:=ZL hy
 exact Zna ho hd c.fr hx hy hz fun fr hF=>h fr (c.to hF)
theorem Eshl {m n r:Int} (c:Cx B N σ Γ Φ a w) (hz:shl? m n = some r) (h:∀ fr,Cx B N ((d,.int .i64 r) :: σ) Γ Φ fr w → wpFrom P ops Q (k + 1) fr w)
  (ho:ops[k]? = some ⟨some d,.binOp .shl t x y yt,ty,pos,af,none⟩:=by rfl) (hd:Nat.blt d N = true:=by rfl) (hx:opd σ x = some (.int .i64 m):=by kernel_rfl) (hy:numOf (opd σ y) = some n:=by kernel_rfl):wpFrom P ops Q k a w:=by
 obtain ⟨kd,hy⟩:=ZL hy
 exact Zn0 ho hd c.fr hx hy hz fun fr hF=>h fr (c.to hF)
theorem Eshr {m n r:Int} (c:Cx B N σ Γ Φ a w) (hz:shr? m n = some r) (h:∀ fr,Cx B N ((d,.int .i64 r) :: σ) Γ Φ fr w → wpFrom P ops Q (k + 1) fr w)
  (ho:ops[k]? = some ⟨some d,.binOp .shr t x y yt,ty,pos,af,none⟩:=by rfl) (hd:Nat.blt d N = true:=by rfl) (hx:opd σ x = some (.int .i64 m):=by kernel_rfl) (hy:numOf (opd σ y) = some n:=by kernel_rfl):wpFrom P ops Q k a w:=by
 obtain ⟨kd,hy⟩:=ZL hy
 exact Zni ho hd c.fr hx hy hz fun fr hF=>h fr (c.to hF)
theorem Equo {m n r:Int} (c:Cx B N σ Γ Φ a w) (hz:quo? m n = some r) (h:∀ fr,Cx B N ((d,.int .i64 r) :: σ) Γ Φ fr w → wpFrom P ops Q (k + 1) fr w)
  (ho:ops[k]? = some ⟨some d,.binOp .quo t x y yt,ty,pos,af,none⟩:=by rfl) (hd:Nat.blt d N = true:=by rfl) (hx:opd σ x = some (.int .i64 m):=by kernel_rfl) (hy:opd σ y = some (.int .i64 n):=by kernel_rfl):wpFrom P ops Q k a w:=
 Znq ho hd c.fr hx hy hz fun fr hF=>h fr (c.to hF)
theorem Erem {m n r:Int} (c:Cx B N σ Γ Φ a w) (hz:rem? m n = some r) (h:∀ fr,Cx B N ((d,.int .i64 r) :: σ) Γ Φ fr w → wpFrom P ops Q (k + 1) fr w)
  (ho:ops[k]? = some ⟨some d,.binOp .rem t x y yt,ty,pos,af,none⟩:=by rfl) (hd:Nat.blt d N = true:=by rfl) (hx:opd σ x = some (.int .i64 m):=by kernel_rfl) (hy:opd σ y = some (.int .i64 n):=by kernel_rfl):wpFrom P ops Q k a w:=
 Zn2 ho hd c.fr hx hy hz fun fr hF=>h fr (c.to hF)
theorem Ebin {op:BinOp} {vx vy u:Value} (c:Cx B N σ Γ Φ a w) (hg:(eqGuard op t x y vx vy).run P w = .ok () w) (hr:(binOp op t vx vy).run P w = .ok u w) (h:∀ fr,Cx B N ((d,u) :: σ) Γ Φ fr w → wpFrom P ops Q (k + 1) fr w)
  (ho:ops[k]? = some ⟨some d,.binOp op t x y yt,ty,pos,af,none⟩:=by rfl) (hd:Nat.blt d N = true:=by rfl) (hx:opd σ x = some vx:=by kernel_rfl) (hy:opd σ y = some vy:=by kernel_rfl):wpFrom P ops Q k a w:=
 Zd9 ho hd c.fr hx hy hg hr fun fr hF=>h fr (c.to hF)
theorem Epk {b:Bool} {p:Operand} {v:Value} (c:Cx B N σ Γ Φ a w) (h:∀ fr,Cx B N ((d,v) :: σ) Γ Φ fr w → wpFrom P ops Q (k + 1) fr w) (ho:ops[k]? = some ⟨some d,.pick p x y,ty,pos,af,none⟩:=by rfl) (hd:Nat.blt d N = true:=by rfl)
  (hc:opd σ p = some (.bool b):=by kernel_rfl) (hv:opd σ (if b then x else y) = some v:=by kernel_rfl):wpFrom P ops Q k a w:=Zj8 ho hd c.fr hc hv fun fr hF=>h fr (c.to hF)
theorem Ebx (cs:List Value) (c:Cx B N σ Γ Φ a w) (h:∀ b fr w',Cx B N ((d,.pointer (some ⟨b,0,none⟩)) :: σ) (Γ ++ [BX b t cs]) Φ fr w' → wpFrom P ops Q (k + 1) fr w') (hv:(opd σ x).map (fun v=>v.cells.toList) = some cs:=by kernel_rfl)
  (ho:ops[k]? = some ⟨some d,.box t x,ty,pos,af,none⟩:=by rfl) (hd:Nat.blt d N = true:=by rfl):wpFrom P ops Q k a w:=by
 obtain ⟨hF,S,F,hM,hs,hf⟩:=c
 cases hx:opd σ x with
 | none=>rw [hx] at hv; cases hv
 | some v=>
  rw [hx] at hv
  exact Znk hs hM cs ho hd hF hx (by simpa using hv) fun b w' S' fr hs' hp hF'=>h b fr w' ⟨hF',S',F,hM.stp hp,ZE (Γ2:=[_]) hs',hf.chg hp.chg fun k hk hS=>hM.dj k hS hk⟩
theorem Eal (cs:List Value) (c:Cx B N σ Γ Φ a w) (h:∀ b fr w',Cx B N ((d,.pointer (some ⟨b,0,none⟩)) :: σ) (Γ ++ [BX b t cs]) Φ fr w' → wpFrom P ops Q (k + 1) fr w') (ho:ops[k]? = some ⟨some d,.alloc t,ty,pos,af,none⟩:=by rfl) (hd:Nat.blt d N = true:=by rfl)
  (hz:(P.info? t).map (fun i=>i.zero.map fun z=>z.cells.toList) = some (some cs):=by kernel_rfl):wpFrom P ops Q k a w:=by
 obtain ⟨hF,S,F,hM,hs,hf⟩:=c
 cases hi:P.info? t with
 | none=>rw [hi] at hz; cases hz
 | some i=>
  rw [hi] at hz
  cases hzz:i.zero with
  | none=>simp [hzz] at hz
  | some z=>
   simp only [ZnM,hzz,Option.some.injEq] at hz
   exact ZlV (z:=z) hs hM cs ho hd hF (by simp [hi,hzz]) hz fun b w' S' fr hs' hp hF'=>h b fr w' ⟨hF',S',F,hM.stp hp,ZE (Γ2:=[_]) hs',hf.chg hp.chg fun k hk hS=>hM.dj k hS hk⟩
theorem Esb {b bt:Nat} {cs:List Value} (i n:Nat) (u:Value) (c:Cx B N σ Γ Φ a w) (h:∀ w',Cx B N σ (Γ.set i (BX b bt (cs.set n u))) Φ a w' → wpFrom P ops Q (k + 1) a w') (hi:Γ[i]? = some (BX b bt cs):=by rfl) (ho:ops[k]? = some ⟨none,.store t x y,ty,pos,af,none⟩:=by rfl)
  (hn:Nat.blt n cs.length = true:=by rfl) (h1:u.oneCell' = true:=by rfl) (ht:(P.info? t).map (·.size) = some 1:=by kernel_rfl) (hx:opd σ x = some (.pointer (some ⟨b,n,none⟩)):=by kernel_rfl) (hy:opd σ y = some u:=by kernel_rfl):wpFrom P ops Q k a w:=by
 obtain ⟨hF,S,F,hM,hs,hf⟩:=c
 exact Zha i hs hM hi (cs.set n u) ho hF hx hy ht hn h1 rfl fun w' S' hs' hp hF'=>h w' ⟨hF',S',F,hM.stp hp,hs',hf.chg hp.chg fun k hk hS=>hM.dj k hS hk⟩
theorem Ess {b bt:Nat} {cs:List Value} (i:Nat) (cs':List Value) (c:Cx B N σ Γ Φ a w) (h:∀ w',Cx B N σ (Γ.set i (BX b bt cs')) Φ a w' → wpFrom P ops Q (k + 1) a w') (hi:Γ[i]? = some (BX b bt cs):=by rfl) (ho:ops[k]? = some ⟨none,.store t x y,ty,pos,af,none⟩:=by rfl)
  (hl:cs'.length = cs.length:=by rfl) (h1:(cs'.all fun z=>z.oneCell') = true:=by rfl) (ht:(P.info? t).map (·.size) = some cs'.length:=by kernel_rfl) (hx:opd σ x = some (.pointer (some ⟨b,0,none⟩)):=by kernel_rfl) (hy:(opd σ y).map (fun v=>v.cells.toList) = some cs':=by kernel_rfl):wpFrom P ops Q k a w:=by
 obtain ⟨hF,S,F,hM,hs,hf⟩:=c
 cases hx':opd σ y with
 | none=>rw [hx'] at hy; cases hy
 | some v=>
  rw [hx'] at hy
  exact Zgc i hs hM hi cs' ho hF hx hx' ht hl (by simpa using hy) h1 fun w' S' hs' hp hF'=>h w' ⟨hF',S',F,hM.stp hp,hs',hf.chg hp.chg fun k hk hS=>hM.dj k hS hk⟩
section
variable {α:Type} {E:TypeId} {v:Value} {l m r:List α}
theorem Eel [Flat α] {n:Int} {q:α} (c:Cx B N σ Γ Φ a w) (hl:Ava Γ Φ w (RO v l)) (hz:get? l n = some q) (h:∀ p fr,Cx B N ((d2,Rep.val α (Flat.enc q)) :: (d,p) :: σ) Γ Φ fr w → wpFrom P ops Q (k + 2) fr w)
  (ho:ops[k]? = some ⟨some d,.indexAddr t x y,ty,pos,af,none⟩:=by rfl) (ho':ops[k + 1]? = some ⟨some d2,.load t' (.tmp d),ty',pos',af',none⟩:=by rfl) (hd:Nat.blt d N = true:=by rfl) (hd':Nat.blt d2 N = true:=by rfl)
  (he:Ty P t' α:=by constructor <;> kernel_rfl) (ht:P.underlying t = some (.slice t'):=by kernel_rfl) (hx:opd σ x = some v:=by kernel_rfl) (hy:numOf (opd σ y) = some n:=by kernel_rfl):wpFrom P ops Q k a w:=by
 obtain ⟨F,hl⟩:=c.use hl
 obtain ⟨kd,hy⟩:=ZL hy
 exact Zmc _ he ht ho ho' rfl hd hd' c.fr hx hl hy (get?_nn hz) (get?_at hz) rfl fun p fr hF=>h p fr (c.to hF)
theorem Eem [Rep α] {n:Int} {q:α} (c:Cx B N σ Γ Φ a w) (hl:Ava [] Φ w (RO v l)) (hz:get? l n = some q) (h:∀ p u fr,Cx B N ((d2,u) :: (d,p) :: σ) Γ (Φ ++ [RO u q]) fr w → wpFrom P ops Q (k + 2) fr w)
  (ho:ops[k]? = some ⟨some d,.indexAddr t x y,ty,pos,af,none⟩:=by rfl) (ho':ops[k + 1]? = some ⟨some d2,.load t' (.tmp d),ty',pos',af',none⟩:=by rfl) (hd:Nat.blt d N = true:=by rfl) (hd':Nat.blt d2 N = true:=by rfl)
  (he:Ty P t' α:=by constructor <;> kernel_rfl) (ht:P.underlying t = some (.slice t'):=by kernel_rfl) (hx:opd σ x = some v:=by kernel_rfl) (hy:numOf (opd σ y) = some n:=by kernel_rfl):wpFrom P ops Q k a w:=by
 obtain ⟨hF,S,F,hM,hs,hf⟩:=c
 obtain ⟨kd,hy⟩:=ZL hy
 have hl':=hl Non F (Sep.nil w Non) hf
 exact Zk3 he ht ho ho' rfl hd hd' hF hx hl' hy (get?_nn hz) (get?_at hz) fun p u fr hr hF'=>h p u fr ⟨hF',S,F,hM,hs,hf.add (RV.sub hr fun _ _ h=>h.elim id fun h=>h.elim)⟩
theorem Eef [Rep α] {n:Int} {q:α} {u:Value} {fl off:Nat} (c:Cx B N σ Γ Φ a w) (hl:Ava Γ Φ w (RO v l)) (hz:get? l n = some q) (hu:∀ {w:World} {F:Nat → Prop} {cs:List Value},Rep.ok w F cs q → cs[off]? = some u)
  (h:∀ p p2 fr,Cx B N ((d3,u) :: (d2,p2) :: (d,p) :: σ) Γ Φ fr w → wpFrom P ops Q (k + 3) fr w)
  (ho:ops[k]? = some ⟨some d,.indexAddr t x y,ty,pos,af,none⟩:=by rfl) (ho2:ops[k + 1]? = some ⟨some d2,.fieldAddr s' (.tmp d) fl,ty2,pos2,af2,none⟩:=by rfl) (ho':ops[k + 2]? = some ⟨some d3,.load t' (.tmp d2),ty',pos',af',none⟩:=by rfl)
  (hd:Nat.blt d N = true:=by rfl) (hd2:Nat.blt d2 N = true:=by rfl) (hd3:Nat.blt d3 N = true:=by rfl) (he:Ty P s' α:=by constructor <;> kernel_rfl) (ht:P.underlying t = some (.slice s'):=by kernel_rfl) (hT:Ty P t' Int:=by constructor <;> kernel_rfl)
  (hoff:fieldOff P s' fl = some off:=by kernel_rfl) (hx:opd σ x = some v:=by kernel_rfl) (hy:numOf (opd σ y) = some n:=by kernel_rfl):wpFrom P ops Q k a w:=by
 obtain ⟨F,hl⟩:=c.use hl
 obtain ⟨kd,hy⟩:=ZL hy
 refine Zz c.fr ho rfl rfl (Zon.mp hd) (Zc8 rfl ht he (Zd c.fr hx) hl (Zd c.fr hy) (get?_nn hz) (get?_at hz)) fun p w1 fr1 hpw hF1=>?_
 obtain ⟨⟨ad,cs,rfl,hFb,hok,hc⟩,rfl⟩:=hpw
 have hp1:=hF1.get d (.pointer (some ad)) (by simp)
 refine Zz hF1 ho2 rfl rfl (Zon.mp hd2) (R:=fun p w2=>p = .pointer (some (ad.add off)) ∧ w1 = w2) (Zh (ZbR (P:=P) (ρ:=fun y=>match y with | .tmp s=>if s = d then some (.pointer (some ad)) else none | _=>none) (fun y z hy=>by
  split at hy
  ·split at hy
   ·rename_i hyd; subst hyd; rw [← Option.some.inj hy]; exact hp1
   ·cases hy
  ·cases hy) (by simp [pe,hoff]) w1) ⟨rfl,rfl⟩) fun p2 w2 fr2 hp2 hF2=>?_
 obtain ⟨rfl,rfl⟩:=hp2
 have hc1:Cells w1 (ad.add off) [u]:=fun j q' hq=>by
  cases j with
  | zero=>
   simp only [Zo9,Option.some.injEq] at hq; subst hq
   rw [add_add,ZoQ]; exact hc off u (hu hok)
  | succ j=>simp at hq
 refine Zz hF2 ho' rfl rfl (Zon.mp hd3) (R:=fun z w3=>z = u ∧ w1 = w3) (Zh (v:=u) (w':=w1) ?_ ⟨rfl,rfl⟩) fun z w3 fr3 hz3 hF3=>?_
 ·have hd1 := hF2.get d2 (.pointer (some (ad.add off))) (by simp)
  have:=Yz hT (cs:=[u]) rfl hc1
  have hv:Rep.val Int [u] = u:=rfl
  rw [hv] at this
  simp [execOp,Instr.loadAt,hd1,Instr.sureAddr,this]
 ·obtain ⟨rfl, rfl⟩ := hz3
  exact h _ _ fr3 (c.to hF3)
theorem Esl [Rep α] {lo hi:Option Operand} {m n:Int} (E:TypeId) (c:Cx B N σ Γ Φ a w) (hl:Ava [] Φ w (RO v l)) (hr:cut? l m n = some r) (h:∀ u fr,Cx B N ((d,u) :: σ) Γ (Φ ++ [RO u r]) fr w → wpFrom P ops Q (k + 1) fr w)
  (ho:ops[k]? = some ⟨some d,.slice t x lo hi none,ty,pos,af,none⟩:=by rfl) (hd:Nat.blt d N = true:=by rfl) (he:Ty P E α:=by constructor <;> kernel_rfl) (ht:P.underlying t = some (.slice E):=by kernel_rfl) (hx:opd σ x = some v:=by kernel_rfl)
  (hlo:(match lo with | none=>some 0 | some y=>numOf (opd σ y)) = some m:=by kernel_rfl) (hhi:(match hi with | none=>some (len l) | some y=>numOf (opd σ y)) = some n:=by kernel_rfl):wpFrom P ops Q k a w:=by
 obtain ⟨hF,S,F,hM,hs,hf⟩:=c
 have hl':=hl Non F (Sep.nil w Non) hf
 refine ZlF he ht ho hd hF hx hl' (m:=m) (n:=n) ?_ ?_ hr fun u fr hr hF'=>h u fr ⟨hF',S,F,hM,hs,hf.add (RV.sub hr fun _ _ h=>h.elim id fun h=>h.elim)⟩
 ·cases lo with
  | none=>exact (Option.some.inj hlo).symm
  | some y=>exact ZL hlo
 ·cases hi with
  | none=>exact (Option.some.inj hhi).symm
  | some y=>exact ZL hhi
end
section
variable {α:Type} [Flat α] {E:TypeId} {v u:Value} {l m r:List α}
theorem Eset {n:Int} {q:α} (i:Nat) (c:Cx B N σ Γ Φ a w) (hr:set? l n q = some r) (h:∀ p fr w',Cx B N ((d,p) :: σ) (Γ.set i (SL E v r)) Φ fr w' → wpFrom P ops Q (k + 2) fr w') (hi:Γ[i]? = some (SL E v l):=by rfl)
  (ho:ops[k]? = some ⟨some d,.indexAddr t x y,ty,pos,af,none⟩:=by rfl) (ho':ops[k + 1]? = some ⟨none,.store t' (.tmp d) z,ty',pos',af',none⟩:=by rfl) (hte:t' = E:=by rfl) (hd:Nat.blt d N = true:=by rfl) (hz:z ≠ .tmp d:=by simp)
  (he:Ty P E α:=by constructor <;> kernel_rfl) (ht:P.underlying t = some (.slice E):=by kernel_rfl) (hx:opd σ x = some v:=by kernel_rfl) (hy:numOf (opd σ y) = some n:=by kernel_rfl) (hq:opd σ z = some (Rep.val α (Flat.enc q)):=by kernel_rfl):wpFrom P ops Q k a w:=by
 obtain ⟨hF,S,F,hM,hs,hf⟩:=c
 obtain ⟨kd,hy⟩:=ZL hy
 exact Znx i hs hM hi ht he ho ho' hte hd hF hx hy hz hq rfl hr fun w' S' fr p hs' hp hF'=>h p fr w' ⟨hF',S',F,hM.stp hp,hs',hf.chg hp.chg fun k hk hS=>hM.dj k hS hk⟩
theorem Esf {n:Int} {q q':α} {fl off:Nat} (i:Nat) (u:Value) (c:Cx B N σ Γ Φ a w) (hq:get? l n = some q) (hr:set? l n q' = some r) (h:∀ p p2 fr w',Cx B N ((d2,p2) :: (d,p) :: σ) (Γ.set i (SL E v r)) Φ fr w' → wpFrom P ops Q (k + 3) fr w') (hi:Γ[i]? = some (SL E v l):=by rfl)
  (hop:ops[k]? = some ⟨some d,.indexAddr t x y,ty,pos,af,none⟩:=by rfl) (hop2:ops[k + 1]? = some ⟨some d2,.fieldAddr s' (.tmp d) fl,ty2,pos2,af2,none⟩:=by rfl) (hop':ops[k + 2]? = some ⟨none,.store t' (.tmp d2) z,ty',pos',af',none⟩:=by rfl)
  (hd:Nat.blt d N = true:=by rfl) (hd2:Nat.blt d2 N = true:=by rfl) (hz:(match z with | .tmp s=>s != d && s != d2 | _=>true) = true:=by rfl) (hoff:fieldOff P s' fl = some off:=by rfl) (hlt:Nat.blt off (Rep.sz α) = true:=by rfl) (h1:u.oneCell' = true:=by rfl)
  (hu:Flat.enc q' = (Flat.enc q).set off u:=by rfl) (he:Ty P E α:=by constructor <;> kernel_rfl) (ht:P.underlying t = some (.slice E):=by kernel_rfl) (hT:(P.info? t').map (·.size) = some 1:=by kernel_rfl)
  (hx:opd σ x = some v:=by kernel_rfl) (hy:numOf (opd σ y) = some n:=by kernel_rfl) (hzu:opd σ z = some u:=by kernel_rfl):wpFrom P ops Q k a w:=by
 obtain ⟨hF,S,F,hM,hs,hf⟩:=c
 obtain ⟨kd,hy⟩:=ZL hy
 exact ZhI i hs hM hi ht he hop hop2 hop' hd hd2 hF hx hy hz hzu hoff hlt hT h1 hq hu hr fun w' S' fr p p2 hs' hp hF'=>h p p2 fr w' ⟨hF',S',F,hM.stp hp,hs',hf.chg hp.chg fun k hk hS=>hM.dj k hS hk⟩
theorem Emk {n:Int} {zc:α} (E:TypeId) (c:Cx B N σ Γ Φ a w) (hr:mk? n zc = some r) (h:∀ a' c' fr w',Cx B N ((d,.slice a' (List.length r) c') :: σ) (Γ ++ [SL E (.slice a' (List.length r) c') r]) Φ fr w' → wpFrom P ops Q (k + 1) fr w')
  (ho:ops[k]? = some ⟨some d,.makeSlice t x y,ty,pos,af,none⟩:=by rfl) (hd:Nat.blt d N = true:=by rfl) (he:ElT P E α:=by refine elT ?_; kernel_rfl) (ht:P.underlying t = some (.slice E):=by kernel_rfl)
  (hz:(P.info? E).map (fun i=>i.zero.map fun z=>z.cells.toList) = some (some (Flat.enc zc)):=by kernel_rfl) (hx:opd σ x = some (.int .i64 n):=by kernel_rfl) (hy:opd σ y = some (.int .i64 n):=by kernel_rfl):wpFrom P ops Q k a w:=by
 obtain ⟨hF,S,F,hM,hs,hf⟩:=c
 exact ZmE hs hM ht he (ZiU _ hz) ho hd hF hx hy hr fun a' c' w' S' fr hs' hp hF'=>h a' c' fr w' ⟨hF',S',F,hM.stp hp,ZE (Γ2:=[_]) hs',hf.chg hp.chg fun k hk hS=>hM.dj k hS hk⟩
theorem Elt {n:Nat} {parts:Array (Nat × Operand)} (E:TypeId) (l:List α) (c:Cx B N σ Γ Φ a w) (h:∀ a' c' fr w',Cx B N ((d,.slice a' (List.length l) c') :: σ) (Γ ++ [SL E (.slice a' (List.length l) c') l]) Φ fr w' → wpFrom P ops Q (k + 1) fr w')
  (ho:ops[k]? = some ⟨some d,.buildSlice t n parts,ty,pos,af,none⟩:=by rfl) (hd:Nat.blt d N = true:=by rfl) (hln:l.length = n:=by rfl) (hmax:Nat.ble l.length room = true:=by rfl)
  (hv:parts.toList.map (fun p=>opd σ p.2) = (l.map fun x=>Rep.val α (Flat.enc x)).map some:=by kernel_rfl)
  (hrun:∀ w,(Instr.buildSlice t n ((parts.toList.map (·.1)).zip (l.map fun x=>Rep.val α (Flat.enc x))).toArray).run P w = .ok (.slice (some ⟨w.heap.size,0,none⟩) n n) (w.alloc (.cells (l.map Flat.enc).flatten.toArray E)):=by intro _; kernel_rfl):wpFrom P ops Q k a w:=by
 obtain ⟨hF,S,F,hM,hs,hf⟩:=c
 exact Zno hs hM (l.map Flat.enc).flatten (l.map Flat.enc) l ho hd hF _ hv hrun (Zbn _) rfl hln hmax fun a' c' w' S' fr hs' hp hF'=>h a' c' fr w' ⟨hF',S',F,hM.stp hp,ZE (Γ2:=[_]) hs',hf.chg hp.chg fun k hk hS=>hM.dj k hS hk⟩
theorem Eap (i:Nat) (c:Cx B N σ Γ Φ a w) (hu:Ava Γ Φ w (RO u m)) (hr:app? l m = some r) (h:∀ a' c' fr w',Cx B N ((d,.slice a' (List.length r) c') :: σ) (Γ.set i (SL E (.slice a' (List.length r) c') r)) Φ fr w' → wpFrom P ops Q (k + 1) fr w') (hi:Γ[i]? = some (SL E v l):=by rfl)
  (ho:ops[k]? = some ⟨some d,.call ⟨.builtin .append,#[x,y],#[t,t']⟩,ty,pos,af,none⟩:=by rfl) (htt:t' = t:=by rfl) (hd:Nat.blt d N = true:=by rfl) (he:ElT P E α:=by refine elT ?_; kernel_rfl) (ht:P.underlying t = some (.slice E):=by kernel_rfl)
  (hx:opd σ x = some v:=by kernel_rfl) (hy:opd σ y = some u:=by kernel_rfl):wpFrom P ops Q k a w:=by
 obtain ⟨F',hu⟩:=c.use hu
 obtain ⟨hF,S,F,hM,hs,hf⟩:=c
 exact ZjX i hs hM hi ht he ho htt hd hF hx hy hu hr fun a' c' w' S' fr hs' hp hF'=>h a' c' fr w' ⟨hF',S',F,hM.stp hp,hs',hf.chg hp.chg fun k hk hS=>hM.dj k hS hk⟩
theorem Efr {lo:Option Operand} {hi':Operand} {b:Option Addr} {cp len0:Nat} {n:Int} (i:Nat) (c:Cx B N σ Γ Φ a w) (hr:cut? l 0 n = some r) (h:∀ c' fr w',Cx B N ((d,.slice b (List.length r) c') :: σ) (Γ.set i (SL E (.slice b (List.length r) c') r)) Φ fr w' → wpFrom P ops Q (k + 1) fr w')
  (hi:Γ[i]? = some (SL E (.slice b len0 cp) l):=by rfl) (ho:ops[k]? = some ⟨some d,.slice t x lo (some hi') none,ty,pos,af,none⟩:=by rfl) (hd:Nat.blt d N = true:=by rfl) (he:Ty P E α:=by constructor <;> kernel_rfl) (ht:P.underlying t = some (.slice E):=by kernel_rfl)
  (hx:opd σ x = some (.slice b len0 cp):=by kernel_rfl) (hlo:(match lo with | none=>some 0 | some y=>numOf (opd σ y)) = some 0:=by kernel_rfl) (hhi:numOf (opd σ hi') = some n:=by kernel_rfl):wpFrom P ops Q k a w:=by
 obtain ⟨hF,S,F,hM,hs,hf⟩:=c
 obtain ⟨kd,hhi⟩:=ZL hhi
 exact ZlM i hs hM hi ht he ho hd hF hx (by cases lo with | none=>exact .inl rfl | some y=>obtain ⟨kl,hlo⟩:=ZL hlo; exact .inr ⟨_,_,rfl,hlo⟩) hhi hr fun c' w' S' fr hs' hp hF'=>h c' fr w' ⟨hF',S',F,hM.stp hp,hs',hf.chg hp.chg fun k hk hS=>hM.dj k hS hk⟩
end
section
variable {K V:TypeId} {κ β:Type} [Flat κ] [Flat β] [DecidableEq κ] {T:MapT P K V κ β} {b:Nat} {m:List (κ × β)}
theorem Emm (T:MapT P K V κ β) (c:Cx B N σ Γ Φ a w) (h:∀ b fr w',Cx B N ((d,.map (some b)) :: σ) (Γ ++ [MP T b []]) Φ fr w' → wpFrom P ops Q (k + 1) fr w') (ho:ops[k]? = some ⟨some d,.makeMap t none,ty,pos,af,none⟩:=by rfl) (hd:Nat.blt d N = true:=by rfl)
  (hm:∀ w,(Instr.makeMap t none).run P w = .ok (.map (some w.heap.size)) (w.alloc (.map #[] 0)):=by exact fun w=>by simp [Instr.makeMap,run_newObj_alloc]):wpFrom P ops Q k a w:=by
 obtain ⟨hF,S,F,hM,hs,hf⟩:=c
 exact ZeW T hs hM hm ho hd hF fun b w' S' fr hs' hp hF'=>h b fr w' ⟨hF',S',F,hM.stp hp,ZE (Γ2:=[_]) hs',hf.chg hp.chg fun k hk hS=>hM.dj k hS hk⟩
theorem Emp {q:κ} {e:β} {m':List (κ × β)} {fit:κ → Bool} {efit:β → Bool} (i:Nat) (c:Cx B N σ Γ Φ a w) (hr:mputE? fit efit m q e = some m') (h:∀ w',Cx B N σ (Γ.set i (MP T b m')) Φ a w' → wpFrom P ops Q (k + 1) a w') (hi:Γ[i]? = some (MP T b m):=by rfl) (hfit:T.fit = fit:=by rfl) (hzz:T.efit = efit:=by rfl)
  (ho:ops[k]? = some ⟨none,.mapUpdate t x y z,ty,pos,af,none⟩:=by rfl) (ht:P.underlying t = some (.map K V):=by kernel_rfl) (hx:opd σ x = some (.map (some b)):=by kernel_rfl) (hy:opd σ y = some (Rep.val κ (Flat.enc q)):=by kernel_rfl) (hz:opd σ z = some (Rep.val β (Flat.enc e)):=by kernel_rfl):wpFrom P ops Q k a w:=by
 obtain ⟨hF,S,F,hM,hs,hf⟩:=c
 subst hfit; subst hzz
 exact ZeD T i hs hM hi ht ho hF (u:=q) (mputE?_fit hr) e (mputE?_efit hr) (mputE?_len hr) hx hy rfl hz rfl fun w' S' hs' hp hF'=>h w' ⟨hF',S',F,hM.stp hp,by rw [mputE?_val hr]; exact hs',hf.chg hp.chg fun k hk hS=>hM.dj k hS hk⟩
theorem Empb {q:κ} {T:MapT P K V κ Bool} {m m':List (κ × Bool)} {e:Bool} {fit:κ → Bool} (i:Nat) (c:Cx B N σ Γ Φ a w) (hr:mput? fit m q e = some m') (h:∀ w',Cx B N σ (Γ.set i (MP T b m')) Φ a w' → wpFrom P ops Q (k + 1) a w') (hi:Γ[i]? = some (MP T b m):=by rfl) (hfit:T.fit = fit:=by rfl) (hzz:T.efit = fun _=>true:=by rfl)
  (ho:ops[k]? = some ⟨none,.mapUpdate t x y z,ty,pos,af,none⟩:=by rfl) (ht:P.underlying t = some (.map K V):=by kernel_rfl) (hx:opd σ x = some (.map (some b)):=by kernel_rfl) (hy:opd σ y = some (Rep.val κ (Flat.enc q)):=by kernel_rfl) (hz:opd σ z = some (.bool e):=by kernel_rfl):wpFrom P ops Q k a w:=by
 obtain ⟨hF,S,F,hM,hs,hf⟩:=c
 subst hfit
 exact ZeD T i hs hM hi ht ho hF (u:=q) (mput?_fit hr) e (by rw [hzz]) (mput?_len hr) hx hy rfl hz rfl fun w' S' hs' hp hF'=>h w' ⟨hF',S',F,hM.stp hp,by rw [mput?_val hr]; exact hs',hf.chg hp.chg fun k hk hS=>hM.dj k hS hk⟩
end
end
section
variable {P:Program} {B:Bs} {N:Nat} {σ:List (Nat × Value)} {Γ:List HP} {Φ:List RF} {a a':Act} {w w':World} {Q:Exit → Act → World → Prop} {K:Act → World → Prop}
abbrev Cx.wd (_:Cx B N σ Γ Φ a w):World:=w
theorem Cx.swap {H H':HP} (i:Nat) (c:Cx B N σ Γ Φ a w) (f:∀ A,H.ok w A → H'.ok w A) (hi:Γ[i]? = some H:=by rfl):Cx B N σ (Γ.set i H') Φ a w:=by
 obtain ⟨h,S,F,h1,h2,h3⟩:=c
 exact ⟨h,S,F,h1,h2.swapT i hi f,h3⟩
theorem Cx.bxe {b t:Nat} {cs cs':List Value} (i:Nat) (c:Cx B N σ Γ Φ a w) (he:cs = cs') (hi:Γ[i]? = some (BX b t cs):=by rfl):Cx B N σ (Γ.set i (BX b t cs')) Φ a w:=c.swap i (fun _ h=>he ▸ h) hi
theorem Cx.nilf {α:Type} [Rep α] (c:Cx B N σ Γ Φ a w):Cx B N σ Γ (Φ ++ [RO (.slice none 0 0) ([]:List α)]) a w:=c.add Ava.nil
theorem Cx.sl {α:Type} [Rep α] {v:Value} {l:List α} (i:Nat) (c:Cx B N σ Γ Φ a w) (hi:Φ[i]? = some (RO v l):=by rfl):∃ b cp,v = .slice b l.length cp:=by
 obtain ⟨F,h⟩:=c.use (Ava.f i hi)
 obtain ⟨b,cp,h,_⟩:=RV.slice h
 exact ⟨b,cp,h⟩
theorem Cx.flat {L:List HP} (i:Nat) (c:Cx B N σ Γ Φ a w) (hi:Γ[i]? = some (HP.sep L):=by rfl):Cx B N σ (rest [i] Γ ++ L) Φ a w:=c.gam fun S h=>by
 have:=h.part [i] (Γ1:=[HP.sep L]) (by simp [hi]) (by simp)
 exact ZE (Sep.flat this)
theorem Cx.fzd {ρ α:Type} [Flat ρ] [Rep α] {own:ρ → α → HP} {E:TypeId} {v:Value} {rs:List ρ} {xs:List α} (ho:Owns own) (i j:Nat) (c:Cx B N σ Γ Φ a w) (hi:Γ[i]? = some (SL E v rs):=by rfl) (hj:Γ[j]? = some (HP.all own rs xs):=by rfl) (hne:[i,j].Nodup:=by decide) :
  Cx B N σ (rest [i,j] Γ) (Φ ++ [RO v xs]) a w:=by
 obtain ⟨h,S,F,h1,h2,h3⟩:=c
 have hp:=h2.part [i,j] (Γ1:=[SL E v rs,HP.all own rs xs]) (by simp [hi,hj]) hne
 obtain ⟨S',F',hM,hs,hr,hfz⟩:=Sep.freezeD (L:=rest [i,j] Γ) ho hp h1
 exact ⟨h,S',F',hM,hs,(h3.sub fun k _ hk=>hfz k hk).add hr⟩
theorem Cx.relend {ρ α:Type} [Flat ρ] {own:ρ → α → HP} {E:TypeId} {b:Option Addr} {n cp:Nat} {rs:List ρ} {xs:List α} (i j:Nat) (c:Cx B N σ Γ Φ a w) (hi:Γ[i]? = some (SL E (.slice b n cp) rs):=by rfl) (hj:Γ[j]? = some (HP.all own rs xs):=by rfl) :
  n = xs.length ∧ Cx B N σ (Γ.set i (SL E (.slice b xs.length cp) rs)) Φ a w:=by
 obtain ⟨h,S,F,h1,h2,h3⟩:=c
 obtain ⟨he,hs⟩:=Sep.relenD i j h2 hi hj
 exact ⟨he,h,S,F,h1,hs,h3⟩
theorem If {x y:Code} {o:Operand} {b:Bool} (c:Cx B N σ Γ Φ a w) (ht:b = true → x.wp P Q a w) (hf:b = false → y.wp P Q a w) (hb:opd σ o = some (.bool b):=by kernel_rfl):(Code.cond o x y).wp P Q a w:=Zid c.fr hb ht hf
theorem Rh {ops:Array Oper} (f:Nat) (h:RA P (hoist f ops) Q a w) (hb:hoistB f ops = true:=by kernel_rfl) (hQ:∀ c a d v w,Q (.panic c) (Act.put a (some d) v) w → Q (.panic c) a w:=by exact fun _ _ _ _ _ h=>h):RA P ops Q a w:=ZkN f hb hQ h
theorem Rhs {ops:Array Oper} (is:List Nat) (c:Cx B N σ Γ Φ a w) (n:Nat) (h:RA P (hoistAll is ops) Q a w) (hn:ops.size = n + is.length:=by rfl) (hns:Region.noSelect ops = true:=by kernel_rfl) (ht:takesB ops (Array.replicate ops.size false) is = true:=by kernel_rfl)
  (hH:takesB (hoistAll is ops) (Array.replicate ops.size false) is = true:=by kernel_rfl) (hq:quietS P N ops is σ = true:=by kernel_rfl) (hl:(is.all fun f=>(is.foldl (fun L i=>L.setIfInBounds i true) (Array.replicate ops.size false)).getD f false) = true:=by kernel_rfl)
  (hQ:∀ c a d v w,Q (.panic c) (Act.put a (some d) v) w → Q (.panic c) a w:=by exact fun _ _ _ _ _ h=>h):RA P ops Q a w:=ZiT is c.fr n hn hns ht hH hq hl hQ h
theorem As {id:Nat} {l:List Oper} (hmix:P.follows .mixedOrders = true) (c:Cx B N σ Γ Φ a w) (h:∀ w',Cx B N σ Γ Φ a w' → wpAny P .any l.toArray Q l.toArray.size (Array.replicate l.toArray.size false) a w'):(Code.region id l.toArray true).wp P Q a w:=
 Zjt hmix fun w' hc=>h w' (c.ext hc)
theorem Ar {l:List Oper} (c:Cx B N σ Γ Φ a w) (h:∀ w',Cx B N σ Γ Φ a w' → wpAny P .any l.toArray Q l.toArray.size (Array.replicate l.toArray.size false) a w'):RA P l.toArray Q a w:=ZjT fun w' hc=>h w' (c.ext hc)
theorem Gt {l:List Oper} {k g t:Nat} {want:Bool} {o og:Oper} (c:Cx B N σ Γ Φ a w) (h:wpFrom P (l.set k { o with guard:=none }).toArray Q k a w) (ho:l[k]? = some o:=by rfl) (hg:o.guard = some (g,want):=by rfl) (hog:l[g]? = some og:=by rfl) (ht:og.dst = some t:=by rfl)
  (htN:Nat.blt t N = true:=by rfl) (hv:opd σ (.tmp t) = some (.bool want):=by kernel_rfl):wpFrom P l.toArray Q k a w:=ZhK c.fr ho hg hog ht htN hv h
theorem Gs {ops:Array Oper} {k g t d:Nat} {want:Bool} {o og:Oper} (c:Cx B N σ Γ Φ a w) (h:∀ fr,Cx B N ((d,undef) :: σ) Γ Φ fr w → wpFrom P ops Q (k + 1) fr w) (ho:ops[k]? = some o:=by rfl) (hg:o.guard = some (g,want):=by rfl) (hog:ops[g]? = some og:=by rfl)
  (ht:og.dst = some t:=by rfl) (hd:o.dst = some d:=by rfl) (htN:Nat.blt t N = true:=by rfl) (hdN:Nat.blt d N = true:=by rfl) (hv:opd σ (.tmp t) = some (.bool (!want)):=by kernel_rfl):wpFrom P ops Q k a w:=
 ZiV c.fr ho hg hog ht htN hv (by cases want <;> rfl) hd hdN fun fr hF=>h fr (c.to hF)
def pureC (P:Program) (N:Nat) (σ:List (Nat × Value)):Code → Option (List (Nat × Value))
 | .skip=>some σ
 | .region _ ops false=>seqV P N ops.toList σ
 | _=>none
def dstC:Code → List Nat
 | .region _ ops _=>ops.toList.filterMap (·.dst)
 | _=>[]
theorem ZeF {t:Nat}:∀ {l:List Oper} {σ σ':List (Nat × Value)},seqV P N l σ = some σ' → t ∉ l.filterMap (·.dst) → σ'.lookup t = σ.lookup t
 | [],σ,σ',h,_=>by simp only [seqV,Option.some.injEq] at h; subst h; rfl
 | o :: l,σ,σ',h,ht=>by
  unfold seqV at h
  split at h
  ·rename_i d v hg hd hv
   split at h
   ·rw [ZpS, hd] at ht
    have h1:=ZeF h fun hm=>ht (ZnZ _ hm)
    have hne:(t == d) = false:=by
     have:t ≠ d:=fun e=>ht (by subst e; exact ZnR)
     simpa using this
    rw [h1,Zoi,hne]
   ·cases h
  ·cases h
theorem XZ {t:Nat} {v:Value}:∀ {τ σ:List (Nat × Value)},(τ ++ σ).lookup t = some v → (t,v) ∈ τ ∨ σ.lookup t = some v
 | [],_,h=>.inr h
 | (k,u) :: τ,σ,h=>by
  rw [Zpx,Zoi] at h
  by_cases e:t = k
  ·subst e; simp at h; subst h; exact .inl ZnR
  ·have : (t == k) = false := by simpa using e
   rw [this] at h
   exact (XZ h).imp (ZnZ _) id
theorem Zg3 {x:Code} {τ:List (Nat × Value)} {D:List Nat} (hF:FrS N σ a) (h:(pureC P N σ x).map (fun s=>τ.map fun p=>s.lookup p.1) = some (τ.map fun p=>some p.2)) (hD:((dstC x).all (memN D)) = true) :
  x.wp P (fun e a' w'=>e = .normal ∧ w' = w ∧ FrS N (τ ++ σ.filter fun p=>!memN D p.1) a') a w:=by
 have fin:∀ (s:List (Nat × Value)) (a':Act),FrS N s a' → (∀ p ∈ τ,s.lookup p.1 = some p.2) → (∀ t,memN D t = false → s.lookup t = σ.lookup t) → FrS N (τ ++ σ.filter fun p=>!memN D p.1) a':=fun s a' hs h1 h2 =>
  ⟨hs.defers, hs.size, fun t v hv => by
   rcases XZ hv with hv | hv
   ·exact hs.get t v (h1 _ hv)
   ·obtain ⟨g1, g2⟩ := Zak (f := fun k => !memN D k) hv
    exact hs.get t v (by rw [h2 t (by simpa using g1)]; exact g2)⟩
 cases x with
 | skip=>
  simp only [pureC,ZnM,Option.some.injEq] at h
  exact wp_skip ⟨rfl,rfl,fin σ a hF (fun p hp=>ZoI.1 h p hp) fun _ _=>rfl⟩
 | region id ops draw=>
  cases draw with
  | true=>simp [pureC] at h
  | false=>
   simp only [pureC] at h
   cases hq:seqV P N ops.toList σ with
   | none=>rw [hq] at h; cases h
   | some s=>
    rw [hq] at h
    simp only [ZnM,Option.some.injEq] at h
    refine ZfT ?_
    unfold wpFrom
    rw [Zpu,← Zoz ops.toList]
    refine Zfd hF hq fun a' hF'=>wpList_nil ⟨rfl,rfl,fin s a' hF' (fun p hp=>ZoI.1 h p hp) fun t ht=>ZeF hq fun hm=>?_⟩
    rw [ZnP] at hD
    have:=hD t (by simpa [dstC] using hm)
    rw [ht] at this; cases this
 | _=>simp [pureC] at h
theorem Mp {x y:Code} {o:Operand} (b:Bool) (τ1 τ2 τ:List (Nat × Value)) (D:List Nat) (c:Cx B N σ Γ Φ a w) (h:∀ fr,Cx B N (τ ++ σ.filter fun p=>!memN D p.1) Γ Φ fr w → K fr w) (hb:opd σ o = some (.bool b):=by kernel_rfl)
  (h1:(pureC P N σ x).map (fun s=>τ1.map fun p=>s.lookup p.1) = some (τ1.map fun p=>some p.2):=by kernel_rfl) (h2:(pureC P N σ y).map (fun s=>τ2.map fun p=>s.lookup p.1) = some (τ2.map fun p=>some p.2):=by kernel_rfl)
  (hx:((dstC x).all (memN D)) = true:=by kernel_rfl) (hy:((dstC y).all (memN D)) = true:=by kernel_rfl) (e1:b = true → τ1 = τ:=by intro hb; first | rfl | (simp only [hb]; done) | (simp only [hb]; rfl) | (simp [hb]; done))
  (e2:b = false → τ2 = τ:=by intro hb; first | rfl | (simp only [hb]; done) | (simp only [hb]; rfl) | (simp [hb]; done)):(Code.cond o x y).wp P (Exit.then K Q) a w:=
 Zla (τ ++ σ.filter fun p=>!memN D p.1) c.fr hb (fun hb=>by rw [← e1 hb]; exact Zg3 c.fr h1 hx) (fun hb=>by rw [← e2 hb]; exact Zg3 c.fr h2 hy) fun a' hF=>ZbL (h a' (c.to hF))
theorem Ry {id:Nat} {ops:Array Oper} {draw:Bool} (hs:List (Nat × Nat)) (hmix:P.follows .mixedOrders = true) (c:Cx B N σ Γ Φ a w)
  (h:∀ fr w',Cx B N (outS ops σ (pdsM P (bxsOf Γ Φ) hs ops σ [] ops.size) ops.size) Γ Φ fr w' → K fr w')
  (hst:(stat draw (cond draw (masksN ops ops.size) []) ops [] N && statG ops (pdsM P (bxsOf Γ Φ) hs ops σ [] ops.size) []) = true:=by kernel_rfl)
  (h1:(freeI [] ops.size).map (fun j=>(pureB P (bxsOf Γ Φ) hs ops σ (pdsM P (bxsOf Γ Φ) hs ops σ [] ops.size) j).map (·.1)) = (freeI [] ops.size).map fun j=>((pdsM P (bxsOf Γ Φ) hs ops σ [] ops.size).getD j .any).val?:=by kernel_rfl)
  (h2:((freeI [] ops.size).all fun j=>((pdsM P (bxsOf Γ Φ) hs ops σ [] ops.size).getD j .any).val?.isSome) = true:=by kernel_rfl)
  (h3:(freeI [] ops.size).map (fun j=>(pureB P (bxsOf Γ Φ) hs ops σ (pdsM P (bxsOf Γ Φ) hs ops σ [] ops.size) j).map fun r=>r.2.map (·.1)) = (freeI [] ops.size).map fun j=>(pureB P (bxsOf Γ Φ) hs ops σ (pdsM P (bxsOf Γ Φ) hs ops σ [] ops.size) j).map fun r=>r.2.map (·.2):=by kernel_rfl) :
  (Code.region id ops draw).wp P (Exit.then K Q) a w:=Rz [] hs hmix c trivial (fun _=>trivial) h hst h1 h2 h3
def Pd.el {α:Type} [Rep α] (x:α):Pd:=.is fun v w=>ElemP w (fun _=>True) v x
theorem elM {α:Type} [Rep α] {x:α}:(Pd.el x).Mono Non:=ZeS
theorem elO {α:Type} [Rep α] {x:α}:(Pd.el x).MonoO:=Pd.monoO_is ZeS
theorem atN {bx:Bxs} {hs:List (Nat × Nat)} {ops:Array Oper} {np:List (Nat × Pd)} {m:Nat} {p:Pd} (j:Nat) (hp:np.lookup j = some p:=by rfl) (hj:Nat.blt j m = true:=by rfl):(pdsM P bx hs ops σ np m).getD j .any = p:=ZaB (Zon.mp hj) hp
theorem atM {bx:Bxs} {hs:List (Nat × Nat)} {ops:Array Oper} {np:List (Nat × Pd)} {m:Nat} {p:Pd} {ow:Nat → Nat} (j:Nat) (hp:np.lookup j = some p:=by rfl) (hj:Nat.blt j m = true:=by rfl):(instL ow (pdsM P bx hs ops σ np m)).getD j .any = p.inst ow:=by
 rw [YC,ZaB (Zon.mp hj) hp]
def ndN:List Nat → Bool
 | []=>true
 | x :: l=>!(memN l x) && ndN l
theorem Zca:∀ {l:List Nat},ndN l = true → l.Nodup
 | [],_=>ZqE
 | x :: l,h=>by
  unfold ndN at h
  rw [ZnB,ZoO,ZdV] at h
  exact ZpY.2 ⟨fun hm=>by rw [List.contains_iff_mem.2 hm] at h; exact absurd h.1 (by decide),Zca h.2⟩
theorem Cx.newt {σ0:List (Nat × Value)} {a0:Act} {w0:World} {ow:Nat → Nat} (c0:Cx B N σ0 Γ Φ a0 w0) (hc:Chg Non w0 w) (c:Cx B N σ Γ Φ a w) (l:List (Nat × Nat × Value × HP))
  (h:AllP (fun p=>a.eval (.tmp p.2.1) = p.2.2.1 ∧ p.2.2.2.ok w (fun k=>w0.heap.size ≤ k ∧ k < w.heap.size ∧ ow k = p.1)) l) (hnd:ndN (l.map (·.1)) = true:=by rfl):Cx B N (l.map (fun p=>(p.2.1,p.2.2.1)) ++ σ) (Γ ++ l.map (·.2.2.2)) Φ a w:=by
 have hn:=Zca hnd
 clear hnd
 obtain ⟨_,S,F,hM,hs,hf⟩:=c0
 have hN:=sepO (w0:=w0) (ow:=ow) (l.map fun p=>(p.1,p.2.2.2)) (by rw [ZoG]; exact hn) (by
  induction l with
  | nil=>trivial
  | cons p l ih=>exact ⟨h.1.2,ih h.2 (by simp only [ZnE,ZpY] at hn; exact hn.2)⟩) rfl
 obtain ⟨S',hp,hs'⟩:=hs.got hM (ZlS hc) hN
 refine ⟨⟨c.fr.defers,c.fr.size,fun t v hv=>?_⟩,S',F,hM.stp hp,?_,hf.chg hp.chg fun k hk hS=>hM.dj k hS hk⟩
 ·rcases XZ hv with hv | hv
  ·obtain ⟨p, hp, he⟩ := ZoB.1 hv
   simp only [Prod.mk.injEq] at he
   obtain ⟨rfl,rfl⟩:=he
   exact (h.mem hp).1
  ·exact c.fr.get t v hv
 ·have := ZE hs'
  simpa [ZoG,Function.comp_def] using this
end
section
variable {P:Program} {B:Bs} {N:Nat} {σ:List (Nat × Value)} {Γ:List HP} {Φ Φ1:List RF} {a:Act} {w:World} {Q:Exit → Act → World → Prop}
  {draw:Bool} {ms:List Nat} {ops:Array Oper} {pds:List Pd} {j d:Nat} {dst:Option Tmp} {g:Option (Nat × Bool)} {t ty yt:TypeId} {x y:Operand} {pos:String} {af:Array Edge} {ow:Nat → Nat}
theorem gcT {g':Nat} {b:Bool} (hg:gc ops pds ops.size j) (hgd:guardOf ops j = some (g',true):=by rfl) (hn:∃ n,ops.size = n + 1:=by exact ⟨_,rfl⟩) (hp:(pds.getD g' .any).val? = some (.bool b):=by kernel_rfl):b = true:=by
 obtain ⟨n,hn⟩:=hn
 rw [hn] at hg; unfold gc at hg
 rw [hgd] at hg
 have h:=hg.2
 cases hq:pds.getD g' .any with
 | eq v=>
  rw [hq] at hp h
  simp only [Pd.val?,Option.some.injEq] at hp
  subst hp
  simpa [Pd.boolIs] using h
 | _=>rw [hq] at hp; cases hp
theorem gcF {g':Nat} {b:Bool} (hg:gc ops pds ops.size j) (hgd:guardOf ops j = some (g',false):=by rfl) (hn:∃ n,ops.size = n + 1:=by exact ⟨_,rfl⟩) (hp:(pds.getD g' .any).val? = some (.bool b):=by kernel_rfl):b = false:=by
 obtain ⟨n,hn⟩:=hn
 rw [hn] at hg; unfold gc at hg
 rw [hgd] at hg
 have h:=hg.2
 cases hq:pds.getD g' .any with
 | eq v=>
  rw [hq] at hp h
  simp only [Pd.val?,Option.some.injEq] at hp
  subst hp
  simpa [Pd.boolIs] using h
 | _=>rw [hq] at hp; cases hp
theorem Nix {s:Str} {n r:Int} (c:Cx B N σ Γ Φ a w) (hz:gc ops pds ops.size j → sidx? s n = some r) (ho:ops[j]? = some ⟨dst,.index t x y,ty,pos,af,g⟩:=by rfl) (ht:P.underlying t = some .string:=by kernel_rfl)
  (hx:envP ops σ pds j x = some s.val:=by kernel_rfl) (hy:numOf (envP ops σ pds j y) = some n:=by kernel_rfl) (hG:Good ops pds []) (hpd:pds.getD j .any = .eq (.int .u8 r)):NPB P draw ms ops pds a w Q j:=by
 obtain ⟨kd,hy⟩:=ZL hy
 exact ZfV hG c.fr ht ho hx hy hz hpd
theorem Nshl {m n r:Int} (c:Cx B N σ Γ Φ a w) (hz:gc ops pds ops.size j → shl? m n = some r) (ho:ops[j]? = some ⟨dst,.binOp .shl t x y yt,ty,pos,af,g⟩:=by rfl)
  (hx:envP ops σ pds j x = some (.int .i64 m):=by kernel_rfl) (hy:numOf (envP ops σ pds j y) = some n:=by kernel_rfl) (hG:Good ops pds []) (hpd:pds.getD j .any = .eq (.int .i64 r)):NPB P draw ms ops pds a w Q j:=by
 obtain ⟨kd,hy⟩:=ZL hy
 exact ZmN hG c.fr ho hx hy hz hpd
theorem Nshr {m n r:Int} (c:Cx B N σ Γ Φ a w) (hz:gc ops pds ops.size j → shr? m n = some r) (ho:ops[j]? = some ⟨dst,.binOp .shr t x y yt,ty,pos,af,g⟩:=by rfl)
  (hx:envP ops σ pds j x = some (.int .i64 m):=by kernel_rfl) (hy:numOf (envP ops σ pds j y) = some n:=by kernel_rfl) (hG:Good ops pds []) (hpd:pds.getD j .any = .eq (.int .i64 r)):NPB P draw ms ops pds a w Q j:=by
 obtain ⟨kd,hy⟩:=ZL hy
 exact ZmX hG c.fr ho hx hy hz hpd
theorem Nid {α:Type} [Rep α] {e:TypeId} {v:Value} {l:List α} {n:Int} {q:α} (c:Cx B N σ Γ Φ a w) (hl:Ava Γ Φ w (RO v l)) (hz:gc ops pds ops.size j → get? l n = some q) (ho:ops[j]? = some ⟨dst,.indexAddr t x y,ty,pos,af,g⟩:=by rfl) (ht:P.underlying t = some (.slice e):=by rfl) (he:Ty P e α:=by constructor <;> kernel_rfl) (hx:envP ops σ pds j x = some v:=by kernel_rfl) (hy:numOf (envP ops σ pds j y) = some n:=by kernel_rfl) (hG:Good ops pds []) (hpd:pds.getD j .any = .is fun v w=>ElemP w (fun _=>True) v q):NPB P draw ms ops pds a w Q j:=by
 obtain ⟨F,hl⟩:=c.use hl
 obtain ⟨kd,hy⟩:=ZL hy
 exact Zko hG c.fr he ht ho hx (RV.any hl) hy hpd fun hg=>⟨get?_nn (hz hg),get?_at (hz hg)⟩
theorem Nld {α:Type} [Flat α] {s:Nat} {q:α} {u:Value} (c:Cx B N σ Γ Φ a w) (i:Nat) (hpi:pds.getD i .any = .is fun v w=>ElemP w (fun _=>True) v q) (ho:ops[j]? = some ⟨dst,.load t (.tmp s),ty,pos,af,g⟩:=by rfl)
  (hj:Nat.blt j ops.size = true:=by rfl) (hl:lastW ops s j = some i:=by rfl) (hok:okG ops ops.size j i = true:=by rfl) (hu:Rep.val α (Flat.enc q) = u:=by rfl) (ht:Ty P t α:=by constructor <;> kernel_rfl) (hG:Good ops pds []) (hpd:pds.getD j .any = .eq u):NPB P draw ms ops pds a w Q j:=
 Zkg hG c.fr ht ho hj hl hok hpi hpd hu
theorem Ncl {args:List Value} {f:FuncId} {xs:Array Operand} {ts:Array TypeId} {vs:List Value} {u:Value} (c:Cx B N σ Γ Φ a w) (hcon:gc ops pds ops.size j → Con P f args [] Φ1 fun (_:Unit)=>(vs,[],[])) (ro:AvaL Γ Φ w Φ1)
  (hf:∀ (args:Array Value) (w:World),(callFunc f args).run P w = .ok (.enter f args) w) (hv:Go.GL.tup vs = u:=by rfl) (ho:ops[j]? = some ⟨dst,.call ⟨.value (.func f),xs,ts⟩,ty,pos,af,g⟩:=by rfl)
  (hargs:xs.toList.map (envP ops σ pds j) = args.map some:=by kernel_rfl) (hG:Good ops pds []) (hpd:pds.getD j .any = .eq u):NPB P draw ms ops pds a w Q j:=
 Zlx args hG c.fr hf ho hargs fun w' hC hg=>by
  obtain ⟨_,S,F,hM,hs,hF⟩:=c.ext hC
  have hro:AllF Φ1 w (fun k=>k < w.heap.size):=by
   obtain ⟨_,S0,F0,hM0,hs0,hF0⟩:=c
   exact (AvaL.all ro hs0 hF0).sub fun k hk _=>hk
  refine (hcon hg w' Non (fun k=>k < w.heap.size) (Sep.nil _ _) (hro.chg hC fun _ _ h=>h.elim) (fun _ h=>h.elim) (fun k hk=>ZnQ hk hC.size) (fun _ h=>h.elim)).mono ?_
  rintro e w'' ⟨i,S',F',rfl,hM',_,_⟩
  exact ⟨_,rfl,hM'.chg,by rw [hpd]; exact hv⟩
theorem Ncn {κ:Type} {R:κ → Res} {V:κ → Value} {H:κ → HP} {args:List Value} {f:FuncId} {xs:Array Operand} {ts:Array TypeId} (c:Cx B N σ Γ Φ a w) (hcon:gc ops pds ops.size j → Con P f args [] Φ1 R) (ro:AvaL Γ Φ w Φ1)
  (hf:∀ (args:Array Value) (w:World),(callFunc f args).run P w = .ok (.enter f args) w) (hV:∀ i,Go.GL.tup (R i).1 = V i:=by exact fun _=>rfl) (hH:∀ i,HP.sep (R i).2.1 = H i:=by exact fun _=>rfl)
  (ho:ops[j]? = some ⟨dst,.call ⟨.value (.func f),xs,ts⟩,ty,pos,af,g⟩:=by rfl) (hj:Nat.blt j ops.size = true:=by rfl) (hargs:xs.toList.map (argSpec ops σ pds j) = (args.map Sum.inl).map some:=by kernel_rfl) (hG:Good ops pds []) (hpd:pds.getD j .any = .is fun v w'=>∃ i,v = V i ∧ (H i).ok w' (fun k=>w.heap.size ≤ k ∧ k < w'.heap.size ∧ ow k = j)):NPO P ms ops pds a w Q ow j:=
 ZjZ (args.map .inl) hG c.fr hf ho hj hargs hpd fun w' vs hC hg hsp=>by
  have hvs:vs = args:=by
   have key:∀ (l vs:List Value),SpecP pds w' (l.map .inl) vs → vs = l:=by
    intro l
    induction l with
    | nil=>intro vs h; exact h
    | cons u l ih=>
     intro vs h
     obtain ⟨rest,rfl,h⟩:=h
     rw [ih rest h]
   exact key args vs hsp
  subst hvs
  have hro:AllF Φ1 w (fun k=>k < w.heap.size):=by
   obtain ⟨_,S0,F0,hM0,hs0,hF0⟩:=c
   exact (AvaL.all ro hs0 hF0).sub fun k hk _=>hk
  refine (hcon hg w' Non (fun k=>k < w.heap.size) (Sep.nil _ _) (hro.chg hC fun _ _ h=>h.elim) (fun _ h=>h.elim) (fun k hk=>ZnQ hk hC.size) (fun _ h=>h.elim)).mono ?_
  rintro e w'' ⟨i,S',F',rfl,hM',hs',_⟩
  exact ⟨_,rfl,hM'.chg,i,hV i,by rw [← hH]; exact hs'.mono fun k _ hk=>(hM'.sub k hk).elim (fun h=>h.elim) id⟩
end
class RawOf (ρ α:Type) [Flat ρ] [Rep α]:Prop where
 sz:Rep.sz ρ = Rep.sz α
 agg:Rep.agg ρ = Rep.agg α
 ex:∀ {w:World} {F:Nat → Prop} {cs:List Value} {x:α},Rep.ok w F cs x → ∃ q:ρ,cs = Flat.enc q
def FacL (w:World) (F:Nat → Prop):List RF → Prop
 | []=>True
 | R :: l=>R.ok w F ∧ FacL w F l
theorem AllF.of {w:World} {F:Nat → Prop}:∀ (Ψ:List RF),FacL w F Ψ → AllF Ψ w F
 | [],_=>AllF.nil
 | R :: l,h=>fun R' hR=>by
  rcases Zof.1 hR with rfl | hR
  ·exact h.1
  ·exact AllF.of l h.2 R' hR
deriving instance Inhabited for Hd
section
variable {B:Bs} {N:Nat} {σ:List (Nat × Value)} {Γ:List HP} {Φ:List RF} {a:Act} {w:World}
theorem ZjH {q:D.Value} {w:World} {F:Nat → Prop} {cs:List Value} (h:Rep.ok w F cs q):cs[0]? = some ((Str.val q.Name)):=by rw [Flat.iff.1 h]; rfl
theorem Zjg {q:D.Value} {w:World} {F:Nat → Prop} {cs:List Value} (h:Rep.ok w F cs q):cs[1]? = some (.int .i64 q.W):=by rw [Flat.iff.1 h]; rfl
theorem Zjl {q:D.Value} {w:World} {F:Nat → Prop} {cs:List Value} (h:Rep.ok w F cs q):cs[2]? = some (.int .i64 q.N):=by rw [Flat.iff.1 h]; rfl
theorem Ava.mk_Term (x:D.Term) {v4:Value} (h4:Ava Γ Φ w (RO v4 x.Kids)):Ava Γ Φ w (RO (.agg #[.int .i64 x.Op,.int .i64 x.W,.int .i64 x.N,(Str.val x.Name),v4]) x):=fun S F hs hf=>RV.mk_Term x (h4 S F hs hf)
theorem Cx.o_Term {v:Value} {x:D.Term} (i:Nat) (c:Cx B N σ Γ Φ a w) (hi:Φ[i]? = some (RO v x):=by rfl):∃ (a4:Option Addr) (c4:Nat),v = .agg #[.int .i64 x.Op,.int .i64 x.W,.int .i64 x.N,(Str.val x.Name),.slice a4 x.Kids.length c4] ∧ Cx B N σ Γ (Φ ++ [RO (.slice a4 x.Kids.length c4) x.Kids]) a w:=by
 obtain ⟨hF,S,F,hM,hs,hf⟩:=c
 obtain ⟨v4,rfl,h4⟩:=RV.Term (hf.get hi)
 obtain ⟨a4,c4,rfl,_⟩:=RV.slice h4
 exact ⟨a4,c4,rfl,hF,S,F,hM,hs,hf.join (AllF.of [_] ⟨h4,trivial⟩)⟩
theorem Zkb {q:D.Term} {w:World} {F:Nat → Prop} {cs:List Value} (h:Rep.ok w F cs q):cs[1]? = some (.int .i64 q.W):=by
 obtain ⟨y0,y1,y2,y3,y4⟩:=q
 have h:okTerm w F cs ⟨y0,y1,y2,y3,y4⟩:=h
 unfold okTerm at h
 obtain ⟨_,_,rfl,_⟩:=h
 rfl
structure Rw.Term where
 Op:Int
 W:Int
 N:Int
 Name:Str
 Kids:Hd
deriving Inhabited
instance:Rep Rw.Term where
 sz:=5
 agg:=true
 ok:=fun _ _ cs x=>cs = [.int .i64 x.Op,.int .i64 x.W,.int .i64 x.N,(Str.val x.Name),x.Kids.v]
 len:=by rintro w F cs x rfl; rfl
 one:=by rintro w F cs x rfl u hu; simp at hu; rcases hu with rfl | rfl | rfl | rfl | rfl <;> rfl
 pos:=by decide
 sgl:=fun h=>by cases h
 keep:=fun h _=>h
instance:Flat Rw.Term where
 enc:=fun x=>[.int .i64 x.Op,.int .i64 x.W,.int .i64 x.N,(Str.val x.Name),x.Kids.v]
 iff:=Iff.rfl
instance:RawOf Rw.Term D.Term where
 sz:=rfl
 agg:=rfl
 ex:=by
  rintro w F cs ⟨y0,y1,y2,y3,kids⟩ h
  have h:okTerm w F cs ⟨y0,y1,y2,y3,kids⟩:=h
  unfold okTerm at h
  obtain ⟨a,cp,rfl,_⟩:=h
  exact ⟨⟨y0,y1,y2,y3,⟨a,kids.length,cp⟩⟩,rfl⟩
end
section
variable {P:Program} {B:Bs} {N:Nat} {σ:List (Nat × Value)} {Γ:List HP} {Φ:List RF} {a:Act} {w:World} {Q:Exit → Act → World → Prop}
  {ops:Array Oper} {k d d2 d3:Nat} {t t' s' ty ty' ty2 yt:TypeId} {pos pos' pos2:String} {af af' af2:Array Edge} {x y y' z:Operand} {kd kk:IntKind}
theorem Cx.fad {Rf:RF} (c:Cx B N σ Γ Φ a w) (h:∀ F,AllF Φ w F → Rf.ok w F):Cx B N σ Γ (Φ ++ [Rf]) a w:=by
 obtain ⟨hF,S,F,h1,h2,h3⟩:=c
 exact ⟨hF,S,F,h1,h2,h3.add (h F h3)⟩
theorem Ava.ro {Rf:RF} {F:Nat → Prop} (h:Ava [] Φ w Rf) (hf:AllF Φ w F):Rf.ok w F:=Rf.sub (h Non F (Sep.nil w Non) hf) fun _ _ h=>h.elim id fun h=>h.elim
end
def Pd.fl (u:Value):Pd:=.is fun v w=>∃ ad,v = .pointer (some ad) ∧ Cells w ad [u]
theorem flM {u:Value}:(Pd.fl u).Mono Non:=fun v w w' ⟨ad,h1,h2⟩ hc=>⟨ad,h1,h2.keep fun _=>hc.block _ (h2.lt (by simp)) id⟩
theorem flO {u:Value}:(Pd.fl u).MonoO:=Pd.monoO_is flM
def Pd.rd {α:Type} [Rep α] (x:α):Pd:=.is fun v w=>RV w (fun _=>True) v x
theorem rdM {α:Type} [Rep α] {x:α}:(Pd.rd x).Mono Non:=ZiH
theorem rdO {α:Type} [Rep α] {x:α}:(Pd.rd x).MonoO:=Pd.monoO_is ZiH
inductive ArgS where
 | v (u:Value)
 | r (i:Nat) (R:Value → RF)
def ArgS.sum:ArgS → Value ⊕ Nat
 | .v u=>.inl u
 | .r i _=>.inr i
section
variable {P:Program} {B:Bs} {N:Nat} {σ:List (Nat × Value)} {Γ:List HP} {Φ Φ1 Ψ:List RF} {a:Act} {w:World} {Q:Exit → Act → World → Prop}
  {draw:Bool} {ms:List Nat} {ops:Array Oper} {pds:List Pd} {j d:Nat} {dst:Option Tmp} {g:Option (Nat × Bool)} {t ty yt:TypeId} {x y:Operand} {pos:String} {af:Array Edge} {ow:Nat → Nat}
theorem Nfa {α:Type} [Rep α] {q:α} {u:Value} {s fl off:Nat} (c:Cx B N σ Γ Φ a w) (i:Nat) (hpi:pds.getD i .any = .is fun v w=>ElemP w (fun _=>True) v q) (hu:∀ {w:World} {F:Nat → Prop} {cs:List Value},Rep.ok w F cs q → cs[off]? = some u) (ho:ops[j]? = some ⟨dst,.fieldAddr t (.tmp s) fl,ty,pos,af,g⟩:=by rfl) (hj:Nat.blt j ops.size = true:=by rfl) (hl:lastW ops s j = some i:=by rfl) (hok:okG ops ops.size j i = true:=by rfl)
  (hoff:fieldOff P t fl = some off:=by kernel_rfl) (hG:Good ops pds []) (hpd:pds.getD j .any = .is fun v w=>∃ ad,v = .pointer (some ad) ∧ Cells w ad [u]):NPB P draw ms ops pds a w Q j:=
 Zco _ ho hG c.fr fun a' w' _ hg _ hk=>by
  have h:=ZdM hG hj hl hok hg (hk s (by simp [Op.operands]))
  rw [hpi] at h
  obtain ⟨ad,cs,hv,_,h1,h2⟩:=h
  refine Zh (v:=.pointer (some (ad.add off))) (w':=w') (ZbR (P:=P) (ρ:=fun y=>match y with | .tmp s'=>if s' = s then some (.pointer (some ad)) else none | _=>none) (ρ':=a'.eval) (fun y z hy=>by
   split at hy
   ·split at hy
    ·rename_i hys; subst hys; rw [← Option.some.inj hy]; exact hv
    ·cases hy
   ·cases hy) (by simp [pe,hoff]) w') ?_
  rw [hpd]
  refine ⟨⟨_,rfl,fun i' q' hq=>?_⟩,Chg.refl _ _⟩
  cases i' with
  | zero=>
   simp only [Zo9,Option.some.injEq] at hq; subst hq
   rw [add_add,ZoQ]; exact h2 off u (hu h1)
  | succ j=>simp at hq
theorem Nlf {u:Value} {s:Nat} (c:Cx B N σ Γ Φ a w) (i:Nat) (hpi:pds.getD i .any = .is fun v w=>∃ ad,v = .pointer (some ad) ∧ Cells w ad [u]) (ho:ops[j]? = some ⟨dst,.load t (.tmp s),ty,pos,af,g⟩:=by rfl) (hj:Nat.blt j ops.size = true:=by rfl)
  (hl:lastW ops s j = some i:=by rfl) (hok:okG ops ops.size j i = true:=by rfl) (ht:Ty P t Int:=by constructor <;> kernel_rfl) (hG:Good ops pds []) (hpd:pds.getD j .any = .eq u):NPB P draw ms ops pds a w Q j:=
 Zco _ ho hG c.fr fun a' w' _ hg _ hk=>by
  have h:=ZdM hG hj hl hok hg (hk s (by simp [Op.operands]))
  rw [hpi] at h
  obtain ⟨ad,hv,h2⟩:=h
  refine Zh (v:=u) (w':=w') ?_ (by rw [hpd]; exact ⟨rfl,Chg.refl _ _⟩)
  have:=Yz ht (cs:=[u]) rfl h2
  have hv':Rep.val Int [u] = u:=rfl
  rw [hv'] at this
  simp [execOp,Instr.loadAt,hv,Instr.sureAddr,this]
end
def mapSI (P:Program) (k e:TypeId) (hk:P.underlying k = some .string) (he:P.underlying e = some (.int .i64)) (hzero:(P.info? e).map (·.zero) = some (some (.int .i64 0))):MapT P k e Str Int where
 fit:=fitS
 lit x:=.string x.bytes
 dv y:=.lit (.int .i64 y)
 zero:=0
 efit:=fitZ
 zfit:=rfl
 keyed:=Maps.string_keyed hk
 key x h:=by
  have h:x.bytes.length ≤ 9223372036854775807:=of_decide_eq_true h
  have h2:(Rep.val Str (Flat.enc x)) = .string ⟨x.bytes.toArray⟩:=rfl
  unfold keyOf
  rw [hk,h2]
  simp only [mapKey,hk]
  have h3:(ByteArray.mk x.bytes.toArray).size ≤ maxLen:=by show x.bytes.toArray.size ≤ _; simpa [maxLen] using h
  simp [h3]
 inj x y _ _ h:=by
  simp only [Lit.string.injEq] at h
  cases x; cases y; simpa using h
 elem y h:=plainElem_int he (by simpa [fitZ] using h)
 back v y ps h:=by
  obtain ⟨c,rfl,hc,_⟩:=plainElem_int_inv he h
  simp only [Prod.mk.injEq,DataW.lit.injEq,Lit.int.injEq] at hc
  rw [hc.1.2]
  rfl
 hz w:=by
  show (zeroValue e).run P w = .ok (.int .i64 0) w
  cases hi:P.info? e with
  | none=>rw [hi] at hzero; cases hzero
  | some i=>
   rw [hi] at hzero
   simp only [ZnM,Option.some.injEq] at hzero
   simp [zeroValue,typeInfo,hi,hzero]
section
variable {P:Program} {K V:TypeId} {κ β:Type} [Flat κ] [Flat β]
def OM (T:MapT P K V κ β) (v:Value) (m:Option (List (κ × β))):HP where
 ok w A:=match m with
  | none=>v = .map none
  | some l=>∃ b,v = .map (some b) ∧ OwnM T w b l ∧ A b
 mono:=fun {w A A'} h hA=>by
  cases m with
  | none=>exact h
  | some l=>obtain ⟨b,h1,h2,h3⟩:=h; exact ⟨b,h1,h2,hA b (OwnM.lt T h2) h3⟩
 keep:=fun {w w' A T'} h hc hT=>by
  cases m with
  | none=>exact h
  | some l=>obtain ⟨b,h1,h2,h3⟩:=h; exact ⟨b,h1,h2.chg T hc (hT b h3),h3⟩
def MO (T:MapT P K V κ β) (v:Value) (m:Option (List (κ × β))):RF where
 ok w F:=(OM T v m).ok w F
 sub:=fun h hs=>(OM T v m).mono h hs
 chg:=fun h hc ht=>(OM T v m).keep h hc ht
variable {B:Bs} {N:Nat} {σ:List (Nat × Value)} {Γ:List HP} {Φ:List RF} {a:Act} {w:World} {Q:Exit → Act → World → Prop} {T:MapT P K V κ β}
  {ops:Array Oper} {k d b:Nat} {t ty yt:TypeId} {pos:String} {af:Array Edge} {x y z:Operand} {v:Value} {m:Option (List (κ × β))} {l:List (κ × β)}
theorem Cx.om [DecidableEq κ] (i:Nat) (c:Cx B N σ Γ Φ a w) (hi:Γ[i]? = some (MP T b l):=by rfl):Cx B N σ (Γ.set i (OM T (.map (some b)) (some l))) Φ a w:=c.swap (H:=MP T b l) (H':=OM T (.map (some b)) (some l)) i (fun A h=>(⟨b,rfl,h.1,h.2⟩ : (OM T (.map (some b)) (some l)).ok w A)) hi
theorem Cx.nilm (T:MapT P K V κ β) (c:Cx B N σ Γ Φ a w):Cx B N σ (Γ ++ [OM T (.map none) none]) Φ a w:=c.gam fun S h=>ZE (Γ2:=[OM T (.map none) none]) (Sep.emp _ h rfl)
theorem Cx.som [DecidableEq κ] (i:Nat) (c:Cx B N σ Γ Φ a w) (hm:m.isNone = false) (hi:Γ[i]? = some (OM T v m):=by rfl):∃ b,v = .map (some b) ∧ Cx B N σ (Γ.set i (MP T b (m.getD []))) Φ a w:=by
 cases m with
 | none=>cases hm
 | some l=>
  have:∃ b,v = .map (some b):=by
   obtain ⟨_,S,F,_,hs,_⟩:=c
   obtain ⟨A,h,_⟩:=hs.get i hi
   obtain ⟨b,h,_⟩:=h
   exact ⟨b,h⟩
  obtain ⟨b,rfl⟩:=this
  exact ⟨b,rfl,c.swap (H:=OM T (.map (some b)) (some l)) (H':=MP T b l) i (fun A h=>by obtain ⟨b',h1,h2,h3⟩:=h; cases h1; exact ⟨h2,h3⟩) hi⟩
theorem Cx.smx [DecidableEq κ] (i:Nat) (c:Cx B N σ Γ Φ a w) (hm:m = some l) (hi:Γ[i]? = some (OM T v m):=by rfl):∃ b,v = .map (some b) ∧ Cx B N σ (Γ.set i (MP T b l)) Φ a w:=by
 subst hm; exact c.som i rfl hi
theorem Cx.nom (i:Nat) (c:Cx B N σ Γ Φ a w) (hm:m.isNone = true) (hi:Γ[i]? = some (OM T v m):=by rfl):v = .map none:=by
 cases m with
 | some l=>cases hm
 | none=>
  obtain ⟨_,S,F,_,hs,_⟩:=c
  obtain ⟨A,h,_⟩:=hs.get i hi
  exact h
theorem Ava.mp [DecidableEq κ] (i:Nat) (h:Γ[i]? = some (MP T b l):=by rfl):Ava Γ Φ w (MO T (.map (some b)) (some l)):=fun S F hs _=>by
 obtain ⟨A,h1,h2⟩:=hs.get i h
 exact ⟨b,rfl,h1.1,.inr (h2 b h1.2)⟩
theorem Ava.om (i:Nat) (h:Γ[i]? = some (OM T v m):=by rfl):Ava Γ Φ w (MO T v m):=fun S F hs _=>by
 obtain ⟨A,h1,h2⟩:=hs.get i h
 exact (OM T v m).mono h1 fun k _ hk=>.inr (h2 k hk)
theorem ZiY {t:TypeId} (ht:P.underlying t = some (.map K V)) (o:Option Nat) (w:World):(binOp .eql t (.map o) (.map none)).run P w = .ok (.bool o.isNone) w:=by
 unfold binOp Op.equal Op.maxDepth Op.equalIn
 cases o <;> simp [run_underlying ht]
theorem Enm (i:Nat) (c:Cx B N σ Γ Φ a w) (h:∀ fr,Cx B N ((d,.bool m.isNone) :: σ) Γ Φ fr w → wpFrom P ops Q (k + 1) fr w) (hi:Γ[i]? = some (OM T v m):=by rfl) (ho:ops[k]? = some ⟨some d,.binOp .eql t x y yt,ty,pos,af,none⟩:=by rfl) (hd:Nat.blt d N = true:=by rfl)
  (ht:P.underlying t = some (.map K V):=by kernel_rfl) (hx:opd σ x = some v:=by kernel_rfl) (hy:opd σ y = some (.map none):=by kernel_rfl):wpFrom P ops Q k a w:=by
 obtain ⟨S,F,hM,hs,hf⟩:=c.me
 obtain ⟨A,hA,_⟩:=hs.get i hi
 have:∃ o:Option Nat,v = .map o ∧ o.isNone = m.isNone:=by
  cases m with
  | none=>exact ⟨none,hA,rfl⟩
  | some l=>obtain ⟨b,h1,_⟩:=hA; exact ⟨some b,h1,rfl⟩
 obtain ⟨o,rfl,ho'⟩:=this
 exact Zd9 ho hd c.fr hx hy (by simp [eqGuard]) (ZiY ht o w) fun fr hF=>h fr (c.to (by rw [ho'] at hF; exact hF))
theorem Nmg [DecidableEq κ] {ops:Array Oper} {pds:List Pd} {draw:Bool} {ms:List Nat} {j:Nat} {dst:Option Tmp} {g:Option (Nat × Bool)} {l:List (κ × β)} {b:Nat} {q:κ} {r:β} {u:Value} {fit:κ → Bool} {zz:β} {ty t:TypeId} {pos:String} {af:Array Edge} {x y:Operand} (i:Nat) (c:Cx B N σ Γ Φ a w) (hr:gc ops pds ops.size j → mget? fit zz l q = some r) (hi:Γ[i]? = some (MP T b l):=by rfl) (hfit:T.fit = fit:=by rfl) (hzz:T.zero = zz:=by rfl) (hu:Rep.val β (Flat.enc r) = u:=by rfl)
  (ho:ops[j]? = some ⟨dst,.lookup t x y false,ty,pos,af,g⟩:=by rfl) (ht:P.underlying t = some (.map K V):=by kernel_rfl) (hx:envP ops σ pds j x = some (.map (some b)):=by kernel_rfl) (hy:envP ops σ pds j y = some (Rep.val κ (Flat.enc q)):=by kernel_rfl) (hG:Good ops pds []) (hpd:pds.getD j .any = .eq u):NPB P draw ms ops pds a w Q j:=by
 obtain ⟨S,F,hM,hs,hf⟩:=c.me
 subst hfit; subst hzz
 exact Zjo T i hs hi ht hG c.fr ho hx hy rfl (fun hg=>mget?_fit (hr hg)) (fun hg=>(congrArg (fun y=>Rep.val β (Flat.enc y)) (mget?_val (hr hg))).trans hu) hpd
theorem Nmg2 [DecidableEq κ] {ops:Array Oper} {pds:List Pd} {draw:Bool} {ms:List Nat} {j:Nat} {dst:Option Tmp} {g:Option (Nat × Bool)} {l:List (κ × β)} {b:Nat} {q:κ} {r:β × Bool} {u:Value} {fit:κ → Bool} {zz:β} {ty t:TypeId} {pos:String} {af:Array Edge} {x y:Operand} (i:Nat) (c:Cx B N σ Γ Φ a w) (hr:gc ops pds ops.size j → mget2? fit zz l q = some r) (hi:Γ[i]? = some (MP T b l):=by rfl) (hfit:T.fit = fit:=by rfl) (hzz:T.zero = zz:=by rfl) (hu : .tuple #[Rep.val β (Flat.enc r.1),.bool r.2] = u:=by rfl)
  (ho:ops[j]? = some ⟨dst,.lookup t x y true,ty,pos,af,g⟩:=by rfl) (ht:P.underlying t = some (.map K V):=by kernel_rfl) (hx:envP ops σ pds j x = some (.map (some b)):=by kernel_rfl) (hy:envP ops σ pds j y = some (Rep.val κ (Flat.enc q)):=by kernel_rfl) (hG:Good ops pds []) (hpd:pds.getD j .any = .eq u):NPB P draw ms ops pds a w Q j:=by
 obtain ⟨S,F,hM,hs,hf⟩:=c.me
 subst hfit; subst hzz
 exact Zhk T i hs hi ht hG c.fr ho hx hy rfl (fun hg=>mget2?_fit (hr hg)) (fun hg=>mget2?_val (hr hg)) hu hpd
end
theorem Nlt {P:Program} {B:Bs} {N:Nat} {σ:List (Nat × Value)} {Γ:List HP} {Φ:List RF} {a:Act} {w:World} {Q:Exit → Act → World → Prop} {ms:List Nat} {ops:Array Oper} {pds:List Pd} {j:Nat} {dst:Option Tmp} {g:Option (Nat × Bool)} {t ty:TypeId} {pos:String} {af:Array Edge} {ow:Nat → Nat}
  {α:Type} [Flat α] {E:TypeId} {n:Nat} {parts:Array (Nat × Operand)} (c:Cx B N σ Γ Φ a w) (l:List α) (ho:ops[j]? = some ⟨dst,.buildSlice t n parts,ty,pos,af,g⟩:=by rfl) (hln:l.length = n:=by rfl) (hmax:Nat.ble l.length room = true:=by rfl)
  (hv:parts.toList.map (fun p=>envP ops σ pds j p.2) = (l.map fun x=>Rep.val α (Flat.enc x)).map some:=by kernel_rfl)
  (hrun:∀ w,(Instr.buildSlice t n ((parts.toList.map (·.1)).zip (l.map fun x=>Rep.val α (Flat.enc x))).toArray).run P w = .ok (.slice (some ⟨w.heap.size,0,none⟩) n n) (w.alloc (.cells (l.map Flat.enc).flatten.toArray E)):=by intro _; kernel_rfl) (hG:Good ops pds []) (hpd:pds.getD j .any = .is fun v w'=>∃ i:Option Addr × Nat,v = .slice i.1 (List.length l) i.2 ∧ (SL E (.slice i.1 (List.length l) i.2) l).ok w' (fun k=>w.heap.size ≤ k ∧ k < w'.heap.size ∧ ow k = j)):NPO P ms ops pds a w Q ow j:=
 ZmO (l.map Flat.enc).flatten (l.map Flat.enc) l hG c.fr ho _ hv hrun (fun _=>Zbn _) rfl hln hmax hpd
section
variable {ρ α:Type} [Flat ρ] [Rep α] [RawOf ρ α] {w:World} {F:Nat → Prop} {v:Value}
omit [RawOf ρ α] in
theorem ZlE {cs cs':List Value} (ha:Rep.agg ρ = Rep.agg α) (hs:Rep.sz ρ = Rep.sz α) (hl:cs.length = Rep.sz ρ) (hl':cs'.length = Rep.sz α) (h:Rep.val ρ cs = Rep.val α cs'):cs = cs':=by
 unfold Rep.val at h
 rw [← ha] at h
 cases hb:Rep.agg ρ with
 | true=>
  rw [hb] at h
  simp only [ZnV,Value.agg.injEq] at h
  simpa using congrArg Array.toList h
 | false=>
  rw [hb] at h
  have h1:=Rep.sgl hb
  simp only [Zn6,ZnI] at h
  cases cs with
  | nil=>simp [h1] at hl
  | cons u us=>
   cases cs' with
   | nil=>rw [← hs,h1] at hl'; simp at hl'
   | cons u' us'=>
    rw [h1] at hl; rw [← hs,h1] at hl'
    simp only [ZnL,Nat.add_eq_right,ZpD] at hl hl'
    subst hl; subst hl'
    simpa using h
theorem Zhl {q:ρ} {x:α} (h:RV w F (Rep.val ρ (Flat.enc q)) x):Rep.ok w F (Flat.enc q) x:=by
 obtain ⟨cs,h1,h2⟩:=h
 have:=ZlE (ρ:=ρ) (α:=α) (RawOf.agg) (RawOf.sz) (Rep.len (w:=w) (F:=F) (Flat.iff.2 rfl:Rep.ok w F (Flat.enc q) q)) (Rep.len h1) h2
 rw [this]; exact h1
theorem Zft {ad:Addr}:∀ {xs:List α} {i:Nat},elems w F ad i xs → ∃ rs:List ρ,elems w F ad i rs ∧ Css w F (rs.map Flat.enc) xs
 | [],i,_=>⟨[],trivial,rfl,fun i cs x h=>by simp at h⟩
 | x :: xs,i,h=>by
  obtain ⟨⟨cs,h1,h2⟩,h3⟩:=h
  obtain ⟨q,rfl⟩:=RawOf.ex (ρ:=ρ) h1
  obtain ⟨rs,g1,g2⟩:=Zft h3
  refine ⟨q :: rs,⟨⟨Flat.enc q,Flat.iff.2 rfl,by rw [RawOf.sz (ρ:=ρ) (α:=α)]; exact h2⟩,g1⟩,by simp [g2.1],fun j cs y hj hy=>?_⟩
  cases j with
  | zero=>simp only [ZnE,Zo9,Option.some.injEq] at hj hy; subst hj; subst hy; exact h1
  | succ j=>exact g2.2 j cs y (by simpa using hj) (by simpa using hy)
theorem Zkr {xs:List α} (h:RV w F v xs):∃ rs:List ρ,RV w F v rs ∧ Css w F (rs.map Flat.enc) xs:=by
 obtain ⟨a,cp,rfl,h1,h2,h3⟩:=RV.slice h
 by_cases hn:xs = []
 ·subst hn
  exact ⟨[],RV.mk_slice (l:=([]:List ρ)) h1 h2 (fun h=>absurd rfl h),rfl,fun i cs x h=>by simp at h⟩
 ·obtain ⟨ad, rfl, hF, he⟩ := h3 hn
  obtain ⟨rs,g1,g2⟩:=Zft (ρ:=ρ) he
  have hl:rs.length = xs.length:=by simpa using g2.1
  exact ⟨rs,by rw [← hl]; exact RV.mk_slice (by omega) h2 (fun _=>⟨ad,rfl,hF,g1⟩),g2⟩
theorem Zf0 {ad:Addr}:∀ {rs:List ρ} {xs:List α} {i:Nat},elems w F ad i rs → Css w F (rs.map Flat.enc) xs → elems w F ad i xs
 | [],[],_,_,_=>trivial
 | [],x :: xs,_,_,h=>by have:=h.1; simp at this
 | q :: rs,[],_,_,h=>by have:=h.1; simp at this
 | q :: rs,x :: xs,i,h,hc=>by
  obtain ⟨⟨cs,h1,h2⟩,h3⟩:=h
  obtain rfl:=Flat.iff.1 h1
  refine ⟨⟨_,hc.2 0 _ _ rfl rfl,by rw [← RawOf.sz (ρ:=ρ) (α:=α)]; exact h2⟩,Zf0 h3 ⟨by simpa using hc.1,fun j cs y hj hy=>hc.2 (j + 1) cs y (by simpa using hj) (by simpa using hy)⟩⟩
theorem Ze7 {rs:List ρ} {xs:List α} (h:RV w F v rs) (hc:Css w F (rs.map Flat.enc) xs):RV w F v xs:=by
 obtain ⟨a,cp,rfl,h1,h2,h3⟩:=RV.slice h
 have hl:rs.length = xs.length:=by simpa using hc.1
 rw [hl]
 refine RV.mk_slice (by omega) h2 fun hn=>?_
 obtain ⟨ad,rfl,hF,he⟩:=h3 (by rintro rfl; exact hn (ZpD.1 hl.symm))
 exact ⟨ad,rfl,hF,Zf0 he hc⟩
omit [RawOf ρ α] in
theorem Zif {rs:List ρ} {xs:List α} (hc:Css w F (rs.map Flat.enc) xs) {i:Nat} {x:α} (hx:xs[i]? = some x):∃ q,rs[i]? = some q ∧ Rep.ok w F (Flat.enc q) x:=by
 have hl:rs.length = xs.length:=by simpa using hc.1
 have hlt:=(Zn9.1 hx).1
 have hq:rs[i]? = some rs[i]:=by simp [hl,hlt]
 exact ⟨rs[i],hq,hc.2 i _ x (by rw [ZnW,hq]; rfl) hx⟩
omit [RawOf ρ α] in
theorem Zl6 {rs:List ρ} {xs:List α} {n:Nat} {q:ρ} {x:α} (hc:Css w F (rs.map Flat.enc) xs) (hq:Rep.ok w F (Flat.enc q) x):Css w F ((rs.set n q).map Flat.enc) (xs.set n x):=by
 refine ⟨by simpa using hc.1,fun i cs y hi hy=>?_⟩
 rw [ZnW,ZoU] at hi
 rw [ZoU] at hy
 have hl:rs.length = xs.length:=by simpa using hc.1
 by_cases e:n = i
 ·subst e
  by_cases hlt:n < rs.length
  ·simp only [ZnV, hlt, ZnM, Option.some.injEq] at hi
   rw [hl] at hlt
   simp only [ZnV,hlt,Option.some.injEq] at hy
   subst hi; subst hy; exact hq
  ·simp [hlt] at hi
 ·rw [ZnA e] at hi hy
  exact hc.2 i cs y (by rw [ZnW]; exact hi) hy
omit [RawOf ρ α] in
theorem Zhs {rs rs':List ρ} {xs xs':List α} (hc:Css w F (rs.map Flat.enc) xs) (hc':Css w F (rs'.map Flat.enc) xs'):Css w F ((rs ++ rs').map Flat.enc) (xs ++ xs'):=by
 have hl:rs.length = xs.length:=by simpa using hc.1
 refine ⟨by simp [hl,(show rs'.length = xs'.length by simpa using hc'.1)],fun i cs y hi hy=>?_⟩
 rw [Zo2,Zp0,Zog] at hi
 rw [Zp0,← hl] at hy
 split at hi
 ·rename_i h; rw [ZnC h] at hy; exact hc.2 i cs y hi hy
 ·rename_i h; rw [ZnA h] at hy; exact hc'.2 _ cs y hi hy
end
section
variable {ρ α:Type} [Flat ρ] [Rep α]
def LitA (Φ:List RF) (w:World):List ρ → List α → Prop
 | [],[]=>True
 | q :: rs,x :: xs=>Ava [] Φ w (RO (Rep.val ρ (Flat.enc q)) x) ∧ LitA Φ w rs xs
 | _,_=>False
theorem LitA.css [RawOf ρ α] {Φ:List RF} {w:World} {F:Nat → Prop} (hf:AllF Φ w F):∀ {rs:List ρ} {xs:List α},LitA Φ w rs xs → Css w F (rs.map Flat.enc) xs
 | [],[],_=>⟨rfl,fun i cs x h=>by simp at h⟩
 | [],_ :: _,h=>h.elim
 | _ :: _,[],h=>h.elim
 | q :: rs,x :: xs,h=>by
  have h2:=LitA.css hf h.2
  refine ⟨by simpa using h2.1,fun i cs y hi hy=>?_⟩
  cases i with
  | zero=>simp only [ZnE,Zo9,Option.some.injEq] at hi hy; subst hi; subst hy; exact Zhl (h.1.ro hf)
  | succ i=>exact h2.2 i cs y (by simpa using hi) (by simpa using hy)
variable {P:Program} {B:Bs} {N:Nat} {σ:List (Nat × Value)} {Γ:List HP} {Φ:List RF} {a:Act} {w:World} {Q:Exit → Act → World → Prop}
  {ops:Array Oper} {k d d2:Nat} {t t' ty ty':TypeId} {pos pos':String} {af af':Array Edge} {x y z:Operand} {E:TypeId} {v u:Value} {rs:List ρ} {xs ms r:List α}
theorem Ava.gr [RawOf ρ α] (i j:Nat) (hi:Γ[i]? = some (SL E v rs):=by rfl) (hj:Φ[j]? = some (CS rs xs):=by rfl):Ava Γ Φ w (RO v xs):=fun S F hs hf=>by
 have h1:=RV.sub (F':=fun k=>F k ∨ S k) (hs.rv i hi) fun _ _ h=>.inr h
 have h2:=(CS rs xs).sub (F':=fun k=>F k ∨ S k) (hf.get hj) fun _ _ h=>.inl h
 exact Ze7 h1 h2
theorem Cx.csn (c:Cx B N σ Γ Φ a w):Cx B N σ Γ (Φ ++ [CS ([]:List ρ) ([]:List α)]) a w:=c.fad fun F _=>⟨rfl,fun i cs x h=>by simp at h⟩
theorem Cx.relenr {b:Option Addr} {n cp:Nat} (i j:Nat) (c:Cx B N σ Γ Φ a w) (hi:Γ[i]? = some (SL E (.slice b n cp) rs):=by rfl) (hj:Φ[j]? = some (CS rs xs):=by rfl):n = xs.length ∧ Cx B N σ (Γ.set i (SL E (.slice b xs.length cp) rs)) Φ a w:=by
 obtain ⟨he,c⟩:=c.relen i hi
 obtain ⟨F,h⟩:=c.use (Ava.f j hj)
 have hl:rs.length = xs.length:=by simpa using h.1
 rw [hl] at c
 exact ⟨he.trans hl,c⟩
theorem Cx.fzr [RawOf ρ α] (i j:Nat) (c:Cx B N σ Γ Φ a w) (hi:Γ[i]? = some (SL E v rs):=by rfl) (hj:Φ[j]? = some (CS rs xs):=by rfl):Cx B N σ (rest [i] Γ) (Φ ++ [RO v xs]) a w:=by
 obtain ⟨h,S,F,h1,h2,h3⟩:=c
 have hp:=h2.part [i] (Γ1:=[SL E v rs]) (by simp [hi]) (by simp)
 obtain ⟨S',F',hM,hs,hr,hfz⟩:=Sep.freeze (L:=rest [i] Γ) hp h1
 have h3':=h3.sub (F':=F') fun k _ hk=>hfz k hk
 exact ⟨h,S',F',hM,hs,h3'.add (Ze7 (SL.rv hr) (h3'.get hj))⟩
theorem Eltr [RawOf ρ α] {n:Nat} {parts:Array (Nat × Operand)} (E:TypeId) (rs:List ρ) (xs:List α) (c:Cx B N σ Γ Φ a w) (hx:LitA Φ w rs xs)
  (h:∀ a' c' fr w',Cx B N ((d,.slice a' xs.length c') :: σ) (Γ ++ [SL E (.slice a' xs.length c') rs]) (Φ ++ [CS rs xs]) fr w' → wpFrom P ops Q (k + 1) fr w')
  (ho:ops[k]? = some ⟨some d,.buildSlice t n parts,ty,pos,af,none⟩:=by rfl) (hd:Nat.blt d N = true:=by rfl) (hln:rs.length = n:=by rfl) (hmax:Nat.ble rs.length room = true:=by rfl)
  (hv:parts.toList.map (fun p=>opd σ p.2) = (rs.map fun x=>Rep.val ρ (Flat.enc x)).map some:=by kernel_rfl)
  (hrun:∀ w,(Instr.buildSlice t n ((parts.toList.map (·.1)).zip (rs.map fun x=>Rep.val ρ (Flat.enc x))).toArray).run P w = .ok (.slice (some ⟨w.heap.size,0,none⟩) n n) (w.alloc (.cells (rs.map Flat.enc).flatten.toArray E)):=by intro _; kernel_rfl):wpFrom P ops Q k a w:=by
 have c:=c.fad (Rf:=CS rs xs) fun F hf=>hx.css hf
 have hl:rs.length = xs.length:=by
  obtain ⟨_,_,_,_,_,hf⟩:=c
  simpa using (hf (CS rs xs) (ZnS.2 (.inr (ZnX.2 rfl)))).1
 refine Elt E rs c (fun a' c' fr w' c=>?_) ho hd hln hmax hv hrun
 rw [hl] at c
 exact h a' c' fr w' c
theorem Esetr [RawOf ρ α] {n:Int} {q:ρ} {e:α} (i j:Nat) (c:Cx B N σ Γ Φ a w) (hx:Ava [] Φ w (RO (Rep.val ρ (Flat.enc q)) e)) (hr:set? xs n e = some r)
  (h:∀ p fr w',Cx B N ((d,p) :: σ) (Γ.set i (SL E v (rs.set n.toNat q))) (Φ ++ [CS (rs.set n.toNat q) r]) fr w' → wpFrom P ops Q (k + 2) fr w') (hi:Γ[i]? = some (SL E v rs):=by rfl) (hj:Φ[j]? = some (CS rs xs):=by rfl)
  (ho:ops[k]? = some ⟨some d,.indexAddr t x y,ty,pos,af,none⟩:=by rfl) (ho':ops[k + 1]? = some ⟨none,.store t' (.tmp d) z,ty',pos',af',none⟩:=by rfl) (hte:t' = E:=by rfl) (hd:Nat.blt d N = true:=by rfl) (hz:z ≠ .tmp d:=by simp)
  (he:Ty P E ρ:=by constructor <;> kernel_rfl) (ht:P.underlying t = some (.slice E):=by kernel_rfl) (hxv:opd σ x = some v:=by kernel_rfl) (hy:numOf (opd σ y) = some n:=by kernel_rfl) (hq:opd σ z = some (Rep.val ρ (Flat.enc q)):=by kernel_rfl):wpFrom P ops Q k a w:=by
 obtain ⟨F0,h0⟩:=c.use (Ava.f j hj)
 have hl:rs.length = xs.length:=by simpa using h0.1
 obtain ⟨h1,h2,h3⟩:=set?_raw q hr hl
 have c:=c.fad (Rf:=CS (rs.set n.toNat q) r) fun F hf=>by
  rw [h2]; exact Zl6 (hf.get hj) (Zhl (hx.ro hf))
 exact Eset i c h1 h hi ho ho' hte hd hz he ht hxv hy hq
theorem Eapr [RawOf ρ α] (i j:Nat) (c:Cx B N σ Γ Φ a w) (hu:Ava [] Φ w (RO u ms)) (hr:app? xs ms = some r)
  (h:∀ (rm:List ρ) a' c' fr w',Cx B N ((d,.slice a' r.length c') :: σ) (Γ.set i (SL E (.slice a' r.length c') (rs ++ rm))) (Φ ++ [CS (rs ++ rm) r]) fr w' → wpFrom P ops Q (k + 1) fr w') (hi:Γ[i]? = some (SL E v rs):=by rfl) (hj:Φ[j]? = some (CS rs xs):=by rfl)
  (ho:ops[k]? = some ⟨some d,.call ⟨.builtin .append,#[x,y],#[t,t']⟩,ty,pos,af,none⟩:=by rfl) (htt:t' = t:=by rfl) (hd:Nat.blt d N = true:=by rfl) (he:ElT P E ρ:=by refine elT ?_; kernel_rfl) (ht:P.underlying t = some (.slice E):=by kernel_rfl)
  (hx:opd σ x = some v:=by kernel_rfl) (hy:opd σ y = some u:=by kernel_rfl):wpFrom P ops Q k a w:=by
 obtain ⟨hF,S,F,hM,hs,hf⟩:=c
 obtain ⟨rm,g1,g2⟩:=Zkr (ρ:=ρ) (hu.ro hf)
 have hc:=Zhs (hf.get hj) g2
 have hl:rs.length = xs.length:=by simpa using (hf.get hj).1
 have hl':rm.length = ms.length:=by simpa using g2.1
 obtain ⟨h1,h2⟩:=app?_raw (l':=rs) (m':=rm) hr hl hl'
 rw [← h2] at hc
 have c:Cx B N σ Γ (Φ ++ [RO u rm] ++ [CS (rs ++ rm) r]) a w:=⟨hF,S,F,hM,hs,(hf.add (R:=RO u rm) g1).add (R:=CS (rs ++ rm) r) hc⟩
 have hlen:(rs ++ rm).length = r.length:=by rw [h2]; simp [hl,hl']
 refine Eap i c (Ava.f Φ.length (by simp)) h1 (fun a' c' fr w' c=>?_) hi ho htt hd he ht hx hy
 rw [hlen] at c
 refine h rm a' c' fr w' ?_
 obtain ⟨q1,q2,q3,q4,q5,q6⟩:=c
 exact ⟨q1,q2,q3,q4,q5,fun R hR=>q6 R ((ZnS.1 hR).elim (fun h=>ZnS.2 (.inl (ZnS.2 (.inl h)))) fun h=>ZnS.2 (.inr h))⟩
theorem Eemr [RawOf ρ α] {n:Int} {q:α} (i j:Nat) (c:Cx B N σ Γ Φ a w) (hz:get? xs n = some q) (h:∀ p u fr,Cx B N ((d2,u) :: (d,p) :: σ) Γ (Φ ++ [RO u q]) fr w → wpFrom P ops Q (k + 2) fr w) (hi:Γ[i]? = some (SL E v rs):=by rfl) (hj:Φ[j]? = some (CS rs xs):=by rfl)
  (ho:ops[k]? = some ⟨some d,.indexAddr t x y,ty,pos,af,none⟩:=by rfl) (ho':ops[k + 1]? = some ⟨some d2,.load t' (.tmp d),ty',pos',af',none⟩:=by rfl) (hd:Nat.blt d N = true:=by rfl) (hd':Nat.blt d2 N = true:=by rfl)
  (he:Ty P t' ρ:=by constructor <;> kernel_rfl) (ht:P.underlying t = some (.slice t'):=by kernel_rfl) (hx:opd σ x = some v:=by kernel_rfl) (hy:numOf (opd σ y) = some n:=by kernel_rfl):wpFrom P ops Q k a w:=by
 obtain ⟨F0,h0⟩:=c.use (Ava.f j hj)
 obtain ⟨q',g1,_⟩:=Zif h0 (get?_at hz)
 have hz':get? rs n = some q':=by unfold get?; rw [ZnC (get?_nn hz)]; exact g1
 refine Eel c (Ava.g i hi) hz' (fun p fr c=>h p _ fr (c.fad fun F hf=>?_)) ho ho' hd hd' he ht hx hy
 have hc:=hf.get hj
 exact ⟨Flat.enc q',hc.2 _ _ q (by rw [ZnW,g1]; rfl) (get?_at hz),by unfold Rep.val; rw [RawOf.agg (ρ:=ρ) (α:=α)]⟩
end
def Opens (P:Program) (t:TypeId) (α:Type) [Rep α] (fit:α → Prop):Prop:=
 ∀ (H:Type) (enc:TypeId × Value → H) (w:World) (base:Nat) (spare:Nat → Bool) (held:Bool) (fuel:Nat) (cs:List Value) (x:DataW H × List MemPlace),
  DataW.trod enc P w base spare held fuel t cs = some x → ∃ a:α,Rep.ok w (fun k=>k < w.heap.size) cs a ∧ fit a
section
variable {P:Program} {t e:TypeId}
theorem Zju (ht:P.underlying t = some (.int .u8)):Opens P t Byt fitByt:=by
 intro H enc w base spare held fuel cs x h
 obtain ⟨n,rfl,-,hn⟩:=DataW.trod_int ht h
 refine ⟨⟨n⟩,rfl,?_⟩
 simp only [Lit.wf,ZnB,ZnO] at hn
 exact hn
theorem ZiP {α:Type} {p:Nat → α → Prop}:∀ n,(∀ i,i < n → ∃ y,p i y) → ∃ l:List α,l.length = n ∧ ∀ i y,l[i]? = some y → p i y
 | 0,_=>⟨[],rfl,by simp⟩
 | n + 1,h=>by
  obtain ⟨l,hl,hp⟩:=ZiP n fun i hi=>h i (by omega)
  obtain ⟨y,hy⟩:=h n (by omega)
  refine ⟨l ++ [y],by simp [hl],fun i z hz=>?_⟩
  rw [Zp0] at hz
  split at hz
  ·exact hp i z hz
  ·have:i = n:=by
    rcases Zp1 (i - l.length) 1 with h1 | h1
    ·omega
    ·rw [ZnT (by simpa using h1)] at hz; cases hz
   subst this
   rw [hl,ZoR] at hz
   simp only [Zo9,Option.some.injEq] at hz
   subst hz; exact hy
theorem ZhJ {α:Type} [Rep α] {fit:α → Prop} (ht:P.underlying t = some (.slice e)) (hs:P.cellsOf e = Rep.sz α) (he:Opens P e α fit):Opens P t (List α) (fitList fit):=by
 intro H enc w base spare held fuel cs x h
 rcases DataW.trod_slice ht h with ⟨rfl,_⟩ | ⟨a,len,cap,elems',rest,n,rfl,rfl,_,hb,hl,hc,hlen,hel,_⟩
 ·exact ⟨[],⟨none,0,rfl,ZnK _,ZoW _,fun h=>absurd rfl h⟩,ZoW _,by simp⟩
 ·have key:∀ i,i < len → ∃ y:α,(∃ cs',Rep.ok w (fun k=>k < w.heap.size) cs' y ∧ Cells w (a.add (i * Rep.sz α)) cs') ∧ fit y:=by
   intro i hi
   have h1:=hel i hi
   obtain ⟨z,hz⟩ : ∃ z,elems'[i]? = some z:=⟨_,Zn5 (by omega)⟩
   rw [hz,Zod] at h1
   obtain ⟨cs',hc1,hc2⟩:=h1
   obtain ⟨y,hy,hf⟩:=he _ _ _ _ _ _ _ _ _ hc2
   obtain ⟨_,hl1,hc3⟩:=World.cells?_some hc1
   refine ⟨y,⟨cs',hy,fun j u hu=>?_⟩,hf⟩
   have hj:j < cs'.length:=(Zn9.1 hu).1
   rw [← hs,hc3 j (by omega)]; exact hu
  obtain ⟨l,hll,hp⟩:=ZiP len key
  have hE:elems w (fun k=>k < w.heap.size) a 0 l:=Zb4 fun i x hx=>by rw [Zpc]; exact (hp i x hx).1
  refine ⟨l,⟨some a,cap,by rw [hll],by omega,hc,fun hne=>⟨a,rfl,?_,hE⟩⟩,by show l.length ≤ maxLen; omega,fun x hx=>?_⟩
  ·exact Zga hE hne
  ·obtain ⟨i, hi⟩ := Zpm.1 hx
   exact (hp i x hi).2
theorem open_list {H:Type} {enc:TypeId × Value → H} {w:World} {base:Nat} {spare:Nat → Bool} {held:Bool} {v:Value} {d:DataW H} {ps:List MemPlace} {α:Type} [Rep α] {fit:List α → Prop} {r:Reach} {b:Nat}
  (ht:P.underlying t = some (.slice e)) (hop:Opens P t (List α) fit) (hv:Value.okWide P w r b t v) (h:DataW.Trod enc P w base spare held t v d ps):∃ a:List α,RV w (fun k=>k < w.heap.size) v a ∧ fit a:=by
 obtain ⟨a',l',c',rfl⟩:=WideShapes.okWide_slice ht hv
 obtain ⟨fuel,hf⟩:=h
 obtain ⟨a,h1,h2⟩:=hop _ _ _ _ _ _ _ _ _ hf
 exact ⟨a,⟨_,h1,rfl⟩,h2⟩
end
end Go.GL
end
section
namespace Go.GL
theorem Ze {x:Int} (h1 : -9223372036854775808 ≤ x) (h2:x ≤ 9223372036854775807):w64 x = x:=by
 unfold w64; rw [IntKind.wrap_i64]; omega
theorem Za {α:Type} (l:List α):len l = (l.length:Int):=rfl
theorem get?_nat {α:Type} {l:List α} {i:Nat}:get? l (i:Int) = l[i]?:=by
 unfold get?; rw [ZnC (by omega)]; rfl
theorem set?_nat {α:Type} {l:List α} {i:Nat} {x:α} (h:i < l.length):set? l (i:Int) x = some (l.set i x):=by
 unfold set?; rw [ZnC ⟨by omega,by simpa using h⟩]; rfl
theorem Xv {σt ρt:Type} {B:σt → Option (σt ⊕ ρt)} {I:Nat → σt → Prop} {m:Nat} {r:ρt} (hs:∀ k s,k < m → I k s → ∃ s',B s = some (.inl s') ∧ I (k + 1) s') (hf:∀ s,I m s → B s = some (.inr r)) :
  ∀ (d k:Nat) (s:σt),k + d = m → I k s → ∀ n,d < n → iterN B n s = some r
 | 0,k,s,hk,hi,n,hn=>by
  obtain ⟨n,rfl⟩ : ∃ j,n = j + 1:=⟨n - 1,by omega⟩
  obtain rfl:k = m:=by omega
  unfold iterN; rw [hf s hi]
 | d + 1,k,s,hk,hi,n,hn=>by
  obtain ⟨n,rfl⟩ : ∃ j,n = j + 1:=⟨n - 1,by omega⟩
  obtain ⟨s',h1,h2⟩:=hs k s (by omega) hi
  unfold iterN; rw [h1]
  exact Xv hs hf d (k + 1) s' (by omega) h2 n (by omega)
theorem mk?_len {α β:Type} {l:List α} {z:β} (h:l.length ≤ room):mk? (len l) z = some (List.replicate l.length z):=by
 unfold mk?; rw [Za,ZnC ⟨by omega,by simpa using h⟩]; rfl
end Go.GL
namespace Go.GL
def pre {α:Type} (f:Nat → α) (p:List α) (i:Nat):List α:=(List.range i).map f ++ p.drop i
theorem ZfK {α:Type} {f:Nat → α} {p:List α} {i:Nat} (h:i < p.length):(pre f p i)[i]? = p[i]?:=by
 unfold pre
 rw [ZnH (by simp),ZoC]
 simp
end Go.GL
namespace Go.GL
theorem ZbD {σt ρt:Type} {B:σt → Option (σt ⊕ ρt)} {I:Nat → σt → Prop} {m:Nat} {ok:Nat → Bool} {r r':ρt} (hs:∀ k s,k < m → I k s → ok k = true → ∃ s',B s = some (.inl s') ∧ I (k + 1) s') (hn:∀ k s,k < m → I k s → ok k = false → B s = some (.inr r'))
  (hf:∀ s,I m s → B s = some (.inr r)):∀ (d k:Nat) (s:σt),k + d = m → I k s → ∀ n,d < n → iterN B n s = some (if (List.range' k d).all ok = true then r else r')
 | 0,k,s,hk,hi,n,hn'=>by
  obtain ⟨n,rfl⟩ : ∃ j,n = j + 1:=⟨n - 1,by omega⟩
  obtain rfl:k = m:=by omega
  unfold iterN; rw [hf s hi]
  simp
 | d + 1,k,s,hk,hi,n,hn'=>by
  obtain ⟨n,rfl⟩ : ∃ j,n = j + 1:=⟨n - 1,by omega⟩
  unfold iterN
  rw [Zqw]
  cases hok:ok k with
  | true=>
   obtain ⟨s',h1,h2⟩:=hs k s (by omega) hi hok
   rw [h1]
   simp only
   rw [ZbD hs hn hf d (k + 1) s' (by omega) h2 n (by omega),Zqy,hok,ZoK]
  | false=>
   rw [hn k s (by omega) hi hok,Zqy,hok]
   simp
end Go.GL
end
section
set_option linter.unusedVariables false
namespace Go.GL
open Go.RowKit
def OpensN (P:Program) (m:Nat) (t:TypeId) (α:Type) [Rep α] (fit:α → Prop):Prop:=
 ∀ (H:Type) (enc:TypeId × Value → H) (w:World) (base:Nat) (spare:Nat → Bool) (held:Bool) (fuel:Nat) (cs:List Value) (x:DataW H × List MemPlace),
  fuel ≤ m → DataW.trod enc P w base spare held fuel t cs = some x → ∃ a:α,Rep.ok w (fun k=>k < w.heap.size) cs a ∧ fit a
section
variable {P:Program} {t e:TypeId}
theorem Opens.N {α:Type} [Rep α] {fit:α → Prop} {m:Nat} (h:Opens P t α fit):OpensN P m t α fit:=fun H enc w base spare held fuel cs x _ hx=>h H enc w base spare held fuel cs x hx
end
theorem Con.law {P:Program} {f:FuncId} {args:List Value} {Φ:List RF} {r:Bool} {w:World} {F:Nat → Prop} (hc:Con P f args [] Φ fun (_:Unit)=>([.bool r],[],[])) (hF:AllF Φ w F) (hl:∀ k,F k → k < w.heap.size) :
  Calls P f args.toArray w fun e w'=>∃ v,e = .returned v ∧ v = .bool r ∧ Chg Non w w':=by
 refine (hc w Non F (Sep.nil _ _) hF (fun _ h=>h.elim) hl (fun _ h=>h.elim)).mono ?_
 rintro e w'' ⟨i,S',F',rfl,hM',_,_⟩
 exact ⟨_,rfl,rfl,hM'.chg⟩
theorem Bd {α β:Type} {e:Option α} {f:α → Option β} {r:β} {G:Prop} (h:e.bind f = some r) (k:∀ x,e = some x → f x = some r → G):G:=by
 obtain ⟨x,h1,h2⟩:=bindE h
 exact k x h1 h2
theorem sj {α:Type} {a b:α} (h:some a = some b):a = b:=Option.some.inj h
theorem kN {p q:Prop} (h:p):q → p:=fun _=>h
section
variable {P:Program} {B:Bs} {N:Nat} {σ:List (Nat × Value)} {Γ:List HP} {Φ:List RF} {a:Act} {w:World} {K:Act → World → Prop} {Q:Exit → Act → World → Prop} {ops:Array Oper} {pds:List Pd} {j:Nat}
theorem gT {β:Type} {X Y r:β} {g':Nat} {b:Bool} (h:(if b = true then X else Y) = r) (hgd:guardOf ops j = some (g',true):=by rfl) (hn:∃ n,ops.size = n + 1:=by exact ⟨_,rfl⟩) (hp:(pds.getD g' .any).val? = some (.bool b):=by kernel_rfl) (hg:gc ops pds ops.size j):X = r:=iteT (gcT hg hgd hn hp) h
theorem gF {β:Type} {X Y r:β} {g':Nat} {b:Bool} (h:(if b = true then X else Y) = r) (hgd:guardOf ops j = some (g',false):=by rfl) (hn:∃ n,ops.size = n + 1:=by exact ⟨_,rfl⟩) (hp:(pds.getD g' .any).val? = some (.bool b):=by kernel_rfl) (hg:gc ops pds ops.size j):Y = r:=iteF (gcF hg hgd hn hp) h
theorem Zj {np:Pd} {ms:List Nat} (ow:Nat → Nat) (h:Good ops pds [] → pds.getD j .any = np.inst ow → NPB P true ms ops pds a w Q j) (hG:Good ops pds []) (e:pds.getD j .any = np.inst ow):NPO P ms ops pds a w Q ow j:=Zm1 ow (h hG e)
theorem AllP.and {α:Type} {p:Prop} {q:α → Prop}:∀ {l:List α},AllP (fun x=>p → q x) l → p → AllP q l
 | [],_,_=>trivial
 | _ :: _,h,hp=>⟨h.1 hp,h.2.and hp⟩
theorem rZ {id:Nat} {draw:Bool} (np:List (Nat × Pd)) (hs:List (Nat × Nat)) (hmix:P.follows .mixedOrders = true) (c:Cx B N σ Γ Φ a w)
  (hnp:AllP (fun p=>Good ops (pdsM P (bxsOf Γ Φ) hs ops σ np ops.size) [] → (pdsM P (bxsOf Γ Φ) hs ops σ np ops.size).getD p.1 .any = p.2 → NPB P draw (cond draw (masksN ops ops.size) []) ops (pdsM P (bxsOf Γ Φ) hs ops σ np ops.size) a w (Exit.then K Q) p.1) np)
  (h:∀ fr w',Cx B N (outS ops σ (pdsM P (bxsOf Γ Φ) hs ops σ np ops.size) ops.size) Γ Φ fr w' → K fr w')
  (hmono:AllP (fun p=>p.2.Mono Non) np:=by repeat (first | exact trivial | refine ⟨by first | exact Pd.mono_eq | exact elM | exact flM | exact rdM | exact Zfx,?_⟩))
  (hst:(stat draw (cond draw (masksN ops ops.size) []) ops [] N && statG ops (pdsM P (bxsOf Γ Φ) hs ops σ np ops.size) []) = true:=by kernel_rfl)
  (h1:(freeI np ops.size).map (fun j=>(pureB P (bxsOf Γ Φ) hs ops σ (pdsM P (bxsOf Γ Φ) hs ops σ np ops.size) j).map (·.1)) = (freeI np ops.size).map fun j=>((pdsM P (bxsOf Γ Φ) hs ops σ np ops.size).getD j .any).val?:=by kernel_rfl)
  (h2:((freeI np ops.size).all fun j=>((pdsM P (bxsOf Γ Φ) hs ops σ np ops.size).getD j .any).val?.isSome) = true:=by kernel_rfl)
  (h3:(freeI np ops.size).map (fun j=>(pureB P (bxsOf Γ Φ) hs ops σ (pdsM P (bxsOf Γ Φ) hs ops σ np ops.size) j).map fun r=>r.2.map (·.1)) = (freeI np ops.size).map fun j=>(pureB P (bxsOf Γ Φ) hs ops σ (pdsM P (bxsOf Γ Φ) hs ops σ np ops.size) j).map fun r=>r.2.map (·.2):=by kernel_rfl) :
  (Code.region id ops draw).wp P (Exit.then K Q) a w:=Rz np hs hmix c hmono (fun hG=>hnp.and hG) h hst h1 h2 h3
theorem rM (m:Nat) (np:List (Nat × Pd)) (hs:List (Nat × Nat)) (c:Cx B N σ Γ Φ a w)
  (hnp:∀ ow,AllP (fun p=>Good ops (instL ow (pdsM P (bxsOf Γ Φ) hs ops σ np m)) [] → (instL ow (pdsM P (bxsOf Γ Φ) hs ops σ np m)).getD p.1 .any = p.2.inst ow → NPO P (masksN ops ops.size) ops (instL ow (pdsM P (bxsOf Γ Φ) hs ops σ np m)) a w Q ow p.1) np)
  (h:∀ ow fr w',EndM ops (TT ops (instL ow (pdsM P (bxsOf Γ Φ) hs ops σ np m))) a m fr w' → Chg Non w w' → Cx B N (outS ops σ (pdsM P (bxsOf Γ Φ) hs ops σ np m) m) Γ Φ fr w' → wpFrom P ops Q m fr w')
  (hmono:AllP (fun p=>p.2.MonoO) np:=by repeat (first | exact trivial | refine ⟨by first | exact Pd.monoO_eq | exact elO | exact nwM | exact flO | exact rdO | exact Pd.monoO_is Zfx,?_⟩))
  (hst:(stat true (masksN ops ops.size) ops [] N && statG ops (pdsM P (bxsOf Γ Φ) hs ops σ np m) [] && sufB ops m) = true:=by kernel_rfl)
  (h1:(freeI np m).map (fun j=>(pureB P (bxsOf Γ Φ) hs ops σ (pdsM P (bxsOf Γ Φ) hs ops σ np m) j).map (·.1)) = (freeI np m).map fun j=>((pdsM P (bxsOf Γ Φ) hs ops σ np m).getD j .any).val?:=by kernel_rfl)
  (h2:((freeI np m).all fun j=>((pdsM P (bxsOf Γ Φ) hs ops σ np m).getD j .any).val?.isSome) = true:=by kernel_rfl)
  (h3:(freeI np m).map (fun j=>(pureB P (bxsOf Γ Φ) hs ops σ (pdsM P (bxsOf Γ Φ) hs ops σ np m) j).map fun r=>r.2.map (·.1)) = (freeI np m).map fun j=>(pureB P (bxsOf Γ Φ) hs ops σ (pdsM P (bxsOf Γ Φ) hs ops σ np m) j).map fun r=>r.2.map (·.2):=by kernel_rfl) :
  RA P ops Q a w:=Rm m np hs c hmono (fun ow hG=>(hnp ow).and hG) h hst h1 h2 h3
def EA (α:Type) [Rep α] (v:Value) (n:Int) (p:Addr) (u:Value):RF where
 ok w F:=(∃ ad len cap,v = .slice (some ad) len cap ∧ p = ad.add (n.toNat * Rep.sz α) ∧ 0 ≤ n ∧ n < (len:Int)) ∧ ∃ cs,u = Rep.val α cs ∧ cs.length = Rep.sz α ∧ Cells w p cs ∧ F p.block ∧ p.block < w.heap.size
 sub h hs:=⟨h.1,h.2.imp fun _ h=>⟨h.1,h.2.1,h.2.2.1,hs _ h.2.2.2.2 h.2.2.2.1,h.2.2.2.2⟩⟩
 chg h hc ht:=⟨h.1,h.2.imp fun _ h=>⟨h.1,h.2.1,h.2.2.1.keep fun _=>hc.block _ h.2.2.2.2 (ht _ h.2.2.2.1),h.2.2.2.1,ZnQ h.2.2.2.2 hc.size⟩⟩
theorem Cx.elp {α:Type} [Rep α] {v:Value} {l:List α} {n:Int} {x:α} (c:Cx B N σ Γ Φ a w) (hl:Ava [] Φ w (RO v l)) (hx:get? l n = some x):∃ p u,Cx B N σ Γ (Φ ++ [EA α v n p u,RO u x]) a w:=by
 obtain ⟨hF,S,F,h1,h2,h3⟩:=c
 have hr:RV w F v l:=hl.ro h3
 obtain ⟨b,cap,rfl,g1,g2,g3⟩:=hr.slice
 have hn:=get?_nn hx
 have hat:=get?_at hx
 have hlt:n.toNat < l.length:=(Zn9.1 hat).1
 obtain ⟨ad,rfl,hFb,hel⟩:=g3 (by rintro rfl; simp at hlt)
 obtain ⟨cs,hok,hc⟩:=Zah hel hat
 have hc:Cells w (ad.add (n.toNat * Rep.sz α)) cs:=by simpa using hc
 have hne:cs ≠ []:=by
  have h4:=Rep.len hok
  have h5:=Rep.pos (α:=α)
  rintro rfl
  simp at h4; omega
 have hb:(ad.add (n.toNat * Rep.sz α)).block < w.heap.size:=hc.lt hne
 exact ⟨ad.add (n.toNat * Rep.sz α),Rep.val α cs,hF,S,F,h1,h2,h3.join (AllF.of [EA α _ n _ _,RO _ x] ⟨⟨⟨ad,_,_,rfl,rfl,hn,by omega⟩,cs,rfl,Rep.len hok,hc,by rw [add_block]; exact hFb,hb⟩,⟨cs,hok,rfl⟩,trivial⟩)⟩
theorem Nie {draw:Bool} {ms:List Nat} {dst:Option Tmp} {t ty:TypeId} {pos:String} {af:Array Edge} {g:Option (Nat × Bool)} {x y:Operand} {α:Type} [Rep α] {e:TypeId} {v u:Value} {n:Int} {p:Addr} (c:Cx B N σ Γ Φ a w) (k:Nat) (hk:Φ[k]? = some (EA α v n p u):=by rfl)
  (ho:ops[j]? = some ⟨dst,.indexAddr t x y,ty,pos,af,g⟩:=by rfl) (ht:P.underlying t = some (.slice e):=by rfl) (he:Ty P e α:=by constructor <;> kernel_rfl) (hx:envP ops σ pds j x = some v:=by kernel_rfl) (hy:numOf (envP ops σ pds j y) = some n:=by kernel_rfl) (hG:Good ops pds []) (hpd:pds.getD j .any = .eq (.pointer (some p))):NPB P draw ms ops pds a w Q j:=by
 obtain ⟨F,⟨ad,len,cap,rfl,rfl,hn,hlt⟩,_⟩:=c.use (Ava.f k hk)
 obtain ⟨kd,hy⟩:=ZL hy
 refine Zco _ ho hG c.fr fun a' w' _ hg hv _=>?_
 have h1:=hv x _ (by simp [Op.operands]) hx
 have h2:=hv y _ (by simp [Op.operands]) hy
 refine Zh (v:=.pointer (some (ad.add (n.toNat * Rep.sz α)))) (w':=w') ?_ (by rw [hpd]; exact ⟨rfl,Chg.refl _ _⟩)
 simp [execOp,Instr.indexAt,h1,h2,asIntOf,run_underlying ht,hn,hlt,he.sizeOf]
theorem Nle {draw:Bool} {ms:List Nat} {dst:Option Tmp} {t ty:TypeId} {pos:String} {af:Array Edge} {g:Option (Nat × Bool)} {x:Operand} {α:Type} [Rep α] {v u:Value} {n:Int} {p:Addr} (c:Cx B N σ Γ Φ a w) (k:Nat) (hk:Φ[k]? = some (EA α v n p u):=by rfl)
  (ho:ops[j]? = some ⟨dst,.load t x,ty,pos,af,g⟩:=by rfl) (ht:Ty P t α:=by constructor <;> kernel_rfl) (hx:envP ops σ pds j x = some (.pointer (some p)):=by kernel_rfl) (hG:Good ops pds []) (hpd:pds.getD j .any = .eq u):NPB P draw ms ops pds a w Q j:=by
 obtain ⟨F,_,cs,rfl,hl,hc,_⟩:=c.use (Ava.f k hk)
 refine Zco _ ho hG c.fr fun a' w' hC hg hv _=>?_
 have h1:=hv x _ (by simp [Op.operands]) hx
 refine Zh (v:=Rep.val α cs) (w':=w') ?_ (by rw [hpd]; exact ⟨rfl,Chg.refl _ _⟩)
 simp [execOp,Instr.loadAt,h1,Instr.sureAddr,Yz ht hl (hc.ext hC)]
theorem Nlc {draw:Bool} {ms:List Nat} {dst:Option Tmp} {t ty:TypeId} {pos:String} {af:Array Edge} {g:Option (Nat × Bool)} {x:Operand} {α:Type} [Rep α] {v u z:Value} {n:Int} {p:Addr} (c:Cx B N σ Γ Φ a w) (k off:Nat) (hk:Φ[k]? = some (EA α v n p u):=by rfl) (hz:u.cells.toList[off]? = some z:=by rfl) (hag:Rep.agg α = true:=by rfl)
  (ho:ops[j]? = some ⟨dst,.load t x,ty,pos,af,g⟩:=by rfl) (ht:Ty P t Int:=by constructor <;> kernel_rfl) (hx:envP ops σ pds j x = some (.pointer (some (p.add off))):=by kernel_rfl) (hG:Good ops pds []) (hpd:pds.getD j .any = .eq z):NPB P draw ms ops pds a w Q j:=by
 obtain ⟨F,_,cs,rfl,hl,hc,_⟩:=c.use (Ava.f k hk)
 have hz':cs[off]? = some z:=by
  have e:Rep.val α cs = .agg cs.toArray:=by unfold Rep.val; rw [ZnC hag]
  rw [e] at hz
  simpa [Value.cells] using hz
 have hc1:Cells w (p.add off) [z]:=fun i q' hq=>by
  cases i with
  | zero=>
   simp only [Zo9,Option.some.injEq] at hq; subst hq
   rw [add_add,ZoQ]; exact hc off z hz'
  | succ i=>simp at hq
 refine Zco _ ho hG c.fr fun a' w' hC hg hv _=>?_
 have h1:=hv x _ (by simp [Op.operands]) hx
 refine Zh (v:=z) (w':=w') ?_ (by rw [hpd]; exact ⟨rfl,Chg.refl _ _⟩)
 have:=Yz ht (cs:=[z]) rfl (hc1.ext hC)
 have hv':Rep.val Int [z] = z:=rfl
 rw [hv'] at this
 simp [execOp,Instr.loadAt,h1,Instr.sureAddr,this]
theorem Cx.rk {σ':List (Nat × Value)} {Γ':List HP} {Φ':List RF} (c:Cx B N σ Γ Φ a w) (gs fs:List Nat) (hg:gs.map (fun i=>Γ[i]?) = Γ'.map some:=by kernel_rfl) (hf:fs.map (fun i=>Φ[i]?) = Φ'.map some:=by kernel_rfl)
  (hn:gs.Nodup:=by decide) (hσ:σ'.map (fun p=>σ.lookup p.1) = σ'.map fun p=>some p.2:=by kernel_rfl):Cx B N σ' Γ' Φ' a w:=c.re gs fs hg hf hn hσ
theorem Jn {x:Code} {ι:Type} (J:ι → Lpt) (c:Cx B N σ Γ Φ a w) (h1:x.wp P (fun e a' w'=>e = .normal ∧ ∃ i,CxL B N Γ Φ (J i) a' w') a w) (h2:∀ i a' w',CxL B N Γ Φ (J i) a' w' → K a' w'):x.wp P (Exit.then K Q) a w:=
 wp_mono h1 fun e a' w' ⟨he,i,hi⟩=>by subst he; exact h2 i a' w' hi
theorem nN {ι:Type} {J:ι → Lpt} {Γ0:List HP} {Φ0:List RF} (i:ι) (c:CxL B N Γ0 Φ0 (J i) a w):Exit.normal = .normal ∧ ∃ i,CxL B N Γ0 Φ0 (J i) a w:=⟨rfl,i,c⟩
end
abbrev I (x:Int):Value:=.int .i64 x
abbrev L {α:Type} (a:Option Addr) (l:List α) (c:Nat):Value:=.slice a (List.length l) c
abbrev B (b n:Nat):Value:=.pointer (some ⟨b,n,none⟩)
abbrev Oh:=Option Addr × Nat
abbrev Ob (α:Type):=Option Addr × Nat × α
abbrev lR {α:Type} [Rep α] (a:Option Addr) (l:List α) (c:Nat):RF:=RO (L a l c) l
abbrev tV (x:D.Term) (a:Option Addr) (c:Nat):Value:=.agg #[I x.Op,I x.W,I x.N,Str.val x.Name,L a x.Kids c]
abbrev tC (x:D.Term) (a:Option Addr) (c:Nat):List Value:=[I x.Op,I x.W,I x.N,Str.val x.Name,L a x.Kids c]
abbrev tR (x:D.Term) (a:Option Addr) (c:Nat):Rw.Term:=Rw.Term.mk x.Op x.W x.N x.Name ⟨a,List.length x.Kids,c⟩
abbrev tZ:List Value:=[I 0,I 0,I 0,Str.val ⟨[]⟩,L none ([]:List D.Term) 0]
abbrev eV (x:D.State) (a:Option Addr) (c:Nat) (a1:Option Addr) (c1:Nat) (a2:Option Addr) (c2:Nat) (a3:Option Addr) (c3:Nat):Value:=
 .agg #[I x.Pc,L a x.Regs c,L a1 x.Mem c1,L a2 x.Stack c2,I x.In,L a3 x.Out c3,I x.Code,I x.Steps]
abbrev vC (x:D.Value):List Value:=[Str.val x.Name,I x.W,I x.N]
abbrev bN (n m:Nat):Array Bool:=((List.range n).map fun i=>Nat.testBit m i).toArray
abbrev _root_.Prod.p2 {a b c d:Type} (X:a × b × c × d):=X.2.2.1
abbrev _root_.Prod.q2 {a b c:Type} (X:a × b × c):=X.2.2
abbrev _root_.Prod.p3 {a b c d e:Type} (X:a × b × c × d × e):=X.2.2.2.1
abbrev _root_.Prod.q3 {a b c d:Type} (X:a × b × c × d):=X.2.2.2
abbrev _root_.Prod.p4 {a b c d e f:Type} (X:a × b × c × d × e × f):=X.2.2.2.2.1
abbrev _root_.Prod.q4 {a b c d e:Type} (X:a × b × c × d × e):=X.2.2.2.2
abbrev _root_.Prod.p5 {a b c d e f g:Type} (X:a × b × c × d × e × f × g):=X.2.2.2.2.2.1
abbrev _root_.Prod.q5 {a b c d e f:Type} (X:a × b × c × d × e × f):=X.2.2.2.2.2
abbrev _root_.Prod.q6 {a b c d e f g:Type} (X:a × b × c × d × e × f × g):=X.2.2.2.2.2.2
abbrev t0 (x:D.Term):D.Term:=D.Term.mk x.Op x.W x.N x.Name ([]:List D.Term)
abbrev hd {α:Type} (a:Option Addr) (l:List α) (c:Nat):Hd:=⟨a,List.length l,c⟩
abbrev h0:Hd:=⟨none,List.length ([]:List D.Term),0⟩
abbrev L0:Value:=L none ([]:List D.Term) 0
abbrev u0 (x:D.Term):Rw.Term:=Rw.Term.mk x.Op x.W x.N x.Name h0
theorem tt:True:=trivial
theorem l1 {α:Type} (x y:α) (l:List α):(x :: l).set 0 y = y :: l:=rfl
theorem l2 {α:Type} (x y:α) (l:List α) (n:Nat):(x :: l).set (n + 1) y = x :: l.set n y:=rfl
theorem l3 {α:Type} (x:α) (l m:List α):(x :: l) ++ m = x :: (l ++ m):=rfl
theorem l4 {α:Type} (l:List α):[] ++ l = l:=rfl
theorem l5 {α:Type} (l m n:List α):(l ++ m) ++ n = l ++ (m ++ n):=Zoh l m n
theorem l6 {α:Type} (l:List α):l ++ [] = l:=Zoz l
theorem l7 (Γ:List HP):rest [] Γ = Γ:=by
 unfold rest
 generalize 0 = j
 induction Γ generalizing j with
 | nil=>rfl
 | cons x l ih=>show x :: restG [] (j + 1) l = _; rw [ih]
theorem XV (gs:List Nat):∀ (l:List HP) (j:Nat),restG (gs.map (· + 1)) (j + 1) l = restG gs j l
 | [],_=>rfl
 | x :: l,j=>by
  have e:memN (gs.map (· + 1)) (j + 1) = memN gs j:=by
   rw [ZdV,ZdV]
   induction gs with
   | nil=>rfl
   | cons g gs ih=>rw [ZnE,Zqe,Zqe,ih]; congr 1; simp
  unfold restG
  rw [e,XV gs l (j + 1)]
theorem r0 (x:HP) (l:List HP):rest [0] (x :: l) = l:=by
 show restG [0] 1 l = l
 have h:∀ (l:List HP) (j:Nat),restG [0] (j + 1) l = l:=by
  intro l
  induction l with
  | nil=>intro _; rfl
  | cons y l ih=>intro j; show y :: restG [0] (j + 1 + 1) l = _; rw [ih]
 exact h l 0
theorem r1 (x:HP) (l:List HP) (n:Nat):rest [n + 1] (x :: l) = x :: rest [n] l:=congrArg (x :: ·) (XV [n] l 0)
theorem r2 (x:HP) (l:List HP) (n m:Nat):rest [n + 1,m + 1] (x :: l) = x :: rest [n,m] l:=congrArg (x :: ·) (XV [n,m] l 0)
theorem r3 (x:HP) (l:List HP) (m:Nat):rest [0,m + 1] (x :: l) = rest [m] l:=by
 have h:∀ (l:List HP) (j:Nat),restG [0,m + 1] (j + 1) l = restG [m + 1] (j + 1) l:=by
  intro l
  induction l with
  | nil=>intro _; rfl
  | cons y l ih=>intro j; show cond (memN [m + 1] (j + 1)) _ _ = cond (memN [m + 1] (j + 1)) _ _; rw [ih (j + 1)]
 exact (h l 0).trans (XV [m] l 0)
theorem ZdQ (gs:List Nat) (l:List HP) (j:Nat):restG (0 :: gs.map (· + 1)) (j + 1) l = restG gs j l:=by
 have h:∀ (l:List HP) (j:Nat),restG (0 :: gs.map (· + 1)) (j + 1) l = restG (gs.map (· + 1)) (j + 1) l:=by
  intro l
  induction l with
  | nil=>intro _; rfl
  | cons y l ih=>intro j; show cond (memN (gs.map (· + 1)) (j + 1)) _ _ = cond (memN (gs.map (· + 1)) (j + 1)) _ _; rw [ih (j + 1)]
 exact (h l j).trans (XV gs l j)
theorem r4 (x:HP) (l:List HP) (a b c:Nat):rest [a + 1,b + 1,c + 1] (x :: l) = x :: rest [a,b,c] l:=congrArg (x :: ·) (XV [a,b,c] l 0)
theorem r5 (x:HP) (l:List HP) (b c:Nat):rest [0,b + 1,c + 1] (x :: l) = rest [b,c] l:=ZdQ [b,c] l 0
theorem r6 (x:HP) (l:List HP) (a b c d:Nat):rest [a + 1,b + 1,c + 1,d + 1] (x :: l) = x :: rest [a,b,c,d] l:=congrArg (x :: ·) (XV [a,b,c,d] l 0)
theorem r7 (x:HP) (l:List HP) (b c d:Nat):rest [0,b + 1,c + 1,d + 1] (x :: l) = rest [b,c,d] l:=ZdQ [b,c,d] l 0
theorem r8 (x:HP) (l:List HP) (a b c d e:Nat):rest [a + 1,b + 1,c + 1,d + 1,e + 1] (x :: l) = x :: rest [a,b,c,d,e] l:=congrArg (x :: ·) (XV [a,b,c,d,e] l 0)
theorem r9 (x:HP) (l:List HP) (b c d e:Nat):rest [0,b + 1,c + 1,d + 1,e + 1] (x :: l) = rest [b,c,d,e] l:=ZdQ [b,c,d,e] l 0
theorem rA (x:HP) (l:List HP) (a b c d e f:Nat):rest [a + 1,b + 1,c + 1,d + 1,e + 1,f + 1] (x :: l) = x :: rest [a,b,c,d,e,f] l:=congrArg (x :: ·) (XV [a,b,c,d,e,f] l 0)
theorem rB (x:HP) (l:List HP) (b c d e f:Nat):rest [0,b + 1,c + 1,d + 1,e + 1,f + 1] (x :: l) = rest [b,c,d,e,f] l:=ZdQ [b,c,d,e,f] l 0
theorem kk {P:Program} {t:TypeId} {α:Type} [Rep α] (h1:(P.info? t).map (·.size) = some (Rep.sz α):=by kernel_rfl)
  (h2:(match P.underlying t with | some (.struct _)=>true | some (.array _ _)=>true | some _=>false | none=>!(Rep.agg α)) = Rep.agg α:=by kernel_rfl):Ty P t α:=⟨h1,h2⟩
theorem Zm2 {ops:Array Oper} {pds:List Pd}:∀ (n j:Nat),gc ops pds n j → gc ops pds (n + 1) j
 | 0,_,h=>h.elim
 | n + 1,j,h=>by
  unfold gc at h ⊢
  cases hg:guardOf ops j with
  | none=>trivial
  | some q=>
   rw [hg] at h
   exact ⟨Zm2 n q.1 h.1,h.2⟩
section
variable {P:Program} {B:Bs} {N:Nat} {σ:List (Nat × Value)} {Γ:List HP} {Φ Φ1:List RF} {a:Act} {w:World} {Q:Exit → Act → World → Prop} {ι:Type} {R:ι → Res} {args:List Value} {f:FuncId}
variable {ops:Array Oper} {k d:Nat} {ty:TypeId} {xs:Array Operand} {ts:Array TypeId} {pos:String} {af:Array Edge}
theorem Cb (c:Cx B N σ Γ Φ a w) (hcon:Con P f args [] Φ1 R) (ro:AvaL Γ Φ w Φ1) (hf:∀ (args:Array Value) (w:World),(callFunc f args).run P w = .ok (.enter f args) w)
  (h:∀ i fr w',Cx B N ((d,tup (R i).1) :: σ) (Γ ++ (R i).2.1) Φ fr w' → wpFrom P ops Q (k + 1) fr w')
  (ho:ops[k]? = some ⟨some d,.call ⟨.value (.func f),xs,ts⟩,ty,pos,af,none⟩:=by rfl) (hd:Nat.blt d N = true:=by rfl)
  (hargs:xs.toList.map (opd σ) = args.map some:=by kernel_rfl):wpFrom P ops Q k a w:=
 Ca [] c hcon (by rw [l7]; exact ro) hf (fun i fr w' c=>h i fr w' (by rw [l7] at c; exact c)) ho hd rfl ZqE hargs
theorem Cg (c:Cx B N σ Γ Φ a w) (hcon:Con P f args [] Φ1 R) (ro:AvaL [] Φ w Φ1) (hf:∀ (args:Array Value) (w:World),(callFunc f args).run P w = .ok (.enter f args) w)
  (h:∀ i fr w',Cx B N ((d,tup (R i).1) :: σ) (Γ ++ (R i).2.1) (Φ ++ (R i).2.2) fr w' → wpFrom P ops Q (k + 1) fr w')
  (ho:ops[k]? = some ⟨some d,.call ⟨.value (.func f),xs,ts⟩,ty,pos,af,none⟩:=by rfl) (hd:Nat.blt d N = true:=by rfl)
  (hargs:xs.toList.map (opd σ) = args.map some:=by kernel_rfl):wpFrom P ops Q k a w:=
 Cf [] c hcon ro hf (fun i fr w' c=>h i fr w' (by rw [l7] at c; exact c)) ho hd rfl ZqE hargs
end
section
variable {P:Program} {B:Bs} {N:Nat} {σ:List (Nat × Value)} {Γ Γ':List HP} {Φ Φ':List RF} {a:Act} {w:World}
theorem Cx.nf (c:Cx B N σ Γ Φ a w) (h:Γ = Γ':=by first | (simp only [id_eq,ZnE,Zoy,l1,l2,l3,l4,l5,l6,l7,r0,r1,r2,r3,r4,r5,r6,r7,r8,r9,rA,rB]; rfl) | rfl):Cx B N σ Γ' Φ a w:=h ▸ c
theorem Cx.ng (c:Cx B N σ Γ Φ a w) (h:Γ = Γ':=by first | (simp only [id_eq,ZnE,Zoy,l1,l2,l3,l4,l5,l6,l7,r0,r1,r2,r3,r4,r5,r6,r7,r8,r9,rA,rB]; rfl) | rfl) (h':Φ = Φ':=by first | (simp only [l3,l4,l5,l6]; rfl) | rfl):Cx B N σ Γ' Φ' a w:=h ▸ h' ▸ c
end
theorem rE {p:Prop} (h:p:=by (first | obtain rfl:=sj h | cases h); refine wp_ret ?_; (repeat (first | with_reducible refine tr ?_ | with_reducible refine br ?_)); exact Rt c () [] []):p:=h
theorem gU {ops:Array Oper} {pds:List Pd} {j:Nat} (g:Nat) (h:gc ops pds ops.size j) (hgd:∃ b,guardOf ops j = some (g,b):=by exact ⟨_,rfl⟩) (hn:∃ n,ops.size = n + 1:=by exact ⟨_,rfl⟩):gc ops pds ops.size g:=by
 obtain ⟨n,hn⟩:=hn
 obtain ⟨b,hgd⟩:=hgd
 rw [hn] at h ⊢
 unfold gc at h
 rw [hgd] at h
 exact Zm2 n g h.1
theorem sk {α:Type} {a b:α} (h:some a = some b):b = a:=(Option.some.inj h).symm
def OD {R α:Type} [Flat R] (own:R → α → HP) (E:TypeId) (v:Value) (xs:List α):HP:=.ex fun rs:List R=>.two (SL E v rs) (.all own rs xs)
section
variable {R α:Type} [Flat R] {own own':R → α → HP} {E:TypeId} {v:Value} {rs:List R} {xs:List α} {w:World} {A:Nat → Prop}
theorem OD.len (h:(OD own E v xs).ok w A):∃ a c,v = .slice a xs.length c:=by
 obtain ⟨rs,h⟩:=h
 exact ZkT h
theorem OD.rv [Rep α] (ho:Owns own) (h:(OD own E v xs).ok w A):RV w A v xs:=by
 obtain ⟨rs,h⟩:=h
 exact Zf9 ho h
theorem OD.nil (own:R → α → HP) (E:TypeId) (w:World):(OD own E (.slice none 0 0) []).ok w Non:=⟨[],Zcf (.inr ⟨rfl,none,rfl⟩) trivial⟩
omit [Flat R] in
theorem ZiD (hi:∀ r x A,(own r x).ok w A → (own' r x).ok w A):∀ {rs:List R} {xs:List α} {A:Nat → Prop},(HP.all own rs xs).ok w A → (HP.all own' rs xs).ok w A
 | [],[],_,h=>h
 | [],_ :: _,_,h=>h.elim
 | _ :: _,[],_,h=>h.elim
 | _ :: _,_ :: _,_,h=>Zdc (fun _ h=>hi _ _ _ h) (fun _ h=>ZiD hi h) h
theorem OD.imp (hi:∀ r x A,(own r x).ok w A → (own' r x).ok w A) (h:(OD own E v xs).ok w A):(OD own' E v xs).ok w A:=by
 obtain ⟨rs,h⟩:=h
 exact ⟨rs,Zdc (fun _ h=>h) (fun _ h=>ZiD hi h) h⟩
end
def ownTn (E:TypeId):Nat → Rw.Term → D.Term → HP
 | 0,_,_=>.pure False
 | n + 1,r,t=>.two (.pure (r.Op = t.Op ∧ r.W = t.W ∧ r.N = t.N ∧ r.Name = t.Name)) (OD (ownTn E n) E r.Kids.v t.Kids)
def ownT (E:TypeId) (r:Rw.Term) (t:D.Term):HP:=.ex fun n=>ownTn E n r t
section
variable {E:TypeId} {r:Rw.Term} {t:D.Term} {w:World} {A:Nat → Prop}
theorem Zgn {w:World}:∀ (n:Nat) (A:Nat → Prop) (r:Rw.Term) (t:D.Term),(ownTn E n r t).ok w A → Rep.ok w A (Flat.enc r) t
 | 0,_,_,_,h=>h.elim
 | n + 1,A,r,t,h=>by
  obtain ⟨e1,e2,e3,e4⟩:=(ZaP h:(HP.pure _).ok w A)
  have h2:RV w A r.Kids.v t.Kids:=by
   obtain ⟨rs,h⟩:=Zaz h
   obtain ⟨B,C,h1,h2,h3,h4⟩:=h
   have hl:=Za1 h2
   have hcss:∀ k:Nat → Prop,Css w C (rs.map Flat.enc) t.Kids:=fun _=>⟨by simp [hl],fun i cs x hcs hx=>by
    rw [ZnW] at hcs
    cases hr:rs[i]? with
    | none=>rw [hr] at hcs; cases hcs
    | some q=>
     rw [hr] at hcs
     obtain rfl:=Option.some.inj hcs
     exact Zgn n C q x (Za2 h2 hr hx)⟩
   have h1':RV w A r.Kids.v rs:=RV.sub (SL.rv h1) fun k _ hk=>h4 k (.inl hk)
   have hc':Css w A (rs.map Flat.enc) t.Kids:=⟨(hcss A).1,fun i cs x hi hx=>Rep.keep ((hcss A).2 i cs x hi hx) fun k _ hk=>⟨rfl,h4 k (.inr hk)⟩⟩
   exact Ze7 h1' hc'
  have:=RV.mk_Term t h2
  refine Zhl (ρ:=Rw.Term) (α:=D.Term) (q:=r) ?_
  show RV w A (.agg #[.int .i64 r.Op,.int .i64 r.W,.int .i64 r.N,Str.val r.Name,r.Kids.v]) t
  rw [e1,e2,e3,e4]; exact this
theorem ZfJ (E:TypeId):Owns (ownT E):=⟨rfl,rfl,fun w A r x ⟨n,h⟩=>Zgn n A r x h⟩
end
section
variable {P:Program} {B:Bs} {N:Nat} {σ:List (Nat × Value)} {Γ:List HP} {Φ:List RF} {a:Act} {w:World} {Q:Exit → Act → World → Prop}
  {R α:Type} [Flat R] {own:R → α → HP} {E:TypeId} {v:Value} {rs:List R} {xs:List α}
theorem Cx.fzo [Rep α] (ho:Owns own) (i:Nat) (c:Cx B N σ Γ Φ a w) (hi:Γ[i]? = some (OD own E v xs):=by rfl):Cx B N σ (rest [i] Γ) (Φ ++ [RO v xs]) a w:=by
 obtain ⟨h,S,F,h1,h2,h3⟩:=c
 have hp:=h2.part [i] (Γ1:=[OD own E v xs]) (by simp [hi]) (by simp)
 obtain ⟨S',F',hM,hs,hr,hfz⟩:=Sep.freeze (L:=rest [i] Γ) hp h1
 exact ⟨h,S',F',hM,hs,(h3.sub fun k _ hk=>hfz k hk).add (OD.rv ho hr)⟩
theorem Cx.nilo (own:R → α → HP) (E:TypeId) (c:Cx B N σ Γ Φ a w):Cx B N σ (Γ ++ [OD own E (.slice none 0 0) []]) Φ a w:=c.gam fun S h=>ZE (Γ2:=[_]) (h.emp _ (OD.nil own E w))
theorem Cx.pack {H:HP} (L:List HP) (gs:List Nat) (c:Cx B N σ Γ Φ a w) (hi:∀ A,Sep L w A → H.ok w A) (hL:gs.map (fun i=>Γ[i]?) = L.map some:=by rfl) (hn:gs.Nodup:=by decide):Cx B N σ (rest gs Γ ++ [H]) Φ a w:=c.gam fun S h=>by
 obtain ⟨A,R,h1,h2,h3,h4,h5⟩:=Sep.split (L1:=L) (h.part gs hL hn)
 exact ZE (Γ2:=[H]) (Sep.mk_cons (hi A h1) h2 h3 h4 h5)
end
section
variable {P:Program} {B:Bs} {N:Nat} {σ:List (Nat × Value)} {Γ:List HP} {Φ:List RF} {a:Act} {w:World} {Q:Exit → Act → World → Prop}
  {R α:Type} [Flat R] {own:R → α → HP} {ops:Array Oper} {k d d2:Nat} {t t' ty ty':TypeId} {pos pos':String} {af af':Array Edge} {x y z:Operand} {E:TypeId} {v u:Value} {rs:List R} {xs r:List α}
theorem Emkd {n:Int} {zx:α} (E:TypeId) (zr:R) (hz0:∀ w,(own zr zx).ok w Non) (c:Cx B N σ Γ Φ a w) (hr:mk? n zx = some r)
  (h:∀ a' c' fr w',Cx B N ((d,.slice a' r.length c') :: σ) (Γ ++ [SL E (.slice a' r.length c') (List.replicate r.length zr),HP.all own (List.replicate r.length zr) r]) Φ fr w' → wpFrom P ops Q (k + 1) fr w')
  (ho:ops[k]? = some ⟨some d,.makeSlice t x y,ty,pos,af,none⟩:=by rfl) (hd:Nat.blt d N = true:=by rfl) (he:ElT P E R:=by refine elT ?_; kernel_rfl) (ht:P.underlying t = some (.slice E):=by kernel_rfl)
  (hz:(P.info? E).map (fun i=>i.zero.map fun z=>z.cells.toList) = some (some (Flat.enc zr)):=by kernel_rfl) (hx:opd σ x = some (.int .i64 n):=by kernel_rfl) (hy:opd σ y = some (.int .i64 n):=by kernel_rfl):wpFrom P ops Q k a w:=by
 obtain ⟨h1,h2⟩:=mk?_raw (z':=zr) hr
 refine Emk (r:=List.replicate r.length zr) E c h1 (fun a' c' fr w' c=>?_) ho hd he ht hz hx hy
 simp only [Zos] at c
 have c:=c.gam (Γ':=Γ ++ [SL E (.slice a' r.length c') (List.replicate r.length zr),HP.all own (List.replicate r.length zr) r]) fun S hs=>by
  have h3:(HP.all own (List.replicate r.length zr) r).ok w' Non:=by
   have:=Zj3 hz0 r.length w'
   rw [← h2] at this; exact this
  have:=ZE (Γ:=Γ ++ [SL E (.slice a' r.length c') (List.replicate r.length zr)]) (Γ2:=[_]) (hs.emp _ h3)
  have e:(Γ ++ [SL E (.slice a' r.length c') (List.replicate r.length zr)]) ++ [HP.all own (List.replicate r.length zr) r] = Γ ++ [SL E (.slice a' r.length c') (List.replicate r.length zr),HP.all own (List.replicate r.length zr) r]:=Zoh ..
  rw [← e]; exact this
 exact h a' c' fr w' c
theorem Esetd {n:Int} {q:R} {e:α} (i j m:Nat) (c:Cx B N σ Γ Φ a w) (hr:set? xs n e = some r)
  (h:∀ p fr w',Cx B N ((d,p) :: σ) (rest [j,m] (Γ.set i (SL E v (rs.set n.toNat q))) ++ [HP.all own (rs.set n.toNat q) r]) Φ fr w' → wpFrom P ops Q (k + 2) fr w') (hi:Γ[i]? = some (SL E v rs):=by rfl) (hj:Γ[j]? = some (HP.all own rs xs):=by rfl) (hm:Γ[m]? = some (own q e):=by rfl) (hne:[i,j,m].Nodup:=by decide)
  (ho:ops[k]? = some ⟨some d,.indexAddr t x y,ty,pos,af,none⟩:=by rfl) (ho':ops[k + 1]? = some ⟨none,.store t' (.tmp d) z,ty',pos',af',none⟩:=by rfl) (hte:t' = E:=by rfl) (hd:Nat.blt d N = true:=by rfl) (hz:z ≠ .tmp d:=by simp)
  (he:Ty P E R:=by constructor <;> kernel_rfl) (ht:P.underlying t = some (.slice E):=by kernel_rfl) (hx:opd σ x = some v:=by kernel_rfl) (hy:numOf (opd σ y) = some n:=by kernel_rfl) (hq:opd σ z = some (Rep.val R (Flat.enc q)):=by kernel_rfl):wpFrom P ops Q k a w:=by
 have hl:rs.length = xs.length:=by
  obtain ⟨_,S,F,_,hs,_⟩:=id c
  exact hs.dlen j hj
 obtain ⟨h1,h2,h3⟩:=set?_raw (l':=rs) q hr hl
 refine Eset i c h1 (fun p fr w' c=>h p fr w' (c.gam fun S hs=>?_)) hi ho ho' hte hd hz he ht hx hy hq
 simp only [ZpY,Zof,Zpy,or_false,not_or,not_false_eq_true,ZqE,ZrF] at hne
 have hp:=hs.part [j,m] (Γ1:=[HP.all own rs xs,own q e]) (by simp [ZoU,hne.1.1,hne.1.2,hj,hm]) (by simp [hne.2])
 refine ZE (Γ2:=[_]) (Sep.merge hp fun A hA=>?_)
 rw [h2]
 exact ZlY h3 (Zbk hA)
end
theorem Sep.sole {X:HP} {w:World} {S:Nat → Prop} (h:Sep [X] w S):X.ok w S:=by
 obtain ⟨A,B,h1,_,_,h2,_⟩:=h.cons_ok
 exact X.big h1 h2
section
variable {P:Program} {B:Bs} {N:Nat} {σ:List (Nat × Value)} {Γ L:List HP} {Φ:List RF} {a:Act} {w:World} {S:Nat → Prop} {Q:Exit → Act → World → Prop}
  {R α:Type} [Flat R] {own:R → α → HP} {E:TypeId} {v:Value} {n:Int} {r:R} {x y:α} {xs ys:List α}
end
section
variable {P:Program} {B:Bs} {N:Nat} {σ:List (Nat × Value)} {Γ:List HP} {Φ:List RF} {a:Act} {w:World} {Q:Exit → Act → World → Prop}
  {R α:Type} [Flat R] {own:R → α → HP} {ops:Array Oper} {k d d2 d3:Nat} {t t' s' ty ty' ty2:TypeId} {pos pos' pos2:String} {af af' af2:Array Edge} {x y z:Operand} {E:TypeId} {v:Value} {xs:List α} {r:R} {fl off:Nat} {n:Int}
end
theorem SL.len {α:Type} [Rep α] {E:TypeId} {v:Value} {l:List α} {w:World} {A:Nat → Prop} (h:(SL E v l).ok w A):∃ a c,v = .slice a l.length c:=by
 rcases h with ⟨go,ho⟩ | ⟨rfl,a,rfl⟩
 ·exact ho.slice
 ·exact ⟨a,0,rfl⟩
def waits (ops:Array Oper) (i:Nat):List Nat:=((ops[i]?).map fun o=>(o.after.toList.filter fun e=>Region.binds .any e).map (·.on)).getD []
theorem mem_ready {ops:Array Oper} {L:Array Bool} {i:Nat}:i ∈ Region.ready .any ops L ↔ i < ops.size ∧ L.getD i true = false ∧ ∀ e ∈ waits ops i,L.getD e false = true:=by
 unfold Region.ready
 rw [Zoc,Zoa]
 refine and_congr_right fun hi=>?_
 have ho:ops[i]? = some ops[i]:=ZoA hi
 unfold waits
 rw [ho]
 simp only [ZnM,Zol,ZnB,ZoO]
 refine and_congr_right fun _=>?_
 rw [← Array.all_toList,ZnP]
 constructor
 ·intro h e he
  rw [ZoB] at he
  obtain ⟨x,hx,rfl⟩:=he
  rw [Zoc] at hx
  simpa [hx.2] using h x hx.1
 ·intro h x hx
  cases hb:Region.binds .any x
  ·simp
  ·simpa using h x.on (ZoB.2 ⟨x,Zoc.2 ⟨hx,hb⟩,rfl⟩)
theorem Zel {P:Program} {ops:Array Oper} {Q:Exit → Act → World → Prop} {i:Nat} {o:Oper} {K:Act → World → Prop} {a:Act} {w:World} (ho:ops[i]? = some o) (h:wpOp P ops Q i K a w) :
  wpOp P ops Q i (fun a' w'=>K a' w' ∧ ∀ t,o.dst ≠ some t → a'.eval (.tmp t) = a.eval (.tmp t)) a w:=by
 have hput:∀ (b:Act) v t,o.dst ≠ some t → (b.tmps = a.tmps) → (b.put o.dst v).eval (.tmp t) = a.eval (.tmp t):=by
  intro b v t ht hb
  cases hd:o.dst with
  | none=>simp [Act.put,Act.eval,hb]
  | some d=>
   rw [hd] at ht
   have:d ≠ t:=fun e=>ht (by rw [e])
   simp [Act.put,Act.eval,hb,Zn7,this]
 unfold wpOp at *
 simp only [ho] at h ⊢
 split
 ·rename_i hw
  simp only [hw,ZnV] at h
  refine h.imp (fun h=>?_) id
  unfold Oper.wp at *
  generalize (execOp a.eval o).run P w = r at *
  cases r with
  | ok n w'=>
   cases n <;> simp only [Oper.upon] at h ⊢ <;>
    first
     | exact ⟨h,fun t ht=>hput _ _ t ht rfl⟩
     | exact Calls.mono h (fun e w'' he=>by cases e <;> first | exact ⟨he,fun t ht=>hput _ _ t ht rfl⟩ | exact he)
     | exact Rows.mono h (fun _ _ he=>⟨he,fun t ht=>hput _ _ t ht rfl⟩)
  | halt x w'=>cases x <;> simp only [Oper.upon] at h ⊢ <;> exact h
 ·rename_i hw
  simp only [hw] at h
  exact ⟨h,fun t ht=>hput _ _ t ht rfl⟩
structure RelM (ops:Array Oper) (mE:Array Bool) (qi:List Nat) (m:Array Bool):Prop where
 size:m.size = ops.size
 same:∀ k,k < ops.size → k ∉ qi → m.getD k false = mE.getD k false
 closed:∀ k,k < ops.size → m.getD k false = true → ∀ e ∈ waits ops k,m.getD e false = true
theorem ZfA {m:Array Bool} {k:Nat} (h:k < m.size):m.getD k true = m.getD k false:=by
 simp [Zn7,ZoA h]
def acyc (ops:Array Oper):Bool:=(List.range ops.size).all fun i=>(waits ops i).all fun e=>Nat.blt e i
theorem ZcJ {ops:Array Oper} (h:acyc ops = true) {i e:Nat} (hi:i < ops.size) (he:e ∈ waits ops i):e < i:=by
 unfold acyc at h
 rw [ZnP] at h
 have:=h i (Zoa.2 hi)
 rw [ZnP] at this
 exact Zon.mp (this e he)
theorem Zkp {ops:Array Oper} {m:Array Bool} (hac:acyc ops = true) (hs:m.size = ops.size) (hr:Region.ready .any ops m = []):∀ k,k < ops.size → m.getD k false = true:=by
 intro k
 induction k using Nat.strongRecOn with
 | _ k ih=>
  intro hk
  cases hm:m.getD k false with
  | true=>rfl
  | false=>
   exfalso
   have:k ∈ Region.ready .any ops m:=mem_ready.2 ⟨hk,by rw [ZfA (by omega)]; exact hm,fun e he=>by
    have:=ZcJ hac hk he
    exact ih e this (by omega)⟩
   rw [hr] at this
   cases this
def clo (ops:Array Oper):Nat → List Nat → List Nat
 | 0,s=>s
 | n + 1,s=>match (s.flatMap (waits ops)).filter (fun e=>!memN s e) with
  | []=>s
  | t=>clo ops n (s ++ t)
theorem ZeB {ops:Array Oper} {m:Array Bool} (hac:acyc ops = true) (hc:∀ k,k < ops.size → m.getD k false = true → ∀ e ∈ waits ops k,m.getD e false = true):∀ (n:Nat) (s:List Nat),(∀ k ∈ s,k < ops.size ∧ m.getD k false = true) → ∀ k ∈ clo ops n s,m.getD k false = true
 | 0,s,h,k,hk=>(h k hk).2
 | n + 1,s,h,k,hk=>by
  unfold clo at hk
  split at hk
  ·exact (h k hk).2
  ·refine ZeB hac hc n _ (fun x hx => ?_) k hk
   rcases ZnS.1 hx with hx | hx
   ·exact h x hx
   ·obtain ⟨y, hy, hx⟩ := List.mem_flatMap.1 (Zoc.1 hx).1
    obtain ⟨h1,h2⟩:=h y hy
    have:=ZcJ hac h1 hx
    exact ⟨by omega,hc y h1 h2 x hx⟩
abbrev Quiets:=List (Nat × Nat × Value)
def slots (qs:Quiets) (l:List Nat):List (Nat × Value):=(qs.filter fun q=>memN l q.1).map (·.2)
section
variable (P:Program) (ops:Array Oper) (Q:Exit → Act → World → Prop) (B:Bs) (N:Nat)
def QN (σ:List (Nat × Value)) (Γ:List HP) (Φ:List RF) (mE:Array Bool) (qs:Quiets):Prop:=
 ∀ f a w m,Cx B N σ Γ Φ a w → RelM ops mE (qs.map (·.1)) m → (∀ q ∈ qs,m.getD q.1 false = true → a.eval (.tmp q.2.1) = q.2.2) → m.toList.count false ≤ f → wpAny P .any ops Q f m a w
def nextB (mE:Array Bool) (qs:Quiets) (i:Nat) (mE':Array Bool) (qs':Quiets):Bool:=
 (mE'.size == ops.size) && ((List.range ops.size).all fun k=>memN (qs'.map (·.1)) k || (Nat.beq k i || memN (clo ops ops.size (waits ops i)) k) && mE'.getD k false || !Nat.beq k i && !memN (qs.map (·.1)) k && (mE'.getD k false == mE.getD k false)) && (match ops[i]? with | some o=>qs'.all fun q=>o.dst != some q.2.1 | none=>false)
def Nxt (mE:Array Bool) (qs:Quiets) (i:Nat) (a:Act) (w:World):Prop:=
 ∃ σ' Γ' Φ' mE' qs',Cx B N σ' Γ' Φ' a w ∧ QN P ops Q B N σ' Γ' Φ' mE' qs' ∧ nextB ops mE qs i mE' qs' = true ∧ (qs'.filter fun q=>memN (qs.map (·.1)) q.1) = (qs.filter fun q=>memN (qs'.map (·.1)) q.1) ∧ (qs'.all fun q=>memN (qs.map (·.1)) q.1 || memN (clo ops ops.size (waits ops q.1)) i) = true
end
theorem Xi {l:List Nat} {k:Nat}:memN l k = true ↔ k ∈ l:=by
 induction l with
 | nil=>exact ⟨(fun h=>(by cases h)),(fun h=>(by cases h))⟩
 | cons x l ih=>
  rw [memN,Zo6,ih,Zof]
  exact or_congr ⟨fun h=>(ZpF h).symm,fun h=>by subst h; exact Nat.beq_refl _⟩ Iff.rfl
theorem Zho {β γ:Type} {f:β → γ}:∀ {l:List β},(l.map f).Nodup → ∀ {x y:β},x ∈ l → y ∈ l → f x = f y → x = y
 | z :: l,h,x,y,hx,hy,e=>by
  rw [ZnE,ZpY] at h
  obtain ⟨h1,h2⟩:=h
  rcases Zof.1 hx with ex | hx1
  ·rcases Zof.1 hy with ey | hy1
   ·rw [ex,ey]
   ·exact absurd (ZoB.2 ⟨y,hy1,by rw [← e,ex]⟩) h1
  ·rcases Zof.1 hy with ey | hy1
   ·exact absurd (ZoB.2 ⟨x,hx1,by rw [e,ey]⟩) h1
   ·exact Zho h2 hx1 hy1 e
theorem cntL:∀ {l:List Bool} {i:Nat},l[i]? = some false → (l.set i true).count false + 1 = l.count false
 | [],_,h=>by simp at h
 | x :: l,0,h=>by
  simp only [Zo9,Option.some.injEq] at h
  subst h; simp
 | x :: l,i + 1,h=>by
  simp only [ZqJ] at h
  have:=cntL h
  simp only [List.set_cons_succ,ZqU]
  omega
theorem cntS {m:Array Bool} {i:Nat} (hi:i < m.size) (h:m.getD i false = false):(m.setIfInBounds i true).toList.count false + 1 = m.toList.count false:=by
 rw [ZpL]
 exact cntL (by simpa [Zn7,ZoA hi] using h)
section
variable {P:Program} {ops:Array Oper} {Q:Exit → Act → World → Prop} {B:Bs} {N:Nat} {σ:List (Nat × Value)} {Γ:List HP} {Φ:List RF} {mE:Array Bool} {qs:Quiets}
theorem Zi7 {σ:List (Nat × Value)} {a:Act} (h:FrS N σ a):∀ (l:List (Nat × Value)),(∀ p ∈ l,a.eval (.tmp p.1) = p.2) → FrS N (l ++ σ) a
 | [],_=>h
 | p :: l,hl=>(Zi7 h l fun q hq=>hl q (ZnZ _ hq)).cons (hl p ZnR)
theorem Cx.adds {a:Act} {w:World} (c:Cx B N σ Γ Φ a w) (l:List (Nat × Value)) (h:∀ p ∈ l,a.eval (.tmp p.1) = p.2):Cx B N (l ++ σ) Γ Φ a w:=⟨Zi7 c.fr l h,c.me⟩
theorem qnode (rs:List Nat) (hac:acyc ops = true) (hms:mE.size = ops.size)
  (hqd:∀ q ∈ qs,∃ o,ops[q.1]? = some o ∧ o.dst = some q.2.1) (hnd:(qs.map (·.1)).Nodup) (hnd2:(qs.map (·.2.1)).Nodup) (hσ:∀ q ∈ qs,σ.lookup q.2.1 = none)
  (hqe:∀ q ∈ qs,∀ a w,Cx B N (slots qs (waits ops q.1) ++ σ) Γ Φ a w → wpOp P ops Q q.1 (fun a' w'=>Cx B N ((q.2.1,q.2.2) :: (slots qs (waits ops q.1) ++ σ)) Γ Φ a' w') a w)
  (hrs:∀ i,i < ops.size → i ∉ qs.map (·.1) → mE.getD i false = false → (∀ e ∈ waits ops i,e ∈ qs.map (·.1) ∨ mE.getD e false = true) → i ∈ rs)
  (hev:∀ i ∈ rs,∀ a w,Cx B N (slots qs (clo ops ops.size (waits ops i)) ++ σ) Γ Φ a w → wpOp P ops Q i (Nxt P ops Q B N mE qs i) a w)
  (hend:(∃ k,k < ops.size ∧ k ∉ qs.map (·.1) ∧ mE.getD k false = false) ∨ ∀ a w,Cx B N (qs.map (·.2) ++ σ) Γ Φ a w → Q .normal a w):QN P ops Q B N σ Γ Φ mE qs:=by
 have hfin:∀ a w m,Cx B N σ Γ Φ a w → RelM ops mE (qs.map (·.1)) m → (∀ q ∈ qs,m.getD q.1 false = true → a.eval (.tmp q.2.1) = q.2.2) → (∀ k,k < ops.size → m.getD k false = true) → Q .normal a w:=by
  intro a w m c hr hq hall
  rcases hend with ⟨k,h1,h2,h3⟩ | h
  ·have := hr.same k h1 h2
   rw [hall k h1,h3] at this; cases this
  ·refine h a w (c.adds _ fun p hp => ?_)
   obtain ⟨q,hq',rfl⟩:=ZoB.1 hp
   obtain ⟨o,ho,_⟩:=hqd q hq'
   exact hq q hq' (hall _ (ZnU.1 ho).1)
 intro f
 induction f with
 | zero=>
  intro a w m c hr hq hf
  have hall:∀ k,k < ops.size → m.getD k false = true:=fun k hk=>by
   cases hm:m.getD k false with
   | true=>rfl
   | false=>
    have h1:k < m.size:=by rw [hr.size]; exact hk
    have:=cntS h1 hm
    omega
  refine ⟨List.eq_nil_iff_forall_not_mem.2 fun i hi=>?_,hfin a w m c hr hq hall⟩
  obtain ⟨h1,h2,_⟩:=mem_ready.1 hi
  rw [ZfA (by rw [hr.size]; exact h1),hall i h1] at h2; cases h2
 | succ f ih=>
  intro a w m c hr hq hf
  refine ⟨fun hn=>hfin a w m c hr hq (Zkp hac hr.size hn),fun i hi=>?_⟩
  obtain ⟨h1,h2,h3⟩:=mem_ready.1 hi
  have him:i < m.size:=by rw [hr.size]; exact h1
  rw [ZfA him] at h2
  have hcnt:=cntS him h2
  have hget:∀ k,k ≠ i → (m.setIfInBounds i true).getD k false = m.getD k false:=fun k hk=>by
   simp [Zn7,Array.getElem?_setIfInBounds_ne (Ne.symm hk)]
  have hgeti:(m.setIfInBounds i true).getD i false = true:=by
   simp [Zn7,him]
  have hclosed:∀ k,k < ops.size → (m.setIfInBounds i true).getD k false = true → ∀ e ∈ waits ops k,(m.setIfInBounds i true).getD e false = true:=fun k hk hkm e he=>by
   by_cases ei:e = i
   ·rw [ei]; exact hgeti
   ·rw [hget e ei]
    by_cases ki:k = i
    ·rw [ki] at he; exact h3 e he
    ·rw [hget k ki] at hkm; exact hr.closed k hk hkm e he
  obtain ⟨o,ho⟩ : ∃ o,ops[i]? = some o:=⟨ops[i],ZoA h1⟩
  by_cases hiq:i ∈ qs.map (·.1)
  ·obtain ⟨q, hqm, rfl⟩ := ZoB.1 hiq
   have c1:Cx B N (slots qs (waits ops q.1) ++ σ) Γ Φ a w:=c.adds _ fun p hp=>by
    unfold slots at hp
    obtain ⟨q',hq',rfl⟩:=ZoB.1 hp
    obtain ⟨g1,g2⟩:=Zoc.1 hq'
    exact hq q' g1 (h3 _ (Xi.1 g2))
   refine wpOp_mono (fun a' w' ⟨c2,hfr⟩=>?_) (Zel ho (hqe q hqm a w c1))
   obtain ⟨o',ho',hd⟩:=hqd q hqm
   rw [ho] at ho'
   cases ho'
   refine ih a' w' _ ⟨⟨c2.fr.defers,c2.fr.size,fun t v hv=>?_⟩,c2.me⟩ ⟨by simp [hr.size],fun k hk hkq=>?_,hclosed⟩ (fun p hp hpm=>?_) (by omega)
   ·have ht : t ≠ q.2.1 := fun e => by rw [e, hσ q hqm] at hv; cases hv
    rw [hfr t (by rw [hd]; intro e; exact ht (Option.some.inj e).symm)]
    exact c.fr.get t v hv
   ·rw [hget k (fun e => hkq (by rw [e]; exact hiq))]
    exact hr.same k hk hkq
   ·by_cases e : p.1 = q.1
    ·have : p = q := Zho hnd hp hqm e
     subst this
     exact c2.fr.get _ _ (by simp)
    ·rw [hget _ e] at hpm
     have hne:p.2.1 ≠ q.2.1:=fun e2=>e (by rw [Zho hnd2 hp hqm e2])
     rw [hfr p.2.1 (by rw [hd]; intro e3; exact hne (Option.some.inj e3).symm)]
     exact hq p hp hpm
  ·have hmE : mE.getD i false = false := by rw [← hr.same i h1 hiq]; exact h2
   have hin:=hrs i h1 hiq hmE fun e he=>by
    by_cases hq':e ∈ qs.map (·.1)
    ·exact .inl hq'
    ·have := ZcJ hac h1 he
     exact .inr (by rw [← hr.same e (by omega) hq']; exact h3 e he)
   have hclo:∀ k ∈ clo ops ops.size (waits ops i),m.getD k false = true:=ZeB hac hr.closed _ _ fun k hk=>⟨by have:=ZcJ hac h1 hk; omega,h3 k hk⟩
   have c1:Cx B N (slots qs (clo ops ops.size (waits ops i)) ++ σ) Γ Φ a w:=c.adds _ fun p hp=>by
    unfold slots at hp
    obtain ⟨q',hq',rfl⟩:=ZoB.1 hp
    obtain ⟨g1,g2⟩:=Zoc.1 hq'
    exact hq q' g1 (hclo _ (Xi.1 g2))
   refine wpOp_mono (fun a' w' ⟨⟨σ',Γ',Φ',mE',qs',c2,hN,hb,hdl,hnw⟩,hfr⟩=>?_) (Zel ho (hev i hin a w c1))
   unfold nextB at hb
   simp only [ho,ZnB,ZoN] at hb
   obtain ⟨⟨b1,b2⟩,b3⟩:=hb
   have hsub:∀ p ∈ qs',p ∈ qs ∨ memN (clo ops ops.size (waits ops p.1)) i = true:=fun p hp=>by
    have h:=ZnP.1 hnw p hp
    rw [Zo6] at h
    refine h.imp (fun h=>?_) id
    have:p ∈ qs'.filter fun q=>memN (qs.map (·.1)) q.1:=Zoc.2 ⟨hp,h⟩
    rw [hdl] at this
    exact (Zoc.1 this).1
   refine hN f a' w' _ c2 ⟨by simp [hr.size],fun k hk hkq=>?_,hclosed⟩ (fun p hp hpm=>?_) (by omega)
   ·rw [ZnP] at b2
    have:=b2 k (Zoa.2 hk)
    have hkq':memN (qs'.map (·.1)) k = false:=by
     cases h:memN (qs'.map (·.1)) k with
     | false=>rfl
     | true=>exact absurd (Xi.1 h) hkq
    rw [hkq',Zo4,Zo6] at this
    rcases this with this | this
    ·rw [ZnB, Zo6] at this
     rw [this.2]
     by_cases ki:k = i
     ·rw [ki]; exact hgeti
     ·rw [hget k ki]
      rcases this.1 with h | h
      ·exact absurd (ZpF h) ki
      ·exact hclo k (Xi.1 h)
    ·rw [ZnB, ZnB, ZoN] at this
     have hkn:k ∉ qs.map (·.1):=fun h=>by rw [Xi.2 h] at this; simp at this
     by_cases ki:k = i
     ·rw [ki] at this; simp at this
     ·rw [hget k ki,this.2]; exact hr.same k hk hkn
   ·have hne:o.dst ≠ some p.2.1:=by
     rw [ZnP] at b3
     simpa using b3 p hp
    rw [hfr _ hne]
    by_cases ki:p.1 = i
    ·rcases hsub p hp with h | h
     ·exact absurd (ZoB.2 ⟨p,h,ki⟩) hiq
     ·rw [ki] at h
      rw [hclo i (Xi.1 h)] at h2; cases h2
    ·rw [hget _ ki] at hpm
     rcases hsub p hp with h | h
     ·exact hq p h hpm
     ·exfalso
      have hlt:p.1 < ops.size:=by
       cases hlt:decide (p.1 < ops.size) with
       | true=>exact of_decide_eq_true hlt
       | false=>
        have:¬ p.1 < m.size:=by rw [hr.size]; exact of_decide_eq_false hlt
        rw [Zn7,Zpd (by omega)] at hpm
        cases hpm
      have:=ZeB hac hr.closed ops.size (waits ops p.1) (fun k hk=>⟨by have:=ZcJ hac hlt hk; omega,hr.closed p.1 hlt hpm k hk⟩) i (Xi.1 h)
      rw [this] at h2; cases h2
def nodeB (ops:Array Oper) (σ:List (Nat × Value)) (mE:Array Bool) (qs:Quiets) (rs:List Nat):Bool:=
 acyc ops && (mE.size == ops.size) && (qs.all fun q=>match ops[q.1]? with | some o=>o.dst == some q.2.1 | none=>false) && ndN (qs.map (·.1)) && ndN (qs.map (·.2.1)) && (qs.all fun q=>!memN (σ.map (·.1)) q.2.1) &&
  (List.range ops.size).all fun i=>memN (qs.map (·.1)) i || mE.getD i false || !((waits ops i).all fun e=>memN (qs.map (·.1)) e || mE.getD e false) || memN rs i
theorem qnode' (rs:List Nat) (hb:nodeB ops σ mE qs rs = true)
  (hqe:AllP (fun q=>∀ a w,Cx B N (slots qs (waits ops q.1) ++ σ) Γ Φ a w → wpOp P ops Q q.1 (fun a' w'=>Cx B N ((q.2.1,q.2.2) :: (slots qs (waits ops q.1) ++ σ)) Γ Φ a' w') a w) qs)
  (hev:AllP (fun i=>∀ a w,Cx B N (slots qs (clo ops ops.size (waits ops i)) ++ σ) Γ Φ a w → wpOp P ops Q i (Nxt P ops Q B N mE qs i) a w) rs)
  (hend:(∃ k,k < ops.size ∧ k ∉ qs.map (·.1) ∧ mE.getD k false = false) ∨ ∀ a w,Cx B N (qs.map (·.2) ++ σ) Γ Φ a w → Q .normal a w):QN P ops Q B N σ Γ Φ mE qs:=by
 unfold nodeB at hb
 simp only [ZnB,ZoN] at hb
 obtain ⟨⟨⟨⟨⟨⟨b1,b2⟩,b3⟩,b4⟩,b5⟩,b6⟩,b7⟩:=hb
 refine qnode rs b1 b2 (fun q hq=>?_) (Zca b4) (Zca b5) (fun q hq=>?_) (fun q hq=>hqe.mem hq) (fun i h1 h2 h3 h4=>?_) (fun i hi=>hev.mem hi) hend
 ·have := ZnP.1 b3 q hq
  split at this
  ·rename_i o ho; exact ⟨o,ho,by simpa using this⟩
  ·cases this
 ·have := ZnP.1 b6 q hq
  cases h:σ.lookup q.2.1 with
  | none=>rfl
  | some v=>
   have hm:q.2.1 ∈ σ.map (·.1):=ZoB.2 ⟨_,Zag h,rfl⟩
   rw [Xi.2 hm] at this; cases this
 ·have := ZnP.1 b7 i (Zoa.2 h1)
  have e1:memN (qs.map (·.1)) i = false:=by
   cases h:memN (qs.map (·.1)) i with
   | false=>rfl
   | true=>exact absurd (Xi.1 h) h2
  have e2:((waits ops i).all fun e=>memN (qs.map (·.1)) e || mE.getD e false) = true:=ZnP.2 fun e he=>by
   rcases h4 e he with h | h
   ·rw [Xi.2 h]; rfl
   ·rw [h]; simp
  rw [e1,h3,e2] at this
  exact Xi.1 (by simpa using this)
theorem qn (rs:List Nat) (hqe:AllP (fun q=>∀ a w,Cx B N (slots qs (waits ops q.1) ++ σ) Γ Φ a w → wpOp P ops Q q.1 (fun a' w'=>Cx B N ((q.2.1,q.2.2) :: (slots qs (waits ops q.1) ++ σ)) Γ Φ a' w') a w) qs)
  (hev:AllP (fun i=>∀ a w,Cx B N (slots qs (clo ops ops.size (waits ops i)) ++ σ) Γ Φ a w → wpOp P ops Q i (Nxt P ops Q B N mE qs i) a w) rs) (hb:nodeB ops σ mE qs rs = true:=by kernel_rfl)
  (hk:((List.range ops.size).any fun k=>!memN (qs.map (·.1)) k && !mE.getD k false) = true:=by kernel_rfl):QN P ops Q B N σ Γ Φ mE qs:=qnode' rs hb hqe hev (.inl (by
 obtain ⟨k,h1,h2⟩:=List.any_eq_true.1 hk
 rw [ZnB] at h2
 refine ⟨k,Zoa.1 h1,fun h=>?_,by simpa using h2.2⟩
 rw [Xi.2 h] at h2
 simp at h2))
theorem qnE (hqe:AllP (fun q=>∀ a w,Cx B N (slots qs (waits ops q.1) ++ σ) Γ Φ a w → wpOp P ops Q q.1 (fun a' w'=>Cx B N ((q.2.1,q.2.2) :: (slots qs (waits ops q.1) ++ σ)) Γ Φ a' w') a w) qs)
  (hend:∀ a w,Cx B N (qs.map (·.2) ++ σ) Γ Φ a w → Q .normal a w) (hb:nodeB ops σ mE qs [] = true:=by kernel_rfl):QN P ops Q B N σ Γ Φ mE qs:=qnode' [] hb hqe trivial (.inr hend)
theorem Dq {ι:Type} {L:Array Bool} {fuel0:Nat} {a0:Act} {w0:World} (J:ι → Lpt) (mE:Array Bool) (qs:ι → Quiets) (c:Cx B N σ Γ Φ a0 w0) (hx:∀ i,QN P ops Q B N (J i).1 ((J i).2.1 Γ) (Φ ++ (J i).2.2) mE (qs i)) (k:(∀ i,QN P ops Q B N (J i).1 ((J i).2.1 Γ) (Φ ++ (J i).2.2) mE (qs i)) → wpAny P .any ops Q fuel0 L a0 w0):wpAny P .any ops Q fuel0 L a0 w0:=k hx
theorem nQ {ι:Type} {J:ι → Lpt} {mE':Array Bool} {qs':ι → Quiets} {Γ0:List HP} {Φ0:List RF} {j:Nat} {a:Act} {w:World} (h:∀ i,QN P ops Q B N (J i).1 ((J i).2.1 Γ0) (Φ0 ++ (J i).2.2) mE' (qs' i)) (i:ι) (c:CxL B N Γ0 Φ0 (J i) a w) (hb:nextB ops mE qs j mE' (qs' i) = true:=by kernel_rfl)
  (hq:((qs' i).filter fun q=>memN (qs.map (·.1)) q.1) = (qs.filter fun q=>memN ((qs' i).map (·.1)) q.1):=by kernel_rfl) (hw:((qs' i).all fun q=>memN (qs.map (·.1)) q.1 || memN (clo ops ops.size (waits ops q.1)) j) = true:=by kernel_rfl):Nxt P ops Q B N mE qs j a w:=⟨_,_,_,_,_,c,h i,hb,hq,hw⟩
theorem q0 {a:Act} {w:World} (c:Cx B N σ Γ Φ a w) (h:QN P ops Q B N σ Γ Φ (Array.replicate ops.size false) qs):wpAny P .any ops Q ops.size (Array.replicate ops.size false) a w:=by
 have hf:∀ k,(Array.replicate ops.size false).getD k false = false:=fun k=>by
  rw [Zn7,Zpj]; split <;> rfl
 refine h _ a w _ c ⟨by simp,fun _ _ _=>rfl,fun k _ hk=>?_⟩ (fun q _ hq=>?_) (by simp)
 ·rw [hf] at hk; cases hk
 ·rw [hf] at hq; cases hq
theorem qP {S:List (Nat × Value)} {i d:Nat} {v:Value} {o:Oper} (hs:List (Nat × Nat)) (ho:ops[i]? = some o:=by rfl) (hg:o.guard = none:=by rfl)
  (hk:(seqB P N (bxsOf Γ Φ) hs 0 [o] S).map (fun r=>r.2.map (·.1)) = some (((seqB P N (bxsOf Γ Φ) hs 0 [o] S).map (fun r=>r.2.map (·.2))).getD []):=by kernel_rfl) (hσ:((seqB P N (bxsOf Γ Φ) hs 0 [o] S).getD ([],[])).1 = (d,v) :: S:=by kernel_rfl) (a:Act) (w:World) (c:Cx B N S Γ Φ a w):wpOp P ops Q i (fun a' w'=>Cx B N ((d,v) :: S) Γ Φ a' w') a w:=
 ZM o ho hg (Fp (ops:=#[o]) (k:=0) hs 1 c (fun fr c=>E0 (by rw [← hσ]; exact c) rfl) hk)
theorem qV {S:List (Nat × Value)} {i d:Nat} {v:Value} {o:Oper} (ho:ops[i]? = some o) (hg:o.guard = none) (hd:o.dst = some d) (hdN:Nat.blt d N = true) {a:Act} {w:World} (c:Cx B N S Γ Φ a w) (hv:Does P o a w fun v' w'=>v' = v ∧ w' = w):wpOp P ops Q i (fun a' w'=>Cx B N ((d,v) :: S) Γ Φ a' w') a w:=
 ZM o ho hg (Zdm (ops:=#[o]) (k:=0) (o:=o) rfl hg hv fun v' w' hw=>by
  obtain ⟨rfl,rfl⟩:=hw
  refine E0 ?_ rfl
  show Cx B N ((d,v') :: S) Γ Φ (a.put o.dst v') w'
  rw [hd]
  exact c.to (c.fr.put (Zon.mp hdN) _))
section
variable {S:List (Nat × Value)} {i d:Nat} {dst:Option Tmp} {t ty:TypeId} {pos:String} {af:Array Edge} {x y:Operand} {α:Type} [Rep α] {e:TypeId} {v u:Value} {n:Int} {p:Addr}
theorem qI (k:Nat) (hk:Φ[k]? = some (EA α v n p u):=by rfl) (ho:ops[i]? = some ⟨some d,.indexAddr t x y,ty,pos,af,none⟩:=by rfl) (hdN:Nat.blt d N = true:=by rfl) (ht:P.underlying t = some (.slice e):=by rfl) (he:Ty P e α:=by constructor <;> kernel_rfl) (hx:opd S x = some v:=by kernel_rfl) (hy:numOf (opd S y) = some n:=by kernel_rfl)
  (a:Act) (w:World) (c:Cx B N S Γ Φ a w):wpOp P ops Q i (fun a' w'=>Cx B N ((d,.pointer (some p)) :: S) Γ Φ a' w') a w:=by
 obtain ⟨F,⟨ad,len,cap,rfl,rfl,hn,hlt⟩,_⟩:=c.use (Ava.f k hk)
 obtain ⟨kd,hy⟩:=ZL hy
 have h1:=Zd c.fr hx
 have h2:=Zd c.fr hy
 refine qV ho rfl rfl hdN c (Zh (v:=.pointer (some (ad.add (n.toNat * Rep.sz α)))) (w':=w) ?_ ⟨rfl,rfl⟩)
 simp [execOp,Instr.indexAt,h1,h2,asIntOf,run_underlying ht,hn,hlt,he.sizeOf]
theorem qL (k:Nat) (hk:Φ[k]? = some (EA α v n p u):=by rfl) (ho:ops[i]? = some ⟨some d,.load t x,ty,pos,af,none⟩:=by rfl) (hdN:Nat.blt d N = true:=by rfl) (ht:Ty P t α:=by constructor <;> kernel_rfl) (hx:opd S x = some (.pointer (some p)):=by kernel_rfl)
  (a:Act) (w:World) (c:Cx B N S Γ Φ a w):wpOp P ops Q i (fun a' w'=>Cx B N ((d,u) :: S) Γ Φ a' w') a w:=by
 obtain ⟨F,_,cs,rfl,hl,hc,_⟩:=c.use (Ava.f k hk)
 have h1:=Zd c.fr hx
 refine qV ho rfl rfl hdN c (Zh (v:=Rep.val α cs) (w':=w) ?_ ⟨rfl,rfl⟩)
 simp [execOp,Instr.loadAt,h1,Instr.sureAddr,Yz ht hl hc]
end
end
section
def EW (w:World) (α:Type) [Rep α] (v:Value) (n:Int) (p:Addr) (u:Value):Prop:=∃ F,(EA α v n p u).ok w F
variable {ρ α:Type} [Flat ρ] [Rep α]
variable {P:Program} {B:Bs} {N:Nat} {σ:List (Nat × Value)} {Γ:List HP} {Φ:List RF} {a:Act} {w:World} {K:Act → World → Prop} {Q:Exit → Act → World → Prop} {ops:Array Oper} {pds:List Pd} {j:Nat}
theorem Cx.elo [RawOf ρ α] {E:TypeId} {v:Value} {rs:List ρ} {xs:List α} {n:Int} {x:α} (i k:Nat) (c:Cx B N σ Γ Φ a w) (hx:get? xs n = some x) (hi:Γ[i]? = some (SL E v rs):=by rfl) (hk:Φ[k]? = some (CS rs xs):=by rfl):∃ p u,EW w α v n p u ∧ Cx B N σ Γ (Φ ++ [RO u x]) a w:=by
 obtain ⟨hF,S,F,h1,h2,h3⟩:=c
 have hc:=h3.get hk
 obtain ⟨q',g1,_⟩:=Zif hc (get?_at hx)
 have hz':get? rs n = some q':=by unfold get?; rw [ZnC (get?_nn hx)]; exact g1
 obtain ⟨A,hA,_⟩:=h2.get i hi
 have hr:=(h2.rv i hi)
 obtain ⟨b,cap,rfl,e1,e2,e3⟩:=RV.slice hr
 have hn:=get?_nn hx
 have hat:=get?_at hz'
 have hlt:n.toNat < rs.length:=(Zn9.1 hat).1
 obtain ⟨ad,rfl,hFb,hel⟩:=e3 (by rintro rfl; simp at hlt)
 obtain ⟨cs,hok,hcl⟩:=Zah hel hat
 have hcl:Cells w (ad.add (n.toNat * Rep.sz ρ)) cs:=by simpa using hcl
 have ecs:cs = Flat.enc q':=Flat.iff.1 hok
 have hok':Rep.ok w F (Flat.enc q') x:=hc.2 _ _ x (by rw [ZnW,g1]; rfl) (get?_at hx)
 have hne:cs ≠ []:=by
  have h4:=Rep.len hok
  have h5:=Rep.pos (α:=ρ)
  rintro rfl
  simp at h4; omega
 have hb:(ad.add (n.toNat * Rep.sz ρ)).block < w.heap.size:=hcl.lt hne
 subst ecs
 rw [RawOf.sz (ρ:=ρ) (α:=α)] at hcl hb
 exact ⟨ad.add (n.toNat * Rep.sz α),Rep.val α (Flat.enc q'),⟨fun _=>True,⟨ad,_,_,rfl,rfl,hn,by omega⟩,_,rfl,Rep.len hok',hcl,trivial,hb⟩,hF,S,F,h1,h2,h3.add (R:=RO _ x) ⟨_,hok',rfl⟩⟩
theorem NieW {draw:Bool} {ms:List Nat} {dst:Option Tmp} {t ty:TypeId} {pos:String} {af:Array Edge} {g:Option (Nat × Bool)} {x y:Operand} {α:Type} [Rep α] {e:TypeId} {v u:Value} {n:Int} {p:Addr} (c:Cx B N σ Γ Φ a w) (hk:EW w α v n p u)
  (ho:ops[j]? = some ⟨dst,.indexAddr t x y,ty,pos,af,g⟩:=by rfl) (ht:P.underlying t = some (.slice e):=by rfl) (he:Ty P e α:=by constructor <;> kernel_rfl) (hx:envP ops σ pds j x = some v:=by kernel_rfl) (hy:numOf (envP ops σ pds j y) = some n:=by kernel_rfl) (hG:Good ops pds []) (hpd:pds.getD j .any = .eq (.pointer (some p))):NPB P draw ms ops pds a w Q j:=by
 obtain ⟨F,⟨ad,len,cap,rfl,rfl,hn,hlt⟩,_⟩:=hk
 obtain ⟨kd,hy⟩:=ZL hy
 refine Zco _ ho hG c.fr fun a' w' _ hg hv _=>?_
 have h1:=hv x _ (by simp [Op.operands]) hx
 have h2:=hv y _ (by simp [Op.operands]) hy
 refine Zh (v:=.pointer (some (ad.add (n.toNat * Rep.sz α)))) (w':=w') ?_ (by rw [hpd]; exact ⟨rfl,Chg.refl _ _⟩)
 simp [execOp,Instr.indexAt,h1,h2,asIntOf,run_underlying ht,hn,hlt,he.sizeOf]
theorem NleW {draw:Bool} {ms:List Nat} {dst:Option Tmp} {t ty:TypeId} {pos:String} {af:Array Edge} {g:Option (Nat × Bool)} {x:Operand} {α:Type} [Rep α] {v u:Value} {n:Int} {p:Addr} (c:Cx B N σ Γ Φ a w) (hk:EW w α v n p u)
  (ho:ops[j]? = some ⟨dst,.load t x,ty,pos,af,g⟩:=by rfl) (ht:Ty P t α:=by constructor <;> kernel_rfl) (hx:envP ops σ pds j x = some (.pointer (some p)):=by kernel_rfl) (hG:Good ops pds []) (hpd:pds.getD j .any = .eq u):NPB P draw ms ops pds a w Q j:=by
 obtain ⟨F,_,cs,rfl,hl,hc,_⟩:=hk
 refine Zco _ ho hG c.fr fun a' w' hC hg hv _=>?_
 have h1:=hv x _ (by simp [Op.operands]) hx
 refine Zh (v:=Rep.val α cs) (w':=w') ?_ (by rw [hpd]; exact ⟨rfl,Chg.refl _ _⟩)
 simp [execOp,Instr.loadAt,h1,Instr.sureAddr,Yz ht hl (hc.ext hC)]
end
section
def EP (α:Type) [Rep α] (v:Value) (n:Int) (p:Addr):Prop:=∃ ad len cap,v = .slice (some ad) len cap ∧ p = ad.add (n.toNat * Rep.sz α) ∧ 0 ≤ n ∧ n < ((len:Nat):Int)
variable {ρ α:Type} [Flat ρ] [Rep α]
variable {P:Program} {B:Bs} {N:Nat} {σ:List (Nat × Value)} {Γ:List HP} {Φ:List RF} {a:Act} {w:World} {Q:Exit → Act → World → Prop} {ops:Array Oper} {pds:List Pd} {j k d i:Nat} {t t' ty:TypeId} {x y z:Operand} {pos:String} {af:Array Edge} {v:Value} {n:Int} {p:Addr} {E:TypeId}
theorem EP.one {p':Addr} (h:EP α v n p) (h':EP α v n p'):p = p':=by
 obtain ⟨ad,len,cap,rfl,rfl,_⟩:=h
 obtain ⟨ad',len',cap',e,rfl,_⟩:=h'
 obtain ⟨e1,_,_⟩:=Value.slice.inj e
 cases e1; rfl
theorem qIo {S:List (Nat × Value)} (h:EP α v n p) (ho:ops[i]? = some ⟨some d,.indexAddr t x y,ty,pos,af,none⟩:=by rfl) (hdN:Nat.blt d N = true:=by rfl) (ht:P.underlying t = some (.slice E):=by rfl) (he:Ty P E α:=by constructor <;> kernel_rfl) (hx:opd S x = some v:=by kernel_rfl) (hy:numOf (opd S y) = some n:=by kernel_rfl)
  (a:Act) (w:World) (c:Cx B N S Γ Φ a w):wpOp P ops Q i (fun a' w'=>Cx B N ((d,.pointer (some p)) :: S) Γ Φ a' w') a w:=by
 obtain ⟨ad,len,cap,rfl,rfl,hn,hlt⟩:=h
 obtain ⟨kd,hy⟩:=ZL hy
 have h1:=Zd c.fr hx
 have h2:=Zd c.fr hy
 refine qV ho rfl rfl hdN c (Zh (v:=.pointer (some (ad.add (n.toNat * Rep.sz α)))) (w':=w) ?_ ⟨rfl,rfl⟩)
 simp [execOp,Instr.indexAt,h1,h2,asIntOf,run_underlying ht,hn,hlt,he.sizeOf]
end
section
variable {P:Program} {B:Bs} {N:Nat} {σ:List (Nat × Value)} {Γ:List HP} {Φ:List RF} {a:Act} {w:World} {Q:Exit → Act → World → Prop}
  {draw:Bool} {ms:List Nat} {ops:Array Oper} {pds:List Pd} {j:Nat} {dst:Option Tmp} {g:Option (Nat × Bool)} {t ty:TypeId} {y:Operand} {pos:String} {af:Array Edge}
end
end Go.GL
end
