/- The plain law of this claim: HoldsTerm. No program in sight. -/
import Derived.Test.YtgpcokpcbjloiaaGreatPLib3
namespace Go.Proofs.YtgpcokpcbjloiaaGreat
open Go.GL
set_option linter.unusedSimpArgs false
set_option maxRecDepth 100000
theorem ZlN {t:D.Term} (h:nodeB t = true):t.Name.bytes.length ≤ 8:=by
 by_cases ho:t.Op = 22
 ·exact (Zew h ho).1
 ·obtain ⟨op, w, m, nm, ks⟩ := t
  obtain ⟨-,hs⟩:=YW h
  have hne:¬ op = 22:=ho
  show nm.bytes.length ≤ 8
  have:nm = ⟨[]⟩:=by
   rcases hs with ⟨_,_,e,_⟩ | ⟨e,_⟩ | ⟨_,_,e,_⟩ | ⟨_,_,_,e,_⟩ | ⟨_,_,e,_⟩ | ⟨_,_,e,_⟩ | ⟨_,e,_⟩ | ⟨_,_,e,_⟩
   ·exact e
   ·exact absurd e hne
   all_goals exact e
  rw [this]; simp
theorem Zmm:∀ (n:Nat) (t:D.Term),cnt t ≤ n → nodeB t = true → msz t + 1 ≤ 10 * cnt t:=by
 intro n
 induction n with
 | zero=>intro t h; have:=XV t; omega
 | succ n ih=>
  intro t h hb
  have hl:∀ l:List D.Term,(∀ x ∈ l,nodeB x = true) → cnts l ≤ n → l.length + mszs l ≤ 10 * cnts l:=fun l=>by
   induction l with
   | nil=>intro _ _; simp [Zd5]
   | cons x l ihl=>
    intro hx hc
    rw [Zb4] at hc ⊢
    rw [Zbg,Znc]
    have:=ihl (fun y hy=>hx y (by simp [hy])) (by omega)
    have:=ih x (by omega) (hx x (by simp))
    omega
  have h1:=XV t
  have h2:=hl t.Kids (nodeK hb) (by omega)
  have h3:=ZlN hb
  have h4:=Za5 t
  omega
def nt (t:D.Term):D.Term:=D.Term.mk 1 1 0 ⟨[]⟩ ([t]:List D.Term)
theorem Ze6 {t:D.Term} (h:termB t = true):msz (nt t) ≤ 1048576:=by
 unfold termB at h
 simp only [ZmK,ZmN] at h
 have:=Zmm _ t (ZmY _) h.1.2
 rw [Za5]
 show (0:Nat) + 1 + mszs [t] ≤ _
 rw [Zbg,Zd5]; omega
noncomputable def holP (t:D.Term) (limit:Int):Int × List D.Value:=
 if termB t = true ∧ t.W = 1 ∧ 0 ≤ limit ∧ limit ≤ 3000 then
  if (solP (nt t) limit).1 = 1 then (2,(solP (nt t) limit).2) else if (solP (nt t) limit).1 = 2 then (1,[]) else ((solP (nt t) limit).1,[])
 else (0,[])
theorem ZdM {t:D.Term} {limit:Int} (h:¬ (termB t = true ∧ t.W = 1 ∧ 0 ≤ limit ∧ limit ≤ 3000)):holP t limit = (0,[]):=by unfold holP; rw [ZmI h]
theorem ZjV {t:D.Term} {limit:Int} (h:termB t = true ∧ t.W = 1 ∧ 0 ≤ limit ∧ limit ≤ 3000):holP t limit = if (solP (nt t) limit).1 = 1 then (2,(solP (nt t) limit).2) else if (solP (nt t) limit).1 = 2 then (1,[]) else ((solP (nt t) limit).1,[]):=by unfold holP; rw [ZmJ h]
theorem ZhB {t:D.Term} {limit:Int} (hs:msz t ≤ 1048576):XI fuel t limit = some (holP t limit):=by
 unfold XI
 rw [Za2 hs]
 simp only [ZmD]
 by_cases h:termB t = true
 rotate_left
 ·rw [ZdM (fun q => h q.1)]
  have h':termB t = false:=by simpa using h
  rw [h']; rfl
 by_cases hw:t.W = 1
 rotate_left
 ·rw [ZdM (fun q=>hw q.2.1),h,show (t.W != 1) = true by simpa using hw]; rfl
 rw [h,show (t.W != 1) = false by simpa using hw,ZjU]
 simp only [ZmT,Znt,ZmF,ZmQ,ZmD]
 by_cases hl:0 ≤ limit ∧ limit ≤ 3000
 rotate_left
 ·rw [ZdM (fun q=>hl q.2.2),decide_eq_false hl]; rfl
 rw [decide_eq_true hl,ZjV ⟨h,hw,hl⟩]
 have hm:=Ze6 h
 have e1:YP fuel (D.Term.mk 1 1 0 ⟨[]⟩ ([t]:List D.Term)) = some (termB (nt t)):=Za2 hm
 have e2:Xp fuel (D.Term.mk 1 1 0 ⟨[]⟩ ([t]:List D.Term)) limit = some (solP (nt t) limit):=Zh9 hm
 simp only [ZmT,ZmF,ZmQ,e1,e2,ZmD]
 by_cases hb:termB (nt t) = true
 ·rw [ZmI (by rw [hb]; decide)]
  by_cases c1:(solP (nt t) limit).1 = 1
  ·rw [ZmJ (by simpa using c1),ZmJ c1]
  ·rw [ZmI (by simpa using c1), ZmI c1]
   by_cases c2:(solP (nt t) limit).1 = 2
   ·rw [ZmJ (by simpa using c2),ZmJ c2]
   ·rw [ZmI (by simpa using c2),ZmI c2]
 ·rw [ZmJ (by simpa using hb),ZcR (fun q=>hb q.1)]; rfl
theorem ZhD {t:D.Term} {limit:Int} (hs:msz t ≤ 1048576):Xl fuel t limit = some (holP t limit):=by
 unfold Xl
 rw [Zc1 hs]
 simp only [ZmD]
 by_cases h:termB t = true
 rotate_left
 ·rw [ZdM (fun q => h q.1)]
  have h':termB t = false:=by simpa using h
  rw [h']; rfl
 by_cases hw:t.W = 1
 rotate_left
 ·rw [ZdM (fun q=>hw q.2.1),h,show (t.W != 1) = true by simpa using hw]; rfl
 rw [h,show (t.W != 1) = false by simpa using hw,Ziu]
 simp only [ZmT,Znt,ZmF,ZmQ,ZmD]
 by_cases hl:0 ≤ limit ∧ limit ≤ 3000
 rotate_left
 ·rw [ZdM (fun q=>hl q.2.2),decide_eq_false hl]; rfl
 rw [decide_eq_true hl,ZjV ⟨h,hw,hl⟩]
 have hm:=Ze6 h
 have e2:Xo fuel (D.Term.mk 1 1 0 ⟨[]⟩ ([t]:List D.Term)) limit = some (solP (nt t) limit):=Zh5 hm
 simp only [ZmT,ZmF,ZmQ,e2,ZmD]
 by_cases c2:(solP (nt t) limit).1 = 2
 ·rw [ZmJ (by simpa using c2),ZmI (by omega),ZmJ c2]
 ·rw [ZmI (by simpa using c2)]
  by_cases c1:(solP (nt t) limit).1 = 1
  ·rw [ZmJ (by simpa using c1),ZmJ c1]
  ·rw [ZmI (by simpa using c1),ZmI c1,ZmI c2]
theorem ZkS {t:D.Term} {limit:Int}:(holP t limit).2.length ≤ 100000:=by
 unfold holP
 split
 ·rename_i h
  have:=Zle (limit:=limit) (Ze6 h.1)
  split
  ·exact this
  ·split <;> simp
 ·simp
theorem fin_FnExactHoldsTerm (x:D.Term) (hx:Xm x) (y:Int) (_:fitInt y):∃ n,YZ n x y = some true:=by
 refine ⟨fuel,?_⟩
 unfold YZ
 obtain ⟨r1,h1,c1⟩:=(szT fuel).1 x 1048576 hx (by omega) (by omega) (by unfold fuel; omega)
 rw [h1]
 simp only [ZmD]
 rcases c1 with c1 | ⟨c1,c2⟩
 ·rw [ZmJ (by simpa using c1)]
 rw [ZmI (by simp; omega)]
 have hs:msz x ≤ 1048576:=by omega
 have hk:sml x.Kids:=by have:=Za5 x; unfold sml; omega
 obtain ⟨k1,t1,m0,b0⟩:=Zmt (t:=x) (k:=1) hk (by omega) (by omega)
 have hl:=ZkS (t:=x) (limit:=y)
 simp only [(toT fuel).1 x hs (by unfold fuel; omega),(eqT fuel).1 x hs (by unfold fuel; omega),ZmD,ZhB hs,ZhD hs]
 generalize holP x y = R at hl ⊢
 have m1:=Zfg hl
 have m2:=Zfj (l:=R.2) (k:=1) (by omega) (by omega) hl
 have m3:=Zfh (L:=R.2.length) (k:=1) (by omega) (by omega) hl
 have e0:¬ k1 < 0:=by omega
 have e2:¬ (1:Int) + 3 * (R.2.length:Int) < 0:=by omega
 simp [m0,m1,m2,m3,e0,e2]
end Go.Proofs.YtgpcokpcbjloiaaGreat
