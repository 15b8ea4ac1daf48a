/- Texts of this claim put into one: library or plain laws, without the program under test. -/
import Derived.Test.YtginipeibmnikaaGreatDoorPLib1
section
namespace Go.Proofs.YtginipeibmnikaaGreatDoor
open Go.GL
set_option linter.unusedSimpArgs false
set_option maxRecDepth 100000
theorem Zi5 : ∀ (n : Nat) (t : D.Term), msz t ≤ 1048576 → 1048580 + cnt t ≤ n → Y5 n t = some t := by
 intro n
 induction n with
 | zero => intro t _ h; omega
 | succ n ih =>
  intro t hs hn
  have hz := Za8 t
  have hc := Zaf t
  rw [Y5]
  obtain ⟨r, g1, g2⟩ := Y4 (l := t.Kids) (n := n) (σ := List D.Term) (ρ := List D.Term) (B := fun (s1 : Int × (List D.Term)) =>
  if (decide (s1.1 < (len t.Kids))) then
   (get? t.Kids s1.1).bind fun x1 =>
   (Y5 n x1).bind fun x2 =>
   (app? s1.2 ([x2] : List D.Term)).bind fun x3 =>
   some (.inl ((w64 (s1.1 + 1)), x3))
  else
   some (.inr (s1.2))) (fun j a => ((j : Int), a)) (fun ys a => a ++ ys = t.Kids ∧ (∀ x ∈ ys, x ∈ t.Kids)) (fun r => r = t.Kids)
   (fun j x xs a hj hx hlen ⟨h1, h2⟩ => by
    have hd : decide ((j : Int) < len t.Kids) = true := by rw [Ze]; simp; omega
    have hm := h2 x (by simp)
    have m1 := Zat hm
    have m2 := ZbN hm
    have hl := congrArg List.length h1
    simp only [ZlH, ZlP] at hl
    simp only [hd, ZlJ, get?_nat, hx, Zlw, ih x (by omega) (by omega)]
    rw [Zay (by simp; omega)]
    exact .inl ⟨a ++ [x], by simp only [Zlw]; rw [Zp (by omega) (by omega)]; rfl, by simp [← h1], fun y hy => h2 y (by simp [hy])⟩)
   (fun a ⟨h1, _⟩ => by
    have hd : decide ((t.Kids.length : Int) < len t.Kids) = false := by rw [Ze]; simp
    simp only [hd, Zly, Zl9]
    exact ⟨_, rfl, by simpa using h1⟩) (a := []) ⟨rfl, fun _ h => h⟩ (by omega)
  rw [show ((0 : Nat) : Int) = 0 from rfl] at g1
  rw [g1, g2]
  cases t; rfl
theorem ZiG : ∀ n : Nat, (∀ t : D.Term, msz t ≤ 1048576 → 1048580 + 2 * msz t + 1 ≤ n → Xr n t = some t) ∧ (∀ l : List D.Term, sml l → 1048580 + 2 * (l.length + mszs l) ≤ n → ZY n l = some l) := by
 intro n
 induction n with
 | zero => exact ⟨fun t _ _ => by omega, fun l _ _ => by omega⟩
 | succ n ih =>
  refine ⟨fun t h hn => ?_, fun l h hn => ?_⟩
  ·have := Za8 t
   unfold Xr
   rw [ih.2 t.Kids (by unfold sml; omega) (by omega)]
   cases t; rfl
  ·unfold sml at h
   unfold ZY
   by_cases c0 : l.length = 0
   ·have : l = [] := Zmi.1 c0
    subst this; rfl
   rw [Zl1 (by rw [Ze]; simp; exact fun e => c0 (by simp [e])), mk?_len (by unfold room; omega)]
   simp only [Zlw]
   obtain ⟨r, g1, g2⟩ := Y4 (l := l) (n := n) (σ := List D.Term) (ρ := List D.Term) (B := fun (s1 : Int × (List D.Term)) =>
     if (decide (s1.1 < (len l))) then
      (get? l s1.1).bind fun x2 =>
      (Xr n x2).bind fun x3 =>
      (set? s1.2 s1.1 x3).bind fun x4 =>
      some (.inl ((w64 (s1.1 + 1)), x4))
     else
      some (.inr (s1.2))) (fun k (a : List D.Term) => ((k : Int), a)) (fun ys a => (∃ pre zs : List D.Term, pre ++ ys = l ∧ a = pre ++ zs ∧ zs.length = ys.length) ∧ ∀ x ∈ ys, x ∈ l) (fun r => r = l)
     (fun k x xs a hk' hx hlen ⟨⟨pre, zs, h1, hz, hz'⟩, hm⟩ => by
      have hxl := hm x (by simp)
      have := Zat hxl
      have hl := congrArg List.length h1
      simp only [ZlP, ZlH] at hlen hz' hl
      simp only [get?_nat, hx, Zlw, Ze]
      rw [Zl2 (by simpa using hk'), ih.1 x (by omega) (by omega)]
      simp only [Zlw]
      obtain ⟨z, zs, rfl⟩ : ∃ z zs', zs = z :: zs' := by cases zs with | nil => simp at hz' | cons z zs => exact ⟨_, _, rfl⟩
      have e1 : pre.length = k := by omega
      subst hz
      rw [set?_nat (by simp; omega)]
      refine .inl ⟨(pre ++ z :: zs).set k x, by simp only [Zlw]; rw [Zp (by omega) (by omega)]; rfl, ⟨pre ++ [x], zs, by simp [← h1], ?_, by simpa using hz'⟩, fun y hy => hm y (by simp [hy])⟩
      rw [List.set_append_right _ _ (by omega), e1, ZmN]; simp)
     (fun a ⟨⟨pre, zs, h1, h2, h3⟩, _⟩ => by
      have hd : decide ((l.length : Int) < len l) = false := by rw [Ze]; simp
      simp only [hd, Zly, Zl9]
      simp only [Zms, Zmi] at h3
      subst h3
      exact ⟨_, rfl, by rw [h2]; simpa using h1⟩) (a := List.replicate l.length _) ⟨⟨[], _, rfl, rfl, by simp⟩, fun _ h => h⟩ (by omega)
   rw [show ((0 : Nat) : Int) = 0 from rfl] at g1
   rw [g1, g2]
   rfl
theorem ZeF {t : D.Term} (h : nodeB t = true) (hn : cnt t ≤ 240) : msz t ≤ 2640 := by
 have := ZbB h
 omega
theorem Zh8 {t : D.Term} (h : nodeB t = true) (hn : cnt t ≤ 240) : Y5 fuel t = some t := Zi5 _ _ (by have := ZeF h hn; omega) (by unfold fuel; omega)
def t0 : D.Term := ⟨0, 0, 0, ⟨[]⟩, []⟩
noncomputable def simp1 (t : D.Term) : D.Term := (ZB fuel t).getD t0
theorem ZeA {t : D.Term} (h : nodeB t = true) (hn : cnt t ≤ 240) : nodeB (simp1 t) = true ∧ (simp1 t).W = t.W ∧ cnt (simp1 t) ≤ cnt t ∧ ZB fuel t = some (simp1 t) ∧ Zz fuel t = some (simp1 t) := by
 obtain ⟨r, q1, q2, q3, q4, q5⟩ := simple h hn
 have e : simp1 t = r := by unfold simp1; rw [q4]; rfl
 rw [e]; exact ⟨q1, q2, q3, q4, q5⟩
theorem ZbG {t : D.Term} (h : termB t = true) : nodeB t = true ∧ cnt t ≤ 240 := by
 unfold termB at h
 simp only [Zlz, Zl6] at h
 exact ⟨h.1.2, h.1.1⟩
noncomputable def mkT (op w m : Int) (ks : List D.Term) : D.Term × Bool := if termB ⟨op, w, m, ⟨[]⟩, ks⟩ = true then (simp1 ⟨op, w, m, ⟨[]⟩, ks⟩, true) else (t0, false)
theorem ZkT {op w m : Int} {ks : List D.Term} (h : sml ks) : msz ⟨op, w, m, ⟨[]⟩, ks⟩ ≤ 1048576 := by
 rw [Za8]; unfold sml at h; simp; omega
theorem Zke {op w m : Int} {ks : List D.Term} (h : sml ks) : Zav fuel op w m ks = some (mkT op w m ks) := by
 unfold Zav mkT
 rw [Zif (ZkT h)]
 simp only [Zlw]
 cases c : termB ⟨op, w, m, ⟨[]⟩, ks⟩
 ·rfl
 ·obtain ⟨a, b⟩ := ZbG c
  obtain ⟨q1, q2, q3, q4, q5⟩ := ZeA a b
  simp only [ZlA, Zly, Zl9, ZlJ, q5, Zlw, Zh8 q1 (by omega)]
theorem Zbp {op w m : Int} {ks : List D.Term} (h : sml ks) : ZI fuel op w m ks = some (mkT op w m ks) := by
 unfold ZI mkT
 rw [ZhX (ZkT h)]
 simp only [Zlw]
 cases c : termB ⟨op, w, m, ⟨[]⟩, ks⟩
 ·rfl
 ·obtain ⟨a, b⟩ := ZbG c
  obtain ⟨q1, q2, q3, q4, q5⟩ := ZeA a b
  simp only [ZlA, Zly, Zl9, ZlJ, q4, Zlw]
def fine (t : D.Term) : Prop := nodeB t = true ∧ cnt t ≤ 240
theorem YS {op w m : Int} {ks : List D.Term} (h : (mkT op w m ks).2 = true) : fine (mkT op w m ks).1 ∧ (mkT op w m ks).1.W = w := by
 unfold mkT at h ⊢
 cases c : termB ⟨op, w, m, ⟨[]⟩, ks⟩
 ·rw [c] at h; simp at h
 ·obtain ⟨a, b⟩ := ZbG c
  obtain ⟨q1, q2, q3, q4, q5⟩ := ZeA a b
  simp only [ZlJ]
  exact ⟨⟨q1, by omega⟩, q2⟩
theorem Zcb {t : D.Term} (h : fine t) : msz t ≤ 2640 := ZeF h.1 h.2
theorem sml2 {a b : D.Term} (ha : msz a ≤ 2640) (hb : msz b ≤ 1000000) : sml [a, b] := by
 unfold sml
 rw [Xh, Xh, ZbS]; simp; omega
def c11 : D.Term := ⟨0, 1, 1, ⟨[]⟩, []⟩
theorem Zjo {α ρ : Type} {l : List α} {b : α → Bool} {z : ρ} (G : α → Int → Option (Int ⊕ (Unit ⊕ ρ))) (hG : ∀ (k : Nat) (x : α), l[k]? = some x → G x k = if b x = true then some (.inl (w64 ((k : Int) + 1))) else some (.inr (.inr z))) (hb : l.length ≤ 1048576) {n : Nat} (hn : l.length < n) :
  iterN (fun (s1 : Int) => if (decide (s1 < (len l))) then (get? l s1).bind fun x1 => G x1 s1 else some (.inr (.inl ()))) n 0 = some (if l.all b = true then (.inl () : Unit ⊕ ρ) else .inr z) := by
 obtain ⟨r, g1, g2⟩ := Y4 (l := l) (n := n) (σ := Unit) (ρ := Unit ⊕ ρ) (B := fun (s1 : Int) => if (decide (s1 < (len l))) then (get? l s1).bind fun x1 => G x1 s1 else some (.inr (.inl ())))
  (fun k _ => (k : Int)) (fun ys _ => ys.all b = l.all b) (fun r => r = if l.all b = true then (.inl () : Unit ⊕ ρ) else .inr z)
  (fun k x xs a hk' hx hlen hi => by
   have hd : decide ((k : Int) < len l) = true := by rw [Ze]; simp; omega
   simp only [hd, ZlJ, get?_nat, hx, Zlw]
   rw [hG k x hx]
   rw [Zna] at hi
   cases c : b x
   ·rw [c, Zmf] at hi
    exact .inr ⟨_, rfl, by rw [← hi]; rfl⟩
   ·rw [c, ZlZ] at hi
    exact .inl ⟨(), by rw [Zp (by omega) (by omega)]; rfl, hi⟩)
  (fun a hi => by
   have hd : decide ((l.length : Int) < len l) = false := by rw [Ze]; simp
   simp only [hd, Zly, Zl9]
   exact ⟨_, rfl, by rw [← hi]; rfl⟩) (a := ()) rfl hn
 rw [show ((0 : Nat) : Int) = 0 from rfl] at g1
 rw [g1, g2]
theorem Xl {σt ρt : Type} {B : σt → Option (σt ⊕ ρt)} {s s' : σt} {n : Nat} (h : B s = some (.inl s')) : iterN B (n + 1) s = iterN B n s' := by
 conv => lhs; unfold iterN
 rw [h]
def fineL (l : List D.Term) : Prop := l.length ≤ 100 ∧ ∀ x ∈ l, fine x
theorem ZeC {m : Nat} : ∀ {l : List D.Term}, (∀ x ∈ l, msz x ≤ m) → mszs l ≤ l.length * m
 | [], _ => by rw [ZbS]; simp
 | x :: l, h => by
  have h1 := h x (by simp)
  have h2 := ZeC (l := l) fun y hy => h y (by simp [hy])
  rw [Xh, ZlP, Zn0]; omega
theorem Zbs {l : List D.Term} (h : fineL l) : sml l := by
 have h1 := ZeC (m := 2640) fun x hx => Zcb (h.2 x hx)
 have h2 := h.1
 unfold sml
 have : l.length * 2640 ≤ 100 * 2640 := Zm7 _ h2
 omega
theorem ZbC {l : List D.Term} (h : fineL l) : YB fuel l = some l := by
 unfold YB
 have hl := h.1
 obtain ⟨r, g1, g2⟩ := Y4 (l := l) (n := fuel) (σ := List D.Term) (ρ := List D.Term) (B := fun (s1 : Int × (List D.Term)) =>
  if (decide (s1.1 < (len l))) then
   (get? l s1.1).bind fun x1 =>
   (Y5 fuel x1).bind fun x2 =>
   (app? s1.2 ([x2] : List D.Term)).bind fun x3 =>
   some (.inl ((w64 (s1.1 + 1)), x3))
  else
   some (.inr (s1.2))) (fun j a => ((j : Int), a)) (fun ys a => a ++ ys = l ∧ ∀ x ∈ ys, x ∈ l) (fun r => r = l)
  (fun j x xs a hj hx hlen ⟨h1, h2⟩ => by
   have hd : decide ((j : Int) < len l) = true := by rw [Ze]; simp; omega
   have hm := h2 x (by simp)
   have hc := congrArg List.length h1
   simp only [ZlH, ZlP] at hc
   simp only [hd, ZlJ, get?_nat, hx, Zlw, Zh8 (h.2 x hm).1 (h.2 x hm).2]
   rw [Zay (by simp; omega)]
   exact .inl ⟨a ++ [x], by simp only [Zlw]; rw [Zp (by omega) (by omega)]; rfl, by simp [← h1], fun y hy => h2 y (by simp [hy])⟩)
  (fun a ⟨h1, _⟩ => by
   have hd : decide ((l.length : Int) < len l) = false := by rw [Ze]; simp
   simp only [hd, Zly, Zl9]
   exact ⟨_, rfl, by simpa using h1⟩) (a := []) ⟨rfl, fun _ h => h⟩ (by unfold fuel; omega)
 rw [show ((0 : Nat) : Int) = 0 from rfl] at g1
 rw [g1, g2]; rfl
theorem ZbE {l : List D.Term} (h : fineL l) : ZY fuel l = some l := (ZiG fuel).2 l (Zbs h) (by
 have := Zbs h
 unfold sml at this
 unfold fuel; omega)
def fineP (s : D.Path) : Prop := fineL s.Regs ∧ fineL s.Mem ∧ s.Stack.length ≤ 100 ∧ fineL s.Out ∧ fineL s.Cond ∧ s.Turns.length ≤ 100
theorem ZgA {s : D.Path} (h : fineP s) : smallP s := ⟨Zbs h.1, Zbs h.2.1, by have := h.2.2.1; omega, Zbs h.2.2.2.1, Zbs h.2.2.2.2.1, by have := h.2.2.2.2.2; omega⟩
theorem Zfv {l : List Int} (h : l.length ≤ 100) : app? ([] : List Int) l = some l := by
 rw [Zay (by simp; omega)]; rfl
theorem ZkN {l : List D.Term} (h : l.length ≤ 1000) : app? ([] : List D.Term) l = some l := by
 rw [Zay (by simp; omega)]; rfl
theorem ZaV {s : D.Path} (h : fineP s) : Yf fuel s = some s := by
 obtain ⟨h1, h2, h3, h4, h5, h6⟩ := h
 unfold Yf
 simp only [ZbC h1, ZbC h2, Zfv h3, ZbC h4, ZbC h5, Zfv h6, Zlw]
theorem ZjU {s : D.Path} (h : fineP s) : XL fuel s = some s := by
 obtain ⟨h1, h2, h3, h4, h5, h6⟩ := h
 unfold XL Z9
 simp only [ZbE h1, ZbE h2, Zfv h3, ZbE h4, ZbE h5, Zfv h6, Zlw]
theorem Zc8 {p : D.Program} (h : progB p = true) : 1 ≤ p.W ∧ p.W ≤ 16 ∧ 0 ≤ p.Mem ∧ p.Mem ≤ 6 ∧ 0 ≤ p.In ∧ p.In ≤ 3 := by
 unfold progB at h
 simp only [Zlz, Zl6] at h
 omega
theorem sml3' {a b c : D.Term} (ha : msz a ≤ 2640) (hb : msz b ≤ 2640) (hc : msz c ≤ 2640) : sml [a, b, c] := by
 unfold sml
 rw [Xh, Xh, Xh, ZbS]; simp; omega
def fw (w : Int) (l : List D.Term) : Prop := ∀ t ∈ l, fine t ∧ t.W = w
structure okP (p : D.Program) (s : D.Path) : Prop where
 pc : 0 ≤ s.Pc ∧ s.Pc ≤ len p.Code
 rl : s.Regs.length = 4
 rf : fw p.W s.Regs
 ml : (s.Mem.length : Int) = p.Mem
 mf : fw p.W s.Mem
 sl : s.Stack.length ≤ 3
 sp : ∀ x ∈ s.Stack, 0 ≤ x ∧ x ≤ len p.Code
 inn : 0 ≤ s.In ∧ s.In ≤ p.In
 ol : s.Out.length ≤ 6
 of : fw p.W s.Out
 cd : 0 ≤ s.Code ∧ s.Code ≤ 9
 st : 0 ≤ s.Steps ∧ s.Steps ≤ 400
 cl : s.Cond.length ≤ 60
 cf : fw 1 s.Cond
 tl : s.Turns.length ≤ 60
theorem Zej {w : Int} {l : List D.Term} (h : fw w l) (hl : l.length ≤ 100) : fineL l := ⟨hl, fun x hx => (h x hx).1⟩
theorem okP.fine {p : D.Program} {s : D.Path} (h : okP p s) (hp : progB p = true) : fineP s := by
 have hm := Zc8 hp
 have := h.ml
 exact ⟨Zej h.rf (by have := h.rl; omega), Zej h.mf (by omega), by have := h.sl; omega, Zej h.of (by have := h.ol; omega), Zej h.cf (by have := h.cl; omega), by have := h.tl; omega⟩
theorem Zjy {w : Int} {l : List D.Term} (h : fw w l) {k : Nat} {t : D.Term} (ht : fine t ∧ t.W = w) : fw w (l.set k t) := fun x hx => by
 rcases Znq hx with hx | rfl
 ·exact h x hx
 ·exact ht
theorem ZiY {w : Int} {l : List D.Term} (h : fw w l) {t : D.Term} (ht : fine t ∧ t.W = w) : fw w (l ++ [t]) := fun x hx => by
 rcases Zmc.1 hx with hx | hx
 ·exact h x hx
 ·rw [ZlS] at hx; subst hx; exact ht
def rg (l : List D.Term) (k : Int) : D.Term := (l[k.toNat]?).getD t0
theorem ZbH {l : List D.Term} {k : Int} (h0 : 0 ≤ k) (h1 : k < l.length) : get? l k = some (rg l k) := by
 obtain ⟨j, rfl⟩ : ∃ j : Nat, k = (j : Int) := ⟨k.toNat, by omega⟩
 unfold rg
 rw [get?_nat, Znt, Zl0 (by omega)]; rfl
theorem ZbP {w : Int} {l : List D.Term} {k : Int} (h : fw w l) (h0 : 0 ≤ k) (h1 : k < l.length) : fine (rg l k) ∧ (rg l k).W = w := by
 unfold rg
 rw [Zl0 (by omega)]
 exact h _ (Zml _)
theorem Zhn {α : Type} {l : List α} {k : Int} (h0 : 0 ≤ k) (h1 : k < l.length) (x : α) : set? l k x = some (l.set k.toNat x) := by
 obtain ⟨j, rfl⟩ : ∃ j : Nat, k = (j : Int) := ⟨k.toNat, by omega⟩
 rw [set?_nat (by omega), Znt]
theorem ZhP {l : List D.Term} (h : l.length ≤ 1000) : Z8 l = some l := by
 unfold Z8
 rw [ZkN h]; rfl
theorem put_eq {l : List D.Term} {k : Int} {t : D.Term} (hl : l.length ≤ 1000) (h0 : 0 ≤ k) (h1 : k < l.length) : XF l k t = some (l.set k.toNat t) := by
 unfold XF
 rw [ZhP hl]
 simp only [Zlw]
 rw [Zhn h0 h1]; rfl
theorem ZfC {l : List D.Term} {t : D.Term} (hl : l.length ≤ 1000) : ZaO l t = some (l ++ [t]) := by
 unfold ZaO ZX
 rw [ZhP hl]
 simp only [Zlw]
 rw [Zay (by simp; omega)]; rfl
theorem Zf9 {l : List Int} {x : Int} (hl : l.length ≤ 100) : ZaL l x = some (l ++ [x]) := by
 unfold ZaL Z9
 rw [Zfv hl]
 simp only [Zlw]
 rw [Zay (by simp; omega)]; rfl
def kT (w v : Int) : D.Term := ⟨0, w, v, ⟨[]⟩, []⟩
theorem ZbA {w v : Int} (h : wordB w v = true) : fine (kT w v) := ⟨ZaC h, by unfold kT; rw [cnt0]; omega⟩
theorem Yh {p : D.Program} (hp : progB p = true) : wordB p.W p.Mem = true ∧ 2 ≤ p.W ∧ p.W ≤ 8 ∧ 1 ≤ p.Mem ∧ p.Mem ≤ 6 := by
 unfold progB at hp
 simp only [Zlz, Zl6] at hp
 exact ⟨by simp [hp], by omega, by omega, by omega, by omega⟩
theorem ZbW {p : D.Program} (hp : progB p = true) {k : Int} (h0 : 0 ≤ k) (h1 : k ≤ p.Mem) : wordB p.W k = true := by
 obtain ⟨m1, m2, m3, m4, m5⟩ := Yh hp
 rw [ZT (by omega) (by omega)] at m1 ⊢
 omega
theorem sml2f {a b : D.Term} (ha : fine a) (hb : fine b) : sml [a, b] := sml2 (Zcb ha) (by have := Zcb hb; omega)
theorem sml1f {a : D.Term} (ha : fine a) : sml [a] := by
 have := Zcb ha
 unfold sml
 rw [Xh, ZbS]; simp; omega
theorem sml3f {a b c : D.Term} (ha : fine a) (hb : fine b) (hc : fine c) : sml [a, b, c] := sml3' (Zcb ha) (Zcb hb) (Zcb hc)
noncomputable def cel (w k : Int) (x a b : D.Term) : D.Term × Bool :=
 if (mkT 14 1 0 [kT w k, x]).2 = true then mkT 17 w 0 [(mkT 14 1 0 [kT w k, x]).1, a, b] else (t0, false)
theorem ZeI {w k : Int} {x a b : D.Term} (h : (cel w k x a b).2 = true) : fine (cel w k x a b).1 ∧ (cel w k x a b).1.W = w := by
 unfold cel at h ⊢
 split at h
 ·rename_i c; rw [Zl2 c]; exact YS h
 ·cases h
theorem ZgB {p : D.Program} {k : Int} {x a b : D.Term} (hw : wordB p.W k = true) (hx : fine x) (ha : fine a) (hb : fine b) : X5 fuel p k x a b = some (cel p.W k x a b) := by
 unfold X5 cel
 rw [ZQ hw]
 simp only [Zlw]
 show ((ZI fuel 14 1 0 [kT p.W k, x]).bind _) = _
 rw [Zbp (sml2f (ZbA hw) hx)]
 simp only [Zlw]
 by_cases c : (mkT 14 1 0 [kT p.W k, x]).2 = true
 ·rw [Zl1 (by rw [c]; simp), Zl2 c, Zbp (sml3f (YS c).1 ha hb)]; rfl
 ·rw [Zl2 (by simpa using c), Zl1 c]; rfl
theorem Xz {b : Bool} {op w : Int} {ks : List D.Term} (h : sml ks) : Zg fuel ⟨b⟩ op w ks = some ((mkT op w 0 ks).1, ⟨b || !(mkT op w 0 ks).2⟩) := by
 unfold Zg
 rw [Zke h]
 simp only [Zlw]
 cases (mkT op w 0 ks).2 <;> cases b <;> rfl
noncomputable def ldT (w : Int) (x : D.Term) (mem : List D.Term) : Nat → D.Term → D.Term × Bool
 | 0, t => (t, true)
 | j + 1, t => if (cel w (j : Int) x (rg mem j) t).2 = true then ldT w x mem j (cel w (j : Int) x (rg mem j) t).1 else (t0, false)
theorem Zgo {w : Int} {x : D.Term} {mem : List D.Term} : ∀ {j : Nat} {t : D.Term}, fine t ∧ t.W = w → (ldT w x mem j t).2 = true → fine (ldT w x mem j t).1 ∧ (ldT w x mem j t).1.W = w
 | 0, t, ht, _ => ht
 | j + 1, t, ht, h => by
  unfold ldT at h ⊢
  split at h
  ·rename_i c; rw [Zl2 c]; exact Zgo (ZeI c) h
  ·cases h
theorem ZjS {w : Int} {x : D.Term} {mem : List D.Term} : ∀ {j : Nat} {t : D.Term}, (ldT w x mem j t).2 = false → ldT w x mem j t = (t0, false)
 | 0, t, h => by cases h
 | j + 1, t, h => by
  unfold ldT at h ⊢
  split at h
  ·rename_i c; rw [Zl2 c]; exact ZjS h
  ·rename_i c; rw [Zl1 c]
noncomputable def load (w : Int) (mem : List D.Term) (x : D.Term) : D.Term × Bool := if x.Op = 0 then (rg mem x.N, true) else ldT w x mem (mem.length - 1) (rg mem ((mem.length - 1 : Nat) : Int))
abbrev T5 := Int × Int × Int × Str × (List D.Term)
abbrev tup5 (t : D.Term) : T5 := (t.Op, t.W, t.N, t.Name, t.Kids)
theorem Zd1 (t : D.Term) : (D.Term.mk t.Op t.W t.N t.Name t.Kids) = t := by cases t; rfl
theorem ZkD {p : D.Program} {mem : List D.Term} {x : D.Term} (hp : progB p = true) (hm : (mem.length : Int) = p.Mem) (hf : fw p.W mem) (hx : fine x) : ∀ (j : Nat) (t : D.Term) (n : Nat), fine t ∧ t.W = p.W → j ≤ mem.length → j < n →
    iterN (fun (s1 : Int × Int × Int × Int × Str × (List D.Term)) =>
   if (decide (s1.1 ≥ 0)) then
    (get? mem s1.1).bind fun x4 =>
    (X5 fuel p s1.1 x x4 (D.Term.mk s1.2.1 s1.2.2.1 s1.2.2.2.1 s1.2.2.2.2.1 s1.2.2.2.2.2)).bind fun x5 =>
    if (!x5.2) then
     some (.inr (.inr ((D.Term.mk 0 0 0 ⟨[]⟩ ([] : List D.Term)), false)))
    else
     some (.inl ((w64 (s1.1 - 1)), x5.1.Op, x5.1.W, x5.1.N, x5.1.Name, x5.1.Kids))
   else
    some (.inr (.inl (s1.2.1, s1.2.2.1, s1.2.2.2.1, s1.2.2.2.2.1, s1.2.2.2.2.2))) : Int × T5 → Option ((Int × T5) ⊕ (T5 ⊕ (D.Term × Bool))))
     n ((j : Int) - 1, tup5 t) = some (if (ldT p.W x mem j t).2 = true then (.inl (tup5 (ldT p.W x mem j t).1) : T5 ⊕ (D.Term × Bool)) else .inr (t0, false)) := by
  intro j
  induction j with
  | zero =>
    intro t n ht _ hn
    refine Yt ?_ hn
    simp only
    rw [Zl1 (by simp)]; rfl
  | succ j ih =>
    intro t n ht hj hn
    obtain ⟨n, rfl⟩ : ∃ m, n = m + 1 := ⟨n - 1, by omega⟩
    have hm6 := Yh hp
    have e1 : ((j + 1 : Nat) : Int) - 1 = (j : Int) := by omega
    have eg := ZbH (l := mem) (k := (j : Int)) (by omega) (by omega)
    have ec := ZgB (p := p) (k := (j : Int)) (x := x) (a := rg mem j) (b := t) (ZbW hp (by omega) (by omega)) hx (ZbP hf (by omega) (by omega)).1 ht.1
    rw [e1]
    unfold ldT
    by_cases c : (cel p.W (j : Int) x (rg mem j) t).2 = true
    · rw [Zl2 c, ← ih _ n (ZeI c) (by omega) (by omega)]
      refine Xl ?_
      simp only [tup5, eg, Zlw, Zd1, ec, c]
      rw [Zl2 (by simp), Zl1 (by simp), Zp (by omega) (by omega)]
    · rw [Zl1 c]
      refine Yt ?_ (by omega)
      simp only [tup5, eg, Zlw, Zd1, ec]
      rw [Zl2 (by simp), Zl2 (by simpa using c)]; rfl
theorem Zi2 {p : D.Program} {s : D.Path} {x : D.Term} (hp : progB p = true) (hm : (s.Mem.length : Int) = p.Mem) (hf : fw p.W s.Mem) (hx : fine x) (hc : x.Op = 0 → 0 ≤ x.N ∧ x.N < p.Mem) : Zbg fuel p s x = some (load p.W s.Mem x) := by
 have hm6 := Yh hp
 unfold Zbg load Zb
 simp only [Zlw]
 by_cases c : x.Op = 0
 ·obtain ⟨n0, n1⟩ := hc c
  rw [Zl2 (by simpa using c), Zl2 c, ZbH n0 (by omega)]; rfl
 ·rw [Zl1 (by simpa using c), Zl1 c]
  have e1 : w64 (p.Mem - 1) = ((s.Mem.length - 1 : Nat) : Int) := by rw [Zp (by omega) (by omega)]; omega
  have e2 : w64 (p.Mem - 2) = ((s.Mem.length - 1 : Nat) : Int) - 1 := by rw [Zp (by omega) (by omega)]; omega
  rw [e1, e2, ZbH (by omega) (by omega)]
  simp only [Zlw]
  have := ZkD hp hm hf hx (s.Mem.length - 1) (rg s.Mem ((s.Mem.length - 1 : Nat) : Int)) fuel (ZbP hf (by omega) (by omega)) (by omega) (by unfold fuel; omega)
  rw [this]
  simp only [Zlw]
  cases h : (ldT p.W x s.Mem (s.Mem.length - 1) (rg s.Mem ((s.Mem.length - 1 : Nat) : Int))).2
  ·rw [ZjS h]; simp
  ·simp only [ZlJ, Zd1]
   simp [← h]
theorem Zkt {p : D.Program} {mem : List D.Term} {x : D.Term} (hp : progB p = true) (hm : (mem.length : Int) = p.Mem) (hf : fw p.W mem) (hx : fine x) : ∀ (j : Nat) (t : D.Term) (n : Nat), fine t ∧ t.W = p.W → j ≤ mem.length → j + 1 < n →
    ∃ t', iterN (fun (s1 : Int × Bool × Int × Int × Int × Str × (List D.Term)) =>
   if ((decide (s1.1 ≥ 0)) && (!s1.2.1)) then
    (Z6 p.W s1.1).bind fun x3 =>
    (Zg fuel (D.l06Maker.mk s1.2.1) 14 1 ([(D.Term.mk x3.Op x3.W x3.N x3.Name ([] : List D.Term)), x] : List D.Term)).bind fun x4 =>
    if (!x4.2.bad) then
     (get? mem s1.1).bind fun x5 =>
     (Zg fuel x4.2 17 p.W ([x4.1, x5, (D.Term.mk s1.2.2.1 s1.2.2.2.1 s1.2.2.2.2.1 s1.2.2.2.2.2.1 s1.2.2.2.2.2.2)] : List D.Term)).bind fun x6 =>
     some (.inl ((w64 (s1.1 - 1)), x6.2.bad, x6.1.Op, x6.1.W, x6.1.N, x6.1.Name, x6.1.Kids))
    else
     some (.inl ((w64 (s1.1 - 1)), x4.2.bad, s1.2.2.1, s1.2.2.2.1, s1.2.2.2.2.1, s1.2.2.2.2.2.1, s1.2.2.2.2.2.2))
   else
    some (.inr (s1.2.1, s1.2.2.1, s1.2.2.2.1, s1.2.2.2.2.1, s1.2.2.2.2.2.1, s1.2.2.2.2.2.2)) : Int × Bool × T5 → Option ((Int × Bool × T5) ⊕ (Bool × T5))) n ((j : Int) - 1, false, tup5 t) = some (!(ldT p.W x mem j t).2, tup5 t') ∧ ((ldT p.W x mem j t).2 = true → t' = (ldT p.W x mem j t).1) := by
  intro j
  induction j with
  | zero =>
    intro t n ht _ hn
    refine ⟨t, Yt ?_ (by omega), fun _ => rfl⟩
    simp only
    rw [Zl1 (by simp)]; rfl
  | succ j ih =>
    intro t n ht hj hn
    obtain ⟨n, rfl⟩ : ∃ m, n = m + 1 := ⟨n - 1, by omega⟩
    have hm6 := Yh hp
    have e1 : ((j + 1 : Nat) : Int) - 1 = (j : Int) := by omega
    have eg := ZbH (l := mem) (k := (j : Int)) (by omega) (by omega)
    have hw := ZbW hp (k := (j : Int)) (by omega) (by omega)
    have em := Xz (b := false) (op := 14) (w := 1) (ks := [kT p.W j, x]) (sml2f (ZbA hw) hx)
    unfold kT at em
    rw [e1]
    have stop : ∀ u : D.Term, ∀ i : Int, 0 < n → iterN (fun (s1 : Int × Bool × Int × Int × Int × Str × (List D.Term)) =>
     if ((decide (s1.1 ≥ 0)) && (!s1.2.1)) then
      (Z6 p.W s1.1).bind fun x3 =>
      (Zg fuel (D.l06Maker.mk s1.2.1) 14 1 ([(D.Term.mk x3.Op x3.W x3.N x3.Name ([] : List D.Term)), x] : List D.Term)).bind fun x4 =>
      if (!x4.2.bad) then
       (get? mem s1.1).bind fun x5 =>
       (Zg fuel x4.2 17 p.W ([x4.1, x5, (D.Term.mk s1.2.2.1 s1.2.2.2.1 s1.2.2.2.2.1 s1.2.2.2.2.2.1 s1.2.2.2.2.2.2)] : List D.Term)).bind fun x6 =>
       some (.inl ((w64 (s1.1 - 1)), x6.2.bad, x6.1.Op, x6.1.W, x6.1.N, x6.1.Name, x6.1.Kids))
      else
       some (.inl ((w64 (s1.1 - 1)), x4.2.bad, s1.2.2.1, s1.2.2.2.1, s1.2.2.2.2.1, s1.2.2.2.2.2.1, s1.2.2.2.2.2.2))
     else
      some (.inr (s1.2.1, s1.2.2.1, s1.2.2.2.1, s1.2.2.2.2.1, s1.2.2.2.2.2.1, s1.2.2.2.2.2.2)) : Int × Bool × T5 → Option ((Int × Bool × T5) ⊕ (Bool × T5))) n (i, true, tup5 u) = some (true, tup5 u) := fun u i h0 => by
      refine Yt ?_ h0
      simp
    have hd : decide ((j : Int) ≥ 0) = true := by simp
    by_cases c1 : (mkT 14 1 0 [⟨0, p.W, (j : Int), ⟨[]⟩, []⟩, x]).2 = true
    · have hf1 : fine (mkT 14 1 0 [⟨0, p.W, (j : Int), ⟨[]⟩, []⟩, x]).1 := (YS c1).1
      have em2 := Xz (b := false) (op := 17) (w := p.W) (ks := [(mkT 14 1 0 [⟨0, p.W, (j : Int), ⟨[]⟩, []⟩, x]).1, rg mem j, t]) (sml3f hf1 (ZbP hf (by omega) (by omega)).1 ht.1)
      have ecel : cel p.W (j : Int) x (rg mem j) t = mkT 17 p.W 0 [(mkT 14 1 0 [⟨0, p.W, (j : Int), ⟨[]⟩, []⟩, x]).1, rg mem j, t] := by unfold cel kT; rw [Zl2 c1]
      by_cases c2 : (mkT 17 p.W 0 [(mkT 14 1 0 [⟨0, p.W, (j : Int), ⟨[]⟩, []⟩, x]).1, rg mem j, t]).2 = true
      · obtain ⟨t', h1, h2⟩ := ih (mkT 17 p.W 0 [(mkT 14 1 0 [⟨0, p.W, (j : Int), ⟨[]⟩, []⟩, x]).1, rg mem j, t]).1 n (YS c2) (by omega) (by omega)
        have hl : ldT p.W x mem (j + 1) t = ldT p.W x mem j (mkT 17 p.W 0 [(mkT 14 1 0 [⟨0, p.W, (j : Int), ⟨[]⟩, []⟩, x]).1, rg mem j, t]).1 := by
          conv => lhs; unfold ldT
          rw [ecel, Zl2 c2]
        rw [hl]
        refine ⟨t', ?_, h2⟩
        rw [← h1]
        refine Xl ?_
        simp only [tup5, hd, Zmt, ZlJ, Zi, Zlw, em, c1, ZlA, Znu, Zmm, Zmt, eg, Zd1, em2, c2]
        rw [Zp (by omega) (by omega)]
      · have hl : ldT p.W x mem (j + 1) t = (t0, false) := by
          conv => lhs; unfold ldT
          rw [ecel, Zl1 c2]
        have c2' : (mkT 17 p.W 0 [(mkT 14 1 0 [⟨0, p.W, (j : Int), ⟨[]⟩, []⟩, x]).1, rg mem j, t]).2 = false := by simpa using c2
        rw [hl]
        refine ⟨(mkT 17 p.W 0 [(mkT 14 1 0 [⟨0, p.W, (j : Int), ⟨[]⟩, []⟩, x]).1, rg mem j, t]).1, ?_, fun h => by cases h⟩
        rw [Xl (s' := (w64 ((j : Int) - 1), true, tup5 (mkT 17 p.W 0 [(mkT 14 1 0 [⟨0, p.W, (j : Int), ⟨[]⟩, []⟩, x]).1, rg mem j, t]).1)), stop _ _ (by omega)]
        · rfl
        · simp only [tup5, hd, Zmt, ZlJ, Zi, Zlw, em, c1, ZlA, Znu, Zmm, eg, Zd1, em2, c2', ZlT]
    · have c1' : (mkT 14 1 0 [⟨0, p.W, (j : Int), ⟨[]⟩, []⟩, x]).2 = false := by simpa using c1
      have hl : ldT p.W x mem (j + 1) t = (t0, false) := by
        conv => lhs; unfold ldT
        have : cel p.W (j : Int) x (rg mem j) t = (t0, false) := by unfold cel kT; rw [Zl1 c1]
        rw [this]; rfl
      rw [hl]
      refine ⟨t, ?_, fun h => by cases h⟩
      rw [Xl (s' := (w64 ((j : Int) - 1), true, tup5 t)), stop _ _ (by omega)]
      · rfl
      · simp only [tup5, hd, Zmt, ZlJ, Zi, Zlw, em, c1', Zmm, Bool.or_true, ZlA, Zly, Zl9, ZlT]
theorem ZhV {p : D.Program} {s : D.Path} {x : D.Term} (hp : progB p = true) (hm : (s.Mem.length : Int) = p.Mem) (hf : fw p.W s.Mem) (hx : fine x) (hc : x.Op = 0 → 0 ≤ x.N ∧ x.N < p.Mem) :
  ∃ t', YE fuel ⟨false⟩ p s x = some (t', ⟨!(load p.W s.Mem x).2⟩) ∧ ((load p.W s.Mem x).2 = true → t' = (load p.W s.Mem x).1) := by
 have hm6 := Yh hp
 unfold YE load
 by_cases c : x.Op = 0
 ·obtain ⟨n0, n1⟩ := hc c
  refine ⟨rg s.Mem x.N, ?_, fun _ => by rw [Zl2 c]⟩
  rw [Zl2 (by simpa using c), Zl2 c, ZbH n0 (by omega)]; rfl
 ·have e1 : w64 (p.Mem - 1) = ((s.Mem.length - 1 : Nat) : Int) := by rw [Zp (by omega) (by omega)]; omega
  have e2 : w64 (p.Mem - 2) = ((s.Mem.length - 1 : Nat) : Int) - 1 := by rw [Zp (by omega) (by omega)]; omega
  obtain ⟨t', h1, h2⟩ := Zkt hp hm hf hx (s.Mem.length - 1) (rg s.Mem ((s.Mem.length - 1 : Nat) : Int)) fuel (ZbP hf (by omega) (by omega)) (by omega) (by unfold fuel; omega)
  refine ⟨t', ?_, fun h => by rw [Zl1 c] at h ⊢; exact h2 h⟩
  rw [Zl1 (by simpa using c), Zl1 c, e1, e2, ZbH (by omega) (by omega)]
  simp only [Zlw]
  rw [h1]
  simp only [Zlw, Zd1]
theorem ZiE {p : D.Program} {s : D.Path} {x : D.Term} (hp : progB p = true) (hm : (s.Mem.length : Int) = p.Mem) (hf : fw p.W s.Mem) (hc : x.Op = 0 → 0 ≤ x.N ∧ x.N < p.Mem) (h : (load p.W s.Mem x).2 = true) : fine (load p.W s.Mem x).1 ∧ (load p.W s.Mem x).1.W = p.W := by
 have hm6 := Yh hp
 unfold load at h ⊢
 by_cases c : x.Op = 0
 ·rw [Zl2 c]
  obtain ⟨n0, n1⟩ := hc c
  exact ZbP hf n0 (by omega)
 ·rw [Zl1 c] at h ⊢
  exact Zgo (ZbP hf (by omega) (by omega)) h
theorem ZhQ {α : Type} {m1 m2 : List α} {t : α} {i : Int} (h : i = (m1.length : Int)) : get? (m1 ++ t :: m2) i = some t := by
 subst h
 rw [get?_nat]; simp
theorem set_mid {α : Type} {m1 m2 : List α} {t u : α} {i : Int} (h : i = (m1.length : Int)) : set? (m1 ++ t :: m2) i u = some (m1 ++ u :: m2) := by
 subst h
 rw [set?_nat (by simp)]; simp
noncomputable def stG (w : Int) (x v : D.Term) : Nat → List D.Term → List D.Term × Bool
 | _, [] => ([], true)
 | i, t :: l => if (cel w (i : Int) x v t).2 = true then ((cel w (i : Int) x v t).1 :: (stG w x v (i + 1) l).1, (stG w x v (i + 1) l).2) else ([], false)
theorem ZhA {w : Int} {x v : D.Term} : ∀ {l : List D.Term} {i : Nat}, (stG w x v i l).2 = true → (stG w x v i l).1.length = l.length
 | [], i, _ => rfl
 | t :: l, i, h => by
  unfold stG at h ⊢
  split at h
  ·rename_i c; rw [Zl2 c]; simp only [ZlP, ZhA (l := l) (i := i + 1) h]
  ·cases h
theorem ZjH {w : Int} {x v : D.Term} : ∀ {l : List D.Term} {i : Nat}, (stG w x v i l).2 = true → fw w (stG w x v i l).1
 | [], i, _ => fun t ht => by cases ht
 | t :: l, i, h => by
  unfold stG at h ⊢
  split at h
  ·rename_i c
   rw [Zl2 c]
   intro y hy
   rcases Zmu.1 hy with rfl | hy
   ·exact ZeI c
   ·exact ZjH (l := l) (i := i + 1) h y hy
  ·cases h
theorem ZkC {p : D.Program} {mem x3 : List D.Term} {x v : D.Term} (hp : progB p = true) (hm : (mem.length : Int) = p.Mem) (hf : fw p.W mem) (hx : fine x) (hv : fine v) (h3 : len x3 = (mem.length : Int)) : ∀ (m2 m1 done rest : List D.Term) (n : Nat), mem = m1 ++ m2 → done.length = m1.length → rest.length = m2.length → m2.length < n →
    iterN (fun (s1 : Int × (List D.Term)) =>
   if (decide (s1.1 < (len x3))) then
    (get? mem s1.1).bind fun x4 =>
    (X5 fuel p s1.1 x v x4).bind fun x5 =>
    if (!x5.2) then
     some (.inr (.inr (([] : List D.Term), false)))
    else
     (set? s1.2 s1.1 x5.1).bind fun x6 =>
     some (.inl ((w64 (s1.1 + 1)), x6))
   else
    some (.inr (.inl (s1.2))) : Int × List D.Term → Option ((Int × List D.Term) ⊕ (List D.Term ⊕ (List D.Term × Bool))))
     n ((m1.length : Int), done ++ rest) = some (if (stG p.W x v m1.length m2).2 = true then (.inl (done ++ (stG p.W x v m1.length m2).1) : List D.Term ⊕ (List D.Term × Bool)) else .inr ([], false)) := by
  have hm6 := Yh hp
  intro m2
  induction m2 with
  | nil =>
    intro m1 done rest n he hd hr hn
    have : rest = [] := Zmi.1 hr
    subst this
    refine Yt ?_ (by omega)
    have hml : (m1.length : Int) = mem.length := by rw [he]; simp
    simp only
    rw [Zl1 (by rw [h3]; simp; omega)]
    simp [stG]
  | cons t m2 ih =>
    intro m1 done rest n he hd hr hn
    obtain ⟨n, rfl⟩ : ∃ m, n = m + 1 := ⟨n - 1, by simp at hn; omega⟩
    obtain ⟨r, rest, rfl⟩ : ∃ r l, rest = r :: l := by
      cases rest with
      | nil => simp at hr
      | cons r l => exact ⟨r, l, rfl⟩
    have hml : (mem.length : Int) = m1.length + (m2.length + 1) := by rw [he]; simp
    have ht : fine t ∧ t.W = p.W := hf t (by rw [he]; simp)
    have hg : get? mem (m1.length : Int) = some t := by rw [he]; exact ZhQ rfl
    have ec := ZgB (p := p) (k := (m1.length : Int)) (x := x) (a := v) (b := t) (ZbW hp (by omega) (by omega)) hx hv ht.1
    have hc : decide ((m1.length : Int) < len x3) = true := by rw [h3]; simp; omega
    have e1 : w64 ((m1.length : Int) + 1) = ((m1 ++ [t]).length : Int) := by rw [Zp (by omega) (by omega)]; simp
    unfold stG
    by_cases c : (cel p.W (m1.length : Int) x v t).2 = true
    · rw [Zl2 c]
      have := ih (m1 ++ [t]) (done ++ [(cel p.W (m1.length : Int) x v t).1]) rest n (by rw [he]; simp) (by simp [hd]) (by simpa using hr) (by simp at hn; omega)
      have el : (m1 ++ [t]).length = m1.length + 1 := by simp
      rw [el] at this
      simp only [Zmv, Zm4] at this
      rw [← this]
      refine Xl ?_
      simp only [hc, hg, Zlw, ec, c, ZlJ, ZlA, Zly, Zl9]
      rw [set_mid (by rw [hd])]
      simp only [Zlw, e1, el]
    · rw [Zl1 c]
      refine Yt ?_ (by omega)
      simp only [hc, hg, Zlw, ec, ZlJ]
      rw [Zl2 (by simpa using c)]; rfl
noncomputable def store (w : Int) (mem : List D.Term) (x v : D.Term) : List D.Term × Bool := if x.Op = 0 then (mem.set x.N.toNat v, true) else if (stG w x v 0 mem).2 = true then ((stG w x v 0 mem).1, true) else ([], false)
theorem Zhu {p : D.Program} {s : D.Path} {x v : D.Term} (hp : progB p = true) (hm : (s.Mem.length : Int) = p.Mem) (hf : fw p.W s.Mem) (hx : fine x) (hv : fine v) (hc : x.Op = 0 → 0 ≤ x.N ∧ x.N < p.Mem) : Zbi fuel p s x v = some (store p.W s.Mem x v) := by
 have hm6 := Yh hp
 unfold Zbi store Zb
 simp only [Zlw]
 by_cases c : x.Op = 0
 ·obtain ⟨n0, n1⟩ := hc c
  rw [Zl2 (by simpa using c), Zl2 c, put_eq (by omega) n0 (by omega)]; rfl
 ·rw [Zl1 (by simpa using c), Zl1 c]
  obtain ⟨x3, e3, l3⟩ : ∃ x3, mk? p.Mem (D.Term.mk 0 0 0 ⟨[]⟩ ([] : List D.Term)) = some x3 ∧ x3.length = s.Mem.length := by
   refine ⟨List.replicate p.Mem.toNat (D.Term.mk 0 0 0 ⟨[]⟩ ([] : List D.Term)), ?_, by simp; omega⟩
   unfold mk?
   rw [Zl2 ⟨by omega, by unfold room; omega⟩]
  rw [e3]
  simp only [Zlw]
  have := ZkC hp hm hf hx hv (x3 := x3) (by unfold len; omega) s.Mem [] [] x3 fuel rfl rfl l3 (by unfold fuel; omega)
  simp only [Zms, Zni] at this
  rw [show ((0 : Nat) : Int) = 0 from rfl] at this
  rw [this]
  simp only [Zlw]
  cases h : (stG p.W x v 0 s.Mem).2 <;> simp
theorem Zkv {p : D.Program} {mem : List D.Term} {x v : D.Term} (hp : progB p = true) (hm : (mem.length : Int) = p.Mem) (hf : fw p.W mem) (hx : fine x) (hv : fine v) : ∀ (m2 m1 done rest : List D.Term) (n : Nat), mem = m1 ++ m2 → done.length = m1.length → rest.length = m2.length → m2.length + 1 < n →
    ∃ l', iterN (fun (s1 : Int × Bool × (List D.Term)) =>
   if ((decide (s1.1 < p.Mem)) && (!s1.2.1)) then
    (Z6 p.W s1.1).bind fun x3 =>
    (Zg fuel (D.l06Maker.mk s1.2.1) 14 1 ([(D.Term.mk x3.Op x3.W x3.N x3.Name ([] : List D.Term)), x] : List D.Term)).bind fun x4 =>
    if (!x4.2.bad) then
     (get? mem s1.1).bind fun x5 =>
     (Zg fuel x4.2 17 p.W ([x4.1, v, x5] : List D.Term)).bind fun x6 =>
     (set? s1.2.2 s1.1 x6.1).bind fun x7 =>
     some (.inl ((w64 (s1.1 + 1)), x6.2.bad, x7))
    else
     some (.inl ((w64 (s1.1 + 1)), x4.2.bad, s1.2.2))
   else
    some (.inr (s1.2.1, s1.2.2)) : Int × Bool × List D.Term → Option ((Int × Bool × List D.Term) ⊕ (Bool × List D.Term)))
     n ((m1.length : Int), false, done ++ rest) = some (!(stG p.W x v m1.length m2).2, l') ∧ l'.length = mem.length ∧ ((stG p.W x v m1.length m2).2 = true → l' = done ++ (stG p.W x v m1.length m2).1) := by
  have hm6 := Yh hp
  intro m2
  induction m2 with
  | nil =>
    intro m1 done rest n he hd hr hn
    have : rest = [] := Zmi.1 hr
    subst this
    have hml : (m1.length : Int) = mem.length := by rw [he]; simp
    refine ⟨done, ?_, by omega, fun _ => by simp [stG]⟩
    refine Yt ?_ (by omega)
    simp only
    rw [Zl1 (by simp; omega)]
    simp [stG]
  | cons t m2 ih =>
    intro m1 done rest n he hd hr hn
    obtain ⟨n, rfl⟩ : ∃ m, n = m + 1 := ⟨n - 1, by simp at hn; omega⟩
    obtain ⟨r, rest, rfl⟩ : ∃ r l, rest = r :: l := by
      cases rest with
      | nil => simp at hr
      | cons r l => exact ⟨r, l, rfl⟩
    simp only [ZlP] at hr hn
    have hml : (mem.length : Int) = m1.length + (m2.length + 1) := by rw [he]; simp
    have hmn : mem.length = m1.length + (m2.length + 1) := by omega
    have ht : fine t ∧ t.W = p.W := hf t (by rw [he]; simp)
    have hg : get? mem (m1.length : Int) = some t := by rw [he]; exact ZhQ rfl
    have hw := ZbW hp (k := (m1.length : Int)) (by omega) (by omega)
    have em := Xz (b := false) (op := 14) (w := 1) (ks := [kT p.W m1.length, x]) (sml2f (ZbA hw) hx)
    unfold kT at em
    have hc : decide ((m1.length : Int) < p.Mem) = true := by simp; omega
    have e1 : w64 ((m1.length : Int) + 1) = ((m1 ++ [t]).length : Int) := by rw [Zp (by omega) (by omega)]; simp
    have el : (m1 ++ [t]).length = m1.length + 1 := by simp
    have stop : ∀ u : List D.Term, ∀ i : Int, 0 < n → iterN (fun (s1 : Int × Bool × (List D.Term)) =>
       if ((decide (s1.1 < p.Mem)) && (!s1.2.1)) then
        (Z6 p.W s1.1).bind fun x3 =>
        (Zg fuel (D.l06Maker.mk s1.2.1) 14 1 ([(D.Term.mk x3.Op x3.W x3.N x3.Name ([] : List D.Term)), x] : List D.Term)).bind fun x4 =>
        if (!x4.2.bad) then
         (get? mem s1.1).bind fun x5 =>
         (Zg fuel x4.2 17 p.W ([x4.1, v, x5] : List D.Term)).bind fun x6 =>
         (set? s1.2.2 s1.1 x6.1).bind fun x7 =>
         some (.inl ((w64 (s1.1 + 1)), x6.2.bad, x7))
        else
         some (.inl ((w64 (s1.1 + 1)), x4.2.bad, s1.2.2))
       else
        some (.inr (s1.2.1, s1.2.2)) : Int × Bool × List D.Term → Option ((Int × Bool × List D.Term) ⊕ (Bool × List D.Term))) n (i, true, u) = some (true, u) := fun u i h0 => by
      refine Yt ?_ h0
      simp
    by_cases c1 : (mkT 14 1 0 [⟨0, p.W, (m1.length : Int), ⟨[]⟩, []⟩, x]).2 = true
    · have hf1 : fine (mkT 14 1 0 [⟨0, p.W, (m1.length : Int), ⟨[]⟩, []⟩, x]).1 := (YS c1).1
      have em2 := Xz (b := false) (op := 17) (w := p.W) (ks := [(mkT 14 1 0 [⟨0, p.W, (m1.length : Int), ⟨[]⟩, []⟩, x]).1, v, t]) (sml3f hf1 hv ht.1)
      have ecel : cel p.W (m1.length : Int) x v t = mkT 17 p.W 0 [(mkT 14 1 0 [⟨0, p.W, (m1.length : Int), ⟨[]⟩, []⟩, x]).1, v, t] := by unfold cel kT; rw [Zl2 c1]
      by_cases c2 : (mkT 17 p.W 0 [(mkT 14 1 0 [⟨0, p.W, (m1.length : Int), ⟨[]⟩, []⟩, x]).1, v, t]).2 = true
      · have hl : stG p.W x v m1.length (t :: m2) = ((mkT 17 p.W 0 [(mkT 14 1 0 [⟨0, p.W, (m1.length : Int), ⟨[]⟩, []⟩, x]).1, v, t]).1 :: (stG p.W x v (m1.length + 1) m2).1, (stG p.W x v (m1.length + 1) m2).2) := by
          conv => lhs; unfold stG
          rw [ecel, Zl2 c2]
        obtain ⟨l', h1, h2, h3⟩ := ih (m1 ++ [t]) (done ++ [(mkT 17 p.W 0 [(mkT 14 1 0 [⟨0, p.W, (m1.length : Int), ⟨[]⟩, []⟩, x]).1, v, t]).1]) rest n (by rw [he]; simp) (by simp [hd]) (by omega) (by omega)
        rw [el] at h1 h3
        simp only [Zmv, Zm4] at h1 h3
        rw [hl]
        refine ⟨l', ?_, h2, h3⟩
        rw [← h1]
        refine Xl ?_
        simp only [hc, Zmt, ZlJ, Zi, Zlw, em, c1, ZlA, Znu, Zmm, hg, em2, c2]
        rw [set_mid (by rw [hd])]
        simp only [Zlw, e1, el]
      · have c2' : (mkT 17 p.W 0 [(mkT 14 1 0 [⟨0, p.W, (m1.length : Int), ⟨[]⟩, []⟩, x]).1, v, t]).2 = false := by simpa using c2
        have hl : stG p.W x v m1.length (t :: m2) = ([], false) := by
          conv => lhs; unfold stG
          rw [ecel, Zl1 c2]
        rw [hl]
        refine ⟨done ++ (mkT 17 p.W 0 [(mkT 14 1 0 [⟨0, p.W, (m1.length : Int), ⟨[]⟩, []⟩, x]).1, v, t]).1 :: rest, ?_, by simp; omega, fun h => by cases h⟩
        rw [Xl (s' := (w64 ((m1.length : Int) + 1), true, done ++ (mkT 17 p.W 0 [(mkT 14 1 0 [⟨0, p.W, (m1.length : Int), ⟨[]⟩, []⟩, x]).1, v, t]).1 :: rest)), stop _ _ (by omega)]
        · rfl
        · simp only [hc, Zmt, ZlJ, Zi, Zlw, em, c1, ZlA, Znu, Zmm, hg, em2, c2', ZlT]
          rw [set_mid (by rw [hd])]
          simp only [Zlw]
    · have c1' : (mkT 14 1 0 [⟨0, p.W, (m1.length : Int), ⟨[]⟩, []⟩, x]).2 = false := by simpa using c1
      have hl : stG p.W x v m1.length (t :: m2) = ([], false) := by
        conv => lhs; unfold stG
        have : cel p.W (m1.length : Int) x v t = (t0, false) := by unfold cel kT; rw [Zl1 c1]
        rw [this]; rfl
      rw [hl]
      refine ⟨done ++ r :: rest, ?_, by simp; omega, fun h => by cases h⟩
      rw [Xl (s' := (w64 ((m1.length : Int) + 1), true, done ++ r :: rest)), stop _ _ (by omega)]
      · rfl
      · simp only [hc, Zmt, ZlJ, Zi, Zlw, em, c1', Zmm, Bool.or_true, ZlA, Zly, Zl9, ZlT]
theorem Zhq {p : D.Program} {s : D.Path} {x v : D.Term} (hp : progB p = true) (hm : (s.Mem.length : Int) = p.Mem) (hf : fw p.W s.Mem) (hx : fine x) (hv : fine v) (hc : x.Op = 0 → 0 ≤ x.N ∧ x.N < p.Mem) :
  ∃ l', Y3 fuel ⟨false⟩ p s x v = some (l', ⟨!(store p.W s.Mem x v).2⟩) ∧ l'.length = s.Mem.length ∧ ((store p.W s.Mem x v).2 = true → l' = (store p.W s.Mem x v).1) := by
 have hm6 := Yh hp
 unfold Y3 store
 rw [ZkN (by omega)]
 simp only [Zlw]
 by_cases c : x.Op = 0
 ·obtain ⟨n0, n1⟩ := hc c
  refine ⟨s.Mem.set x.N.toNat v, ?_, by simp, fun _ => by rw [Zl2 c]⟩
  rw [Zl2 (by simpa using c), Zl2 c, Zhn n0 (by omega)]; rfl
 ·obtain ⟨l', h1, h2, h3⟩ := Zkv hp hm hf hx hv s.Mem [] [] s.Mem fuel rfl rfl rfl (by unfold fuel; omega)
  simp only [Zms, Zni] at h1 h3
  rw [show ((0 : Nat) : Int) = 0 from rfl] at h1
  refine ⟨l', ?_, h2, fun h => ?_⟩
  ·rw [Zl1 (by simpa using c), Zl1 c, h1]
   simp only [Zlw]
   cases h : (stG p.W x v 0 s.Mem).2 <;> simp
  ·rw [Zl1 c] at h ⊢
   by_cases d : (stG p.W x v 0 s.Mem).2 = true
   ·rw [Zl2 d]; exact h3 d
   ·rw [Zl1 d] at h; cases h
theorem Zha {p : D.Program} {s : D.Path} {x v : D.Term} (hf : fw p.W s.Mem) (hv : fine v ∧ v.W = p.W) (h : (store p.W s.Mem x v).2 = true) : fw p.W (store p.W s.Mem x v).1 ∧ (store p.W s.Mem x v).1.length = s.Mem.length := by
 unfold store at h ⊢
 by_cases c : x.Op = 0
 ·rw [Zl2 c]
  exact ⟨Zjy hf hv, by simp⟩
 ·rw [Zl1 c] at h ⊢
  by_cases d : (stG p.W x v 0 s.Mem).2 = true
  ·rw [Zl2 d]; exact ⟨ZjH d, ZhA d⟩
  ·rw [Zl1 d] at h; cases h
structure insF (w n : Int) (i : D.Ins) : Prop where
 op : 1 ≤ i.Op ∧ i.Op ≤ 14
 a : i.Op ≠ 9 → i.Op ≠ 11 → i.Op ≠ 12 → i.Op ≠ 14 → 0 ≤ i.A ∧ i.A < 4
 b : i.Op = 2 ∨ i.Op = 3 ∨ i.Op = 7 ∨ i.Op = 8 → 0 ≤ i.B ∧ i.B < 4
 v : i.Op = 1 → wordB w i.B = true
 c : i.Op = 3 → 3 ≤ i.C ∧ i.C ≤ 16
 t : i.Op = 9 ∨ i.Op = 10 ∨ i.Op = 11 → 0 ≤ i.B ∧ i.B ≤ n
theorem Zlt (a : Int) : Yy a = some (decide (0 ≤ a ∧ a < 4)) := by
 unfold Yy Zk
 by_cases h : 0 ≤ a ∧ a < 4
 ·have h1 := h.1; have h2 : a ≤ 3 := by omega
  simp [h1, h2, h]
 ·have : ¬(0 ≤ a ∧ a ≤ 3) := by omega
  simp only [decide_eq_false h, Option.some.injEq]
  simp; omega
theorem Zih {w n : Int} {i : D.Ins} (h : insB w n i = true) : insF w n i := by
 unfold insB Xn Zk at h
 simp only [Zlt, YM, Zlw] at h
 by_cases c : 1 ≤ i.Op ∧ i.Op ≤ 14
 ·have : i.Op = 1 ∨ i.Op = 2 ∨ i.Op = 3 ∨ i.Op = 4 ∨ i.Op = 5 ∨ i.Op = 6 ∨ i.Op = 7 ∨ i.Op = 8 ∨ i.Op = 9 ∨ i.Op = 10 ∨ i.Op = 11 ∨ i.Op = 12 ∨ i.Op = 13 ∨ i.Op = 14 := by omega
  rcases this with c | c | c | c | c | c | c | c | c | c | c | c | c | c <;> simp [c, Zk] at h
  all_goals (by_cases ha : 0 ≤ i.A ∧ i.A < 4)
  all_goals (by_cases hb : 0 ≤ i.B ∧ i.B < 4)
  all_goals (try simp [ha, hb] at h)
  all_goals (first
   | (exfalso; omega)
   | exact ⟨by omega, fun _ _ _ _ => by omega, fun _ => by omega, fun e => by first | omega | exact h.1 | exact h.2.1 | simp_all, fun _ => by omega, fun _ => by omega⟩)
 ·exfalso
  have n1 : ∀ k : Int, 1 ≤ k → k ≤ 14 → i.Op ≠ k := fun k h1 h2 e => c (by omega)
  simp [n1 1, n1 2, n1 3, n1 4, n1 5, n1 6, n1 7, n1 8, n1 9, n1 10, n1 11, n1 12, n1 13, n1 14] at h
theorem ZeX {p : D.Program} (hp : progB p = true) {i : D.Ins} (hi : i ∈ p.Code) : insF p.W p.Code.length i := by
 unfold progB at hp
 simp only [Zlz, Zl8] at hp
 exact Zih (hp.2 i hi)
noncomputable def qad (p : D.Program) (x : D.Term) : D.Term × Bool × Bool :=
 if (mkT 15 1 0 [x, kT p.W p.Mem]).2 = true then ((mkT 1 1 0 [(mkT 15 1 0 [x, kT p.W p.Mem]).1]).1, true, (mkT 1 1 0 [(mkT 15 1 0 [x, kT p.W p.Mem]).1]).2) else (t0, true, false)
noncomputable def qze (p : D.Program) (x : D.Term) : D.Term × Bool × Bool := ((mkT 14 1 0 [kT p.W 0, x]).1, true, (mkT 14 1 0 [kT p.W 0, x]).2)
noncomputable def qst (p : D.Program) (rs : List D.Term) (i : D.Ins) : D.Term × Bool × Bool :=
 if i.Op = 10 ∨ i.Op = 13 then qze p (rg rs i.A)
 else if i.Op = 3 then (if i.C = 6 ∨ i.C = 7 then qze p (rg rs i.B) else (t0, false, true))
 else if i.Op = 7 then qad p (rg rs i.B)
 else if i.Op = 8 then qad p (rg rs i.A)
 else (t0, false, true)
theorem ZbO {p : D.Program} (hp : progB p = true) : wordB p.W 0 = true := ZbW hp (by omega) (by have := Yh hp; omega)
theorem Zgg {p : D.Program} (hp : progB p = true) {x : D.Term} (hx : fine x) : ZI fuel 14 1 0 [⟨0, p.W, 0, ⟨[]⟩, []⟩, x] = some ((qze p x).1, (qze p x).2.2) := Zbp (sml2f (ZbA (ZbO hp)) hx)
theorem Zfh {p : D.Program} {s : D.Path} {i : D.Ins} (hp : progB p = true) (hs : okP p s) (hi : insF p.W p.Code.length i) : Zal fuel p s i = some (qst p s.Regs i) := by
 have hz := ZbO hp
 have hm := (Yh hp).1
 have hr : ∀ k : Int, 0 ≤ k ∧ k < 4 → get? s.Regs k = some (rg s.Regs k) ∧ fine (rg s.Regs k) := fun k hk => ⟨ZbH hk.1 (by have := hs.rl; omega), (ZbP hs.rf hk.1 (by have := hs.rl; omega)).1⟩
 have had : ∀ x : D.Term, fine x → ((ZI fuel 15 1 0 [x, ⟨0, p.W, p.Mem, ⟨[]⟩, []⟩]).bind fun x8 => if (!x8.2) then some ((D.Term.mk 0 0 0 ⟨[]⟩ ([] : List D.Term)), true, false) else (ZI fuel 1 1 0 ([x8.1] : List D.Term)).bind fun x9 => some (x9.1, true, x9.2)) = some (qad p x) := by
  intro x hx
  have := Zbp (op := 15) (w := 1) (m := 0) (sml2f hx (ZbA hm))
  unfold kT at this
  rw [this]
  simp only [Zlw]
  unfold qad kT
  by_cases c : (mkT 15 1 0 [x, ⟨0, p.W, p.Mem, ⟨[]⟩, []⟩]).2 = true
  ·rw [Zl2 c, Zl1 (by rw [c]; simp), Zbp (sml1f (YS c).1)]; rfl
  ·rw [Zl1 c, Zl2 (by simpa using c)]; rfl
 unfold Zal qst
 rw [ZQ hz]
 simp only [Zlw]
 by_cases c1 : i.Op = 10 ∨ i.Op = 13
 ·obtain ⟨g, f⟩ := hr i.A (hi.a (by omega) (by omega) (by omega) (by omega))
  rw [Zl2 (by simpa using c1), Zl2 c1, g]
  simp only [Zlw]
  rw [Zgg hp f]; rfl
 ·rw [Zl1 (by simpa using c1), Zl1 c1]
  by_cases c2 : i.Op = 3
  ·rw [Zl2 (by simpa using c2), Zl2 c2]
   by_cases c3 : i.C = 6 ∨ i.C = 7
   ·obtain ⟨g, f⟩ := hr i.B (hi.b (by omega))
    rw [Zl1 (by simp; omega), Zl2 c3, g]
    simp only [Zlw]
    rw [Zgg hp f]; rfl
   ·rw [Zl2 (by simp; omega), Zl1 c3]; rfl
  ·rw [Zl1 (by simpa using c2), Zl1 c2]
   by_cases c4 : i.Op = 7
   ·obtain ⟨g, f⟩ := hr i.B (hi.b (by omega))
    rw [Zl2 (by simpa using c4), Zl2 c4]
    simp only [Zlw]
    rw [g, ZQ hm]
    simp only [Zlw]
    exact had _ f
   ·rw [Zl1 (by simpa using c4), Zl1 c4]
    by_cases c5 : i.Op = 8
    ·obtain ⟨g, f⟩ := hr i.A (hi.a (by omega) (by omega) (by omega) (by omega))
     rw [Zl2 (by simpa using c5), Zl2 c5]
     simp only [Zlw]
     rw [g, ZQ hm]
     simp only [Zlw]
     exact had _ f
    ·rw [Zl1 (by simpa using c5), Zl1 c5]; rfl
theorem Zfg {p : D.Program} {s : D.Path} {i : D.Ins} (hp : progB p = true) (hs : okP p s) (hi : insF p.W p.Code.length i) :
  ∃ t', Yx fuel ⟨false⟩ p s i = some (t', (qst p s.Regs i).2.1, ⟨!(qst p s.Regs i).2.2⟩) ∧ ((qst p s.Regs i).2.2 = true → t' = (qst p s.Regs i).1) := by
 have hz := ZbO hp
 have hm := (Yh hp).1
 have hr : ∀ k : Int, 0 ≤ k ∧ k < 4 → get? s.Regs k = some (rg s.Regs k) ∧ fine (rg s.Regs k) := fun k hk => ⟨ZbH hk.1 (by have := hs.rl; omega), (ZbP hs.rf hk.1 (by have := hs.rl; omega)).1⟩
 have hqz : ∀ x : D.Term, fine x → Zg fuel ⟨false⟩ 14 1 [⟨0, p.W, 0, ⟨[]⟩, []⟩, x] = some ((qze p x).1, ⟨!(qze p x).2.2⟩) := fun x hx => by
  rw [Xz (b := false) (sml2f (a := ⟨0, p.W, 0, ⟨[]⟩, []⟩) (ZbA hz) hx)]; rfl
 have had : ∀ x : D.Term, fine x → ∃ t', ((Zg fuel ⟨false⟩ 15 1 [x, ⟨0, p.W, p.Mem, ⟨[]⟩, []⟩]).bind fun x9 => if x9.2.bad then some (x9.1, true, x9.2) else (Zg fuel x9.2 1 1 ([x9.1] : List D.Term)).bind fun x10 => some (x10.1, true, x10.2)) = some (t', true, ⟨!(qad p x).2.2⟩) ∧ (qad p x).2.1 = true ∧ ((qad p x).2.2 = true → t' = (qad p x).1) := by
  intro x hx
  rw [Xz (b := false) (sml2f (b := ⟨0, p.W, p.Mem, ⟨[]⟩, []⟩) hx (ZbA hm))]
  simp only [Zlw]
  unfold qad kT
  by_cases c : (mkT 15 1 0 [x, ⟨0, p.W, p.Mem, ⟨[]⟩, []⟩]).2 = true
  ·refine ⟨(mkT 1 1 0 [(mkT 15 1 0 [x, ⟨0, p.W, p.Mem, ⟨[]⟩, []⟩]).1]).1, ?_, by rw [Zl2 c], fun _ => by rw [Zl2 c]⟩
   rw [Zl1 (by rw [c]; simp), c, Zl2 rfl]
   rw [show (false || !true) = false from rfl, Xz (b := false) (sml1f (YS c).1)]; rfl
  ·refine ⟨(mkT 15 1 0 [x, ⟨0, p.W, p.Mem, ⟨[]⟩, []⟩]).1, ?_, by rw [Zl1 c], fun h => by rw [Zl1 c] at h; cases h⟩
   have c' : (mkT 15 1 0 [x, ⟨0, p.W, p.Mem, ⟨[]⟩, []⟩]).2 = false := by simpa using c
   rw [c', Zl2 (by simp), Zl1 (by simp)]; rfl
 unfold Yx qst
 rw [Zi]
 simp only [Zlw]
 by_cases c1 : i.Op = 10 ∨ i.Op = 13
 ·obtain ⟨g, f⟩ := hr i.A (hi.a (by omega) (by omega) (by omega) (by omega))
  rw [Zl2 (by simpa using c1), Zl2 c1, g]
  simp only [Zlw]
  rw [hqz _ f]
  exact ⟨_, rfl, fun _ => rfl⟩
 ·rw [Zl1 (by simpa using c1), Zl1 c1]
  by_cases c2 : i.Op = 3
  ·rw [Zl2 c2]
   by_cases c3 : i.C = 6 ∨ i.C = 7
   ·obtain ⟨g, f⟩ := hr i.B (hi.b (by omega))
    rw [Zl2 (by simp; omega), Zl2 c3, g]
    simp only [Zlw]
    rw [hqz _ f]
    exact ⟨_, rfl, fun _ => rfl⟩
   ·rw [Zl1 (by simp; omega), Zl1 (by simp; omega), Zl1 c3]
    exact ⟨_, rfl, fun _ => rfl⟩
  ·rw [Zl1 (by simp; omega), Zl1 c2]
   by_cases c4 : i.Op = 7
   ·obtain ⟨g, f⟩ := hr i.B (hi.b (by omega))
    rw [Zl2 (by simp; omega), Zl2 c4, g, Zi]
    simp only [Zlw]
    rw [Zl1 (by simp; omega)]
    obtain ⟨t', h1, h2, h3⟩ := had _ f
    rw [h1, h2]
    exact ⟨t', rfl, h3⟩
   ·rw [Zl1 c4]
    by_cases c5 : i.Op = 8
    ·obtain ⟨g, f⟩ := hr i.A (hi.a (by omega) (by omega) (by omega) (by omega))
     obtain ⟨g2, f2⟩ := hr i.B (hi.b (by omega))
     rw [Zl2 (by simp; omega), Zl2 c5, g, g2, Zi]
     simp only [Zlw]
     rw [Zl2 (by simp; omega)]
     obtain ⟨t', h1, h2, h3⟩ := had _ f
     rw [h1, h2]
     exact ⟨t', rfl, h3⟩
    ·rw [Zl1 (by simp; omega), Zl1 c5]
     exact ⟨_, rfl, fun _ => rfl⟩
theorem Zg1 {op w m : Int} {ks : List D.Term} (h : (mkT op w m ks).2 = true) (hne : ks ≠ []) (hl : ks.length ≤ 3) (hc : (ks.all fun x => x.Op == 0) = true) : ∃ v, ZU ⟨op, w, m, ⟨[]⟩, ks⟩ (ks.map (·.N)) = some v ∧ mkT op w m ks = (kT w v, true) := by
 unfold mkT at h ⊢
 split at h
 ·rename_i c
  rw [Zl2 c]
  obtain ⟨a, b⟩ := ZbG c
  obtain ⟨v, hv, h1, h2⟩ := known a hne hc
  refine ⟨v, h1, ?_⟩
  have e : ZB fuel ⟨op, w, m, ⟨[]⟩, ks⟩ = some (kT w v) := by
   obtain ⟨k, hk, hk2⟩ : ∃ k, fuel = k + 1 ∧ 1000 ≤ k := ⟨fuel - 1, by unfold fuel; omega, by unfold fuel; omega⟩
   rw [hk, ZB, Zl1 (by rw [Ze]; simpa using hne), ZcQ (ks := ks) (n := k) (by omega) (by omega), hc]
   simp only [Zlw, ZlJ, h2 k (by omega), ZQ hv]; rfl
  unfold simp1
  rw [e]; rfl
 ·cases h
theorem Zf3 {p : D.Program} {x : D.Term} (hp : progB p = true) (hx : fine x) (hw : x.W = p.W) (h0 : x.Op = 0) (hok : (qad p x).2.2 = true) (hn : ¬((qad p x).1.Op = 0 ∧ (qad p x).1.N = 1)) : 0 ≤ x.N ∧ x.N < p.Mem := by
 obtain ⟨ex, vx⟩ := YR hx.1 (by simp [h0])
 have hm := Yh hp
 have hx0 : 0 ≤ x.N := by
  rw [hw, ZT (by omega) (by omega)] at vx
  omega
 refine ⟨hx0, ?_⟩
 unfold qad at hok hn
 split at hok
 ·rename_i c
  rw [Zl2 c] at hn
  obtain ⟨v, a1, a2⟩ := Zg1 c (by simp) (by simp) (by simp [h0, kT])
  rw [a2] at hok hn
  obtain ⟨u, b1, b2⟩ := Zg1 hok (by simp) (by simp) (by simp [kT])
  rw [b2] at hn
  refine Decidable.byContradiction fun hlt => hn ⟨rfl, ?_⟩
  have ev : v = 0 := by
   have : ZU ⟨15, 1, 0, ⟨[]⟩, [x, kT p.W p.Mem]⟩ ([x, kT p.W p.Mem].map (·.N)) = some 0 := by
    have e1 : ZE x.W x.N = some true := by rw [YM, vx]
    have e2 : ZE x.W p.Mem = some true := by rw [YM, hw, hm.1]
    simp [ZU, Zk, kT, get?, Yn, e1, e2, Xp, hlt]
   rw [this] at a1
   exact (Option.some.inj a1).symm
  subst ev
  have : ZU ⟨1, 1, 0, ⟨[]⟩, [kT 1 0]⟩ ([kT 1 0].map (·.N)) = some 1 := by decide +kernel
  rw [this] at b1
  exact (Option.some.inj b1).symm
 ·cases hok
theorem Zcg {p : D.Program} {s : D.Path} {i : D.Ins} (hp : progB p = true) (hs : okP p s) (hi : insF p.W p.Code.length i) (hok : (qst p s.Regs i).2.2 = true) (hn : ¬((qst p s.Regs i).1.Op = 0 ∧ (qst p s.Regs i).1.N = 1)) :
  (i.Op = 7 → (rg s.Regs i.B).Op = 0 → 0 ≤ (rg s.Regs i.B).N ∧ (rg s.Regs i.B).N < p.Mem) ∧ (i.Op = 8 → (rg s.Regs i.A).Op = 0 → 0 ≤ (rg s.Regs i.A).N ∧ (rg s.Regs i.A).N < p.Mem) := by
 constructor
 ·intro c h0
  unfold qst at hok hn
  rw [Zl1 (by omega), Zl1 (by omega), Zl2 c] at hok hn
  obtain ⟨b0, b1⟩ := hi.b (by omega)
  have := ZbP hs.rf b0 (by have := hs.rl; omega)
  exact Zf3 hp this.1 this.2 h0 hok hn
 ·intro c h0
  unfold qst at hok hn
  rw [Zl1 (by omega), Zl1 (by omega), Zl1 (by omega), Zl2 c] at hok hn
  obtain ⟨b0, b1⟩ := hi.a (by omega) (by omega) (by omega) (by omega)
  have := ZbP hs.rf b0 (by have := hs.rl; omega)
  exact Zf3 hp this.1 this.2 h0 hok hn
def rwd (c w : Int) : Int := if 14 ≤ c then 1 else w
theorem ZeE {c w : Int} (hw : 1 ≤ w ∧ w ≤ 16) (hc : 1 ≤ c ∧ c ≤ 16) : YX c w = some (rwd c w) := by
 unfold YX Zk rwd
 have h1 := hw.1; have h2 := hw.2; have h3 := hc.1; have h4 := hc.2
 by_cases h : 14 ≤ c <;> simp [h1, h2, h3, h4, h]
theorem Zjz {c w : Int} (hw : 1 ≤ w ∧ w ≤ 16) (hc : 1 ≤ c ∧ c ≤ 16) : Xv c w = some (rwd c w) := by
 unfold Xv ZF rwd
 have h1 := hw.1; have h2 := hw.2
 have h3 : ¬ c < 1 := by omega
 have h4 : ¬ 16 < c := by omega
 by_cases h : 14 ≤ c <;> simp [h1, h2, h3, h4, h]
noncomputable def opd (p : D.Program) (c : Int) (a b : D.Term) : D.Term × Bool :=
 if (mkT c (rwd c p.W) 0 [a, b]).2 = true ∧ 14 ≤ c then mkT 20 p.W 0 [(mkT c (rwd c p.W) 0 [a, b]).1] else mkT c (rwd c p.W) 0 [a, b]
theorem Zja {p : D.Program} {c : Int} {a b : D.Term} (h : (opd p c a b).2 = true) : fine (opd p c a b).1 ∧ (opd p c a b).1.W = p.W := by
 unfold opd at h ⊢
 split at h
 ·rename_i e; rw [Zl2 e]; exact YS h
 ·rename_i e
  rw [Zl1 e]
  have := YS h
  refine ⟨this.1, this.2.trans ?_⟩
  unfold rwd
  rw [Zl1 (fun h14 => e ⟨h, h14⟩)]
theorem ZiM {p : D.Program} {c : Int} {a b : D.Term} (hp : progB p = true) (hc : 3 ≤ c ∧ c ≤ 16) (ha : fine a) (hb : fine b) : Zak fuel p c a b = some (opd p c a b) := by
 have hm := Yh hp
 unfold Zak opd
 rw [Zjz (by omega) (by omega)]
 simp only [Zlw]
 rw [Zbp (sml2f ha hb)]
 simp only [Zlw]
 by_cases h : (mkT c (rwd c p.W) 0 [a, b]).2 = true
 ·by_cases h14 : 14 ≤ c
  ·rw [Zl1 (by rw [h]; simp; omega), Zl2 ⟨h, h14⟩, Zbp (sml1f (YS h).1)]; rfl
  ·rw [Zl2 (by rw [h]; simp; omega), Zl1 (fun e => h14 e.2)]
 ·rw [Zl2 (by simp; left; simpa using h), Zl1 (fun e => h e.1)]
theorem Zjk {p : D.Program} {c : Int} {a b : D.Term} (hp : progB p = true) (hc : 3 ≤ c ∧ c ≤ 16) (ha : fine a) (hb : fine b) {β : Type} (f : D.Term → D.l06Maker → Option β) :
  ((YX c p.W).bind fun x8 => (Zg fuel ⟨false⟩ c x8 [a, b]).bind fun x11 => if ((decide (c ≥ 14)) && (!x11.2.bad)) then (Zg fuel x11.2 20 p.W ([x11.1] : List D.Term)).bind fun x12 => f x12.1 x12.2 else f x11.1 x11.2) = f (opd p c a b).1 ⟨!(opd p c a b).2⟩ := by
 have hm := Yh hp
 rw [ZeE (by omega) (by omega)]
 simp only [Zlw]
 rw [Xz (sml2f ha hb)]
 simp only [Zlw]
 unfold opd
 by_cases h : (mkT c (rwd c p.W) 0 [a, b]).2 = true
 ·by_cases h14 : 14 ≤ c
  ·rw [Zl2 (by rw [h]; simp; omega), Zl2 ⟨h, h14⟩, h, show (false || !true) = false from rfl, Xz (sml1f (YS h).1)]; rfl
  ·rw [Zl1 (by rw [h]; simp; omega), Zl1 (fun e => h14 e.2)]; rfl
 ·have h' : (mkT c (rwd c p.W) 0 [a, b]).2 = false := by simpa using h
  rw [Zl1 (by rw [h']; simp), Zl1 (fun e => h e.1)]; rfl
theorem Zig {k : Int} (h0 : 0 ≤ k) (h9 : k ≤ 9) : Xa fuel k = cat? (strOf [Byt.mk (IntKind.u8.wrap (w64 (48 + k)))]) ⟨[]⟩ := by
 obtain ⟨n, hn⟩ : ∃ n, fuel = n + 2 := ⟨fuel - 2, by unfold fuel; omega⟩
 rw [hn, Xa, Zl1 (by simp; omega), Yt (r := (k, ⟨[]⟩)) (by simp; omega) (by omega)]
 simp only [Zlw]
 exact Zd _
def inT (w k : Int) : D.Term := ⟨22, w, 0, if k = 0 then ⟨[105, 48]⟩ else if k = 1 then ⟨[105, 49]⟩ else ⟨[105, 50]⟩, []⟩
theorem Zk0 {p : D.Program} {k : Int} (h0 : 0 ≤ k) (h2 : k ≤ 2) : Zao fuel p k = some (inT p.W k) := by
 unfold Zao inT
 rw [Zig h0 (by omega)]
 have : k = 0 ∨ k = 1 ∨ k = 2 := by omega
 rcases this with rfl | rfl | rfl
 ·rw [show cat? (strOf [Byt.mk (IntKind.u8.wrap (w64 (48 + 0)))]) ⟨[]⟩ = some ⟨[48]⟩ from by decide +kernel]
  simp only [Zlw]
  rw [show cat? ⟨[105]⟩ ⟨[48]⟩ = some ⟨[105, 48]⟩ from by decide +kernel]; rfl
 ·rw [show cat? (strOf [Byt.mk (IntKind.u8.wrap (w64 (48 + 1)))]) ⟨[]⟩ = some ⟨[49]⟩ from by decide +kernel]
  simp only [Zlw]
  rw [show cat? ⟨[105]⟩ ⟨[49]⟩ = some ⟨[105, 49]⟩ from by decide +kernel]; rfl
 ·rw [show cat? (strOf [Byt.mk (IntKind.u8.wrap (w64 (48 + 2)))]) ⟨[]⟩ = some ⟨[50]⟩ from by decide +kernel]
  simp only [Zlw]
  rw [show cat? ⟨[105]⟩ ⟨[50]⟩ = some ⟨[105, 50]⟩ from by decide +kernel]; rfl
theorem Zkc {p : D.Program} (hp : progB p = true) {k : Int} (h0 : 0 ≤ k) (h2 : k ≤ 2) : ((YL k).bind fun x12 => (cat? ⟨[105]⟩ x12).bind fun x13 => X8 fuel p.W x13) = some (inT p.W k) := by
 have hm := Yh hp
 have hw : ZF p.W = some true := by
  unfold ZF
  have h1 : 1 ≤ p.W := by omega
  have h2 : p.W ≤ 16 := by omega
  simp [h1, h2]
 unfold inT
 have : k = 0 ∨ k = 1 ∨ k = 2 := by omega
 have hv : ∀ s : Str, s.bytes.length ≤ 100 → nameB s = true → X8 fuel p.W s = some ⟨22, p.W, 0, s, []⟩ := fun s hl hn => by
  unfold X8
  rw [hw]
  simp only [Zlw, ZlA, Zly, Zl9]
  rw [Zfk (by omega) (by unfold fuel; omega), hn]; rfl
 rcases this with rfl | rfl | rfl
 ·rw [show YL 0 = some ⟨[48]⟩ from by decide +kernel]
  simp only [Zlw]
  rw [show cat? ⟨[105]⟩ ⟨[48]⟩ = some ⟨[105, 48]⟩ from by decide +kernel]
  simp only [Zlw]
  rw [hv _ (by decide) (by decide +kernel)]; rfl
 ·rw [show YL 1 = some ⟨[49]⟩ from by decide +kernel]
  simp only [Zlw]
  rw [show cat? ⟨[105]⟩ ⟨[49]⟩ = some ⟨[105, 49]⟩ from by decide +kernel]
  simp only [Zlw]
  rw [hv _ (by decide) (by decide +kernel)]; rfl
 ·rw [show YL 2 = some ⟨[50]⟩ from by decide +kernel]
  simp only [Zlw]
  rw [show cat? ⟨[105]⟩ ⟨[50]⟩ = some ⟨[105, 50]⟩ from by decide +kernel]
  simp only [Zlw]
  rw [hv _ (by decide) (by decide +kernel)]; rfl
theorem Zj2 {p : D.Program} (hp : progB p = true) {k : Int} : fine (inT p.W k) ∧ (inT p.W k).W = p.W := by
 have hm := Yh hp
 refine ⟨⟨?_, by unfold inT; rw [Zaf]; simp only [Zaa]; omega⟩, rfl⟩
 have w1 : 1 ≤ p.W := by omega
 have w2 : p.W ≤ 16 := by omega
 have hn : nameB (inT p.W k).Name = true := by
  unfold inT
  by_cases c : k = 0
  ·simp only [c, ZlJ]; decide +kernel
  ·by_cases d : k = 1
   ·simp only [d, ZlJ]; decide +kernel
   ·simp only [c, d, Zl9]; decide +kernel
 rw [Xy, ZW]
 simp only [locB, shB, hn]
 simp [inT, w1, w2]
def stk (p : D.Program) (s : D.Path) (i : D.Ins) : Int :=
 if i.Op = 5 ∧ s.In = p.In then 3 else if i.Op = 6 ∧ s.Out.length = 6 then 4 else if i.Op = 11 ∧ s.Stack.length = 3 then 7 else if i.Op = 12 ∧ s.Stack.length = 0 then 7 else 0
noncomputable def flw (p : D.Program) (s : D.Path) (i : D.Ins) : D.Path × Bool :=
 if i.Op = 1 then ({ s with Pc := s.Pc + 1, Regs := s.Regs.set i.A.toNat (kT p.W i.B) }, true)
 else if i.Op = 2 then ({ s with Pc := s.Pc + 1, Regs := s.Regs.set i.A.toNat (rg s.Regs i.B) }, true)
 else if i.Op = 3 then ({ s with Pc := s.Pc + 1, Regs := s.Regs.set i.A.toNat (opd p i.C (rg s.Regs i.A) (rg s.Regs i.B)).1 }, (opd p i.C (rg s.Regs i.A) (rg s.Regs i.B)).2)
 else if i.Op = 4 then ({ s with Pc := s.Pc + 1, Regs := s.Regs.set i.A.toNat (mkT 1 p.W 0 [rg s.Regs i.A]).1 }, (mkT 1 p.W 0 [rg s.Regs i.A]).2)
 else if i.Op = 5 then ({ s with Pc := s.Pc + 1, Regs := s.Regs.set i.A.toNat (inT p.W s.In), In := s.In + 1 }, true)
 else if i.Op = 6 then ({ s with Pc := s.Pc + 1, Out := s.Out ++ [rg s.Regs i.A] }, true)
 else if i.Op = 7 then ({ s with Pc := s.Pc + 1, Regs := s.Regs.set i.A.toNat (load p.W s.Mem (rg s.Regs i.B)).1 }, (load p.W s.Mem (rg s.Regs i.B)).2)
 else if i.Op = 8 then ({ s with Pc := s.Pc + 1, Mem := (store p.W s.Mem (rg s.Regs i.A) (rg s.Regs i.B)).1 }, (store p.W s.Mem (rg s.Regs i.A) (rg s.Regs i.B)).2)
 else if i.Op = 9 then ({ s with Pc := i.B }, true)
 else if i.Op = 11 then ({ s with Pc := i.B, Stack := s.Stack ++ [s.Pc + 1] }, true)
 else if i.Op = 12 then ({ s with Pc := (s.Stack[s.Stack.length - 1]?).getD 0, Stack := s.Stack.take (s.Stack.length - 1) }, true)
 else if i.Op = 14 then ({ s with Code := 1 }, true)
 else ({ s with Pc := s.Pc + 1 }, true)
theorem ZhM {l : List Int} (h : 0 < l.length) (h9 : l.length ≤ 9) : get? l (w64 (len l - 1)) = some ((l[l.length - 1]?).getD 0) ∧ cut? l 0 (w64 (len l - 1)) = some (l.take (l.length - 1)) := by
 have e : w64 (len l - 1) = ((l.length - 1 : Nat) : Int) := by rw [Ze, Zp (by omega) (by omega)]; omega
 rw [e]
 constructor
 ·rw [get?_nat, Zl0 (by omega)]; rfl
 ·unfold cut?
  rw [Zl2 (by omega)]; simp
theorem ZkK {l : List Int} (h : l.length ≤ 100) : Z9 l = some l := by
 unfold Z9
 rw [Zfv h]; rfl
theorem Zgl {p : D.Program} {s : D.Path} {i : D.Ins} (hp : progB p = true) (hs : okP p s) (hi : insF p.W p.Code.length i) (hpc : s.Pc < p.Code.length) (hk : stk p s i = 0)
  (h7 : i.Op = 7 → (rg s.Regs i.B).Op = 0 → 0 ≤ (rg s.Regs i.B).N ∧ (rg s.Regs i.B).N < p.Mem) (h8 : i.Op = 8 → (rg s.Regs i.A).Op = 0 → 0 ≤ (rg s.Regs i.A).N ∧ (rg s.Regs i.A).N < p.Mem) : Za7 fuel p s i = some (flw p s i) := by
 have hm := Yh hp
 have hl := hs.rl
 have hcl : (p.Code.length : Int) ≤ 40 := by
  unfold progB at hp
  simp only [Zlz, Zl6] at hp
  omega
 have hin := Zc8 hp
 have e1 : w64 (s.Pc + 1) = s.Pc + 1 := Zp (by have := hs.pc.1; omega) (by omega)
 have e2 : w64 (s.In + 1) = s.In + 1 := Zp (by have := hs.inn; omega) (by have := hs.inn; omega)
 have hr : ∀ k : Int, 0 ≤ k ∧ k < 4 → get? s.Regs k = some (rg s.Regs k) ∧ fine (rg s.Regs k) := fun k hk => ⟨ZbH hk.1 (by omega), (ZbP hs.rf hk.1 (by omega)).1⟩
 have hput : ∀ t : D.Term, 0 ≤ i.A ∧ i.A < 4 → XF s.Regs i.A t = some (s.Regs.set i.A.toNat t) := fun t ha => put_eq (by omega) ha.1 (by omega)
 have hop := hi.op
 have hc : i.Op = 1 ∨ i.Op = 2 ∨ i.Op = 3 ∨ i.Op = 4 ∨ i.Op = 5 ∨ i.Op = 6 ∨ i.Op = 7 ∨ i.Op = 8 ∨ i.Op = 9 ∨ i.Op = 10 ∨ i.Op = 11 ∨ i.Op = 12 ∨ i.Op = 13 ∨ i.Op = 14 := by omega
 have hA := hi.a
 have hB := hi.b
 unfold Za7 flw
 rcases hc with c | c | c | c | c | c | c | c | c | c | c | c | c | c <;> simp only [c, Int.reduceBEq, Int.reduceEq, reduceIte, Zly, e1, e2]
 ·rw [ZQ (hi.v c)]
  simp only [Zlw]
  rw [hput _ (hA (by omega) (by omega) (by omega) (by omega))]; rfl
 ·rw [(hr _ (hB (by omega))).1]
  simp only [Zlw]
  rw [hput _ (hA (by omega) (by omega) (by omega) (by omega))]; rfl
 ·obtain ⟨a1, a2⟩ := hr _ (hA (by omega) (by omega) (by omega) (by omega))
  obtain ⟨b1, b2⟩ := hr _ (hB (by omega))
  rw [a1, b1]
  simp only [Zlw]
  rw [ZiM hp (hi.c c) a2 b2]
  simp only [Zlw]
  rw [hput _ (hA (by omega) (by omega) (by omega) (by omega))]; rfl
 ·obtain ⟨a1, a2⟩ := hr _ (hA (by omega) (by omega) (by omega) (by omega))
  rw [a1]
  simp only [Zlw]
  rw [Zbp (sml1f a2)]
  simp only [Zlw]
  rw [hput _ (hA (by omega) (by omega) (by omega) (by omega))]; rfl
 ·have hk3 : s.In ≠ p.In := fun e => by unfold stk at hk; rw [Zl2 ⟨c, e⟩] at hk; cases hk
  have := Zkc hp (k := s.In) hs.inn.1 (by have := hs.inn.2; omega)
  have hf : ∀ {β : Type} (f : D.Term → Option β), ((YL s.In).bind fun x12 => (cat? ⟨[105]⟩ x12).bind fun x13 => (X8 fuel p.W x13).bind f) = f (inT p.W s.In) := fun f => by
   rw [← Zlw (inT p.W s.In) f, ← this]
   simp only [Option.bind_assoc]
  rw [hf, hput _ (hA (by omega) (by omega) (by omega) (by omega))]; rfl
 ·rw [(hr _ (hA (by omega) (by omega) (by omega) (by omega))).1]
  simp only [Zlw]
  rw [ZfC (by have := hs.ol; omega)]; rfl
 ·obtain ⟨b1, b2⟩ := hr _ (hB (by omega))
  rw [b1]
  simp only [Zlw]
  rw [Zi2 hp hs.ml hs.mf b2 (h7 c)]
  simp only [Zlw]
  rw [hput _ (hA (by omega) (by omega) (by omega) (by omega))]; rfl
 ·obtain ⟨a1, a2⟩ := hr _ (hA (by omega) (by omega) (by omega) (by omega))
  obtain ⟨b1, b2⟩ := hr _ (hB (by omega))
  rw [a1, b1]
  simp only [Zlw]
  rw [Zhu hp hs.ml hs.mf a2 b2 (h8 c)]; rfl
 ·rw [Zf9 (by have := hs.sl; omega)]; rfl
 ·have hk0 : s.Stack.length ≠ 0 := fun e => by unfold stk at hk; rw [Zl1 (by omega), Zl1 (by omega), Zl1 (by omega), Zl2 ⟨c, e⟩] at hk; cases hk
  obtain ⟨g1, g2⟩ := ZhM (l := s.Stack) (by omega) (by have := hs.sl; omega)
  rw [g1, g2]
  simp only [Zlw]
  rw [ZkK (by simp; have := hs.sl; omega)]; rfl
theorem ZhL {p : D.Program} {s : D.Path} {i : D.Ins} (hp : progB p = true) (hs : okP p s) (h0 : s.Code = 0) (hi : insF p.W p.Code.length i) (hpc : s.Pc < p.Code.length) (hk : stk p s i = 0)
  (h7 : i.Op = 7 → (rg s.Regs i.B).Op = 0 → 0 ≤ (rg s.Regs i.B).N ∧ (rg s.Regs i.B).N < p.Mem) (h8 : i.Op = 8 → (rg s.Regs i.A).Op = 0 → 0 ≤ (rg s.Regs i.A).N ∧ (rg s.Regs i.A).N < p.Mem) :
  ∃ s', ZL fuel ⟨false⟩ p s i = some (s', ⟨!(flw p s i).2⟩) ∧ ((flw p s i).2 = true → s' = (flw p s i).1) := by
 have hm := Yh hp
 have hl := hs.rl
 have hcl : (p.Code.length : Int) ≤ 40 := by
  unfold progB at hp
  simp only [Zlz, Zl6] at hp
  omega
 have hin := Zc8 hp
 have e1 : w64 (s.Pc + 1) = s.Pc + 1 := Zp (by have := hs.pc.1; omega) (by omega)
 have e2 : w64 (s.In + 1) = s.In + 1 := Zp (by have := hs.inn; omega) (by have := hs.inn; omega)
 have hr : ∀ k : Int, 0 ≤ k ∧ k < 4 → get? s.Regs k = some (rg s.Regs k) ∧ fine (rg s.Regs k) := fun k hk => ⟨ZbH hk.1 (by omega), (ZbP hs.rf hk.1 (by omega)).1⟩
 have hput : ∀ t : D.Term, 0 ≤ i.A ∧ i.A < 4 → set? s.Regs i.A t = some (s.Regs.set i.A.toNat t) := fun t ha => Zhn ha.1 (by omega) t
 have hop := hi.op
 have hc : i.Op = 1 ∨ i.Op = 2 ∨ i.Op = 3 ∨ i.Op = 4 ∨ i.Op = 5 ∨ i.Op = 6 ∨ i.Op = 7 ∨ i.Op = 8 ∨ i.Op = 9 ∨ i.Op = 10 ∨ i.Op = 11 ∨ i.Op = 12 ∨ i.Op = 13 ∨ i.Op = 14 := by omega
 have hA := hi.a
 have hB := hi.b
 have k5 : i.Op = 5 → (s.In == p.In) = false := fun c => by
  have : s.In ≠ p.In := fun e => by unfold stk at hk; rw [Zl2 ⟨c, e⟩] at hk; cases hk
  simpa using this
 have k6 : i.Op = 6 → (len s.Out == 6) = false := fun c => by
  have : s.Out.length ≠ 6 := fun e => by unfold stk at hk; rw [Zl1 (by omega), Zl2 ⟨c, e⟩] at hk; cases hk
  rw [Ze]; simp; omega
 have k11 : i.Op = 11 → (len s.Stack == 3) = false := fun c => by
  have : s.Stack.length ≠ 3 := fun e => by unfold stk at hk; rw [Zl1 (by omega), Zl1 (by omega), Zl2 ⟨c, e⟩] at hk; cases hk
  rw [Ze]; simp; omega
 have k12 : i.Op = 12 → (len s.Stack == 0) = false ∧ 0 < s.Stack.length := fun c => by
  have : s.Stack.length ≠ 0 := fun e => by unfold stk at hk; rw [Zl1 (by omega), Zl1 (by omega), Zl1 (by omega), Zl2 ⟨c, e⟩] at hk; cases hk
  exact ⟨by rw [Ze]; simp; intro e; exact this (by rw [e]; rfl), by omega⟩
 unfold ZL
 rw [ZaV (hs.fine hp)]
 simp only [Zlw]
 unfold flw
 rcases hc with c | c | c | c | c | c | c | c | c | c | c | c | c | c
 all_goals simp only [c, Int.reduceBEq, Int.reduceEq, Int.reduceBNe, reduceIte, Zly, Zmf, ZlZ, cond_true, cond_false, k5, k6, k11, k12, Zlw, bne_self_eq_false, e1, e2]
 ·rw [Zi]
  simp only [Zlw]
  rw [hput _ (hA (by omega) (by omega) (by omega) (by omega))]
  exact ⟨_, rfl, fun _ => by rw [h0]; rfl⟩
 ·rw [(hr _ (hB (by omega))).1]
  simp only [Zlw]
  rw [hput _ (hA (by omega) (by omega) (by omega) (by omega))]
  exact ⟨_, rfl, fun _ => by rw [h0]⟩
 ·obtain ⟨a1, a2⟩ := hr _ (hA (by omega) (by omega) (by omega) (by omega))
  obtain ⟨b1, b2⟩ := hr _ (hB (by omega))
  rw [a1, b1]
  simp only [Zlw]
  have q := Zjk (p := p) hp (hi.c c) a2 b2 (fun t m => (set? s.Regs i.A t).bind fun x13 => (some (.inl (m.bad, s.Pc + 1, s.Mem, s.In, x13, s.Stack, s.Out)) : Option ((Bool × Int × List D.Term × Int × List D.Term × List Int × List D.Term) ⊕ (D.Path × D.l06Maker))))
  have hcc := hi.c c
  rw [ZeE (by omega) (by omega)] at q
  rw [ZeE (by omega) (by omega)]
  simp only [Zlw] at q ⊢
  rw [q, hput _ (hA (by omega) (by omega) (by omega) (by omega))]
  exact ⟨_, rfl, fun _ => by rw [h0]⟩
 ·obtain ⟨a1, a2⟩ := hr _ (hA (by omega) (by omega) (by omega) (by omega))
  rw [a1]
  simp only [Zlw]
  rw [Xz (sml1f a2)]
  simp only [Zlw]
  rw [hput _ (hA (by omega) (by omega) (by omega) (by omega))]
  exact ⟨_, rfl, fun _ => by rw [h0]⟩
 ·have hk3 : s.In ≠ p.In := fun e => by have := k5 c; rw [e] at this; simp at this
  rw [Zk0 (p := p) hs.inn.1 (by have := hs.inn.2; omega)]
  simp only [Zlw]
  rw [hput _ (hA (by omega) (by omega) (by omega) (by omega))]
  exact ⟨_, rfl, fun _ => by rw [h0]; rfl⟩
 ·rw [(hr _ (hA (by omega) (by omega) (by omega) (by omega))).1]
  simp only [Zlw]
  rw [Zay (by simp; have := hs.ol; omega)]
  exact ⟨_, rfl, fun _ => by rw [h0]⟩
 ·obtain ⟨a1, a2⟩ := hr _ (hA (by omega) (by omega) (by omega) (by omega))
  obtain ⟨b1, b2⟩ := hr _ (hB (by omega))
  rw [a1, b1]
  simp only [Zlw]
  obtain ⟨t', q1, q2⟩ := ZhV (s := D.Path.mk (s.Pc + 1) s.Regs s.Mem s.Stack s.In s.Out 0 s.Steps s.Cond s.Turns) (x := rg s.Regs i.B) hp hs.ml hs.mf b2 (h7 c)
  rw [q1]
  simp only [Zlw]
  rw [hput _ (hA (by omega) (by omega) (by omega) (by omega))]
  exact ⟨_, rfl, fun h => by rw [h0, q2 h]⟩
 ·obtain ⟨a1, a2⟩ := hr _ (hA (by omega) (by omega) (by omega) (by omega))
  obtain ⟨b1, b2⟩ := hr _ (hB (by omega))
  rw [a1, b1]
  simp only [Zlw]
  obtain ⟨t', q1, -, q2⟩ := Zhq (s := D.Path.mk (s.Pc + 1) s.Regs s.Mem s.Stack s.In s.Out 0 s.Steps s.Cond s.Turns) (x := rg s.Regs i.A) (v := rg s.Regs i.B) hp hs.ml hs.mf a2 b2 (h8 c)
  rw [q1]
  simp only [Zlw]
  exact ⟨_, rfl, fun h => by rw [h0, q2 h]⟩
 ·exact ⟨_, rfl, fun _ => by rw [h0]⟩
 ·exact ⟨_, rfl, fun _ => by rw [h0]⟩
 ·rw [Zay (by simp; have := hs.sl; omega)]
  exact ⟨_, rfl, fun _ => by rw [h0]⟩
 ·obtain ⟨g1, g2⟩ := ZhM (l := s.Stack) (k12 c).2 (by have := hs.sl; omega)
  rw [g1, g2]
  exact ⟨_, rfl, fun _ => by rw [h0]⟩
 ·exact ⟨_, rfl, fun _ => by rw [h0]⟩
 ·exact ⟨_, rfl, fun _ => rfl⟩
theorem Zj4 {p : D.Program} {s : D.Path} {i : D.Ins} (hp : progB p = true) (hs : okP p s) (hk : stk p s i ≠ 0) : ZL fuel ⟨false⟩ p s i = some ({ s with Code := stk p s i }, ⟨false⟩) := by
 unfold ZL
 rw [ZaV (hs.fine hp)]
 simp only [Zlw]
 unfold stk at hk ⊢
 by_cases c5 : i.Op = 5 ∧ s.In = p.In
 ·simp only [c5, and_self, ZlJ, Int.reduceBEq, ZmI, BEq.rfl, Zlw, Int.reduceBNe]
 ·rw [Zl1 c5] at hk ⊢
  have d5 : ((i.Op == 5) && (s.In == p.In)) = false := by simpa using c5
  by_cases c6 : i.Op = 6 ∧ s.Out.length = 6
  ·have : len s.Out = 6 := by rw [Ze]; omega
   simp only [d5, c6, this, and_self, ZlJ, Int.reduceBEq, ZmI, Zly, Zl9, Zmf, Zlw, Int.reduceBNe]
  ·rw [Zl1 c6] at hk ⊢
   have d6 : ((i.Op == 6) && (len s.Out == 6)) = false := by
    rw [Ze]; simp; intro e h; exact c6 ⟨e, by omega⟩
   by_cases c11 : i.Op = 11 ∧ s.Stack.length = 3
   ·have : len s.Stack = 3 := by rw [Ze]; omega
    simp only [d5, d6, c11, this, and_self, ZlJ, Int.reduceBEq, ZmI, Zly, Zl9, Zmf, Zlw, Int.reduceBNe]
   ·rw [Zl1 c11] at hk ⊢
    have d11 : ((i.Op == 11) && (len s.Stack == 3)) = false := by
     rw [Ze]; simp; intro e h; exact c11 ⟨e, by omega⟩
    by_cases c12 : i.Op = 12 ∧ s.Stack.length = 0
    ·have : len s.Stack = 0 := by rw [Ze]; omega
     simp only [d5, d6, d11, c12, this, and_self, ZlJ, Int.reduceBEq, ZmI, Zly, Zl9, Zmf, Zlw, Int.reduceBNe]
    ·rw [Zl1 c12] at hk; exact absurd rfl hk
theorem ZgW {p : D.Program} {s : D.Path} {i : D.Ins} (hs : okP p s) : Zb3 p s i = some (stk p s i) := by
 have h1 := hs.inn.2
 have h2 := hs.ol
 have h3 := hs.sl
 unfold Zb3 stk
 by_cases c5 : i.Op = 5 ∧ s.In = p.In
 ·rw [Zl2 c5, Zl2 (by simp; omega)]
 ·rw [Zl1 c5, Zl1 (by simp; omega)]
  by_cases c6 : i.Op = 6 ∧ s.Out.length = 6
  ·rw [Zl2 c6, Zl2 (by rw [Ze]; simp; omega)]
  ·rw [Zl1 c6, Zl1 (by rw [Ze]; simp; omega)]
   by_cases c11 : i.Op = 11 ∧ s.Stack.length = 3
   ·rw [Zl2 c11, Zl2 (by rw [Ze]; simp; omega)]
   ·rw [Zl1 c11, Zl1 (by rw [Ze]; simp; omega)]
    by_cases c12 : i.Op = 12 ∧ s.Stack.length = 0
    ·rw [Zl2 c12, Zl2 (by rw [Ze, c12.2]; simp [c12.1])]
    ·rw [Zl1 c12, Zl1 (by rw [Ze]; simp only [Zlz, ZlR]; omega)]
theorem ZkR {w v : Int} (h : wordB w v = true) : fine (kT w v) ∧ (kT w v).W = w := ⟨ZbA h, rfl⟩
theorem Zc3 {p : D.Program} {s : D.Path} (hs : okP p s) (hpc : s.Pc < p.Code.length) {k : Nat} {t : D.Term} (ht : fine t ∧ t.W = p.W) : okP p { s with Pc := s.Pc + 1, Regs := s.Regs.set k t } :=
 ⟨⟨by have := hs.pc.1; show 0 ≤ s.Pc + 1; omega, by show s.Pc + 1 ≤ _; rw [Ze]; omega⟩, by show (s.Regs.set k t).length = 4; rw [Zn1, hs.rl], Zjy hs.rf ht, hs.ml, hs.mf, hs.sl, hs.sp, hs.inn, hs.ol, hs.of, hs.cd, hs.st, hs.cl, hs.cf, hs.tl⟩
theorem ZfP {p : D.Program} {s : D.Path} {i : D.Ins} (hp : progB p = true) (hs : okP p s) (hi : insF p.W p.Code.length i) (hpc : s.Pc < p.Code.length) (hk : stk p s i = 0)
  (h7 : i.Op = 7 → (rg s.Regs i.B).Op = 0 → 0 ≤ (rg s.Regs i.B).N ∧ (rg s.Regs i.B).N < p.Mem) (hok : (flw p s i).2 = true) : okP p (flw p s i).1 := by
 have hop := hi.op
 have hl := hs.rl
 have hr : ∀ k : Int, 0 ≤ k ∧ k < 4 → fine (rg s.Regs k) ∧ (rg s.Regs k).W = p.W := fun k hk => ZbP hs.rf hk.1 (by omega)
 have hc : i.Op = 1 ∨ i.Op = 2 ∨ i.Op = 3 ∨ i.Op = 4 ∨ i.Op = 5 ∨ i.Op = 6 ∨ i.Op = 7 ∨ i.Op = 8 ∨ i.Op = 9 ∨ i.Op = 10 ∨ i.Op = 11 ∨ i.Op = 12 ∨ i.Op = 13 ∨ i.Op = 14 := by omega
 have hA := hi.a
 have hB := hi.b
 have hT := hi.t
 have hn : 0 ≤ s.Pc + 1 ∧ s.Pc + 1 ≤ len p.Code := ⟨by have := hs.pc.1; omega, by rw [Ze]; omega⟩
 unfold flw at hok ⊢
 rcases hc with c | c | c | c | c | c | c | c | c | c | c | c | c | c <;> simp only [c, Int.reduceEq, reduceIte] at hok ⊢
 ·exact Zc3 hs hpc (ZkR (hi.v c))
 ·exact Zc3 hs hpc (hr _ (hB (by omega)))
 ·exact Zc3 hs hpc (Zja hok)
 ·exact Zc3 hs hpc (YS hok)
 ·have h5 : s.In ≠ p.In := fun e => by unfold stk at hk; rw [Zl2 ⟨c, e⟩] at hk; cases hk
  have := Zc3 hs hpc (k := i.A.toNat) (Zj2 hp (k := s.In))
  exact ⟨this.pc, this.rl, this.rf, this.ml, this.mf, this.sl, this.sp, ⟨by have := hs.inn.1; show 0 ≤ s.In + 1; omega, by have := hs.inn.2; show s.In + 1 ≤ p.In; omega⟩, this.ol, this.of, this.cd, this.st, this.cl, this.cf, this.tl⟩
 ·have h6 : s.Out.length ≠ 6 := fun e => by unfold stk at hk; rw [Zl1 (by omega), Zl2 ⟨c, e⟩] at hk; cases hk
  exact ⟨hn, hs.rl, hs.rf, hs.ml, hs.mf, hs.sl, hs.sp, hs.inn, by have := hs.ol; show (s.Out ++ _).length ≤ 6; rw [ZlH]; simp; omega, ZiY hs.of (hr _ (hA (by omega) (by omega) (by omega) (by omega))), hs.cd, hs.st, hs.cl, hs.cf, hs.tl⟩
 ·exact Zc3 hs hpc (ZiE hp hs.ml hs.mf (h7 c) hok)
 ·obtain ⟨q1, q2⟩ := Zha (p := p) (s := s) hs.mf (hr _ (hB (by omega))) hok
  exact ⟨hn, hs.rl, hs.rf, by show ((store _ _ _ _).1.length : Int) = _; rw [q2]; exact hs.ml, q1, hs.sl, hs.sp, hs.inn, hs.ol, hs.of, hs.cd, hs.st, hs.cl, hs.cf, hs.tl⟩
 ·exact ⟨by rw [Ze]; exact hT (by omega), hs.rl, hs.rf, hs.ml, hs.mf, hs.sl, hs.sp, hs.inn, hs.ol, hs.of, hs.cd, hs.st, hs.cl, hs.cf, hs.tl⟩
 ·exact ⟨hn, hs.rl, hs.rf, hs.ml, hs.mf, hs.sl, hs.sp, hs.inn, hs.ol, hs.of, hs.cd, hs.st, hs.cl, hs.cf, hs.tl⟩
 ·have h11 : s.Stack.length ≠ 3 := fun e => by unfold stk at hk; rw [Zl1 (by omega), Zl1 (by omega), Zl2 ⟨c, e⟩] at hk; cases hk
  refine ⟨by rw [Ze]; exact hT (by omega), hs.rl, hs.rf, hs.ml, hs.mf, by have := hs.sl; show (s.Stack ++ _).length ≤ 3; rw [ZlH]; simp; omega, fun x hx => ?_, hs.inn, hs.ol, hs.of, hs.cd, hs.st, hs.cl, hs.cf, hs.tl⟩
  rcases Zmc.1 hx with hx | hx
  ·exact hs.sp x hx
  ·rw [ZlS] at hx; subst hx; exact hn
 ·have h12 : s.Stack.length ≠ 0 := fun e => by unfold stk at hk; rw [Zl1 (by omega), Zl1 (by omega), Zl1 (by omega), Zl2 ⟨c, e⟩] at hk; cases hk
  refine ⟨?_, hs.rl, hs.rf, hs.ml, hs.mf, by have := hs.sl; show (s.Stack.take _).length ≤ 3; rw [ZlW]; omega, fun x hx => hs.sp x (List.mem_of_mem_take hx), hs.inn, hs.ol, hs.of, hs.cd, hs.st, hs.cl, hs.cf, hs.tl⟩
  rw [Zl0 (by omega)]
  exact hs.sp _ (Zml _)
 ·exact ⟨hn, hs.rl, hs.rf, hs.ml, hs.mf, hs.sl, hs.sp, hs.inn, hs.ol, hs.of, hs.cd, hs.st, hs.cl, hs.cf, hs.tl⟩
 ·exact ⟨hs.pc, hs.rl, hs.rf, hs.ml, hs.mf, hs.sl, hs.sp, hs.inn, hs.ol, hs.of, by show (0 : Int) ≤ 1 ∧ (1 : Int) ≤ 9; omega, hs.st, hs.cl, hs.cf, hs.tl⟩
theorem Zeo {p : D.Program} {s : D.Path} {i : D.Ins} {c : List D.Term} {t : List Int} : flw p { s with Cond := c, Turns := t } i = ({ (flw p s i).1 with Cond := c, Turns := t }, (flw p s i).2) := by
 unfold flw
 by_cases c1 : i.Op = 1
 ·simp only [c1, reduceIte]
 by_cases c2 : i.Op = 2
 ·simp only [c2, Int.reduceEq, reduceIte]
 by_cases c3 : i.Op = 3
 ·simp only [c3, Int.reduceEq, reduceIte]
 by_cases c4 : i.Op = 4
 ·simp only [c4, Int.reduceEq, reduceIte]
 by_cases c5 : i.Op = 5
 ·simp only [c5, Int.reduceEq, reduceIte]
 by_cases c6 : i.Op = 6
 ·simp only [c6, Int.reduceEq, reduceIte]
 by_cases c7 : i.Op = 7
 ·simp only [c7, Int.reduceEq, reduceIte]
 by_cases c8 : i.Op = 8
 ·simp only [c8, Int.reduceEq, reduceIte]
 by_cases c9 : i.Op = 9
 ·simp only [c9, Int.reduceEq, reduceIte]
 by_cases c11 : i.Op = 11
 ·simp only [c11, Int.reduceEq, reduceIte]
 by_cases c12 : i.Op = 12
 ·simp only [c12, Int.reduceEq, reduceIte]
 by_cases c14 : i.Op = 14
 ·simp only [c14, Int.reduceEq, reduceIte]
 simp only [c1, c2, c3, c4, c5, c6, c7, c8, c9, c11, c12, c14, reduceIte]
def nmd (s : D.Path) (i : D.Ins) : D.Path :=
 if i.Op = 10 then { s with Pc := i.B } else if i.Op = 13 then { s with Code := 8 } else if i.Op = 3 then { s with Code := 6 } else { s with Code := 5 }
theorem ZeB (s : D.Path) (i : D.Ins) : ZaP s i = some (nmd s i) := by
 unfold ZaP nmd
 by_cases c1 : i.Op = 10
 ·simp [c1]
 by_cases c2 : i.Op = 13
 ·simp [c2]
 by_cases c3 : i.Op = 3
 ·simp [c3]
 simp [c1, c2, c3]
theorem Zg0 (s : D.Path) (i : D.Ins) : X3 s i = some (nmd s i) := by
 unfold X3 nmd
 by_cases c1 : i.Op = 10
 ·simp [c1]
 by_cases c2 : i.Op = 13
 ·simp [c2]
 by_cases c3 : i.Op = 3
 ·simp [c3]
 simp [c1, c2, c3]
theorem Zbq {p : D.Program} {s : D.Path} (hs : okP p s) {k : Int} (hk : 0 ≤ k ∧ k ≤ 9) : okP p { s with Code := k } := ⟨hs.pc, hs.rl, hs.rf, hs.ml, hs.mf, hs.sl, hs.sp, hs.inn, hs.ol, hs.of, hk, hs.st, hs.cl, hs.cf, hs.tl⟩
theorem Zjw {p : D.Program} {s : D.Path} {i : D.Ins} (hs : okP p s) (hi : insF p.W p.Code.length i) : okP p (nmd s i) := by
 unfold nmd
 split
 ·rename_i c
  exact ⟨by rw [Ze]; exact hi.t (by omega), hs.rl, hs.rf, hs.ml, hs.mf, hs.sl, hs.sp, hs.inn, hs.ol, hs.of, hs.cd, hs.st, hs.cl, hs.cf, hs.tl⟩
 ·split
  ·exact Zbq hs (by omega)
  ·split
   ·exact Zbq hs (by omega)
   ·exact Zbq hs (by omega)
theorem ZfK {p : D.Program} {s : D.Path} (hs : okP p s) {t : D.Term} {k : Int} (ht : fine t ∧ t.W = 1) {c : List D.Term} {l : List Int} (hc : fw 1 c) (hcl : c.length < 60) (hl : l.length < 60) : okP p { s with Cond := c ++ [t], Turns := l ++ [k] } :=
 ⟨hs.pc, hs.rl, hs.rf, hs.ml, hs.mf, hs.sl, hs.sp, hs.inn, hs.ol, hs.of, hs.cd, hs.st, by show (c ++ [t]).length ≤ 60; rw [ZlH]; simp; omega, ZiY hc ht, by show (l ++ [k]).length ≤ 60; rw [ZlH]; simp; omega⟩
theorem Zhs {p : D.Program} {rs : List D.Term} {i : D.Ins} (h : (qst p rs i).2.1 = false) : (qst p rs i).1 = t0 := by
 unfold qst at h ⊢
 by_cases c1 : i.Op = 10 ∨ i.Op = 13
 ·rw [Zl2 c1] at h; cases h
 rw [Zl1 c1] at h ⊢
 by_cases c2 : i.Op = 3
 ·rw [Zl2 c2] at h ⊢
  by_cases c3 : i.C = 6 ∨ i.C = 7
  ·rw [Zl2 c3] at h; cases h
  ·rw [Zl1 c3]
 rw [Zl1 c2] at h ⊢
 have hq : ∀ x : D.Term, (qad p x).2.1 = true := fun x => by unfold qad; split <;> rfl
 by_cases c4 : i.Op = 7
 ·rw [Zl2 c4, hq] at h; cases h
 rw [Zl1 c4] at h ⊢
 by_cases c5 : i.Op = 8
 ·rw [Zl2 c5, hq] at h; cases h
 rw [Zl1 c5]
theorem ZeM {p : D.Program} {rs : List D.Term} {i : D.Ins} (h : (qst p rs i).2.1 = true) (hok : (qst p rs i).2.2 = true) : fine (qst p rs i).1 ∧ (qst p rs i).1.W = 1 := by
 have hz : ∀ x : D.Term, (qze p x).2.2 = true → fine (qze p x).1 ∧ (qze p x).1.W = 1 := fun x h => YS h
 have hq : ∀ x : D.Term, (qad p x).2.2 = true → fine (qad p x).1 ∧ (qad p x).1.W = 1 := fun x h => by
  unfold qad at h ⊢
  split at h
  ·rename_i c; rw [Zl2 c]; exact YS h
  ·cases h
 unfold qst at h hok ⊢
 by_cases c1 : i.Op = 10 ∨ i.Op = 13
 ·rw [Zl2 c1] at h hok ⊢; exact hz _ hok
 rw [Zl1 c1] at h hok ⊢
 by_cases c2 : i.Op = 3
 ·rw [Zl2 c2] at h hok ⊢
  by_cases c3 : i.C = 6 ∨ i.C = 7
  ·rw [Zl2 c3] at h hok ⊢; exact hz _ hok
  ·rw [Zl1 c3] at h; cases h
 rw [Zl1 c2] at h hok ⊢
 by_cases c4 : i.Op = 7
 ·rw [Zl2 c4] at h hok ⊢; exact hq _ hok
 rw [Zl1 c4] at h hok ⊢
 by_cases c5 : i.Op = 8
 ·rw [Zl2 c5] at h hok ⊢; exact hq _ hok
 rw [Zl1 c5] at h; cases h
noncomputable def dvd (p : D.Program) (s : D.Path) (i : D.Ins) : List D.Path :=
 if (qst p s.Regs i).2.2 = false then [{ s with Code := 9 }]
 else if (qst p s.Regs i).2.1 = true ∧ (qst p s.Regs i).1.Op = 0 ∧ (qst p s.Regs i).1.N = 1 then [nmd s i]
 else if (flw p s i).2 = false then [{ s with Code := 9 }]
 else if (qst p s.Regs i).2.1 = false ∨ (qst p s.Regs i).1.Op = 0 then [(flw p s i).1]
 else if (mkT 1 1 0 [(qst p s.Regs i).1]).2 = false ∨ s.Cond.length = 60 ∨ s.Turns.length = 60 then [{ s with Code := 9 }]
 else [{ nmd s i with Cond := s.Cond ++ [(qst p s.Regs i).1], Turns := s.Turns ++ [1] }, { (flw p s i).1 with Cond := s.Cond ++ [(mkT 1 1 0 [(qst p s.Regs i).1]).1], Turns := s.Turns ++ [0] }]
theorem ZgM {p : D.Program} {s : D.Path} {i : D.Ins} (hp : progB p = true) (hs : okP p s) (hi : insF p.W p.Code.length i) (hpc : s.Pc < p.Code.length) (hk : stk p s i = 0) : Zbb fuel p s i = some (dvd p s i) := by
 unfold Zbb dvd
 rw [Zfh hp hs hi]
 simp only [Zlw]
 by_cases q1 : (qst p s.Regs i).2.2 = true
 ·have hfl : ¬((qst p s.Regs i).2.1 = true ∧ (qst p s.Regs i).1.Op = 0 ∧ (qst p s.Regs i).1.N = 1) → Za7 fuel p s i = some (flw p s i) := fun hn => by
   have := Zcg hp hs hi q1 (fun e => by
    cases ha : (qst p s.Regs i).2.1
    ·rw [Zhs ha] at e; exact absurd e.2 (by decide)
    ·exact hn ⟨ha, e⟩)
   exact Zgl hp hs hi hpc hk this.1 this.2
  rw [Zl1 (show ¬(!(qst p s.Regs i).2.2) = true by rw [q1]; simp), Zl1 (show ¬(qst p s.Regs i).2.2 = false by rw [q1]; simp)]
  by_cases q2 : (qst p s.Regs i).2.1 = true ∧ (qst p s.Regs i).1.Op = 0 ∧ (qst p s.Regs i).1.N = 1
  ·rw [Zl2 q2, Zl2 q2.1]
   unfold Zo
   simp only [Zlw]
   rw [Zl2 (by simp [q2]), ZeB]; rfl
  ·rw [Zl1 q2]
   have e : ∀ {β : Type} (x y : Option β), ((if (qst p s.Regs i).2.1 = true then Zo (qst p s.Regs i).1 1 else some default).bind fun x2 => if ((qst p s.Regs i).2.1 && x2) = true then x else y) = y := fun x y => by
    cases ha : (qst p s.Regs i).2.1
    ·rfl
    ·unfold Zo
     simp only [ZlJ, Zlw]
     rw [Zl1 (by simp; intro h1 h2; exact q2 ⟨ha, h1, h2⟩)]
   rw [e, hfl q2]
   simp only [Zlw]
   by_cases q3 : (flw p s i).2 = true
   ·rw [Zl1 (show ¬(!(flw p s i).2) = true by rw [q3]; simp), Zl1 (show ¬(flw p s i).2 = false by rw [q3]; simp)]
    cases ha : (qst p s.Regs i).2.1
    ·simp
    ·obtain ⟨f1, f2⟩ := ZeM ha q1
     unfold Zb
     simp only [ZlA, Zly, Zl9, Zlw, ZlT, false_or]
     by_cases q4 : (qst p s.Regs i).1.Op = 0
     ·simp [q4]
     ·rw [Zl1 (by simpa using q4), Zl1 (by simp; exact q4), Zbp (sml1f f1)]
      simp only [Zlw]
      have hcl := hs.cl
      have htl := hs.tl
      by_cases q5 : (mkT 1 1 0 [(qst p s.Regs i).1]).2 = false ∨ s.Cond.length = 60 ∨ s.Turns.length = 60
      ·rw [Zl2 q5, Zl2 (by rw [Ze, Ze]; simp; rcases q5 with h | h | h <;> simp [h])]
      ·rw [Zl1 q5, Zl1 (by rw [Ze, Ze]; simp at q5 ⊢; exact ⟨⟨q5.1, by omega⟩, by omega⟩), ZeB, ZfC (by omega), ZfC (by omega), Zf9 (by omega), Zf9 (by omega)]; rfl
   ·rw [Zl2 (by simpa using q3), Zl2 (by simpa using q3)]
 ·rw [Zl2 (by simpa using q1), Zl2 (by simpa using q1)]
def insAt (p : D.Program) (k : Int) : D.Ins := (p.Code[k.toNat]?).getD ⟨0, 0, 0, 0⟩
theorem ZdC {p : D.Program} {k : Int} (h0 : 0 ≤ k) (h1 : k < p.Code.length) : get? p.Code k = some (insAt p k) ∧ insAt p k ∈ p.Code := by
 obtain ⟨j, rfl⟩ : ∃ j : Nat, k = (j : Int) := ⟨k.toNat, by omega⟩
 unfold insAt
 rw [get?_nat, Znt, Zl0 (by omega)]
 exact ⟨rfl, Zml _⟩
theorem Zez {p : D.Program} {s : D.Path} (hs : okP p s) (h : s.Steps < 400) : okP p { s with Steps := s.Steps + 1 } := ⟨hs.pc, hs.rl, hs.rf, hs.ml, hs.mf, hs.sl, hs.sp, hs.inn, hs.ol, hs.of, hs.cd, by have := hs.st; show 0 ≤ s.Steps + 1 ∧ s.Steps + 1 ≤ 400; omega, hs.cl, hs.cf, hs.tl⟩
noncomputable def stp1 (p : D.Program) (s : D.Path) : List D.Path :=
 if s.Code ≠ 0 ∨ s.Steps = 400 then []
 else if s.Pc = len p.Code then [{ s with Code := 2 }]
 else if stk p { s with Steps := s.Steps + 1 } (insAt p s.Pc) ≠ 0 then [{ s with Steps := s.Steps + 1, Code := stk p { s with Steps := s.Steps + 1 } (insAt p s.Pc) }]
 else dvd p { s with Steps := s.Steps + 1 } (insAt p s.Pc)
theorem Zi1 {p : D.Program} {s : D.Path} (hp : progB p = true) (hs : okP p s) : Xm fuel p s = some (stp1 p s) := by
 have hst := hs.st
 have hpc := hs.pc
 rw [Ze] at hpc
 unfold Xm stp1
 by_cases c1 : s.Code ≠ 0 ∨ s.Steps = 400
 ·rw [Zl2 c1, Zl2 (by simp; rcases c1 with h | h; exact .inl h; right; omega)]
 ·have d1 : s.Code = 0 ∧ s.Steps < 400 := by omega
  rw [Zl1 c1, Zl1 (by simp; omega)]
  by_cases c2 : s.Pc = len p.Code
  ·rw [Zl2 c2, Zl2 (by simpa using c2)]
  ·rw [Zl1 c2, Zl1 (by simpa using c2)]
   rw [Ze] at c2
   obtain ⟨g1, g2⟩ := ZdC (p := p) (k := s.Pc) hpc.1 (by omega)
   have hs1 := Zez hs d1.2
   rw [g1]
   simp only [Zlw]
   rw [Zp (by omega) (by omega), ZgW hs1]
   simp only [Zlw]
   by_cases c3 : stk p { s with Steps := s.Steps + 1 } (insAt p s.Pc) = 0
   ·rw [Zl1 (by rw [c3]; simp), Zl1 (by rw [c3]; simp), ZgM hp hs1 (ZeX hp g2) (by show s.Pc < _; omega) c3]; rfl
   ·rw [Zl2 (by simpa using c3), Zl2 c3]
theorem Zji {s : D.Path} {i : D.Ins} {c : List D.Term} {t : List Int} : nmd { s with Cond := c, Turns := t } i = { nmd s i with Cond := c, Turns := t } := by
 unfold nmd
 by_cases c1 : i.Op = 10
 ·simp only [c1, reduceIte]
 by_cases c2 : i.Op = 13
 ·simp only [c2, Int.reduceEq, reduceIte]
 by_cases c3 : i.Op = 3
 ·simp only [c3, Int.reduceEq, reduceIte]
 simp only [c1, c2, c3, reduceIte]
theorem ZiZ {p : D.Program} {s : D.Path} {i : D.Ins} (h : stk p s i ≠ 0) : qst p s.Regs i = (t0, false, true) := by
 have : i.Op = 5 ∨ i.Op = 6 ∨ i.Op = 11 ∨ i.Op = 12 := by
  unfold stk at h
  by_cases a : i.Op = 5 ∧ s.In = p.In
  ·exact .inl a.1
  rw [Zl1 a] at h
  by_cases b : i.Op = 6 ∧ s.Out.length = 6
  ·exact .inr (.inl b.1)
  rw [Zl1 b] at h
  by_cases c : i.Op = 11 ∧ s.Stack.length = 3
  ·exact .inr (.inr (.inl c.1))
  rw [Zl1 c] at h
  by_cases d : i.Op = 12 ∧ s.Stack.length = 0
  ·exact .inr (.inr (.inr d.1))
  rw [Zl1 d] at h
  exact absurd rfl h
 unfold qst
 rw [Zl1 (by omega), Zl1 (by omega), Zl1 (by omega), Zl1 (by omega)]
theorem Zft {p : D.Program} {s : D.Path} {t : D.Term} {k : Int} (hp : progB p = true) (hs : okP p s) : Xi fuel s t k = some { s with Cond := s.Cond ++ [t], Turns := s.Turns ++ [k] } := by
 unfold Xi
 rw [ZaV (hs.fine hp)]
 simp only [Zlw]
 rw [Zay (by simp; have := hs.cl; omega)]
 simp only [Zlw]
 rw [Zay (by simp; have := hs.tl; omega)]; rfl
theorem Ziu {q : D.Term} (hf : fine q ∧ q.W = 1) (h0 : q.Op = 0) : q.N = 0 ∨ q.N = 1 := by
 obtain ⟨e, hv⟩ := YR hf.1.1 (by simp [h0])
 rw [hf.2, ZT (by omega) (by omega)] at hv
 have : q.N < 2 := by simpa using hv.2
 omega
theorem ZjD {p : D.Program} {u : D.Path} {i : D.Ins} (hp : progB p = true) (hs : okP p u) (h0 : u.Code = 0) (hi : insF p.W p.Code.length i) (hpc : u.Pc < p.Code.length) :
    ((Yf fuel u).bind fun x2 =>
   (Yx fuel (D.l06Maker.mk false) p u i).bind fun x4 =>
   if x4.2.2.bad then
    some ([(D.Path.mk x2.Pc x2.Regs x2.Mem x2.Stack x2.In x2.Out 9 x2.Steps x2.Cond x2.Turns)] : List D.Path)
   else
    (if (!x4.2.1) then some default else (Zq x4.1 0)).bind fun x5 =>
    if ((!x4.2.1) || x5) then
     (ZL fuel x4.2.2 p u i).bind fun x6 =>
     if x6.2.bad then
      some ([(D.Path.mk x2.Pc x2.Regs x2.Mem x2.Stack x2.In x2.Out 9 x2.Steps x2.Cond x2.Turns)] : List D.Path)
     else
      (Yf fuel x6.1).bind fun x7 =>
      some ([x7] : List D.Path)
    else
     (Zq x4.1 1).bind fun x8 =>
     if x8 then
      (X3 u i).bind fun x9 =>
      some ([x9] : List D.Path)
     else
      (Zg fuel x4.2.2 1 1 ([x4.1] : List D.Term)).bind fun x10 =>
      if ((x10.2.bad || ((len u.Cond) == 60)) || ((len u.Turns) == 60)) then
       some ([(D.Path.mk x2.Pc x2.Regs x2.Mem x2.Stack x2.In x2.Out 9 x2.Steps x2.Cond x2.Turns)] : List D.Path)
      else
       (Xi fuel u x10.1 0).bind fun x11 =>
       (ZL fuel x10.2 p x11 i).bind fun x12 =>
       if x12.2.bad then
        some ([(D.Path.mk x2.Pc x2.Regs x2.Mem x2.Stack x2.In x2.Out 9 x2.Steps x2.Cond x2.Turns)] : List D.Path)
       else
        (Xi fuel u x4.1 1).bind fun x13 =>
        (X3 x13 i).bind fun x14 =>
        (Yf fuel x12.1).bind fun x15 =>
        some ([x14, x15] : List D.Path)) = some (if stk p u i ≠ 0 then [{ u with Code := stk p u i }] else dvd p u i) := by
  rw [ZaV (hs.fine hp)]
  obtain ⟨t', h1, h2⟩ := Zfg hp hs hi
  rw [h1]
  simp only [Zlw]
  by_cases hk : stk p u i = 0
  · rw [Zl1 (show ¬(stk p u i ≠ 0) from fun h => h hk)]
    unfold dvd
    by_cases q1 : (qst p u.Regs i).2.2 = true
    · have ht := h2 q1
      subst ht
      rw [Zl1 (show ¬(!(qst p u.Regs i).2.2) = true by rw [q1]; simp), Zl1 (show ¬(qst p u.Regs i).2.2 = false by rw [q1]; simp), q1]
      have hfc : ¬((qst p u.Regs i).2.1 = true ∧ (qst p u.Regs i).1.Op = 0 ∧ (qst p u.Regs i).1.N = 1) → _ := fun hn => Zcg hp hs hi q1 (fun e => by
        cases ha : (qst p u.Regs i).2.1
        · rw [Zhs ha] at e; exact absurd e.2 (by decide)
        · exact hn ⟨ha, e⟩)
      have hno : ¬((qst p u.Regs i).2.1 = true ∧ (qst p u.Regs i).1.Op = 0 ∧ (qst p u.Regs i).1.N = 1) → ((ZL fuel ⟨!true⟩ p u i).bind fun x6 =>
          if x6.2.bad then some ([(D.Path.mk u.Pc u.Regs u.Mem u.Stack u.In u.Out 9 u.Steps u.Cond u.Turns)] : List D.Path) else (Yf fuel x6.1).bind fun x7 => some ([x7] : List D.Path)) = some (if (flw p u i).2 = false then [{ u with Code := 9 }] else [(flw p u i).1]) := fun hn => by
        obtain ⟨f7, f8⟩ := hfc hn
        obtain ⟨s', e1, e2⟩ := ZhL hp hs h0 hi hpc hk f7 f8
        rw [show (!true) = false from rfl, e1]
        simp only [Zlw]
        cases hb : (flw p u i).2
        · simp
        · have := e2 hb
          subst this
          simp only [ZlA, Zly, Zl9]
          rw [ZaV ((ZfP hp hs hi hpc hk f7 hb).fine hp)]; simp
      cases ha : (qst p u.Regs i).2.1
      · rw [ha] at hno
        simp only [Zmm, ZlJ, Zlw, Znp]
        rw [hno (by simp)]
        cases (flw p u i).2 <;> simp
      · have hf := ZeM ha q1
        rw [ha] at hno hfc
        simp only [ZlA, Zly, Zl9, ZlT, Zq, Zlw]
        by_cases z : (qst p u.Regs i).1.Op = 0
        · rcases Ziu hf z with n0 | n1
          · have r1 : ¬(true = true ∧ (qst p u.Regs i).1.Op = 0 ∧ (qst p u.Regs i).1.N = 1) := by rw [n0]; simp
            rw [Zl2 (show ((qst p u.Regs i).1.Op == 0 && (qst p u.Regs i).1.N == 0) = true by simp [z, n0]), Zl1 (fun h => r1 ⟨rfl, h.2⟩ : ¬(True ∧ (qst p u.Regs i).1.Op = 0 ∧ (qst p u.Regs i).1.N = 1))]
            have := hno r1
            simp only [ZlA] at this
            rw [this]
            cases (flw p u i).2 <;> simp [z]
          · rw [Zl1 (show ¬((qst p u.Regs i).1.Op == 0 && (qst p u.Regs i).1.N == 0) = true by simp [z, n1]), Zl2 (show ((qst p u.Regs i).1.Op == 0 && (qst p u.Regs i).1.N == 1) = true by simp [z, n1]), Zl2 (⟨trivial, z, n1⟩ : True ∧ (qst p u.Regs i).1.Op = 0 ∧ (qst p u.Regs i).1.N = 1), Zg0]; rfl
        · have r1 : ¬(true = true ∧ (qst p u.Regs i).1.Op = 0 ∧ (qst p u.Regs i).1.N = 1) := fun h => z h.2.1
          rw [Zl1 (show ¬((qst p u.Regs i).1.Op == 0 && (qst p u.Regs i).1.N == 0) = true by simp [z]), Zl1 (show ¬((qst p u.Regs i).1.Op == 0 && (qst p u.Regs i).1.N == 1) = true by simp [z]), Zl1 (fun h => r1 ⟨rfl, h.2⟩ : ¬(True ∧ (qst p u.Regs i).1.Op = 0 ∧ (qst p u.Regs i).1.N = 1)), Xz (sml1f hf.1)]
          simp only [Zlw, ZlT]
          have hcl := hs.cl
          have htl := hs.tl
          by_cases q5 : (mkT 1 1 0 [(qst p u.Regs i).1]).2 = false ∨ u.Cond.length = 60 ∨ u.Turns.length = 60
          · rw [Zl2 (show (!(mkT 1 1 0 [(qst p u.Regs i).1]).2 || len u.Cond == 60 || len u.Turns == 60) = true by rw [Ze, Ze]; simp; rcases q5 with h | h | h <;> simp [h])]
            cases (flw p u i).2
            · simp
            · simp [z, q5]
          · have q6 : (mkT 1 1 0 [(qst p u.Regs i).1]).2 = true ∧ u.Cond.length ≠ 60 ∧ u.Turns.length ≠ 60 := by simpa using q5
            rw [Zl1 (show ¬(!(mkT 1 1 0 [(qst p u.Regs i).1]).2 || len u.Cond == 60 || len u.Turns == 60) = true by rw [Ze, Ze, q6.1]; simp; omega), Zft hp hs]
            simp only [Zlw]
            obtain ⟨f7, f8⟩ := hfc r1
            have hs' : okP p { u with Cond := u.Cond ++ [(mkT 1 1 0 [(qst p u.Regs i).1]).1], Turns := u.Turns ++ [0] } := ZfK hs (YS q6.1) hs.cf (by omega) (by omega)
            obtain ⟨s', e1, e2⟩ := ZhL (s := { u with Cond := u.Cond ++ [(mkT 1 1 0 [(qst p u.Regs i).1]).1], Turns := u.Turns ++ [0] }) hp hs' h0 hi hpc hk f7 f8
            rw [q6.1, show (!true) = false from rfl, e1]
            simp only [Zlw]
            rw [Zeo] at e2 ⊢
            cases hb : (flw p u i).2
            · simp
            · have hfo := ZfP (s := { u with Cond := u.Cond ++ [(mkT 1 1 0 [(qst p u.Regs i).1]).1], Turns := u.Turns ++ [0] }) hp hs' hi hpc hk f7 (by rw [Zeo]; exact hb)
              rw [Zeo] at hfo
              have := e2 hb
              subst this
              simp only [ZlA, Zly, Zl9]
              rw [Zft hp hs]
              simp only [Zlw]
              rw [Zg0, Zji]
              simp only [Zlw]
              rw [ZaV (hfo.fine hp)]
              simp [z, q6]
    · rw [Zl2 (show (!(qst p u.Regs i).2.2) = true by simpa using q1), Zl2 (show (qst p u.Regs i).2.2 = false by simpa using q1)]
  · have hq := ZiZ hk
    have h9 : 0 ≤ stk p u i ∧ stk p u i ≤ 9 := by
      unfold stk
      repeat' split
      all_goals omega
    rw [hq, Zl2 hk]
    simp only [ZlA, Zly, Zl9, Zmm, ZlJ, Zlw, Znp]
    rw [Zj4 hp hs hk]
    simp only [Zlw, Zly, Zl9]
    rw [ZaV ((Zbq hs h9).fine hp)]; rfl
theorem Ziv {p : D.Program} {s : D.Path} (hp : progB p = true) (hs : okP p s) : YU fuel p s = some (stp1 p s) := by
 have hst := hs.st
 have hpc := hs.pc
 rw [Ze] at hpc
 unfold YU stp1
 by_cases c1 : s.Code ≠ 0 ∨ s.Steps = 400
 ·rw [Zl2 c1, Zl2 (by simpa using c1)]
 have d1 : s.Code = 0 ∧ s.Steps < 400 := by omega
 rw [Zl1 c1, Zl1 (by simp; omega), ZaV (hs.fine hp)]
 simp only [Zlw]
 by_cases c2 : s.Pc = len p.Code
 ·rw [Zl2 c2, Zl2 (by simpa using c2)]
 rw [Zl1 c2, Zl1 (by simpa using c2)]
 rw [Ze] at c2
 obtain ⟨g1, g2⟩ := ZdC (p := p) (k := s.Pc) hpc.1 (by omega)
 have hi := ZeX hp g2
 have hs1 := Zez hs d1.2
 rw [g1, Zp (by omega) (by omega)]
 have hz : ({ s with Steps := s.Steps + 1 } : D.Path).Code = 0 := d1.1
 have := ZjD (u := { s with Steps := s.Steps + 1 }) hp hs1 hz hi (by show s.Pc < _; omega)
 simp only [Zlw]
 refine Eq.trans ?_ (this.trans ?_)
 ·rfl
 ·split <;> rfl
theorem Zlc {p : D.Program} {s : D.Path} {i : D.Ins} (hp : progB p = true) (hs : okP p s) (hi : insF p.W p.Code.length i) (hpc : s.Pc < p.Code.length) (hk : stk p s i = 0) : ∀ x ∈ dvd p s i, okP p x := by
 intro x hx
 unfold dvd at hx
 by_cases q1 : (qst p s.Regs i).2.2 = false
 ·rw [Zl2 q1, ZlS] at hx
  subst hx; exact Zbq hs (by omega)
 rw [Zl1 q1] at hx
 have q1' : (qst p s.Regs i).2.2 = true := by simpa using q1
 by_cases q2 : (qst p s.Regs i).2.1 = true ∧ (qst p s.Regs i).1.Op = 0 ∧ (qst p s.Regs i).1.N = 1
 ·rw [Zl2 q2, ZlS] at hx
  subst hx; exact Zjw hs hi
 rw [Zl1 q2] at hx
 have hfc := Zcg hp hs hi q1' (fun e => by
  cases ha : (qst p s.Regs i).2.1
  ·rw [Zhs ha] at e; exact absurd e.2 (by decide)
  ·exact q2 ⟨ha, e⟩)
 by_cases q3 : (flw p s i).2 = false
 ·rw [Zl2 q3, ZlS] at hx
  subst hx; exact Zbq hs (by omega)
 rw [Zl1 q3] at hx
 have q3' : (flw p s i).2 = true := by simpa using q3
 by_cases q4 : (qst p s.Regs i).2.1 = false ∨ (qst p s.Regs i).1.Op = 0
 ·rw [Zl2 q4, ZlS] at hx
  subst hx; exact ZfP hp hs hi hpc hk hfc.1 q3'
 rw [Zl1 q4] at hx
 by_cases q5 : (mkT 1 1 0 [(qst p s.Regs i).1]).2 = false ∨ s.Cond.length = 60 ∨ s.Turns.length = 60
 ·rw [Zl2 q5, ZlS] at hx
  subst hx; exact Zbq hs (by omega)
 rw [Zl1 q5] at hx
 have q6 : (mkT 1 1 0 [(qst p s.Regs i).1]).2 = true ∧ s.Cond.length ≠ 60 ∧ s.Turns.length ≠ 60 := by simpa using q5
 have hcl := hs.cl
 have htl := hs.tl
 have ha : (qst p s.Regs i).2.1 = true := by
  cases h : (qst p s.Regs i).2.1
  ·exact absurd (.inl h) q4
  ·rfl
 rcases Zmu.1 hx with rfl | hx
 ·exact ZfK (Zjw hs hi) (ZeM ha q1') hs.cf (by omega) (by omega)
 ·rw [ZlS] at hx
  subst hx
  exact ZfK (ZfP hp hs hi hpc hk hfc.1 q3') (YS q6.1) hs.cf (by omega) (by omega)
theorem Zkg (p : D.Program) (s : D.Path) (i : D.Ins) : (dvd p s i).length = 1 ∨ (dvd p s i).length = 2 := by
 unfold dvd
 repeat' split
 all_goals first | exact .inl rfl | exact .inr rfl
theorem ZfE (p : D.Program) (s : D.Path) : (stp1 p s).length ≤ 2 := by
 unfold stp1
 split
 ·simp
 ·split
  ·simp
  ·split
   ·simp
   ·rcases Zkg p { s with Steps := s.Steps + 1 } (insAt p s.Pc) with h | h <;> omega
theorem ZgT {p : D.Program} {s : D.Path} (hp : progB p = true) (hs : okP p s) : ∀ x ∈ stp1 p s, okP p x := by
 have hst := hs.st
 have hpc := hs.pc
 rw [Ze] at hpc
 intro x hx
 unfold stp1 at hx
 by_cases c1 : s.Code ≠ 0 ∨ s.Steps = 400
 ·rw [Zl2 c1] at hx; cases hx
 rw [Zl1 c1] at hx
 by_cases c2 : s.Pc = len p.Code
 ·rw [Zl2 c2, ZlS] at hx
  subst hx; exact Zbq hs (by omega)
 rw [Zl1 c2] at hx
 rw [Ze] at c2
 have hs1 := Zez hs (by omega)
 obtain ⟨g1, g2⟩ := ZdC (p := p) (k := s.Pc) hpc.1 (by omega)
 by_cases c3 : stk p { s with Steps := s.Steps + 1 } (insAt p s.Pc) = 0
 ·rw [Zl1 (fun h => h c3)] at hx
  exact Zlc hp hs1 (ZeX hp g2) (by show s.Pc < _; omega) c3 x hx
 ·rw [Zl2 c3, ZlS] at hx
  subst hx
  refine Zbq hs1 ?_
  unfold stk
  repeat' split
  all_goals omega
theorem Zf6 {w b : Int} {m : Nat} (hb : b = (m : Int)) (hm : m ≤ 100) : ∀ (k j n : Nat), j + k = m → k < n → iterN (fun (s1 : Int × (List D.Term)) =>
   if (decide (s1.1 < b)) then
    (Z6 w 0).bind fun x2 =>
    (app? s1.2 ([(D.Term.mk x2.Op x2.W x2.N x2.Name ([] : List D.Term))] : List D.Term)).bind fun x3 =>
    some (.inl ((w64 (s1.1 + 1)), x3))
   else
    some (.inr (s1.2)) : Int × List D.Term → Option ((Int × List D.Term) ⊕ List D.Term)) n ((j : Int), List.replicate j (kT w 0)) = some (List.replicate m (kT w 0)) := by
  intro k
  induction k with
  | zero =>
    intro j n hj hn
    refine Yt ?_ hn
    simp only
    rw [Zl1 (by simp; omega), show j = m by omega]
  | succ k ih =>
    intro j n hj hn
    obtain ⟨n, rfl⟩ : ∃ q, n = q + 1 := ⟨n - 1, by omega⟩
    rw [← ih (j + 1) n (by omega) (by omega)]
    refine Xl ?_
    simp only [Zi, Zlw]
    rw [Zl2 (by simp; omega), Zay (by simp; omega)]
    simp only [Zlw]
    rw [Zp (by omega) (by omega), List.replicate_succ']; rfl
theorem Zf1 {w b : Int} {m : Nat} {z : D.Term} (hw : wordB w 0 = true) (hb : b = (m : Int)) (hm : m ≤ 100) : ∀ (k j n : Nat), j + k = m → k < n → iterN (fun (s1 : Int × (List D.Term)) =>
   if (decide (s1.1 < b)) then
    (ZA w 0).bind fun x3 =>
    (set? s1.2 s1.1 (D.Term.mk x3.Op x3.W x3.N x3.Name ([] : List D.Term))).bind fun x4 =>
    some (.inl ((w64 (s1.1 + 1)), x4))
   else
    some (.inr (s1.2)) : Int × List D.Term → Option ((Int × List D.Term) ⊕ List D.Term)) n ((j : Int), List.replicate j (kT w 0) ++ List.replicate k z) = some (List.replicate m (kT w 0)) := by
  intro k
  induction k with
  | zero =>
    intro j n hj hn
    refine Yt ?_ hn
    simp only
    rw [Zl1 (by simp; omega), show j = m by omega]; simp
  | succ k ih =>
    intro j n hj hn
    obtain ⟨n, rfl⟩ : ∃ q, n = q + 1 := ⟨n - 1, by omega⟩
    rw [← ih (j + 1) n (by omega) (by omega)]
    refine Xl ?_
    simp only [ZQ hw, Zlw]
    rw [Zl2 (by simp; omega), List.replicate_succ (n := k), set_mid (by simp)]
    simp only [Zlw]
    rw [Zp (by omega) (by omega), List.replicate_succ' (n := j)]
    simp only [Zmv, Zm4]; rfl
def path0 (p : D.Program) : D.Path := ⟨0, List.replicate 4 (kT p.W 0), List.replicate p.Mem.toNat (kT p.W 0), [], 0, [], 0, 0, [], []⟩
theorem Zda {p : D.Program} (hp : progB p = true) : okP p (path0 p) := by
 have hm := Yh hp
 have hq := Zc8 hp
 have hz := ZkR (ZbO hp)
 refine ⟨⟨by show (0 : Int) ≤ 0; omega, by show (0 : Int) ≤ _; rw [Ze]; omega⟩, rfl, fun x hx => ?_, by show ((List.replicate p.Mem.toNat (kT p.W 0)).length : Int) = _; simp; omega, fun x hx => ?_, by show (0 : Nat) ≤ 3; omega, fun x hx => (by cases hx), ⟨by show (0 : Int) ≤ 0; omega, by show (0 : Int) ≤ _; omega⟩, by show (0 : Nat) ≤ 6; omega, fun x hx => (by cases hx), by show (0 : Int) ≤ 0 ∧ (0 : Int) ≤ 9; omega, by show (0 : Int) ≤ 0 ∧ (0 : Int) ≤ 400; omega, by show (0 : Nat) ≤ 60; omega, fun x hx => (by cases hx), by show (0 : Nat) ≤ 60; omega⟩
 ·rw [(Znm.1 hx).2]; exact hz
 ·rw [(Znm.1 hx).2]; exact hz
theorem Zhe {p : D.Program} (hp : progB p = true) (hl : p.Code.length ≤ 1048576) : Zac fuel p = some (path0 p) := by
 have hm := Yh hp
 unfold Zac
 rw [Zf2 hl, hp]
 simp only [Zlw, ZlA, Zly, Zl9]
 have h1 := Zf6 (w := p.W) (b := 4) (m := 4) rfl (by omega) 4 0 fuel rfl (by unfold fuel; omega)
 have h2 := Zf6 (w := p.W) (b := p.Mem) (m := p.Mem.toNat) (by omega) (by omega) p.Mem.toNat 0 fuel (by omega) (by unfold fuel; omega)
 rw [show ((0 : Nat) : Int) = 0 from rfl, List.replicate_zero] at h1 h2
 rw [h1]
 simp only [Zlw]
 rw [h2]; rfl
theorem Zhb {p : D.Program} (hp : progB p = true) : XX fuel p = some (path0 p) := by
 have hm := Yh hp
 have hz := ZbO hp
 unfold XX
 have m1 : mk? 4 (D.Term.mk 0 0 0 ⟨[]⟩ ([] : List D.Term)) = some (List.replicate 4 t0) := by
  unfold mk?
  rw [Zl2 ⟨by omega, by unfold room; decide⟩]; rfl
 have m2 : mk? p.Mem (D.Term.mk 0 0 0 ⟨[]⟩ ([] : List D.Term)) = some (List.replicate p.Mem.toNat t0) := by
  unfold mk?
  rw [Zl2 ⟨by omega, by unfold room; omega⟩]; rfl
 rw [m1, m2]
 simp only [Zlw]
 have h1 := Zf1 (z := t0) (b := len (List.replicate 4 t0)) (m := 4) hz (by rw [Ze]; simp) (by omega) 4 0 fuel rfl (by unfold fuel; omega)
 have h2 := Zf1 (z := t0) (b := len (List.replicate p.Mem.toNat t0)) (m := p.Mem.toNat) hz (by rw [Ze]; simp) (by omega) p.Mem.toNat 0 fuel (by omega) (by unfold fuel; omega)
 rw [show ((0 : Nat) : Int) = 0 from rfl, List.replicate_zero, Zni] at h1 h2
 rw [h1]
 simp only [Zlw]
 rw [h2]; rfl
noncomputable def run (p : D.Program) : Nat → List Int → D.Path → List Int × D.Path
 | 0, ts, s => (ts, s)
 | k + 1, ts, s =>
  if (stp1 p s).length = 0 ∨ ((stp1 p s).length = 2 ∧ ts.length = 0) then (ts, s)
  else if (stp1 p s).length = 2 then run p k (ts.drop 1) (((stp1 p s)[(1 - ts.headD 0).toNat]?).getD s)
  else run p k ts (((stp1 p s)[0]?).getD s)
abbrev TP := Int × (List D.Term) × (List D.Term) × (List Int) × Int × (List D.Term) × Int × Int × (List D.Term) × (List Int)
abbrev tupP (s : D.Path) : TP := (s.Pc, s.Regs, s.Mem, s.Stack, s.In, s.Out, s.Code, s.Steps, s.Cond, s.Turns)
theorem Zj8 {p : D.Program} {f : Int} (hp : progB p = true) (hf : f ≤ 400) : ∀ (k : Nat) (j : Int) (ts : List Int) (s : D.Path) (n : Nat), okP p s → 0 ≤ j → j + k = f → (∀ t ∈ ts, t = 0 ∨ t = 1) → k < n →
    iterN (fun (s2 : (List Int) × Int × TP) =>
    if (decide (s2.2.1 < f)) then
     (YU fuel p (D.Path.mk s2.2.2.1 s2.2.2.2.1 s2.2.2.2.2.1 s2.2.2.2.2.2.1 s2.2.2.2.2.2.2.1 s2.2.2.2.2.2.2.2.1 s2.2.2.2.2.2.2.2.2.1 s2.2.2.2.2.2.2.2.2.2.1 s2.2.2.2.2.2.2.2.2.2.2.1 s2.2.2.2.2.2.2.2.2.2.2.2)).bind fun x6 =>
     if (((len x6) == 0) || (((len x6) == 2) && ((len s2.1) == 0))) then
      some (.inr (s2.1, s2.2.2.1, s2.2.2.2.1, s2.2.2.2.2.1, s2.2.2.2.2.2.1, s2.2.2.2.2.2.2.1, s2.2.2.2.2.2.2.2.1, s2.2.2.2.2.2.2.2.2.1, s2.2.2.2.2.2.2.2.2.2.1, s2.2.2.2.2.2.2.2.2.2.2.1, s2.2.2.2.2.2.2.2.2.2.2.2))
     else
      (get? x6 0).bind fun x7 =>
      if ((len x6) == 2) then
       (get? s2.1 0).bind fun x8 =>
       (get? x6 (w64 (1 - x8))).bind fun x9 =>
       (cut? s2.1 1 (len s2.1)).bind fun x10 =>
       some (.inl (x10, (w64 (s2.2.1 + 1)), x9.Pc, x9.Regs, x9.Mem, x9.Stack, x9.In, x9.Out, x9.Code, x9.Steps, x9.Cond, x9.Turns))
      else
       some (.inl (s2.1, (w64 (s2.2.1 + 1)), x7.Pc, x7.Regs, x7.Mem, x7.Stack, x7.In, x7.Out, x7.Code, x7.Steps, x7.Cond, x7.Turns))
    else
     some (.inr (s2.1, s2.2.2.1, s2.2.2.2.1, s2.2.2.2.2.1, s2.2.2.2.2.2.1, s2.2.2.2.2.2.2.1, s2.2.2.2.2.2.2.2.1, s2.2.2.2.2.2.2.2.2.1, s2.2.2.2.2.2.2.2.2.2.1, s2.2.2.2.2.2.2.2.2.2.2.1, s2.2.2.2.2.2.2.2.2.2.2.2)) : (List Int) × Int × TP → Option (((List Int) × Int × TP) ⊕ ((List Int) × TP))) n (ts, j, tupP s) = some ((run p k ts s).1, tupP (run p k ts s).2) := by
  intro k
  induction k with
  | zero =>
    intro j ts s n hs hj hjk ht hn
    refine Yt ?_ hn
    simp only
    rw [Zl1 (by simp; omega)]; rfl
  | succ k ih =>
    intro j ts s n hs hj hjk ht hn
    obtain ⟨n, rfl⟩ : ∃ q, n = q + 1 := ⟨n - 1, by omega⟩
    have hok := ZgT hp hs
    have hst := Ziv hp hs
    have hl2 := ZfE p s
    have hd : decide (j < f) = true := by simp; omega
    unfold run
    by_cases c1 : (stp1 p s).length = 0 ∨ ((stp1 p s).length = 2 ∧ ts.length = 0)
    · rw [Zl2 c1]
      refine Yt ?_ (by omega)
      simp only [tupP, hd, ZlJ]
      rw [show YU fuel p (D.Path.mk s.Pc s.Regs s.Mem s.Stack s.In s.Out s.Code s.Steps s.Cond s.Turns) = some (stp1 p s) from hst]
      simp only [Zlw]
      rw [Zl2 (by rw [Ze, Ze]; rcases c1 with h | ⟨h, h'⟩ <;> simp [h, *])]
    · rw [Zl1 c1]
      have hcc : ¬(((len (stp1 p s)) == 0) || (((len (stp1 p s)) == 2) && ((len ts) == 0))) = true := by
        rw [Ze, Ze]; simp only [ZlY, Zlz, ZlR]; omega
      have hg0 : get? (stp1 p s) 0 = some (((stp1 p s)[0]?).getD s) := by
        rw [show (0 : Int) = ((0 : Nat) : Int) from rfl, get?_nat, Zl0 (by omega)]; rfl
      by_cases c2 : (stp1 p s).length = 2
      · rw [Zl2 c2]
        obtain ⟨t, ts, rfl⟩ : ∃ t l, ts = t :: l := by
          cases ts with
          | nil => exact absurd (.inr ⟨c2, rfl⟩) c1
          | cons t l => exact ⟨t, l, rfl⟩
        have ht0 := ht t (by simp)
        have e1 : w64 (1 - t) = (((1 - t).toNat : Nat) : Int) := by rw [Zp (by omega) (by omega)]; omega
        have hx : (1 - t).toNat < (stp1 p s).length := by omega
        have hg1 : get? (stp1 p s) (w64 (1 - t)) = some (((stp1 p s)[(1 - t).toNat]?).getD s) := by
          rw [e1, get?_nat, Zl0 hx]; rfl
        have hcut : cut? (t :: ts) 1 (len (t :: ts)) = some ts := by
          unfold cut?
          rw [Ze, Zl2 (by simp; omega)]; simp
        have hgt : get? (t :: ts) 0 = some t := rfl
        have hso : okP p (((stp1 p s)[(1 - t).toNat]?).getD s) := by
          rw [Zl0 hx]; exact hok _ (Zml _)
        show _ = some ((run p k ts (((stp1 p s)[(1 - t).toNat]?).getD s)).1, tupP (run p k ts (((stp1 p s)[(1 - t).toNat]?).getD s)).2)
        rw [← ih (j + 1) ts _ n hso (by omega) (by omega) (fun x hx => ht x (by simp [hx])) (by omega)]
        refine Xl ?_
        simp only [tupP, hd, ZlJ]
        rw [show YU fuel p (D.Path.mk s.Pc s.Regs s.Mem s.Stack s.In s.Out s.Code s.Steps s.Cond s.Turns) = some (stp1 p s) from hst]
        simp only [Zlw]
        rw [Zl1 hcc, hg0]
        simp only [Zlw]
        rw [Zl2 (by rw [Ze, c2]; rfl), hgt]
        simp only [Zlw]
        rw [hg1, hcut]
        simp only [Zlw]
        rw [Zp (by omega) (by omega)]
      · rw [Zl1 c2]
        have hso : okP p (((stp1 p s)[0]?).getD s) := by
          rw [Zl0 (by omega)]; exact hok _ (Zml _)
        rw [← ih (j + 1) ts _ n hso (by omega) (by omega) ht (by omega)]
        refine Xl ?_
        simp only [tupP, hd, ZlJ]
        rw [show YU fuel p (D.Path.mk s.Pc s.Regs s.Mem s.Stack s.In s.Out s.Code s.Steps s.Cond s.Turns) = some (stp1 p s) from hst]
        simp only [Zlw]
        rw [Zl1 hcc, hg0]
        simp only [Zlw]
        rw [Zl1 (by rw [Ze]; simp; omega), Zp (by omega) (by omega)]
theorem ZfX (p : D.Program) : ∀ (k : Nat) (ts : List Int) (s : D.Path), (run p k ts s).1.length ≤ ts.length
 | 0, ts, s => Zl4 _
 | k + 1, ts, s => by
  unfold run
  split
  ·exact Zl4 _
  ·split
   ·exact Zmq (ZfX p k _ _) (by simp)
   ·exact ZfX p k _ _
theorem Zjx {p : D.Program} {f : Int} {all : List Int} (hp : progB p = true) (hf : f ≤ 400) (ht : ∀ t ∈ all, t = 0 ∨ t = 1) (ha : all.length ≤ 1048576) : ∀ (k : Nat) (j : Int) (i : Nat) (s : D.Path) (n : Nat), okP p s → 0 ≤ j → j + k = f → i ≤ all.length → k < n →
    iterN (fun (s1 : Int × Int × TP) =>
  if (decide (s1.2.1 < f)) then
   (Xm fuel p (D.Path.mk s1.2.2.1 s1.2.2.2.1 s1.2.2.2.2.1 s1.2.2.2.2.2.1 s1.2.2.2.2.2.2.1 s1.2.2.2.2.2.2.2.1 s1.2.2.2.2.2.2.2.2.1 s1.2.2.2.2.2.2.2.2.2.1 s1.2.2.2.2.2.2.2.2.2.2.1 s1.2.2.2.2.2.2.2.2.2.2.2)).bind fun x2 =>
   if (((len x2) == 0) || (((len x2) == 2) && (s1.1 == (len all)))) then
    some (.inr (s1.1, s1.2.2.1, s1.2.2.2.1, s1.2.2.2.2.1, s1.2.2.2.2.2.1, s1.2.2.2.2.2.2.1, s1.2.2.2.2.2.2.2.1, s1.2.2.2.2.2.2.2.2.1, s1.2.2.2.2.2.2.2.2.2.1, s1.2.2.2.2.2.2.2.2.2.2.1, s1.2.2.2.2.2.2.2.2.2.2.2))
   else
    if ((len x2) == 1) then
     (get? x2 0).bind fun x3 =>
     some (.inl (s1.1, (w64 (s1.2.1 + 1)), x3.Pc, x3.Regs, x3.Mem, x3.Stack, x3.In, x3.Out, x3.Code, x3.Steps, x3.Cond, x3.Turns))
    else
     (get? all s1.1).bind fun x4 =>
     (get? x2 (w64 (1 - x4))).bind fun x5 =>
     some (.inl ((w64 (s1.1 + 1)), (w64 (s1.2.1 + 1)), x5.Pc, x5.Regs, x5.Mem, x5.Stack, x5.In, x5.Out, x5.Code, x5.Steps, x5.Cond, x5.Turns))
  else
   some (.inr (s1.1, s1.2.2.1, s1.2.2.2.1, s1.2.2.2.2.1, s1.2.2.2.2.2.1, s1.2.2.2.2.2.2.1, s1.2.2.2.2.2.2.2.1, s1.2.2.2.2.2.2.2.2.1, s1.2.2.2.2.2.2.2.2.2.1, s1.2.2.2.2.2.2.2.2.2.2.1, s1.2.2.2.2.2.2.2.2.2.2.2)) : Int × Int × TP → Option ((Int × Int × TP) ⊕ (Int × TP))) n ((i : Int), j, tupP s) = some ((all.length : Int) - ((run p k (all.drop i) s).1.length : Int), tupP (run p k (all.drop i) s).2) := by
  intro k
  induction k with
  | zero =>
    intro j i s n hs hj hjk hi hn
    refine Yt ?_ hn
    simp only
    rw [Zl1 (by simp; omega)]
    have : (i : Int) = (all.length : Int) - ((all.drop i).length : Int) := by rw [ZmC]; omega
    rw [this]; rfl
  | succ k ih =>
    intro j i s n hs hj hjk hi hn
    obtain ⟨n, rfl⟩ : ∃ q, n = q + 1 := ⟨n - 1, by omega⟩
    have hok := ZgT hp hs
    have hst := Zi1 hp hs
    have hl2 := ZfE p s
    have hd : decide (j < f) = true := by simp; omega
    have hdl : (all.drop i).length = all.length - i := ZmC
    unfold run
    by_cases c1 : (stp1 p s).length = 0 ∨ ((stp1 p s).length = 2 ∧ (all.drop i).length = 0)
    · rw [Zl2 c1]
      refine Yt ?_ (by omega)
      simp only [tupP, hd, ZlJ]
      rw [show Xm fuel p (D.Path.mk s.Pc s.Regs s.Mem s.Stack s.In s.Out s.Code s.Steps s.Cond s.Turns) = some (stp1 p s) from hst]
      simp only [Zlw]
      rw [Zl2 (by rw [Ze, Ze]; simp only [ZlY, Zlz, ZlR]; omega)]
      have : (i : Int) = (all.length : Int) - ((all.drop i).length : Int) := by rw [hdl]; omega
      rw [← this]
    · rw [Zl1 c1]
      have hcc : ¬(((len (stp1 p s)) == 0) || (((len (stp1 p s)) == 2) && ((i : Int) == (len all)))) = true := by
        rw [Ze, Ze]; simp only [ZlY, Zlz, ZlR]; omega
      by_cases c2 : (stp1 p s).length = 2
      · rw [Zl2 c2]
        have hil : i < all.length := by omega
        have hgt : get? all (i : Int) = some all[i] := by rw [get?_nat, Zl0 hil]
        have hhd : (all.drop i).headD 0 = all[i] := by rw [ZlL hil]; rfl
        have hdd : (all.drop i).drop 1 = all.drop (i + 1) := by rw [Zn9]
        have ht0 := ht all[i] (Zml _)
        rw [hhd, hdd]
        generalize all[i] = t at *
        have e1 : w64 (1 - t) = (((1 - t).toNat : Nat) : Int) := by rw [Zp (by omega) (by omega)]; omega
        have hx : (1 - t).toNat < (stp1 p s).length := by omega
        have hg1 : get? (stp1 p s) (w64 (1 - t)) = some (((stp1 p s)[(1 - t).toNat]?).getD s) := by
          rw [e1, get?_nat, Zl0 hx]; rfl
        have hso : okP p (((stp1 p s)[(1 - t).toNat]?).getD s) := by
          rw [Zl0 hx]; exact hok _ (Zml _)
        rw [← ih (j + 1) (i + 1) _ n hso (by omega) (by omega) (by omega) (by omega)]
        refine Xl ?_
        simp only [tupP, hd, ZlJ]
        rw [show Xm fuel p (D.Path.mk s.Pc s.Regs s.Mem s.Stack s.In s.Out s.Code s.Steps s.Cond s.Turns) = some (stp1 p s) from hst]
        simp only [Zlw]
        rw [Zl1 hcc, Zl1 (by rw [Ze, c2]; decide), hgt]
        simp only [Zlw]
        rw [hg1]
        simp only [Zlw]
        rw [Zp (by omega) (by omega), Zp (by omega) (by omega)]; rfl
      · rw [Zl1 c2]
        have hg0 : get? (stp1 p s) 0 = some (((stp1 p s)[0]?).getD s) := by
          rw [show (0 : Int) = ((0 : Nat) : Int) from rfl, get?_nat, Zl0 (by omega)]; rfl
        have hso : okP p (((stp1 p s)[0]?).getD s) := by
          rw [Zl0 (by omega)]; exact hok _ (Zml _)
        rw [← ih (j + 1) i _ n hso (by omega) (by omega) hi (by omega)]
        refine Xl ?_
        simp only [tupP, hd, ZlJ]
        rw [show Xm fuel p (D.Path.mk s.Pc s.Regs s.Mem s.Stack s.In s.Out s.Code s.Steps s.Cond s.Turns) = some (stp1 p s) from hst]
        simp only [Zlw]
        rw [Zl1 hcc, Zl2 (by rw [Ze]; simp; omega), hg0]
        simp only [Zlw]
        rw [Zp (by omega) (by omega)]
def tB (ts : List Int) : Bool := ts.all fun t => decide (0 ≤ t ∧ t ≤ 1)
theorem ZfZ {ts : List Int} (h : tB ts = true) : ∀ t ∈ ts, t = 0 ∨ t = 1 := fun t ht => by
 unfold tB at h
 rw [Zl8] at h
 have := h t ht
 simp only [Zl6] at this
 omega
abbrev pz : D.Path := D.Path.mk 0 ([] : List D.Term) ([] : List D.Term) ([] : List Int) 0 ([] : List D.Term) 0 0 ([] : List D.Term) ([] : List Int)
noncomputable def pathW (p : D.Program) (ts : List Int) (f : Int) : D.Path × Bool :=
 if tB ts = true ∧ progB p = true ∧ 0 ≤ f ∧ f ≤ 400 then (if (run p f.toNat ts (path0 p)).1.length = 0 then ((run p f.toNat ts (path0 p)).2, true) else (pz, false)) else (pz, false)
theorem ZfB {p : D.Program} (hp : progB p = true) : ∀ (k : Nat) (ts : List Int) (s : D.Path), (∀ t ∈ ts, t = 0 ∨ t = 1) → okP p s → okP p (run p k ts s).2
 | 0, ts, s, _, hs => hs
 | k + 1, ts, s, ht, hs => by
  have hok := ZgT hp hs
  have hl2 := ZfE p s
  unfold run
  by_cases c1 : (stp1 p s).length = 0 ∨ ((stp1 p s).length = 2 ∧ ts.length = 0)
  ·rw [Zl2 c1]; exact hs
  ·rw [Zl1 c1]
   have hg : ∀ j : Nat, okP p (((stp1 p s)[j]?).getD s) := fun j => by
    cases h : (stp1 p s)[j]? with
    | none => exact hs
    | some x => exact hok x (Zm8 h)
   by_cases c2 : (stp1 p s).length = 2
   ·rw [Zl2 c2]
    exact ZfB hp k _ _ (fun t h => ht t (List.mem_of_mem_drop h)) (hg _)
   ·rw [Zl1 c2]
    exact ZfB hp k _ _ ht (hg _)
theorem Zhm {p : D.Program} {ts : List Int} {f : Int} (hl : p.Code.length ≤ 1048576) (hts : ts.length ≤ 1048576) : Zan fuel p ts f = some (pathW p ts f) := by
 unfold Zan pathW
 have h := Zjo (l := ts) (b := fun t => decide (0 ≤ t ∧ t ≤ 1)) (z := (pz, false)) (fun x1 s1 => (Zk x1 0 1).bind fun x2 => if (!x2) then some (.inr (.inr (pz, false))) else some (.inl (w64 (s1 + 1)))) (fun k x _ => by
  unfold Zk
  simp only [Zlw]
  by_cases c : 0 ≤ x ∧ x ≤ 1
  ·rw [Zl1 (by simp; omega), Zl2 (by simpa using c)]
  ·rw [Zl2 (by simp; omega), Zl1 (by simpa using c)]) hts (n := fuel) (by unfold fuel; omega)
 rw [h]
 simp only [Zlw]
 by_cases c1 : tB ts = true
 ·rw [Zl2 (show ts.all (fun t => decide (0 ≤ t ∧ t ≤ 1)) = true from c1)]
  simp only
  rw [Zf2 hl]
  simp only [Zlw]
  by_cases c2 : progB p = true
  ·rw [c2]
   simp only [ZlA, Zly, Zl9, Zk, Zlw, ZlT]
   by_cases c3 : 0 ≤ f ∧ f ≤ 400
   ·rw [Zl1 (by simp; omega), Zl2 ⟨c1, trivial, c3⟩, Zhe c2 hl]
    simp only [Zlw]
    have hr := Zj8 c2 c3.2 f.toNat 0 ts (path0 p) fuel (Zda c2) (by omega) (by omega) (ZfZ c1) (by unfold fuel; omega)
    rw [show (tupP (path0 p)) = ((path0 p).Pc, (path0 p).Regs, (path0 p).Mem, (path0 p).Stack, (path0 p).In, (path0 p).Out, (path0 p).Code, (path0 p).Steps, (path0 p).Cond, (path0 p).Turns) from rfl] at hr
    rw [hr]
    simp only [Zlw]
    by_cases c4 : (run p f.toNat ts (path0 p)).1.length = 0
    ·rw [Zl2 c4, Zl1 (show ¬decide (len (run p f.toNat ts (path0 p)).1 > 0) = true by rw [Ze, c4]; decide)]
    ·rw [Zl1 c4, Zl2 (show decide (len (run p f.toNat ts (path0 p)).1 > 0) = true by rw [Ze]; simp only [Zl6]; omega)]
   ·rw [Zl2 (by simp; omega), Zl1 (fun h => c3 h.2.2)]
  ·have c2' : progB p = false := by simpa using c2
   rw [Zl1 (show ¬(tB ts = true ∧ progB p = true ∧ 0 ≤ f ∧ f ≤ 400) from fun h => c2 h.2.1), c2']; rfl
 ·rw [Zl1 (show ¬ts.all (fun t => decide (0 ≤ t ∧ t ≤ 1)) = true from c1), Zl1 (fun h => c1 h.1)]
theorem Zjn {p : D.Program} {ts : List Int} {f : Int} : fineP (pathW p ts f).1 := by
 have hz : fineP pz := ⟨⟨by decide, fun x hx => by cases hx⟩, ⟨by decide, fun x hx => by cases hx⟩, by decide, ⟨by decide, fun x hx => by cases hx⟩, ⟨by decide, fun x hx => by cases hx⟩, by decide⟩
 unfold pathW
 by_cases c : tB ts = true ∧ progB p = true ∧ 0 ≤ f ∧ f ≤ 400
 ·rw [Zl2 c]
  by_cases d : (run p f.toNat ts (path0 p)).1.length = 0
  ·rw [Zl2 d]
   exact (ZfB c.2.1 _ _ _ (ZfZ c.1) (Zda c.2.1)).fine c.2.1
  ·rw [Zl1 d]; exact hz
 ·rw [Zl1 c]; exact hz
theorem Zdl {l : List D.Term} {k : Int} (h : sml l) (h0 : 0 ≤ k) (h1 : k ≤ 10000000000000000) : ∃ k' r, Ya fuel l k = some (k', r) ∧ k ≤ k' ∧ k' ≤ k + 4194304 ∧ ZP fuel r k = some k' := by
 unfold sml at h
 obtain ⟨⟨k', r⟩, e, a, b, c⟩ := Zi6 fuel l k h (by unfold fuel; omega) h0 (by omega)
 exact ⟨k', r, e, a, by simp only at b; omega, c fuel (by unfold fuel; omega)⟩
theorem Zhw {x : D.Path} (h : smallP x) : ∃ k' r, Zar fuel x 1 = some (k', r) ∧ 0 ≤ k' ∧ ∀ a b c d, XK fuel (D.Path.mk a r.Regs r.Mem r.Stack b r.Out c d r.Cond r.Turns) 1 = some k' := by
 obtain ⟨s1, s2, s3, s4, s5, s6⟩ := h
 obtain ⟨k1, r1, e1, a1, b1, c1⟩ := Zdl (k := 1) s1 (by omega) (by omega)
 obtain ⟨k2, r2, e2, a2, b2, c2⟩ := Zdl (k := k1) s2 (by omega) (by omega)
 have e3 := Zcz (p := x.Stack) (k := k2) (by omega) (by omega) s3
 have c3 := ZdP (L := x.Stack.length) (k := k2) (by omega) (by omega) s3
 obtain ⟨k4, r4, e4, a4, b4, c4⟩ := Zdl (k := k2 + x.Stack.length) s4 (by omega) (by omega)
 obtain ⟨k5, r5, e5, a5, b5, c5⟩ := Zdl (k := k4) s5 (by omega) (by omega)
 have e6 := Zcz (p := x.Turns) (k := k5) (by omega) (by omega) s6
 have c6 := ZdP (L := x.Turns.length) (k := k5) (by omega) (by omega) s6
 refine ⟨k5 + (x.Turns.length : Int), ⟨x.Pc, r1, r2, upI k2 x.Stack.length, x.In, r4, x.Code, x.Steps, r5, upI k5 x.Turns.length⟩, ?_, ?_, fun a b c d => ?_⟩
 ·unfold Zar
  simp only [e1, e2, e3, e4, e5, e6, Zlw]
 ·omega
 ·unfold XK
  have n1 : ¬ k1 < 0 := by omega
  have n2 : ¬ k2 < 0 := by omega
  have n3 : ¬ k2 + (x.Stack.length : Int) < 0 := by omega
  have n4 : ¬ k4 < 0 := by omega
  have n5 : ¬ k5 < 0 := by omega
  have n6 : ¬ k5 + (x.Turns.length : Int) < 0 := by omega
  simp [c1, c2, c3, c4, c5, c6, n1, n2, n3, n4, n5, n6]
end Go.Proofs.YtginipeibmnikaaGreatDoor
end
