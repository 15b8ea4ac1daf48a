/- Own library, part A: strings: put together, compared, made of bytes. -/
import Derived.Test.YtmmhbhhcloobnaaGreatDoorGLn
import Derived.Laws.BytesString
namespace Go.GL
open Go.RowKit
theorem cat_run {P : Program} {a b c : Str} (h : cat? a b = some c) (t : TypeId) (w : World) : (binOp .add t a.val b.val).run P w = .ok c.val w := by
  unfold cat? at h
  split at h
  · rename_i hl
    simp only [Option.some.injEq] at h; subst h
    have e : (⟨a.bytes.toArray⟩ : ByteArray) ++ (⟨b.bytes.toArray⟩ : ByteArray) = ⟨(a.bytes ++ b.bytes).toArray⟩ := by
      apply ByteArray.ext
      simp
    have hs : ¬ ((((⟨a.bytes.toArray⟩ : ByteArray).size + (⟨b.bytes.toArray⟩ : ByteArray).size : Nat) : Int) > IntKind.i64.max) := by
      have h1 : (⟨a.bytes.toArray⟩ : ByteArray).size = a.bytes.length := by simp [ByteArray.size]
      have h2 : (⟨b.bytes.toArray⟩ : ByteArray).size = b.bytes.length := by simp [ByteArray.size]
      have h3 : IntKind.i64.max = 9223372036854775807 := by decide
      rw [h1, h2, h3]; omega
    simp only [Str.val, binOp, Op.stringOp, if_neg hs, e]
    rfl
  · cases h
section
variable {P : Program} {ops : Array Oper} {Q : Exit → Act → World → Prop} {a : Act} {w : World} {N : Nat} {σ : List (Nat × Value)} {k d : Nat} {t t' yt ty E : TypeId} {x y : Operand} {pos : String} {af : Array Edge} {s1 s2 s3 : Str} {F : Nat → Prop}
theorem s_cat (ho : ops[k]? = some ⟨some d, .binOp .add t x y yt, ty, pos, af, none⟩) (hd : Nat.blt d N = true) (hF : FrS N σ a) (hx : opd σ x = some s1.val) (hy : opd σ y = some s2.val) (hz : cat? s1 s2 = some s3)
    (h : ∀ fr, FrS N ((d, s3.val) :: σ) fr → wpFrom P ops Q (k + 1) fr w) : wpFrom P ops Q k a w := s_bin ho hd hF hx hy (by simp [eqGuard]) (cat_run hz _ _) h
theorem push_bytes (l : List Byt) : ∀ s : ByteArray, (l.map (·.n)).foldl (fun r n => r.push (UInt8.ofNat n.toNat)) s = ⟨(s.data.toList ++ (strOf l).bytes).toArray⟩ := by
  induction l with
  | nil => intro s; simp [strOf]
  | cons b l ih =>
    intro s
    rw [List.map_cons, List.foldl_cons, ih]
    simp [strOf, ByteArray.push]
theorem bytes_run {v : Value} {l : List Byt} (ht : P.underlying t = some (.slice E)) (hE : P.underlying E = some (.int .u8)) (ht' : P.underlying t' = some .string) (hl : RV w F v l) : (convert t t' v).run P w = .ok (strOf l).val w := by
  obtain ⟨ad, cap, rfl, hcap, hmax, hcells⟩ := hl.slice
  rw [run_convert_bytes_string w t t' E ad l.length cap ht hE ht']
  by_cases hm : l = []
  · subst hm
    cases ad with
    | none => simp [Conv.bytesToString, strOf, Str.val]; rfl
    | some ad =>
      rw [run_bytesToString w ad _ cap [] (by simp [loadCells, loadCellsFrom])]
      rfl
  · obtain ⟨a', rfl, _, he⟩ := hcells hm
    obtain ⟨css, g1, g2⟩ := elems_css he
    have hcss : css = l.map Flat.enc := by
      apply List.ext_getElem?
      intro i
      rw [List.getElem?_map]
      by_cases hi : i < l.length
      · have hi' : i < css.length := by rw [g1.1]; exact hi
        rw [List.getElem?_eq_getElem hi, List.getElem?_eq_getElem hi']
        exact congrArg some (Flat.iff.1 (g1.2 i css[i] l[i] (List.getElem?_eq_getElem hi') (List.getElem?_eq_getElem hi)))
      · rw [List.getElem?_eq_none (by rw [g1.1]; omega), List.getElem?_eq_none (by omega)]; rfl
    subst hcss
    have hfl : (l.map Flat.enc).flatten = (l.map (·.n)).map (Value.int .u8) := by
      clear g1 g2 he hcells hm hcap hl
      induction l with
      | nil => rfl
      | cons b l ih => rw [List.map_cons, List.flatten_cons, ih]; rfl
    rw [hfl] at g2
    have hc : ∀ j u, ((l.map (·.n)).map (Value.int .u8))[j]? = some u → w.cell? (a'.add j) = some u := fun j u hu => by simpa using g2 j u hu
    have := run_loadCells_list (P := P) w a' _ hc
    have hlen : ((l.map (·.n)).map (Value.int .u8)).length = l.length := by simp
    rw [hlen] at this
    rw [run_bytesToString w a' _ cap (l.map (·.n)) this, push_bytes]
    simp [Str.val]
theorem s_bytesStr {v : Value} {l : List Byt} (ht : P.underlying t = some (.slice E)) (hE : P.underlying E = some (.int .u8)) (ht' : P.underlying t' = some .string) (ho : ops[k]? = some ⟨some d, .convert t t' x, ty, pos, af, none⟩) (hd : Nat.blt d N = true) (hF : FrS N σ a) (hx : opd σ x = some v) (hl : RV w F v l)
    (h : ∀ fr, FrS N ((d, (strOf l).val) :: σ) fr → wpFrom P ops Q (k + 1) fr w) : wpFrom P ops Q k a w := by
  refine from_val hF ho rfl rfl (Nat.blt_eq.mp hd) (R := fun z w' => z = (strOf l).val ∧ w' = w) (does_value (v := (strOf l).val) (w' := w) ?_ ⟨rfl, rfl⟩) fun z w' fr hz hF' => ?_
  · simp [execOp, opd_eval hF hx, bytes_run ht hE ht' hl]
  · obtain ⟨rfl, rfl⟩ := hz; exact h fr hF'
end
section
variable {P : Program} {draw : Bool} {ms : List Nat} {ops : Array Oper} {a0 : Act} {w0 : World} {Q : Exit → Act → World → Prop} {pds : List Pd} {σ : List (Nat × Value)} {N j : Nat} {dst : Option Tmp} {g : Option (Nat × Bool)}
  {t yt ty : TypeId} {x y : Operand} {pos : String} {af : Array Edge} {s1 s2 s3 : Str}
theorem np_cat (hG : Good ops pds []) (hF : FrS N σ a0) (ho : ops[j]? = some ⟨dst, .binOp .add t x y yt, ty, pos, af, g⟩) (hx : envP ops σ pds j x = some s1.val) (hy : envP ops σ pds j y = some s2.val)
    (hz : gc ops pds ops.size j → cat? s1 s2 = some s3) (hpd : pds.getD j .any = .eq s3.val) : NPB P draw ms ops pds a0 w0 Q j := np_bin hG hF ho hx hy (fun w => by simp [eqGuard]) (fun h w => cat_run (hz h) _ w) hpd
end
end Go.GL
