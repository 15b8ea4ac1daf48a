/- A strings.Builder of the call's own, and strings.Join: what the program's own text of the library does. -/
import Derived.Test.YtmmhbhhcloobnaaGreatDoorGLC
import Derived.Test.YtmmhbhhcloobnaaGreatDoorGLt
import Derived.Test.YtmmhbhhcloobnaaGreatDoorShelf
import Derived.Test.YtmmhbhhcloobnaaGreatDoorDefs
import Derived.Lib.Strings
import Derived.Lib.Walk
import Derived.Lib.Builder
import Derived.Lib.UnsafeStr
import Derived.WalkKit
import Derived.Laws.Externs
set_option linter.unusedVariables false
set_option maxRecDepth 100000
namespace Go.Proofs.YtmmhbhhcloobnaaGreatDoor
open Go.GL Go.RowKit
theorem bty55 : Ty Tryz.prog 55 (List Byt) := ⟨by kernel_rfl, by kernel_rfl⟩
set_option maxHeartbeats 1000000 in
theorem cc_used (b : Nat) (w : World) (h0 : w.cell? ⟨b, 0, none⟩ = some (.pointer (some ⟨b, 0, none⟩))) :
    Calls Tryz.prog 64 #[.pointer (some ⟨b, 0, none⟩)] w fun e w' => e = .returned (.tuple #[]) ∧ w' = w := by
  obtain ⟨j, hj, _⟩ := Option.map_eq_some_iff.1 (show (Tryz.prog.info? 61).map (·.size) = some 2 by kernel_rfl)
  go_enter Tryz.func64, Tryz.ntmps64
  go_wp2
  rw [Lib.run_neq_ptr_same w _ Tryz.underlying59 hj]
  go_wp2
  go_end0
  exact ⟨rfl, rfl⟩
set_option maxHeartbeats 1000000 in
theorem cc_fresh (b : Nat) (w : World) (h0 : w.cell? ⟨b, 0, none⟩ = some (.pointer none)) (hsh : w.shape? b = some (61, 2)) (hfz : w.frozen? ⟨b, 0, none⟩ = false) :
    Calls Tryz.prog 64 #[.pointer (some ⟨b, 0, none⟩)] w fun e w' => e = .returned (.tuple #[]) ∧ w' = w.setCell ⟨b, 0, none⟩ (.pointer (some ⟨b, 0, none⟩)) := by
  obtain ⟨j, hj, hjs⟩ := Option.map_eq_some_iff.1 (show (Tryz.prog.info? 61).map (·.size) = some 2 by kernel_rfl)
  go_enter Tryz.func64, Tryz.ntmps64
  go_wp2
  rw [Lib.run_to_unsafe w ⟨b, 0, none⟩ Tryz.underlying59 Tryz.underlying76 hj (by rw [hjs]; decide) hsh (Nat.zero_lt_succ 1)]
  simp only [Result.andThen]
  rw [Oper.upon_value]
  go_wp2
  rw [run_callFunc_extern Tryz.func72 (by kernel_rfl) (by kernel_rfl) (by kernel_rfl) (e := Extern.AbiNoEscape.same) (by kernel_rfl)]
  rw [Lib.run_noEscape]
  simp only [Result.andThen]
  rw [Oper.upon_value]
  go_wp2
  rw [Lib.run_from_unsafe w ⟨b, 0, none⟩ Tryz.underlying76 Tryz.underlying59 hj hsh (by kernel_rfl)]
  simp only [Result.andThen]
  rw [Oper.upon_value]
  go_wp2
  go_end0
  exact ⟨rfl, rfl⟩
theorem Builder_WriteString_ok (s t : Str) {r : Str} (h : bw? s t = some r) {w : World} {S0 F0 : Nat → Prop} {b : Nat} (hs : Sep [BD 61 5 b s] w S0) (hb : ∀ k, S0 k → k < w.heap.size) (hd : ∀ k, S0 k → F0 k → False) :
    Calls Tryz.prog 45 [.pointer (some ⟨b, 0, none⟩), Str.val t].toArray w fun e w' => ∃ v, e = .returned v ∧ v = .tuple #[.int .i64 (len t.bytes), .nilIface] ∧ ∃ S', Stp w S0 w' S' ∧ Sep [BD 61 5 b r] w' S' := by
  have hM0 : Mem w S0 (fun k => F0 k ∧ k < w.heap.size) w S0 (fun k => F0 k ∧ k < w.heap.size) := Mem.start hb (fun _ h => h.2) (fun k h1 h2 => hd k h1 h2.1)
  obtain ⟨A, hok, hup⟩ := hs.upd 0 rfl hM0
  obtain ⟨p, v, hp, hbx, hAb, hrow, hown⟩ := hok
  have hcc : Calls Tryz.prog 64 [.pointer (some ⟨b, 0, none⟩)].toArray w fun e w' => ∃ v', e = .returned v' ∧ (Box w' b 61 [.pointer (some ⟨b, 0, none⟩), v] ∧ Chg (fun k => k = b) w w') := by
    rcases hp with rfl | rfl
    · refine (cc_fresh b w ((hbx.cell 0).trans rfl) (by unfold Box at hbx; simp [World.shape?, hbx]) (by unfold Box at hbx; simp [World.frozen?, hbx])).mono ?_
      rintro e w' ⟨rfl, rfl⟩
      refine ⟨_, rfl, ?_, ⟨rfl, rfl, rfl, by simp [World.setCell], fun k hk hn => ?_⟩⟩
      · unfold Box at hbx ⊢
        simp [World.setCell, Array.getElem?_modify, hbx]
      · simp [World.setCell, Array.getElem?_modify, show ¬ b = k from fun e => hn e.symm]
    · refine (cc_used b w ((hbx.cell 0).trans rfl)).mono ?_
      rintro e w' ⟨rfl, rfl⟩
      exact ⟨_, rfl, hbx, Chg.refl _ _⟩
  refine enter (N := 19) Tryz.func45 rfl Tryz.ntmps45 rfl fun fr hF => ?_
  refine wp_seq (wp_pure [(0, .pointer (some ⟨b, 0, none⟩)), (1, Str.val t)] hF (by kernel_rfl) fun fr hF => then_normal ?_)
  refine wp_seq (wp_text' ?_)
  refine from_pure 1 [(0, .pointer (some ⟨b, 0, none⟩)), (1, Str.val t), (6, .pointer (some ⟨b, 0, none⟩))] hF (by kernel_rfl) fun fr hF => ?_
  refine s_call [.pointer (some ⟨b, 0, none⟩)] Tryz.call64 rfl rfl hF rfl hcc fun v2 w1 fr hRes hF => ?_
  obtain ⟨hb1, hc1⟩ := hRes
  have hrow1 : w1.ownsRow 0 5 1 v s.bytes.length (Lib.byteCells s.bytes) := by
    refine ⟨hrow.1, ?_⟩
    rcases hrow.2 with h0 | ⟨g, cap, cur, rfl, h1, h2, h3⟩
    · exact .inl h0
    · refine .inr ⟨g, cap, cur, rfl, h1, ?_, h3⟩
      rw [hc1.block g (Array.getElem?_eq_some_iff.1 h2).1 fun e => (hown g rfl).2 e]
      exact h2
  refine from_end rfl (then_normal ?_)
  refine wp_seq (wp_text' ?_)
  refine from_pure 4 [(0, .pointer (some ⟨b, 0, none⟩)), (1, Str.val t), (8, .pointer (some ⟨b, 0, none⟩)), (11, .pointer (some ⟨b, 1, none⟩))] hF (by kernel_rfl) fun fr hF => ?_
  refine s_loadBox v bty55 rfl rfl hF rfl hb1 rfl rfl fun fr hF => ?_
  refine from_pure 1 [(0, .pointer (some ⟨b, 0, none⟩)), (1, Str.val t), (8, .pointer (some ⟨b, 0, none⟩)), (12, v), (13, Str.val t)] hF (by kernel_rfl) fun fr hF => ?_
  obtain ⟨v', w2, hrun, hb2, hrow2, hown2, hc2⟩ := bd_append (ty := 55) Tryz.underlying55 Tryz.underlying9 (by kernel_rfl) hb1 hrow1 hown h
  refine from_val hF rfl rfl rfl (by decide) (R := fun z w' => z = v' ∧ w' = w2) (does_value (v := v') (w' := w2) ?_ ⟨rfl, rfl⟩) fun z w3 fr hz hF => ?_
  · have e1 := opd_eval hF (x := .tmp 12) rfl
    have e2 := opd_eval hF (x := .tmp 13) rfl
    simp [execOp, resolve, invoke, builtin, e1, e2, hrun]
  obtain ⟨rfl, rfl⟩ := hz
  refine from_pure 2 [(1, Str.val t), (14, z), (16, .pointer (some ⟨b, 1, none⟩))] hF (by kernel_rfl) fun fr hF => ?_
  have h1c : z.oneCell' = true := by
    rcases hrow2.2 with ⟨rfl, _⟩ | ⟨g, cap, cur, rfl, _⟩ <;> rfl
  refine s_storeBox [.pointer (some ⟨b, 0, none⟩), z] rfl hF rfl rfl (by kernel_rfl) hb2 rfl h1c rfl fun w4 hb4 hc4 hF => ?_
  refine from_end rfl (then_normal ?_)
  refine wp_seq (wp_pure [(4, .int .i64 (len t.bytes)), (5, .nilIface)] hF (by kernel_rfl) fun fr hF => then_normal ?_)
  have hrow4 : w4.ownsRow 0 5 1 z r.bytes.length (Lib.byteCells r.bytes) := by
    refine ⟨hrow2.1, ?_⟩
    rcases hrow2.2 with h0 | ⟨g, cap, cur, rfl, h1, h2, h3⟩
    · exact .inl h0
    · refine .inr ⟨g, cap, cur, rfl, h1, ?_, h3⟩
      rw [hc4.block g (Array.getElem?_eq_some_iff.1 h2).1 fun e => (hown2 g rfl).2 e]
      exact h2
  have hcA : Chg A w w4 := by
    have c1 : Chg A w w1 := hc1.mono fun k hk => by rw [hk]; exact hAb
    have c2 : Chg A w1 w3 := hc2.mono fun k hk => (hown k hk).1
    have c4 : Chg A w3 w4 := hc4.mono fun k hk => by rw [hk]; exact hAb
    exact (c1.trans c2).trans c4
  obtain ⟨S', hp', hs'⟩ := hup (P' := BD 61 5 b r) hcA ⟨_, z, .inr rfl, hb4, .inl hAb, hrow4, fun g e => ⟨(hown2 g e).1.elim .inl fun hh => .inr (Nat.le_trans hc1.size hh), (hown2 g e).2⟩⟩
  have hrets := fun {σ : List (Nat × Value)} (h : σ = [(4, .int .i64 (len t.bytes)), (5, .nilIface)]) => (by subst h; exact (Rets.tmp rfl (Rets.tmp rfl Rets.nil)) : Rets Tryz.prog σ w4 [.tmp 4, .tmp 5] [.int .i64 (len t.bytes), .nilIface])
  exact wp_ret (retG (rs := [.tmp 4, .tmp 5]) rfl (hF.sub [(4, .int .i64 (len t.bytes)), (5, .nilIface)] (by kernel_rfl)) (hrets rfl) rfl ⟨_, rfl, rfl, S', hp', hs'⟩)
/-- b.String(): from here on nothing of the call's own is looked at -/
theorem Builder_String_ok {w0 w : World} {S F0 F : Nat → Prop} {L : List HP} {b : Nat} {s : Str} (i : Nat) (hs : Sep L w S) (hL : L[i]? = some (BD 61 5 b s)) (hM : Mem w0 Non F0 w S F) :
    Calls Tryz.prog 47 [.pointer (some ⟨b, 0, none⟩)].toArray w fun e w' => ∃ v, e = .returned v ∧ v = Str.val s ∧ Mem w0 Non F0 w' Non F0 := by
  obtain ⟨A, ⟨p, v, hp, hbx, hAb, hrow, hown⟩, hA⟩ := hs.get i hL
  have hnew : ∀ k, A k → w0.heap.size ≤ k := fun k hk => (hM.sub k (hA k hk)).elim (fun h => h.elim) id
  have hrow' : w.ownsRow w0.heap.size 5 1 v (Lib.byteCells s.bytes).length (Lib.byteCells s.bytes) := by
    have hl : (Lib.byteCells s.bytes).length = s.bytes.length := by simp [Lib.byteCells]
    rw [hl]
    refine ⟨hrow.1, ?_⟩
    rcases hrow.2 with h0 | ⟨g, cap, cur, rfl, h1, h2, h3⟩
    · exact .inl h0
    · exact .inr ⟨g, cap, cur, rfl, hnew g (hown g rfl).1, h2, h3⟩
  have hat : ∀ q, p = q → Lib.BuilderAt 61 5 w0.heap.size b q (Lib.byteCells s.bytes) w := fun q e => ⟨hnew b hAb, v, by rw [← e]; exact hbx, hrow', fun e => (hown b e).2 rfl⟩
  have his : Lib.IsBuilder 61 5 w0.heap.size b (Lib.byteCells s.bytes) w := hp.elim (fun e => .inl (hat _ e)) fun e => .inr (hat _ e)
  refine (Tryz.Builder_String_any w0.heap.size b s.bytes w his hM.chg.size).mono ?_
  rintro e w' ⟨rfl, hbel⟩
  have hsz : w0.heap.size ≤ w'.heap.size := Nat.le_trans hM.chg.size hbel.size
  have hc : Chg Non w0 w' := ⟨hbel.os.trans hM.chg.os, hbel.tape.trans hM.chg.tape, hbel.output.trans hM.chg.output, hsz, fun k hk hn => (hbel.block k hk).trans (hM.chg.block k hk hn)⟩
  exact ⟨_, rfl, rfl, ⟨hc, fun _ h => h.elim, fun _ h => h.elim, fun k hk => Nat.lt_of_lt_of_le (hM.bdF k (hM.fz k hk)) hbel.size, fun _ h => h.elim, fun _ h => h.elim, fun _ h => h, fun _ h => .inl h⟩⟩
theorem strings_Join_ok (p0 : List Str) (p1 : Str) {r : Str} (h : strings_Join p0 p1 = some r) {w : World} {G0 : Nat → Prop} {va0 : Value} (ra0 : RV w G0 va0 p0) :
    Calls Tryz.prog 65 [va0, Str.val p1].toArray w fun e w' => ∃ v, e = .returned v ∧ v = Str.val r ∧ Chg Non w w' := by
  unfold strings_Join at h
  split at h
  · rename_i hl
    obtain rfl := Option.some.inj h
    obtain ⟨ad, cap, rfl, hcap, hmax, hcells⟩ := ra0.slice
    by_cases hm : p0 = []
    · subst hm
      refine (Tryz.strings_Join_none ad cap ⟨p1.bytes.toArray⟩ w).mono ?_
      rintro e w' ⟨rfl, rfl⟩
      exact ⟨_, rfl, by simp [Lib.join, Str.val], Chg.refl _ _⟩
    · obtain ⟨a, rfl, _, he⟩ := hcells hm
      obtain ⟨css, g1, g2⟩ := elems_css he
      have hcss : css = p0.map Flat.enc := by
        apply List.ext_getElem?
        intro i
        rw [List.getElem?_map]
        by_cases hi : i < p0.length
        · have hi' : i < css.length := by rw [g1.1]; exact hi
          rw [List.getElem?_eq_getElem hi, List.getElem?_eq_getElem hi']
          exact congrArg some (Flat.iff.1 (g1.2 i css[i] p0[i] (List.getElem?_eq_getElem hi') (List.getElem?_eq_getElem hi)))
        · rw [List.getElem?_eq_none (by rw [g1.1]; omega), List.getElem?_eq_none (by omega)]; rfl
      subst hcss
      have hfl : ∀ (l : List Str), (l.map Flat.enc).flatten = l.map Str.val := by
        intro l
        induction l with
        | nil => rfl
        | cons x l ih => rw [List.map_cons, List.flatten_cons, ih]; rfl
      rw [hfl] at g2
      have hpos : 0 < p0.length := List.length_pos_iff.2 hm
      have h0 := g2 0 (Str.val p0[0]) (by rw [List.getElem?_map, List.getElem?_eq_getElem hpos]; rfl)
      obtain ⟨bk, o, sp⟩ := a
      have hsp : sp = none := by
        cases sp with
        | none => rfl
        | some q =>
          simp [World.cell?, Addr.add] at h0
          split at h0 <;> cases h0
      subst hsp
      have hadd : ∀ j, (⟨bk, o, none⟩ : Addr).add j = ⟨bk, o + j, none⟩ := fun j => by unfold Addr.add; split <;> simp_all
      have hbk : bk < w.heap.size := by
        rw [hadd] at h0
        by_cases hlt : bk < w.heap.size
        · exact hlt
        · simp [World.cell?, Array.getElem?_eq_none (show w.heap.size ≤ bk by omega)] at h0
      have hmm : ((p0.map fun s => (⟨s.bytes.toArray⟩ : ByteArray)).map (·.data.toList)) = p0.map (·.bytes) := by simp
      have key := Tryz.strings_Join bk o cap (p0.map fun s => (⟨s.bytes.toArray⟩ : ByteArray)) ⟨p1.bytes.toArray⟩ w (fun j x hx => by
          rw [List.getElem?_map] at hx
          obtain ⟨s, h1, rfl⟩ := Option.map_eq_some_iff.1 hx
          have := g2 j (Str.val s) (by rw [List.getElem?_map, h1]; rfl)
          rw [hadd] at this
          exact (by simpa using this : w.cell? ⟨bk, o + j, none⟩ = some s.val)) hbk (by simp; omega) (by simpa using hcap) (by rw [hmm]; simpa using hl.2)
      rw [List.length_map] at key
      refine key.mono ?_
      rintro e w' ⟨rfl, hb⟩
      refine ⟨_, rfl, by rw [hmm]; rfl, ⟨hb.os, hb.tape, hb.output, hb.size, fun k hk _ => hb.block k hk⟩⟩
  · cases h
end Go.Proofs.YtmmhbhhcloobnaaGreatDoor
