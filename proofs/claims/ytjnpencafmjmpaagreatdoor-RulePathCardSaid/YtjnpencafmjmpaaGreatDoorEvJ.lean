/- Each operation of the model does what the evaluator tells: copy, append, conversions. -/
import Derived.Test.YtjnpencafmjmpaaGreatDoorEvI
set_option linter.unusedVariables false
set_option linter.unusedSimpArgs false
namespace Go.Ev
open Go.RowKit
variable {P : Program} {g : G} {w : World} {H : List ABlk}

theorem srcCells_length {size n : Nat} {x : AV} {cs : List AV} (h : srcCells H size n x = some cs) : cs.length = n * size := by
  unfold srcCells at h
  split at h
  · split at h
    · rename_i hc; cases h; subst hc; simp
    · cases h
  · split at h
    · rename_i hc; cases h; rw [List.length_map, List.length_take]; omega
    · cases h
  · split at h
    · rename_i hc; cases h; rw [List.length_map, List.length_take, hc.2]; omega
    · cases h
  · split at h
    · unfold blkRead at h
      split at h
      · cases h
      · split at h
        · cases h; rw [List.length_take, List.length_drop]; omega
        · cases h
    · cases h
  · cases h
theorem set_same {id : Nat} {B : ABlk} (h : H[id]? = some B) : H.set id B = H := by
  apply List.ext_getElem?
  intro i
  by_cases hi : id = i
  · subst hi; rw [List.getElem?_set_self (lt_of_get h), h]
  · rw [List.getElem?_set_ne hi]
theorem evCopy_run {C : Cfg} {ats : Array TypeId} {ty : TypeId} {d x z : AV} {a b : Value} {H' : List ABlk} (hi : Inv g w H) (h : evCopy C ats d x H = some (z, H')) (hd : repA g w H d a) (hx : repA g w H x b) :
    ∃ u w', (Builtin.copy_ ats ty #[a, b]).run C.P w = .ok u w' ∧ Inv g w' H' ∧ Ext g w H g w' H' ∧ repA g w' H' z u := by
  unfold evCopy at h
  split at h
  case h_2 => cases h
  case h_1 dT hdT =>
  split at h
  · cases h
  rename_i e he
  split at h
  case h_2 => cases h
  case h_1 size dn xn h1 h2 h3 =>
  simp only at h
  split at h
  · cases h
  rename_i cs hcs
  have hlen := srcCells_length hcs
  obtain ⟨us, hus, husr⟩ := srcCells_run (P := C.P) hi hcs hx (by intro h0; rw [h0] at hlen; exact List.eq_nil_of_length_eq_zero (by simpa using hlen))
  have hlx := lenOf_run (P := C.P) h3 hx
  split at h
  case h_1 id ver off dn' sz =>
    simp only [lenOf, Option.some.injEq] at h2; subst h2
    simp only [repA] at hd
    obtain ⟨A, cap, rfl, hc, B, hB, hv, hA⟩ := hd
    rw [hB] at h
    simp only at h
    split at h
    case isFalse => cases h
    case isTrue hcond =>
    cases h
    obtain ⟨w', hw, hinv, hext⟩ := write_run (P := C.P) hi hB hcond.2.1 husr hcond.2.2.2.2.2 (by rw [hlen]; exact hcond.2.2.2.2.1)
    rcases (hA hcond.1).1 with h0 | h0
    · have hn0 : Nat.min xn dn' = 0 := by have : dn' = 0 := by omega
                                          rw [this]; exact Nat.min_zero _
      rw [hn0] at hlen hus ⊢
      have hcs0 : cs = [] := List.eq_nil_of_length_eq_zero (by simpa using hlen)
      subst hcs0
      have hus0 : us = [] := List.eq_nil_of_length_eq_zero (repLA_length husr).symm
      subst hus0
      simp only [setAt]
      rw [show ({ B with cells := B.cells } : ABlk) = B from rfl, set_same hB]
      refine ⟨goInt 0, w, ?_, hi, Ext.refl _ _ _, by simp [repA, rep, goInt]⟩
      simp only [Builtin.copy_, hdT, Sem.run_bind, elemT_run he, Result.andThen_ok, hlx, hn0, sizeT_run h1, hus]
      simp [storeCells, hdT, hlx, elemT_run he, hn0, hus, sizeT_run h1]
    · subst h0
      refine ⟨goInt (Nat.min xn dn'), w', ?_, hinv, hext, by simp [repA, rep, goInt]⟩
      simp [Builtin.copy_, hdT, elemT_run he, hlx, sizeT_run h1, hus, hw]
  case h_2 n xx xs =>
    simp only [lenOf, Option.some.injEq] at h2; subst h2
    simp only [repA, rep] at hd
    obtain ⟨A, cap, rfl, hc, _⟩ := hd
    split at h
    case isFalse => cases h
    case isTrue hn0 =>
    cases h
    rw [hn0] at hlen hus
    have hcs0 : cs = [] := List.eq_nil_of_length_eq_zero (by simpa using hlen)
    subst hcs0
    have hus0 : us = [] := List.eq_nil_of_length_eq_zero (repLA_length husr).symm
    subst hus0
    refine ⟨goInt 0, w, ?_, hi, Ext.refl _ _ _, by simp [repA, rep, goInt]⟩
    cases A <;> simp [storeCells, Builtin.copy_, hdT, hlx, elemT_run he, hn0, hus, sizeT_run h1]
  case h_3 => cases h
theorem nsc_le {need cap : Nat} (h : cap < need) : Builtin.nextslicecap need cap ≤ 2 * need := by
  unfold Builtin.nextslicecap
  split
  · omega
  · split
    · omega
    · rename_i h1 h2
      have key : ∀ r c, c ≤ 2 * need → (c < need → c ≤ need) → Builtin.growBy need r c ≤ 2 * need := by
        intro r
        induction r with
        | zero => intro c hc _; exact hc
        | succ r ih =>
          intro c hc _
          simp only [Builtin.growBy]
          split
          · exact hc
          · exact ih _ (by omega) (by omega)
      exact key 4 cap (by omega) (by omega)
theorem evNew_run {C : Cfg} {xT e : TypeId} {size bytes m : Nat} {z ncs : List AV} {x : AV} {v : Value} (hi : Inv g w H) (h : evNew C xT size bytes z x H = some (m, ncs)) (hx : repA g w H x v)
    (hs : sizeT C.P e = some size) (hb : bytesT C.P e = some bytes) (hz : zeroT C.P e = some z) (hzl : z.length = size) (hs0 : size ≠ 0) (hb0 : bytes ≠ 0) :
    ∃ b d, C.P.underlying xT = some d ∧ isIntT C.P xT = some b ∧ ncs.length = m * size ∧ (b = true → ∃ l : Int, v = .int .i64 l ∧ 0 ≤ l ∧ l * bytes ≤ 140737488355328 ∧ m = l.toNat ∧ ∃ zv, (zeroValue e).run C.P w = .ok zv w ∧ repLA g w H ncs (Builtin.zeroCells zv.cells m).toList) ∧
      (b = false → (Builtin.lenOf v).run C.P w = .ok m w ∧ ∃ us : List Value, (Builtin.firstCells size m v).run C.P w = .ok us.toArray w ∧ repLA g w H ncs us) := by
  unfold evNew at h
  split at h
  · cases h
  · rename_i hT
    have hd : ∃ d, C.P.underlying xT = some d := by
      unfold isIntT at hT; split at hT <;> simp_all
    obtain ⟨d, hd⟩ := hd
    split at h
    case h_2 => cases h
    case h_1 l =>
    split at h
    case isFalse => cases h
    case isTrue hc =>
    cases h
    simp only [repA, rep] at hx
    obtain ⟨zv, hzv, hzr, _⟩ := zeroT_run hz g w H
    refine ⟨true, d, hd, hT, by simp [List.length_flatten, hzl], fun _ => ⟨l, hx, hc.1, hc.2, rfl, zv, hzv, ?_⟩, by simp⟩
    have hsz := repLA_size hzr
    exact zeros_rep hzr (by rw [← hsz])
  · rename_i hT
    have hd : ∃ d, C.P.underlying xT = some d := by
      unfold isIntT at hT; split at hT <;> simp_all
    obtain ⟨d, hd⟩ := hd
    split at h
    · cases h
    rename_i m' hm
    split at h
    · cases h
    rename_i cs hcs
    cases h
    have hlen := srcCells_length hcs
    obtain ⟨us, hus, husr⟩ := srcCells_run (P := C.P) hi hcs hx (by intro h0; rw [h0] at hlen; exact List.eq_nil_of_length_eq_zero (by simpa using hlen))
    exact ⟨false, d, hd, hT, hlen, by simp, fun _ => ⟨lenOf_run hm hx, us, hus, husr⟩⟩
structure AppT (C : Cfg) (ats : Array TypeId) (xT e : TypeId) (size bytes : Nat) (z : List AV) : Prop where
  h0 : ∃ sT, ats[0]? = some sT ∧ elemT C.P sT = some e
  h1 : ats[1]? = some xT
  hs : sizeT C.P e = some size
  hb : bytesT C.P e = some bytes
  hz : zeroT C.P e = some z
  hzl : z.length = size
  hs0 : size ≠ 0
  hb0 : bytes ≠ 0
theorem append_room {C : Cfg} {ats : Array TypeId} {ty xT e : TypeId} {size bytes m : Nat} {z ncs : List AV} {x : AV} {v : Value} (hi : Inv g w H) (A : AppT C ats xT e size bytes z) (h : evNew C xT size bytes z x H = some (m, ncs)) (hx : repA g w H x v)
    (base : Option Addr) (n cap : Nat) (hc : n + m ≤ cap) :
    ∃ us : List Value, repLA g w H ncs us ∧ (Builtin.append_ ats ty #[.slice base n cap, v]).run C.P w = ((match base with | some a => storeCells (a.add (n * size)) us | none => pure () : Sem Unit).run C.P w).andThen (fun _ w' => .ok (.slice base (n + m) cap) w') := by
  obtain ⟨b, d, hd, hT, hlen, ht, hf⟩ := evNew_run hi h hx A.hs A.hb A.hz A.hzl A.hs0 A.hb0
  obtain ⟨sT, hsT, hel⟩ := A.h0
  obtain ⟨ti, hti, hbytes⟩ := bytesT_run A.hb w
  cases b with
  | false =>
    obtain ⟨hl, us, hus, hr⟩ := hf rfl
    refine ⟨us, hr, ?_⟩
    cases d <;> first | (simp [isIntT, hd] at hT; done) | skip
    all_goals
     simp only [Builtin.append_, hsT, A.h1, List.getElem?_toArray, List.getElem?_cons_zero, List.getElem?_cons_succ, Sem.run_bind, elemT_run hel, Result.andThen_ok, sizeT_run A.hs, run_underlying hd, Sem.run_pure]
     simp only [Bool.false_eq_true, if_false, Bool.not_false, if_true, hl, Sem.run_bind, Result.andThen_ok, hc, hus]
     cases base <;> simp
  | true =>
    obtain ⟨l, rfl, hl0, hlb, rfl, zv, hzv, hr⟩ := ht rfl
    refine ⟨_, hr, ?_⟩
    have hwl : IntKind.i64.wrap l = l := by
      have : l * 1 ≤ l * bytes := Int.mul_le_mul_of_nonneg_left (by have := A.hb0; omega) hl0
      simp only [IntKind.wrap, IntKind.bits, IntKind.signed]; simp; omega
    cases d <;> first | (simp [isIntT, hd] at hT; done) | skip
    simp only [Builtin.append_, hsT, A.h1, List.getElem?_toArray, List.getElem?_cons_zero, List.getElem?_cons_succ, Sem.run_bind, elemT_run hel, Result.andThen_ok, sizeT_run A.hs, run_underlying hd, Sem.run_pure]
    simp only [if_true, Bool.not_true, Bool.false_eq_true, if_false, Sem.run_bind, asInt, asIntOf, Sem.run_pure, Result.andThen_ok, hwl, hti, hbytes]
    rw [if_neg (by omega)]
    simp only [Sem.run_bind, hti, hbytes, Result.andThen_ok]
    rw [if_neg (by omega)]
    simp only [Sem.run_bind, Sem.run_pure, Result.andThen_ok, hc, if_true]
    by_cases hk : l.toNat * size = 0
    · have hl00 : l.toNat = 0 := by rcases Nat.mul_eq_zero.1 hk with h | h; exact h; exact absurd h A.hs0
      have hz0 : Builtin.zeroCells zv.cells l.toNat = #[] := by rw [hl00]; simp [Builtin.zeroCells, range0]
      rw [hz0]
      simp only [hk, if_true, Sem.run_bind, Sem.run_pure, Result.andThen_ok]
      cases base <;> simp
    · simp only [hk, if_false, Sem.run_bind, hzv, Result.andThen_ok, Sem.run_pure]
      cases base <;> simp
theorem zeroCells_size (z : Array Value) (n : Nat) : (Builtin.zeroCells z n).size = n * z.size := by simp [Builtin.zeroCells]
theorem append_grow {C : Cfg} {ats : Array TypeId} {ty xT e : TypeId} {size bytes m : Nat} {z ncs ocs : List AV} {x : AV} {v : Value} (hi : Inv g w H) (A : AppT C ats xT e size bytes z) (h : evNew C xT size bytes z x H = some (m, ncs)) (hx : repA g w H x v)
    (base : Option Addr) (n cap : Nat) (hc : cap < n + m) (hbd : (n + m) * bytes ≤ 140737488355328)
    (hold : ∀ k, ∃ os : List Value, (Builtin.firstCells size n (.slice base n cap)).run C.P { w with drawn := k } = .ok os.toArray { w with drawn := k } ∧ repLA g { w with drawn := k } H ocs os) (hol : ocs.length = n * size) :
    ∃ (newCap k : Nat) (c : Array Value), n + m ≤ newCap ∧ (Builtin.append_ ats ty #[.slice base n cap, v]).run C.P w = .ok (.slice (some ⟨w.heap.size, 0, none⟩) (n + m) newCap) (pushB { w with drawn := k } (.cells c e)) ∧ c.size = newCap * size ∧
      repLA g { w with drawn := k } H (ocs ++ ncs) (c.toList.take (n * size + m * size)) := by
  obtain ⟨ti, hti, hbytes⟩ := bytesT_run A.hb w
  obtain ⟨sT, hsT, hel⟩ := A.h0
  have hi' := drawn_inv hi (w.drawn + 1)
  have hx' := repA_mono (drawn_ext g w H (w.drawn + 1)) hx
  obtain ⟨b, d, hd, hT, hlen, ht, hf⟩ := evNew_run hi h hx A.hs A.hb A.hz A.hzl A.hs0 A.hb0
  obtain ⟨b2, d2, hd2, hT2, hlen2, ht2, hf2⟩ := evNew_run hi' h hx' A.hs A.hb A.hz A.hzl A.hs0 A.hb0
  rw [hT] at hT2; cases hT2
  obtain ⟨os, hos, hor⟩ := hold (w.drawn + 1)
  obtain ⟨zv, hzv, hzr, _⟩ := zeroT_run A.hz g { w with drawn := w.drawn + 1 } H
  have hzsz : zv.cells.size = size := by rw [← repLA_size hzr, A.hzl]
  have h1 : 1 ≤ bytes := by have := A.hb0; omega
  have hneed : n + m ≤ 140737488355328 := Nat.le_trans (Nat.le_mul_of_pos_right _ h1) hbd
  have hnsc : ¬ (Builtin.nextslicecap (n + m) cap * bytes > 2 ^ 48) := by
    have := Nat.mul_le_mul_right bytes (nsc_le hc)
    rw [Nat.mul_assoc] at this
    omega
  have hforce : (Question.appendCap (n + m) cap e).forced = false := rfl
  obtain ⟨newCap, hcap, hge⟩ : ∃ q, (Question.appendCap (n + m) cap e).cut (w.tape w.drawn (.appendCap (n + m) cap e)) = q ∧ n + m ≤ q := ⟨_, rfl, by simp only [Question.cut]; omega⟩
  have hti2 : (typeInfo e).run C.P { w with drawn := w.drawn + 1 } = .ok ti { w with drawn := w.drawn + 1 } := by
    obtain ⟨ti2, hti2, _⟩ := bytesT_run A.hb { w with drawn := w.drawn + 1 }
    have : ti2 = ti := by
      unfold bytesT at *
      cases hp : C.P.info? e with
      | none => simp [typeInfo, hp] at hti
      | some q => simp [typeInfo, hp] at hti hti2; rw [← hti, ← hti2]
    rw [this] at hti2; exact hti2
  have fin : ∀ us : List Value, repLA g { w with drawn := w.drawn + 1 } H ncs us → ((os.toArray ++ us.toArray ++ Builtin.zeroCells zv.cells (newCap - (n + m))).size = newCap * size) ∧ repLA g { w with drawn := w.drawn + 1 } H (ocs ++ ncs) ((os.toArray ++ us.toArray ++ Builtin.zeroCells zv.cells (newCap - (n + m))).toList.take (n * size + m * size)) := by
    intro us hr
    have e1 := repLA_length hor
    have e2 := repLA_length hr
    refine ⟨?_, ?_⟩
    · simp only [Array.size_append, List.size_toArray, zeroCells_size, hzsz, ← e1, ← e2, hol, hlen, ← Nat.add_mul]
      congr 1; omega
    · have : (os.toArray ++ us.toArray ++ Builtin.zeroCells zv.cells (newCap - (n + m))).toList.take (n * size + m * size) = os ++ us := by
        simp only [Array.toList_append]
        rw [List.take_left' (by simp [← e1, ← e2, hol, hlen])]
      rw [this]
      exact repLA_append hor hr
  have hnc : ¬ n + m ≤ cap := by omega
  have hbig : ¬ (((n + m : Nat) : Int) > IntKind.i64.max ∧ (b = true ∨ bytes = 0)) := by
    intro hh
    have : IntKind.i64.max = 9223372036854775807 := by decide
    rw [this] at hh
    omega
  cases b with
  | false =>
    obtain ⟨hl, _, _, _⟩ := hf rfl
    obtain ⟨_, us, hus, hr⟩ := hf2 rfl
    obtain ⟨f1, f2⟩ := fin us hr
    refine ⟨newCap, w.drawn + 1, _, hge, ?_, f1, f2⟩
    cases d <;> first | (simp [isIntT, hd] at hT; done) | skip
    all_goals
     simp only [Builtin.append_, hsT, A.h1, List.getElem?_toArray, List.getElem?_cons_zero, List.getElem?_cons_succ, Sem.run_bind, elemT_run hel, Result.andThen_ok, sizeT_run A.hs, run_underlying hd, Sem.run_pure]
     simp only [Bool.false_eq_true, if_false, Bool.not_false, if_true, hl, Sem.run_bind, Result.andThen_ok, hnc, hti, hbytes, false_or]
     rw [if_neg (by intro hh; exact hbig ⟨hh.1, .inr hh.2⟩)]
     simp only [Sem.run_bind, hti, hbytes, Result.andThen_ok]
     rw [if_neg hnsc]
     simp only [Sem.run_bind, run_choose, hforce, Bool.false_eq_true, if_false, Result.andThen_ok, hcap, hti2, run_askRoom, hos, hus, hzv, newRow, run_newObj, Sem.run_pure]
     rfl
  | true =>
    obtain ⟨l, rfl, hl0, hlb, rfl, _⟩ := ht rfl
    obtain ⟨l2, hl2, _, _, hl3, zv2, hzv2, hr⟩ := ht2 rfl
    cases hl2
    rw [hzv] at hzv2; cases hzv2
    obtain ⟨f1, f2⟩ := fin _ hr
    refine ⟨newCap, w.drawn + 1, _, hge, ?_, f1, f2⟩
    cases d <;> first | (simp [isIntT, hd] at hT; done) | skip
    have hwl : IntKind.i64.wrap l = l := by
      have : l * 1 ≤ l * bytes := Int.mul_le_mul_of_nonneg_left (by omega) hl0
      simp only [IntKind.wrap, IntKind.bits, IntKind.signed]; simp; omega
    simp only [Builtin.append_, hsT, A.h1, List.getElem?_toArray, List.getElem?_cons_zero, List.getElem?_cons_succ, Sem.run_bind, elemT_run hel, Result.andThen_ok, sizeT_run A.hs, run_underlying hd, Sem.run_pure]
    simp only [if_true, Bool.not_true, Bool.false_eq_true, if_false, Sem.run_bind, asInt, asIntOf, Sem.run_pure, Result.andThen_ok, hwl, hti, hbytes]
    rw [if_neg (by omega)]
    simp only [Sem.run_bind, hti, hbytes, Result.andThen_ok]
    rw [if_neg (by omega)]
    simp only [Sem.run_pure, Result.andThen_ok, hnc, if_false, Sem.run_bind, hti, hbytes]
    rw [if_neg (by intro hh; exact hbig ⟨hh.1, .inl rfl⟩)]
    simp only [Sem.run_bind, hti, hbytes, Result.andThen_ok]
    rw [if_neg hnsc]
    simp only [Sem.run_bind, run_choose, hforce, Bool.false_eq_true, if_false, Result.andThen_ok, hcap, hti2, run_askRoom, hos]
    by_cases hk : l.toNat * size = 0
    · have hl00 : l.toNat = 0 := by rcases Nat.mul_eq_zero.1 hk with h | h; exact h; exact absurd h A.hs0
      have hz0 : Builtin.zeroCells zv.cells l.toNat = #[] := by rw [hl00]; simp [Builtin.zeroCells, range0]
      rw [hz0]
      simp only [hk, if_true, Sem.run_bind, Sem.run_pure, Result.andThen_ok, hzv, newRow, run_newObj]
      rfl
    · simp only [hk, if_false, Sem.run_bind, Sem.run_pure, Result.andThen_ok, hzv, newRow, run_newObj]
      rfl
end Go.Ev
