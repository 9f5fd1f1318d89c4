/- Each operation of the model does what the evaluator tells: append, conversions. -/
import Derived.Test.YtjnpencafmjmpaaGreatDoorEvJ
set_option linter.unusedVariables false
set_option linter.unusedSimpArgs false
namespace Go.Ev
open Go.RowKit
variable {P : Program} {g : G} {w : World} {H : List ABlk}

theorem setV_append : ∀ (us l : List Value) (n : Nat), n + us.length ≤ l.length → (setV l n us).take (n + us.length) = l.take n ++ us
  | [], l, n, _ => by simp [setV]
  | u :: us, l, n, h => by
    simp only [List.length_cons] at h
    have := setV_append us (l.set n u) (n + 1) (by simp; omega)
    simp only [setV, List.length_cons]
    rw [show n + (us.length + 1) = n + 1 + us.length by omega, this]
    have hlt : n < (l.set n u).length := by simp; omega
    rw [← List.take_append_getElem hlt]
    simp only [List.take_set, List.getElem_set_self, List.append_assoc, List.cons_append, List.nil_append]
    rw [List.set_eq_of_length_le (by simp; omega)]
theorem all_append {xs ys : List AV} (h1 : xs.all AV.isCell = true) (h2 : ys.all AV.isCell = true) : (xs ++ ys).all AV.isCell = true := by
  rw [List.all_append, h1, h2]; rfl
theorem evAppend_run {C : Cfg} {ats : Array TypeId} {ty : TypeId} {s x z : AV} {a b : Value} {H' : List ABlk} (hi : Inv g w H) (h : evAppend C ats s x H = some (z, H')) (hs : repA g w H s a) (hx : repA g w H x b) :
    ∃ u w' g', (Builtin.append_ ats ty #[a, b]).run C.P w = .ok u w' ∧ Inv g' w' H' ∧ Ext g w H g' w' H' ∧ repA g' w' H' z u := by
  unfold evAppend at h
  split at h
  case h_2 => cases h
  case h_1 sT xT hsT hxT =>
  split at h
  · cases h
  rename_i e he
  split at h
  case h_2 => cases h
  case h_1 size bytes zz h1 h2 h3 =>
  split at h
  · cases h
  rename_i hn
  split at h
  · cases h
  rename_i m ncs hnew
  have A : AppT C ats xT e size bytes zz := ⟨⟨sT, hsT, he⟩, hxT, h1, h2, h3, by omega, by omega, by omega⟩
  have hncl : ncs.length = m * size := by
    obtain ⟨b, d, _, _, hlen, _⟩ := evNew_run hi hnew hx A.hs A.hb A.hz A.hzl A.hs0 A.hb0
    exact hlen
  unfold evAppend2 at h
  split at h
  case h_4 => cases h
  case h_1 =>
    have hs0 := hs
    simp only [repA, rep] at hs
    obtain ⟨B, cap, rfl, hc0, hB⟩ := hs
    have hBn : B = none := by cases B <;> simp at hB; rfl
    subst hBn
    have := hc0 rfl
    subst this
    split at h
    · rename_i hm
      subst hm
      cases h
      obtain ⟨us, hur, hrun⟩ := append_room (ty := ty) hi A hnew hx none 0 0 (by omega)
      exact ⟨.slice none 0 0, w, g, by rw [hrun]; simp, hi, Ext.refl _ _ _, hs0⟩
    · rename_i hm
      split at h
      case isFalse => cases h
      case isTrue hcond =>
      cases h
      obtain ⟨newCap, k, c, hge, hrun, hcs, hcr⟩ := append_grow (ty := ty) (ocs := []) hi A hnew hx none 0 0 (by omega) (by rw [Nat.zero_add]; exact hcond.1) (fun k => ⟨[], by simp [Builtin.firstCells], by simp [repLA]⟩) (by simp)
      rw [Nat.zero_mul, Nat.zero_add, List.nil_append] at hcr
      rw [Nat.zero_add] at hge hrun
      have hle : ncs.length ≤ c.size := by rw [hncl, hcs]; exact Nat.mul_le_mul_right _ hge
      refine ⟨_, _, _, hrun, new_inv (drawn_inv hi k) c e (0, 0) (by intro j _; simp) 0 _ hle (by rw [hncl]; exact hcr) hcond.2, (drawn_ext g w H k).trans (new_ext (drawn_inv hi k) _ _), ?_⟩
      simp only [repA]
      refine ⟨_, _, rfl, hge, _, by simp; rfl, by simp, fun _ => ⟨.inr (by simp [gNew]), c, e, (0, 0), by simp [gNew, pushB_get], by omega⟩⟩
  case h_2 n xx cs =>
    simp only [repA, rep] at hs
    obtain ⟨B, cap, rfl, hc, hex, hA, hr⟩ := hs
    split at h
    · rename_i hm
      subst hm
      cases h
      obtain ⟨us, hur, hrun⟩ := append_room (ty := ty) hi A hnew hx B n cap (by omega)
      have hncs : ncs = [] := List.eq_nil_of_length_eq_zero (by simpa using hncl)
      subst hncs
      have hus : us = [] := List.eq_nil_of_length_eq_zero (repLA_length hur).symm
      subst hus
      refine ⟨.slice B n cap, w, g, ?_, hi, Ext.refl _ _ _, by simp only [repA, rep]; exact ⟨B, cap, rfl, hc, hex, hA, hr⟩⟩
      rw [hrun]
      cases B <;> simp [storeCells]
    · rename_i hm
      split at h
      case isFalse => cases h
      case isTrue hcond =>
      cases h
      have hcap : cap = n := hex hcond.1
      subst hcap
      have hsrc : srcCells H size cap (.p (.sl cap xx cs)) = some (cs.map .p) := by
        simp only [srcCells, hcond.2.1, Nat.le_refl, and_self, if_true]
        rw [← hcond.2.1, List.take_length]
      obtain ⟨newCap, k, c, hge, hrun, hcs, hcr⟩ := append_grow (ty := ty) (ocs := cs.map .p) hi A hnew hx B cap cap (by omega) hcond.2.2.1 (fun k => srcCells_run (drawn_inv hi k) hsrc (repA_mono (drawn_ext g w H k) (by simp only [repA, rep]; exact ⟨B, cap, rfl, hc, hex, hA, hr⟩)) (by intro h0; rw [h0] at hcond; simp at hcond; simpa using hcond.2.1)) (by simp [hcond.2.1])
      have hlen : (cs.map AV.p ++ ncs).length = cap * size + m * size := by simp [hcond.2.1, hncl]
      have hle : (cs.map AV.p ++ ncs).length ≤ c.size := by rw [hlen, hcs, ← Nat.add_mul]; exact Nat.mul_le_mul_right _ hge
      have hall := all_append hcond.2.2.2.2 hcond.2.2.2.1
      refine ⟨_, _, _, hrun, new_inv (drawn_inv hi k) c e (0, 0) (by intro j _; simp) 0 _ hle (by rw [hlen]; exact hcr) hall, (drawn_ext g w H k).trans (new_ext (drawn_inv hi k) _ _), ?_⟩
      simp only [repA]
      refine ⟨_, _, rfl, hge, _, by simp; rfl, by simp, fun _ => ⟨.inr (by simp [gNew]), c, e, (0, 0), by simp [gNew, pushB_get], by omega⟩⟩
  case h_3 id ver off n sz =>
    simp only [repA] at hs
    obtain ⟨A0, cap, rfl, hc, B, hB, hv, hA⟩ := hs
    rw [hB] at h
    simp only at h
    split at h
    case isFalse => cases h
    case isTrue hcond =>
    obtain ⟨c1, c2, c3, c4, c5, c6, c7⟩ := hcond
    cases h
    subst c4
    obtain ⟨hA1, c, e', fr, hcell, hcsz⟩ := hA c1
    obtain ⟨c0, e0, fr0, d1, d2, d3, d4, d5, d6⟩ := hi.blk id B hB
    rw [hcell] at d1; cases d1
    have hlen : (B.cells ++ ncs).length = n * sz + m * sz := by simp [c5, hncl]
    have hall := all_append d5 c7
    by_cases hroom : n + m ≤ cap
    · obtain ⟨us, hur, hrun⟩ := append_room (ty := ty) hi A hnew hx (some A0) n cap hroom
      have hul := repLA_length hur
      rcases hA1 with hc0 | rfl
      · have hm0 : m = 0 := by omega
        have hn0 : n = 0 := by omega
        subst hm0 hn0
        have hncs : ncs = [] := List.eq_nil_of_length_eq_zero (by simpa using hncl)
        subst hncs
        have hus : us = [] := List.eq_nil_of_length_eq_zero hul.symm
        subst hus
        have hpi := put_inv hi hB c2 hcell c rfl (ver + 1) (B.cells ++ []) (by omega) (by simpa using d3) (by simpa using d4) (by simpa using d5)
        have hpe := put_ext hi hB c2 hcell c rfl ⟨ver + 1, false, B.cells ++ []⟩ (by simp; omega)
        rw [putB_self hcell] at hpi hpe
        refine ⟨_, w, g, by rw [hrun]; simp [storeCells]; rfl, hpi, hpe, ?_⟩
        simp only [repA]
        exact ⟨A0, cap, rfl, hc, _, by rw [List.getElem?_set_self (lt_of_get hB)], by simp, fun _ => ⟨.inl hc0, c, e', fr, hcell, by subst c3; simpa using hcsz⟩⟩
      · subst c3
        have hsc := storeCells_run (P := C.P) (g.φ id) (n * sz) e' fr us 0 c w hcell d2 (by rw [← hul, hncl]; rw [Nat.add_zero, ← Nat.add_mul]; have := Nat.mul_le_mul_right sz hroom; omega) (all_one hur c7)
        have hsz : (setV c.toList (n * sz + 0) us).toArray.size = c.size := by simp [setV_length]
        have hfit : n * sz + us.length ≤ c.toList.length := by rw [← hul, hncl, ← Nat.add_mul, Array.length_toList]; have := Nat.mul_le_mul_right sz hroom; omega
        have hrr : repLA g w H (B.cells ++ ncs) ((setV c.toList (n * sz + 0) us).toArray.toList.take (B.cells ++ ncs).length) := by
          rw [hlen, ← hncl, hul]
          show repLA g w H _ ((setV c.toList (n * sz + 0) us).take _)
          rw [Nat.add_zero, setV_append us c.toList (n * sz) hfit]
          rw [c5] at d4
          exact repLA_append d4 hur
        refine ⟨_, _, g, by rw [hrun]; simp only [addr_add, Nat.zero_add]; rw [hsc]; rfl, put_inv hi hB c2 hcell _ hsz (ver + 1) (B.cells ++ ncs) (by omega) (by rw [hlen, hsz, ← hncl, hul, ← Array.length_toList]; exact hfit) hrr hall, put_ext hi hB c2 hcell _ hsz _ (by simp; omega), ?_⟩
        simp only [repA]
        refine ⟨_, cap, rfl, hroom, _, by rw [List.getElem?_set_self (lt_of_get hB)], by simp, fun _ => ⟨.inr rfl, _, e', fr, by rw [putB_get, if_pos rfl, if_pos (lt_of_aget hcell)], by rw [hsz]; exact hcsz⟩⟩
    · have hsrc : srcCells H sz n (.ms id ver off n sz) = some B.cells := by
        simp only [srcCells, Nat.le_refl, and_self, if_true, blkRead, hB]
        rw [if_pos ⟨c1, by omega⟩, c3, List.drop_zero, ← c5, List.take_length]
      obtain ⟨newCap, k, cc, hge, hrun, hcs, hcr⟩ := append_grow (ty := ty) (ocs := B.cells) hi A hnew hx (some A0) n cap (by omega) c6 (fun k => srcCells_run (drawn_inv hi k) hsrc (repA_mono (drawn_ext g w H k) (by simp only [repA]; exact ⟨A0, cap, rfl, hc, B, hB, hv, hA⟩)) (by intro h0; rw [h0] at c5; exact List.eq_nil_of_length_eq_zero (by simpa using c5))) c5
      have hle : (B.cells ++ ncs).length ≤ cc.size := by rw [hlen, hcs, ← Nat.add_mul]; exact Nat.mul_le_mul_right _ hge
      refine ⟨_, _, _, hrun, move_inv (drawn_inv hi k) hB cc e (0, 0) (by intro j _; simp) (ver + 1) _ (by omega) hle (by rw [hlen]; exact hcr) hall, (drawn_ext g w H k).trans (move_ext (drawn_inv hi k) hB _ _ (by simp; omega)), ?_⟩
      simp only [repA]
      refine ⟨_, _, rfl, hge, _, by rw [List.getElem?_set_self (lt_of_get hB)], by simp, fun _ => ⟨.inr (by simp [gMove]), cc, e, (0, 0), by simp [gMove, pushB_get], by omega⟩⟩
/-! ### Conversions -/
theorem bytesToString_run {us : List Value} {xs : List PV} {l : List Nat} {F : Nat → Prop} (hr : repL F w xs us) (hl : mapO toByte xs = some l) (A : Addr) (n : Nat) (cap : Nat) (hn : us.length = n) (hload : (loadCells A n).run P w = .ok us.toArray w) :
    ∃ s : ByteArray, (Conv.bytesToString (.slice (some A) n cap)).run P w = .ok (.string s) w ∧ s.data.toList.map UInt8.toNat = l := by
  have key : ∀ (xs : List PV) (us : List Value) (l : List Nat), repL F w xs us → mapO toByte xs = some l → ∃ ns : List Int, us = ns.map (Value.int .u8) ∧ l = ns.map (fun n => n.toNat % 256) := by
    intro xs
    induction xs with
    | nil => intro us l h1 h2; cases us with
      | nil => simp [mapO] at h2; subst h2; exact ⟨[], rfl, rfl⟩
      | cons => simp [repL] at h1
    | cons x xs ih => intro us l h1 h2; cases us with
      | nil => simp [repL] at h1
      | cons u us =>
        simp only [repL] at h1
        simp only [mapO] at h2
        cases hx : toByte x with
        | none => rw [hx] at h2; cases h2
        | some y =>
          rw [hx] at h2
          simp only at h2
          split at h2
          · cases h2
          · rename_i ys hys
            cases h2
            obtain ⟨ns, rfl, rfl⟩ := ih us ys h1.2 hys
            unfold toByte at hx
            split at hx
            · rename_i k; cases hx
              have := h1.1
              simp only [rep] at this; subst this
              exact ⟨k :: ns, rfl, rfl⟩
            · cases hx
  obtain ⟨ns, rfl, rfl⟩ := key xs us l hr hl
  refine ⟨ns.foldl (fun r n => r.push (UInt8.ofNat n.toNat)) ByteArray.empty, ?_, ?_⟩
  · simp only [Conv.bytesToString, Sem.run_bind, hload, Result.andThen, List.forIn_toArray]
    rw [run_forIn_bytes _ (by intro n r; simp [Sem.run_pure])]
    rfl
  · have : ∀ (ns : List Int) (r : ByteArray), (ns.foldl (fun r n => r.push (UInt8.ofNat n.toNat)) r).data.toList.map UInt8.toNat = r.data.toList.map UInt8.toNat ++ ns.map (fun n => n.toNat % 256) := by
      intro ns
      induction ns with
      | nil => intro r; simp
      | cons n ns ih => intro r; rw [List.foldl_cons, ih]; simp [ByteArray.data_push]
    rw [this]; simp
theorem str_block (w : World) (e : TypeId) (s : ByteArray) :
    ∃ (cap : Nat) (c : Array Value), s.size ≤ cap ∧ c.size = cap ∧ (Conv.stringToBytes e s).run P w = .ok (.slice (some ⟨w.heap.size, 0, none⟩) s.size cap) (pushB { w with drawn := w.drawn + 1 } (.cells c e (cap, cap + 1))) ∧
      ∀ (g : G) (w : World) (H : List ABlk), repLA g w H ((s.data.toList.map UInt8.toNat).map fun b => .p (u8 b)) (c.toList.take s.size) := by
  have hforce : (Question.appendCap s.size 0 e).forced = false := rfl
  obtain ⟨cap, hcap, hge⟩ : ∃ q, (Question.appendCap s.size 0 e).cut (w.tape w.drawn (.appendCap s.size 0 e)) = q ∧ s.size ≤ q := ⟨_, rfl, by simp only [Question.cut]; omega⟩
  have hsz : (s.data.map fun b => Value.int .u8 b.toNat).size = s.size := by rw [Array.size_map]; rfl
  refine ⟨cap, (s.data.map fun b => Value.int .u8 b.toNat) ++ Array.replicate (cap - s.size) (.int .u8 0), hge, by rw [Array.size_append, hsz, Array.size_replicate]; omega, ?_, fun g w H => ?_⟩
  · simp only [Conv.stringToBytes, Sem.run_bind, run_choose, hforce, Bool.false_eq_true, if_false, Result.andThen_ok, hcap, newRow, run_newObj, Sem.run_pure, markStringish, run_shape]
    have hsh : World.shape? { w with drawn := w.drawn + 1, heap := w.heap.push (.cells ((s.data.map fun b => Value.int .u8 b.toNat) ++ Array.replicate (cap - s.size) (.int .u8 0)) e) } w.heap.size = some (e, cap) := by
      simp only [World.shape?, Array.getElem?_push_size, Array.size_append, hsz, Array.size_replicate]
      congr 2; omega
    simp only [hsh, Sem.run_bind, run_freeze, Result.andThen_ok, Sem.run_pure]
    congr 1
    simp only [World.freeze, pushB]
    rw [if_neg (by omega)]
    congr 1
    apply Array.ext_getElem?
    intro i
    rw [Array.getElem?_modify]
    simp only [Array.getElem?_push]
    by_cases hi : w.heap.size = i
    · subst hi; simp
    · rw [if_neg hi, if_neg (by omega), if_neg (by omega)]
  · rw [Array.toList_append, List.take_left' (by rw [Array.length_toList, hsz])]
    rw [repLA_iff]
    refine ⟨by simp, fun i x hx => ?_⟩
    simp only [List.getElem?_map, Option.map_map, Option.map_eq_some_iff] at hx
    obtain ⟨c, hc, rfl⟩ := hx
    exact ⟨_, by simp only [Array.toList_map, List.getElem?_map, hc]; rfl, by simp [repA, u8, rep]⟩
theorem evBytes_run {src dst e : TypeId} {arg z : AV} {a : Value} {H' : List ABlk} (hi : Inv g w H) (hu1 : P.underlying src = some (.slice e)) (hu2 : P.underlying dst = some .string) (h : evBytes P e arg H = some (z, H')) (hx : repA g w H arg a) :
    ∃ u, (convert src dst a).run P w = .ok u w ∧ repA g w H z u ∧ H' = H := by
    unfold evBytes at h
    split at h
    case h_2 => cases h
    case h_1 hu3 =>
    split at h
    · cases h
    rename_i n hn
    have body : ∀ (cs : List AV) (xs : List PV) (l : List Nat), srcCells H 1 n arg = some cs → mapO AV.pure? cs = some xs → mapO toByte xs = some l → (∃ A cap, a = .slice A n cap ∧ (A = none → n = 0)) →
        ∃ u, (convert src dst a).run P w = .ok u w ∧ rep g.F w (.str l) u := by
      intro cs xs l h1 h2 h3 h4
      obtain ⟨A, cap, rfl, hA0⟩ := h4
      have hlen := srcCells_length h1
      obtain ⟨us, hus, hur⟩ := srcCells_run (P := P) hi h1 hx (by intro h0; rw [h0] at hlen; exact List.eq_nil_of_length_eq_zero (by simpa using hlen))
      rw [mapO_pure h2] at hur hlen
      have hur' := repLA_map.1 hur
      have hul := repL_length hur'
      simp at hlen
      cases A with
      | none =>
        have : xs = [] := List.eq_nil_of_length_eq_zero (by rw [hlen, hA0 rfl])
        subst this
        simp [mapO] at h3; subst h3
        refine ⟨.string .empty, ?_, by simp only [rep]; exact ⟨_, rfl, rfl⟩⟩
        simp only [convert, Sem.run_bind, run_underlying hu1, run_underlying hu2, run_underlying hu3, Result.andThen_ok]
        rfl
      | some A =>
        simp only [Builtin.firstCells, Nat.mul_one] at hus
        obtain ⟨s, hs1, hs2⟩ := bytesToString_run hur' h3 A n cap (by omega) hus
        refine ⟨.string s, ?_, by simp only [rep]; exact ⟨s, rfl, hs2⟩⟩
        simp only [convert, Sem.run_bind, run_underlying hu1, run_underlying hu2, run_underlying hu3, Result.andThen_ok]
        exact hs1
    have shape : (∀ l, arg ≠ .p (.str l)) → ∃ A cap, a = .slice A n cap ∧ (A = none → n = 0) := by
      intro hns
      unfold lenOf at hn
      split at hn
      · cases hn; simp only [repA, rep] at hx; obtain ⟨A, cap, rfl, h1, _, h3, _⟩ := hx; exact ⟨A, cap, rfl, fun h => by have := h3 h; omega⟩
      · cases hn; simp only [repA, rep] at hx; obtain ⟨A, cap, rfl, _⟩ := hx; exact ⟨A, cap, rfl, fun _ => rfl⟩
      · exact absurd rfl (hns _)
      · cases hn; simp only [repA] at hx; obtain ⟨A, cap, rfl, _⟩ := hx; exact ⟨some A, cap, rfl, by simp⟩
      · cases hn
    split at h
    · cases h
    · rename_i hns
      split at h
      · cases h
      rename_i cs hcs
      split at h
      · cases h
      rename_i xs hxs
      split at h
      · cases h
      rename_i l hl
      cases h
      obtain ⟨u, hu, hr⟩ := body cs xs l hcs hxs hl (shape hns)
      exact ⟨u, hu, by simp only [repA]; exact hr, rfl⟩
theorem evConv_run {st : Bool} {src dst : TypeId} {arg z : AV} {a : Value} {H' : List ABlk} (hi : Inv g w H) (h : evConv P st src dst arg H = some (z, H')) (hx : repA g w H arg a) :
    ∃ u w' g', (convert src dst a).run P w = .ok u w' ∧ Inv g' w' H' ∧ Ext g w H g' w' H' ∧ repA g' w' H' z u := by
  unfold evConv at h
  split at h
  case h_1 k0 k k1 n hu1 hu2 =>
    cases h
    simp only [repA, rep] at hx; subst hx
    refine ⟨.int k (k.wrap n), w, g, ?_, hi, Ext.refl _ _ _, by simp only [repA, rep]⟩
    simp only [convert, Sem.run_bind, run_underlying hu1, run_underlying hu2, Result.andThen_ok]
    rfl
  case h_2 l hu1 hu2 =>
    cases h
    have hx' := hx
    simp only [repA, rep] at hx'
    obtain ⟨s, rfl, rfl⟩ := hx'
    refine ⟨_, w, g, ?_, hi, Ext.refl _ _ _, hx⟩
    simp only [convert, Sem.run_bind, run_underlying hu1, run_underlying hu2, Result.andThen_ok]
    rfl
  case h_3 e l hu1 hu2 =>
    simp only [repA, rep] at hx
    obtain ⟨s, rfl, rfl⟩ := hx
    have hl : (s.data.toList.map UInt8.toNat).length = s.size := by rw [List.length_map, Array.length_toList]; rfl
    split at h
    case h_2 => cases h
    case h_1 hu3 =>
    obtain ⟨cap, c, hge, hcs, hrun, hr⟩ := str_block (P := P) w e s
    have hrun' : (convert src dst (.string s)).run P w = .ok (.slice (some ⟨w.heap.size, 0, none⟩) s.size cap) (pushB { w with drawn := w.drawn + 1 } (.cells c e (cap, cap + 1))) := by
      rw [← hrun]
      simp only [convert, Sem.run_bind, run_underlying hu1, run_underlying hu2, run_underlying hu3, Result.andThen_ok]
    split at h
    · cases h
      obtain ⟨g', i1, i2, i3, i4⟩ := newFrozen (e := e) (c := c) (fr := (cap, cap + 1)) (xs := (s.data.toList.map UInt8.toNat).map u8) (drawn_inv hi (w.drawn + 1)) (by rw [List.length_map, hl, hcs]; exact hge) (by rw [List.length_map, hl, List.map_map]; exact hr _ _ _)
      refine ⟨_, _, g', hrun', i1, (drawn_ext g w H (w.drawn + 1)).trans i2, ?_⟩
      simp only [repA, rep]
      exact ⟨_, _, by rw [hl], by rw [hl]; exact hge, by simp, by simp, .inr ⟨_, _, rfl, i3, i4⟩⟩
    · cases h
      have hcl : ((s.data.toList.map UInt8.toNat).map fun b => AV.p (u8 b)).length = s.size := by rw [List.length_map, hl]
      refine ⟨_, _, _, hrun', new_inv (drawn_inv hi (w.drawn + 1)) c e (cap, cap + 1) (by intro j hj; simp only; omega) 0 _ (by rw [hcl, hcs]; exact hge) (by rw [hcl]; exact hr _ _ _) (by rw [List.all_eq_true]; intro x hx; rw [List.mem_map] at hx; obtain ⟨b, _, rfl⟩ := hx; rfl), (drawn_ext g w H (w.drawn + 1)).trans (new_ext (drawn_inv hi (w.drawn + 1)) _ _), ?_⟩
      simp only [repA]
      refine ⟨_, _, by rw [hl], by rw [hl]; exact hge, _, by simp; rfl, by simp, fun _ => ⟨.inr (by simp [gNew]), c, e, (cap, cap + 1), by simp [gNew, pushB_get], by rw [hcs]; omega⟩⟩
  case h_4 e hu1 hu2 =>
    obtain ⟨u, h1, h2, rfl⟩ := evBytes_run hi hu1 hu2 h hx
    exact ⟨u, w, g, h1, hi, Ext.refl _ _ _, h2⟩
  case h_5 => cases h
end Go.Ev
