/- The evaluator is sound: operations. No condition. -/
import Derived.Test.YtfhhgndppfpngaaRsa01
import Derived.Lib.MakeNoZero
set_option linter.unusedSimpArgs false
set_option linter.unusedVariables false
set_option linter.unusedVariables false
set_option linter.unusedSimpArgs false
namespace Go.Ev
open Go.RowKit
variable {P : Program} {g : G} {w : World} {H : List ABlk}

theorem evFieldAddr_run {s : TypeId} {x z : AV} {a : Value} {i : Nat} (h : evFieldAddr P s x i = some z) (hx : repA g w H x a) : ∃ v, (Instr.fieldAt s a i).run P w = .ok v w ∧ repA g w H z v := by
  unfold evFieldAddr at h
  split at h
  case h_2 => cases h
  case h_1 fs hu =>
  split at h
  · cases h
  rename_i f hf
  split at h
  · cases h
  rename_i n hn
  split at h
  · cases h
  rename_i hn0
  split at h
  · simp only [repA] at hx ⊢
    obtain ⟨A, rfl, B, hB, hv, hA⟩ := hx
    cases h
    refine ⟨.pointer (some (A.add f.offset)), ?_, ⟨_, rfl, B, hB, hv, fun he => by rw [hA he, addr_add]⟩⟩
    simp [Instr.fieldAt, run_underlying hu, hf, Instr.sureAddr, fieldPlace, sizeT_run hn, hn0]
  · simp only [repA] at hx
    obtain ⟨b, off, rfl, hb, hr⟩ := hx
    cases h
    refine ⟨.pointer (some ⟨b, off + f.offset, none⟩), ?_, by simp only [repA]; exact ⟨b, _, rfl, hb, repF_drop _ hr⟩⟩
    simp [Instr.fieldAt, run_underlying hu, hf, Instr.sureAddr, fieldPlace, sizeT_run hn, hn0, addr_add]
  · cases h
theorem evField_run {s : TypeId} {x z : AV} {a : Value} {i : Nat} (h : evField P s x i = some z) (hx : repA g w H x a) : ∃ v, (Instr.field s a i).run P w = .ok v w ∧ repA g w H z v := by
  unfold evField at h
  split at h
  case h_2 => cases h
  case h_1 fs hu =>
  split at h
  · cases h
  rename_i f hf
  split at h
  · cases h
  rename_i cs hcs
  obtain ⟨vs, rfl, hr⟩ := aggCells_rep hx hcs
  obtain ⟨v, hv, hz⟩ := part_run h hr
  exact ⟨v, by simp [Instr.field, run_underlying hu, hf, asAgg, hv], hz⟩
theorem evIndexAddr_run {t : TypeId} {x y z : AV} {a b : Value} (h : evIndexAddr P t x y = some z) (hx : repA g w H x a) (hy : repA g w H y b) : ∃ v, (Instr.indexAt t a b).run P w = .ok v w ∧ repA g w H z v := by
  unfold evIndexAddr at h
  split at h
  case h_1 e n xx cs k i hu =>
    simp only [repA, rep] at hx hy; subst hy
    obtain ⟨A, cap, rfl, hc, _, _, hr⟩ := hx
    split at h
    case h_2 => cases h
    case h_1 size hs =>
    split at h
    case isFalse => cases h
    case isTrue hi =>
    cases h
    rcases hr with rfl | ⟨bk, off, rfl, hb, hr⟩
    · simp at hi
    · refine ⟨.pointer (some ⟨bk, off + i.toNat * size, none⟩), ?_, by simp only [repA]; exact ⟨bk, _, rfl, hb, repF_drop _ hr⟩⟩
      simp only [Instr.indexAt, asIntOf, Sem.run_bind, Sem.run_pure, Result.andThen_ok, run_underlying hu, sizeT_run hs]
      rw [if_pos ⟨hi.1, hi.2.1⟩]
      simp [sizeT_run hs, addr_add]
  case h_2 e id ver off n sz k i hu =>
    simp only [repA, rep] at hx hy; subst hy
    obtain ⟨A, cap, rfl, hc, B, hB, hv, hA⟩ := hx
    split at h
    case h_2 => cases h
    case h_1 size hs =>
    split at h
    case isFalse => cases h
    case isTrue hi =>
    cases h
    refine ⟨.pointer (some (A.add (i.toNat * size))), ?_, ?_⟩
    · simp only [Instr.indexAt, asIntOf, Sem.run_bind, Sem.run_pure, Result.andThen_ok, run_underlying hu, sizeT_run hs]
      rw [if_pos ⟨hi.1, hi.2.1⟩]
      simp [sizeT_run hs]
    · simp only [repA]
      refine ⟨_, rfl, B, hB, hv, fun he => ?_⟩
      rcases (hA he).1 with h0 | h0
      · omega
      · rw [h0, addr_add]
  case h_3 n e id ver off k i hu =>
    simp only [repA, rep] at hx hy; subst hy
    obtain ⟨A, rfl, B, hB, hv, hA⟩ := hx
    split at h
    case h_2 => cases h
    case h_1 size hs =>
    split at h
    case isFalse => cases h
    case isTrue hi =>
    cases h
    refine ⟨.pointer (some (A.add (i.toNat * size))), ?_, by simp only [repA]; exact ⟨_, rfl, B, hB, hv, fun he => by rw [hA he, addr_add]⟩⟩
    simp only [Instr.indexAt, Instr.sureAddr, asIntOf, Sem.run_bind, Sem.run_pure, Result.andThen_ok, run_underlying hu, sizeT_run hs]
    rw [if_pos ⟨hi.1, hi.2⟩]
    simp [sizeT_run hs]
  case h_4 n e cs k i hu =>
    simp only [repA, rep] at hx hy; subst hy
    obtain ⟨bk, off, rfl, hb, hr⟩ := hx
    split at h
    case h_2 => cases h
    case h_1 size hs =>
    split at h
    case isFalse => cases h
    case isTrue hi =>
    cases h
    refine ⟨.pointer (some ⟨bk, off + i.toNat * size, none⟩), ?_, by simp only [repA]; exact ⟨bk, _, rfl, hb, repF_drop _ hr⟩⟩
    simp only [Instr.indexAt, Instr.sureAddr, asIntOf, Sem.run_bind, Sem.run_pure, Result.andThen_ok, run_underlying hu, sizeT_run hs]
    rw [if_pos ⟨hi.1, hi.2⟩]
    simp [sizeT_run hs, addr_add]
  case h_5 => cases h
theorem evIndex_run {t : TypeId} {x y z : AV} {a b : Value} (h : evIndex P t x y = some z) (hx : repA g w H x a) (hy : repA g w H y b) : ∃ v, (Instr.index t a b).run P w = .ok v w ∧ repA g w H z v := by
  unfold evIndex at h
  split at h
  case h_1 n e k i hu =>
    simp only [repA, rep] at hy; subst hy
    split at h
    case h_2 => cases h
    case h_1 size cs hs hcs =>
    split at h
    case isFalse => cases h
    case isTrue hi =>
    obtain ⟨vs, rfl, hr⟩ := aggCells_rep hx hcs
    obtain ⟨v, hv, hz⟩ := part_run h hr
    refine ⟨v, ?_, hz⟩
    simp only [Instr.index, asIntOf, Sem.run_bind, Sem.run_pure, Result.andThen_ok, run_underlying hu]
    rw [if_pos hi]
    simp [sizeT_run hs, hv]
  case h_2 k i hu =>
    simp only [repA, rep] at hy; subst hy
    split at h
    case h_2 => cases h
    case h_1 l =>
    simp only [repA, rep] at hx
    obtain ⟨s, rfl, rfl⟩ := hx
    split at h
    case isFalse => cases h
    case isTrue hi =>
    split at h
    case h_2 => cases h
    case h_1 c hc =>
    cases h
    rw [List.getElem?_map] at hc
    simp only [Option.map_eq_some_iff] at hc
    obtain ⟨c0, hc0, rfl⟩ := hc
    have hg : s[i.toNat]? = some c0 := by
      rw [Array.getElem?_toList] at hc0
      exact hc0
    refine ⟨.int .u8 c0.toNat, ?_, by simp only [repA, u8, rep]⟩
    simp [Instr.index, asIntOf, run_underlying hu, hi, hg]
  case h_3 => cases h
theorem evExtract_run {x z : AV} {a : Value} {i : Nat} (h : evExtract x i = some z) (hx : repA g w H x a) : ∃ v, (Instr.extract a i).run P w = .ok v w ∧ repA g w H z v := by
  unfold evExtract at h
  split at h
  · simp only [repA, rep] at hx
    obtain ⟨vs, rfl, hr⟩ := hx
    split at h
    · rename_i c hc
      cases h
      obtain ⟨v, hv, hz⟩ := (repL_iff.1 hr).2 _ _ hc
      rw [Array.getElem?_toList] at hv
      exact ⟨v, by simp [Instr.extract, hv], by simp only [repA]; exact hz⟩
    · cases h
  · simp only [repA] at hx
    obtain ⟨vs, rfl, hr⟩ := hx
    obtain ⟨v, hv, hz⟩ := (repLA_iff.1 hr).2 _ _ h
    rw [Array.getElem?_toList] at hv
    exact ⟨v, by simp [Instr.extract, hv], hz⟩
  · cases h
theorem mkFn_rep {f : Fn} {xs ys : List AV} {as bs : Array Value} (h1 : repLA g w H xs as.toList) (h2 : repLA g w H ys bs.toList) : repA g w H (mkFn f xs ys) (.func f as bs) := by
  unfold mkFn
  split
  · rename_i us vs hu hv
    rw [mapO_pure hu] at h1
    rw [mapO_pure hv] at h2
    simp only [repA, rep]
    exact ⟨as, bs, rfl, repLA_map.1 h1, repLA_map.1 h2⟩
  · simp only [repA]; exact ⟨as, bs, rfl, h1, h2⟩
theorem evLen_run {C : Cfg} {ats : Array TypeId} {ty : TypeId} {x : AV} {z : PV} {v : Value} (h : evLen C ats x = some z) (hx : repA g w H x v) : ∃ u, (Builtin.len_ ats ty #[v]).run C.P w = .ok u w ∧ rep g.F w z u := by
  unfold evLen at h
  split at h
  · cases h
  rename_i t ht
  split at h
  · rename_i hu
    split at h
    · cases h
      simp only [repA, rep] at hx
      obtain ⟨s, rfl, rfl⟩ := hx
      refine ⟨.int .i64 s.size, by simp [Builtin.len_, ht, run_underlying hu, goInt], ?_⟩
      simp only [rep]
      congr 2
      rw [List.length_map, Array.length_toList]; rfl
    · cases h
  · rename_i e hu
    split at h
    · cases h
      simp only [repA, rep] at hx
      obtain ⟨A, cap, rfl, _⟩ := hx
      exact ⟨_, by simp [Builtin.len_, ht, run_underlying hu, goInt]; rfl, by simp only [rep]⟩
    · cases h
      simp only [repA, rep] at hx
      obtain ⟨A, cap, rfl, _⟩ := hx
      exact ⟨.int .i64 0, by simp [Builtin.len_, ht, run_underlying hu, goInt], by simp only [rep]⟩
    · cases h
      simp only [repA] at hx
      obtain ⟨A, cap, rfl, _⟩ := hx
      exact ⟨_, by simp [Builtin.len_, ht, run_underlying hu, goInt]; rfl, by simp only [rep]⟩
    · cases h
  · rename_i n e hu
    cases h
    exact ⟨.int .i64 n, by simp [Builtin.len_, ht, run_underlying hu, goInt], by simp only [rep]⟩
  · rename_i a hu
    split at h
    · rename_i n e hu2
      cases h
      exact ⟨.int .i64 n, by simp [Builtin.len_, ht, run_underlying hu, run_underlying hu2, goInt], by simp only [rep]⟩
    · cases h
  · cases h
theorem max2_run {x y z : AV} {a b : Value} {ats : Array TypeId} {ty : TypeId} (h : max2 x y = some z) (hx : repA g w H x a) (hy : repA g w H y b) : ∃ u, (Builtin.max_ ats ty #[a, b]).run P w = .ok u w ∧ repA g w H z u := by
  unfold max2 at h
  split at h
  · simp only [repA, rep] at hx hy; subst hx hy; cases h
    exact ⟨_, by simp [Builtin.max_, Builtin.max2]; rfl, by simp only [repA, rep]⟩
  · cases h
theorem min2_run {x y z : AV} {a b : Value} {ats : Array TypeId} {ty : TypeId} (h : min2 x y = some z) (hx : repA g w H x a) (hy : repA g w H y b) : ∃ u, (Builtin.min_ ats ty #[a, b]).run P w = .ok u w ∧ repA g w H z u := by
  unfold min2 at h
  split at h
  · simp only [repA, rep] at hx hy; subst hx hy; cases h
    exact ⟨_, by simp [Builtin.min_, Builtin.min2]; rfl, by simp only [repA, rep]⟩
  · cases h
/-- The cells of a source. -/
theorem srcCells_run {size n : Nat} {x : AV} {v : Value} {cs : List AV} (hi : Inv g w H) (h : srcCells H size n x = some cs) (hx : repA g w H x v) (hn : n = 0 → cs = [] := by intros; simp_all) :
    ∃ us : List Value, (Builtin.firstCells size n v).run P w = .ok us.toArray w ∧ repLA g w H cs us := by
  unfold srcCells at h
  split at h
  case h_1 bb =>
    split at h
    case isFalse => cases h
    case isTrue hcond =>
    cases h; subst hcond
    simp only [repA, rep] at hx
    obtain ⟨A, cap, rfl, hA, _⟩ := hx
    refine ⟨[], ?_, by simp [repLA]⟩
    cases A with
    | none => simp [Builtin.firstCells]
    | some A => simp only [Builtin.firstCells, Nat.zero_mul, loadCells, loadCellsFrom]; rfl
  case h_2 m xx xs =>
    simp only [repA, rep] at hx
    obtain ⟨A, cap, rfl, hc, _, hA, hr⟩ := hx
    split at h
    case isFalse => cases h
    case isTrue hcond =>
    cases h
    rcases hr with rfl | ⟨b, off, rfl, hb, hr⟩
    · have hz : n * size = 0 := Nat.le_zero.1 hcond.2
      cases A with
      | none => exact ⟨[], by simp [Builtin.firstCells], by simp [repLA]⟩
      | some A =>
        refine ⟨[], ?_, by simp [repLA]⟩
        simp only [Builtin.firstCells, hz, loadCells, loadCellsFrom]; rfl
    · obtain ⟨us, h1, h2⟩ := repF_vals (repF_take (n * size) hr)
      have hl := repL_length h1
      rw [List.length_take] at hl
      have := load_list (P := P) b off us h2
      rw [show us.length = n * size by omega] at this
      exact ⟨us, by simp only [Builtin.firstCells]; exact this, repLA_map.2 h1⟩
  case h_3 l =>
    simp only [repA, rep] at hx
    obtain ⟨s, rfl, rfl⟩ := hx
    split at h
    case isFalse => cases h
    case isTrue hcond =>
    cases h
    refine ⟨((s.data.toList.take n).map fun b => Value.int .u8 b.toNat), ?_, ?_⟩
    · simp only [Builtin.firstCells, Sem.run_pure]
      congr 1
      apply Array.ext'
      simp [ByteArray.data_extract, List.extract_eq_take_drop]
    · rw [repLA_iff]
      refine ⟨by simp, fun i x hx => ?_⟩
      simp only [List.getElem?_map, List.getElem?_take] at hx ⊢
      split at hx
      · rename_i hlt
        rw [if_pos hlt]
        simp only [List.getElem?_map, Option.map_map, Option.map_eq_some_iff] at hx ⊢
        obtain ⟨c, hc, rfl⟩ := hx
        exact ⟨_, ⟨c, hc, rfl⟩, by simp [repA, u8, rep]⟩
      · simp at hx
  case h_4 id ver off m sz =>
    simp only [repA] at hx
    obtain ⟨A, cap, rfl, hc, B, hB, hv, hA⟩ := hx
    split at h
    case isFalse => cases h
    case isTrue hcond =>
    obtain ⟨B', hB', hver, hl, vs, hvl, hrep, _, hcell⟩ := blkRead_run hi h
    rw [hB] at hB'; cases hB'
    refine ⟨vs, ?_, hrep⟩
    rcases (hA hver).1 with h0 | h0
    · have : n = 0 := by omega
      subst this
      have : vs = [] := List.eq_nil_of_length_eq_zero (by simpa using hvl)
      subst this
      simp [Builtin.firstCells, loadCells, loadCellsFrom]
    · subst h0
      have := load_list (P := P) (g.φ id) off vs hcell
      rw [hvl] at this
      simp only [Builtin.firstCells]; exact this
  case h_5 => cases h
theorem lenOf_run {x : AV} {v : Value} {n : Nat} (h : lenOf x = some n) (hx : repA g w H x v) : (Builtin.lenOf v).run P w = .ok n w := by
  unfold lenOf at h
  split at h
  · cases h; simp only [repA, rep] at hx; obtain ⟨A, cap, rfl, _⟩ := hx; rfl
  · cases h; simp only [repA, rep] at hx; obtain ⟨A, cap, rfl, _⟩ := hx; rfl
  · cases h; simp only [repA, rep] at hx; obtain ⟨s, rfl, rfl⟩ := hx
    simp only [Builtin.lenOf, Sem.run_pure]
    congr 1
    rw [List.length_map, Array.length_toList]; rfl
  · cases h; simp only [repA] at hx; obtain ⟨A, cap, rfl, _⟩ := hx; rfl
  · cases h
end Go.Ev
set_option linter.unusedVariables false
set_option linter.unusedSimpArgs false
namespace Go.Ev
open Go.RowKit
variable {P : Program} {g : G} {w : World} {H : List ABlk}

theorem srcCells_length {size n : Nat} {x : AV} {cs : List AV} (h : srcCells H size n x = some cs) : cs.length = n * size := by
  unfold srcCells at h
  split at h
  · split at h
    · rename_i hc; cases h; subst hc; simp
    · cases h
  · split at h
    · rename_i hc; cases h; rw [List.length_map, List.length_take]; omega
    · cases h
  · split at h
    · rename_i hc; cases h; rw [List.length_map, List.length_take, hc.2]; omega
    · cases h
  · split at h
    · unfold blkRead at h
      split at h
      · cases h
      · split at h
        · cases h; rw [List.length_take, List.length_drop]; omega
        · cases h
    · cases h
  · cases h
theorem set_same {id : Nat} {B : ABlk} (h : H[id]? = some B) : H.set id B = H := by
  apply List.ext_getElem?
  intro i
  by_cases hi : id = i
  · subst hi; rw [List.getElem?_set_self (lt_of_get h), h]
  · rw [List.getElem?_set_ne hi]
theorem evCopy_run {C : Cfg} {ats : Array TypeId} {ty : TypeId} {d x z : AV} {a b : Value} {H' : List ABlk} (hi : Inv g w H) (h : evCopy C ats d x H = some (z, H')) (hd : repA g w H d a) (hx : repA g w H x b) :
    ∃ u w', (Builtin.copy_ ats ty #[a, b]).run C.P w = .ok u w' ∧ Inv g w' H' ∧ Ext g w H g w' H' ∧ repA g w' H' z u := by
  unfold evCopy at h
  split at h
  case h_2 => cases h
  case h_1 dT hdT =>
  split at h
  · cases h
  rename_i e he
  split at h
  case h_2 => cases h
  case h_1 size dn xn h1 h2 h3 =>
  simp only at h
  split at h
  · cases h
  rename_i cs hcs
  have hlen := srcCells_length hcs
  obtain ⟨us, hus, husr⟩ := srcCells_run (P := C.P) hi hcs hx (by intro h0; rw [h0] at hlen; exact List.eq_nil_of_length_eq_zero (by simpa using hlen))
  have hlx := lenOf_run (P := C.P) h3 hx
  split at h
  case h_1 id ver off dn' sz =>
    simp only [lenOf, Option.some.injEq] at h2; subst h2
    simp only [repA] at hd
    obtain ⟨A, cap, rfl, hc, B, hB, hv, hA⟩ := hd
    rw [hB] at h
    simp only at h
    split at h
    case isFalse => cases h
    case isTrue hcond =>
    cases h
    obtain ⟨w', hw, hinv, hext⟩ := write_run (P := C.P) hi hB hcond.2.1 husr hcond.2.2.2.2.2 (by rw [hlen]; exact hcond.2.2.2.2.1)
    rcases (hA hcond.1).1 with h0 | h0
    · have hn0 : Nat.min xn dn' = 0 := by have : dn' = 0 := by omega
                                          rw [this]; exact Nat.min_zero _
      rw [hn0] at hlen hus ⊢
      have hcs0 : cs = [] := List.eq_nil_of_length_eq_zero (by simpa using hlen)
      subst hcs0
      have hus0 : us = [] := List.eq_nil_of_length_eq_zero (repLA_length husr).symm
      subst hus0
      simp only [setAt]
      rw [show ({ B with cells := B.cells } : ABlk) = B from rfl, set_same hB]
      refine ⟨goInt 0, w, ?_, hi, Ext.refl _ _ _, by simp [repA, rep, goInt]⟩
      simp only [Builtin.copy_, hdT, Sem.run_bind, elemT_run he, Result.andThen_ok, hlx, hn0, sizeT_run h1, hus]
      simp [storeCells, hdT, hlx, elemT_run he, hn0, hus, sizeT_run h1]
    · subst h0
      refine ⟨goInt (Nat.min xn dn'), w', ?_, hinv, hext, by simp [repA, rep, goInt]⟩
      simp [Builtin.copy_, hdT, elemT_run he, hlx, sizeT_run h1, hus, hw]
  case h_2 n xx xs =>
    simp only [lenOf, Option.some.injEq] at h2; subst h2
    simp only [repA, rep] at hd
    obtain ⟨A, cap, rfl, hc, _⟩ := hd
    split at h
    case isFalse => cases h
    case isTrue hn0 =>
    cases h
    rw [hn0] at hlen hus
    have hcs0 : cs = [] := List.eq_nil_of_length_eq_zero (by simpa using hlen)
    subst hcs0
    have hus0 : us = [] := List.eq_nil_of_length_eq_zero (repLA_length husr).symm
    subst hus0
    refine ⟨goInt 0, w, ?_, hi, Ext.refl _ _ _, by simp [repA, rep, goInt]⟩
    cases A <;> simp [storeCells, Builtin.copy_, hdT, hlx, elemT_run he, hn0, hus, sizeT_run h1]
  case h_3 => cases h
theorem nsc_le {need cap : Nat} (h : cap < need) : Builtin.nextslicecap need cap ≤ 2 * need := by
  unfold Builtin.nextslicecap
  split
  · omega
  · split
    · omega
    · rename_i h1 h2
      have key : ∀ r c, c ≤ 2 * need → (c < need → c ≤ need) → Builtin.growBy need r c ≤ 2 * need := by
        intro r
        induction r with
        | zero => intro c hc _; exact hc
        | succ r ih =>
          intro c hc _
          simp only [Builtin.growBy]
          split
          · exact hc
          · exact ih _ (by omega) (by omega)
      exact key 4 cap (by omega) (by omega)
theorem evNew_run {C : Cfg} {xT e : TypeId} {size bytes m : Nat} {z ncs : List AV} {x : AV} {v : Value} (hi : Inv g w H) (h : evNew C xT size bytes z x H = some (m, ncs)) (hx : repA g w H x v)
    (hs : sizeT C.P e = some size) (hb : bytesT C.P e = some bytes) (hz : zeroT C.P e = some z) (hzl : z.length = size) (hs0 : size ≠ 0) (hb0 : bytes ≠ 0) :
    ∃ b d, C.P.underlying xT = some d ∧ isIntT C.P xT = some b ∧ ncs.length = m * size ∧ (b = true → ∃ l : Int, v = .int .i64 l ∧ 0 ≤ l ∧ l * bytes ≤ 140737488355328 ∧ m = l.toNat ∧ ∃ zv, (zeroValue e).run C.P w = .ok zv w ∧ repLA g w H ncs (Builtin.zeroCells zv.cells m).toList) ∧
      (b = false → (Builtin.lenOf v).run C.P w = .ok m w ∧ ∃ us : List Value, (Builtin.firstCells size m v).run C.P w = .ok us.toArray w ∧ repLA g w H ncs us) := by
  unfold evNew at h
  split at h
  · cases h
  · rename_i hT
    have hd : ∃ d, C.P.underlying xT = some d := by
      unfold isIntT at hT; split at hT <;> simp_all
    obtain ⟨d, hd⟩ := hd
    split at h
    case h_2 => cases h
    case h_1 l =>
    split at h
    case isFalse => cases h
    case isTrue hc =>
    cases h
    simp only [repA, rep] at hx
    obtain ⟨zv, hzv, hzr, _⟩ := zeroT_run hz g w H
    refine ⟨true, d, hd, hT, by simp [List.length_flatten, hzl], fun _ => ⟨l, hx, hc.1, hc.2, rfl, zv, hzv, ?_⟩, by simp⟩
    have hsz := repLA_size hzr
    exact zeros_rep hzr (by rw [← hsz])
  · rename_i hT
    have hd : ∃ d, C.P.underlying xT = some d := by
      unfold isIntT at hT; split at hT <;> simp_all
    obtain ⟨d, hd⟩ := hd
    split at h
    · cases h
    rename_i m' hm
    split at h
    · cases h
    rename_i cs hcs
    cases h
    have hlen := srcCells_length hcs
    obtain ⟨us, hus, husr⟩ := srcCells_run (P := C.P) hi hcs hx (by intro h0; rw [h0] at hlen; exact List.eq_nil_of_length_eq_zero (by simpa using hlen))
    exact ⟨false, d, hd, hT, hlen, by simp, fun _ => ⟨lenOf_run hm hx, us, hus, husr⟩⟩
structure AppT (C : Cfg) (ats : Array TypeId) (xT e : TypeId) (size bytes : Nat) (z : List AV) : Prop where
  h0 : ∃ sT, ats[0]? = some sT ∧ elemT C.P sT = some e
  h1 : ats[1]? = some xT
  hs : sizeT C.P e = some size
  hb : bytesT C.P e = some bytes
  hz : zeroT C.P e = some z
  hzl : z.length = size
  hs0 : size ≠ 0
  hb0 : bytes ≠ 0
theorem append_room {C : Cfg} {ats : Array TypeId} {ty xT e : TypeId} {size bytes m : Nat} {z ncs : List AV} {x : AV} {v : Value} (hi : Inv g w H) (A : AppT C ats xT e size bytes z) (h : evNew C xT size bytes z x H = some (m, ncs)) (hx : repA g w H x v)
    (base : Option Addr) (n cap : Nat) (hc : n + m ≤ cap) :
    ∃ us : List Value, repLA g w H ncs us ∧ (Builtin.append_ ats ty #[.slice base n cap, v]).run C.P w = ((match base with | some a => storeCells (a.add (n * size)) us | none => pure () : Sem Unit).run C.P w).andThen (fun _ w' => .ok (.slice base (n + m) cap) w') := by
  obtain ⟨b, d, hd, hT, hlen, ht, hf⟩ := evNew_run hi h hx A.hs A.hb A.hz A.hzl A.hs0 A.hb0
  obtain ⟨sT, hsT, hel⟩ := A.h0
  obtain ⟨ti, hti, hbytes⟩ := bytesT_run A.hb w
  cases b with
  | false =>
    obtain ⟨hl, us, hus, hr⟩ := hf rfl
    refine ⟨us, hr, ?_⟩
    cases d <;> first | (simp [isIntT, hd] at hT; done) | skip
    all_goals
     simp only [Builtin.append_, hsT, A.h1, List.getElem?_toArray, List.getElem?_cons_zero, List.getElem?_cons_succ, Sem.run_bind, elemT_run hel, Result.andThen_ok, sizeT_run A.hs, run_underlying hd, Sem.run_pure]
     simp only [Bool.false_eq_true, if_false, Bool.not_false, if_true, hl, Sem.run_bind, Result.andThen_ok, hc, hus]
     cases base <;> simp
  | true =>
    obtain ⟨l, rfl, hl0, hlb, rfl, zv, hzv, hr⟩ := ht rfl
    refine ⟨_, hr, ?_⟩
    have hwl : IntKind.i64.wrap l = l := by
      have : l * 1 ≤ l * bytes := Int.mul_le_mul_of_nonneg_left (by have := A.hb0; omega) hl0
      simp only [IntKind.wrap, IntKind.bits, IntKind.signed]; simp; omega
    cases d <;> first | (simp [isIntT, hd] at hT; done) | skip
    simp only [Builtin.append_, hsT, A.h1, List.getElem?_toArray, List.getElem?_cons_zero, List.getElem?_cons_succ, Sem.run_bind, elemT_run hel, Result.andThen_ok, sizeT_run A.hs, run_underlying hd, Sem.run_pure]
    simp only [if_true, Bool.not_true, Bool.false_eq_true, if_false, Sem.run_bind, asInt, asIntOf, Sem.run_pure, Result.andThen_ok, hwl, hti, hbytes]
    rw [if_neg (by omega)]
    simp only [Sem.run_bind, hti, hbytes, Result.andThen_ok]
    rw [if_neg (by omega)]
    simp only [Sem.run_bind, Sem.run_pure, Result.andThen_ok, hc, if_true]
    by_cases hk : l.toNat * size = 0
    · have hl00 : l.toNat = 0 := by rcases Nat.mul_eq_zero.1 hk with h | h; exact h; exact absurd h A.hs0
      have hz0 : Builtin.zeroCells zv.cells l.toNat = #[] := by rw [hl00]; simp [Builtin.zeroCells, range0]
      rw [hz0]
      simp only [hk, if_true, Sem.run_bind, Sem.run_pure, Result.andThen_ok]
      cases base <;> simp
    · simp only [hk, if_false, Sem.run_bind, hzv, Result.andThen_ok, Sem.run_pure]
      cases base <;> simp
theorem zeroCells_size (z : Array Value) (n : Nat) : (Builtin.zeroCells z n).size = n * z.size := by simp [Builtin.zeroCells]
theorem append_grow {C : Cfg} {ats : Array TypeId} {ty xT e : TypeId} {size bytes m : Nat} {z ncs ocs : List AV} {x : AV} {v : Value} (hi : Inv g w H) (A : AppT C ats xT e size bytes z) (h : evNew C xT size bytes z x H = some (m, ncs)) (hx : repA g w H x v)
    (base : Option Addr) (n cap : Nat) (hc : cap < n + m) (hbd : (n + m) * bytes ≤ 140737488355328)
    (hold : ∀ k, ∃ os : List Value, (Builtin.firstCells size n (.slice base n cap)).run C.P { w with drawn := k } = .ok os.toArray { w with drawn := k } ∧ repLA g { w with drawn := k } H ocs os) (hol : ocs.length = n * size) :
    ∃ (newCap k : Nat) (c : Array Value), n + m ≤ newCap ∧ (Builtin.append_ ats ty #[.slice base n cap, v]).run C.P w = .ok (.slice (some ⟨w.heap.size, 0, none⟩) (n + m) newCap) (pushB { w with drawn := k } (.cells c e)) ∧ c.size = newCap * size ∧
      repLA g { w with drawn := k } H (ocs ++ ncs) (c.toList.take (n * size + m * size)) := by
  obtain ⟨ti, hti, hbytes⟩ := bytesT_run A.hb w
  obtain ⟨sT, hsT, hel⟩ := A.h0
  have hi' := drawn_inv hi (w.drawn + 1)
  have hx' := repA_mono (drawn_ext g w H (w.drawn + 1)) hx
  obtain ⟨b, d, hd, hT, hlen, ht, hf⟩ := evNew_run hi h hx A.hs A.hb A.hz A.hzl A.hs0 A.hb0
  obtain ⟨b2, d2, hd2, hT2, hlen2, ht2, hf2⟩ := evNew_run hi' h hx' A.hs A.hb A.hz A.hzl A.hs0 A.hb0
  rw [hT] at hT2; cases hT2
  obtain ⟨os, hos, hor⟩ := hold (w.drawn + 1)
  obtain ⟨zv, hzv, hzr, _⟩ := zeroT_run A.hz g { w with drawn := w.drawn + 1 } H
  have hzsz : zv.cells.size = size := by rw [← repLA_size hzr, A.hzl]
  have h1 : 1 ≤ bytes := by have := A.hb0; omega
  have hneed : n + m ≤ 140737488355328 := Nat.le_trans (Nat.le_mul_of_pos_right _ h1) hbd
  have hnsc : ¬ (Builtin.nextslicecap (n + m) cap * bytes > 2 ^ 48) := by
    have := Nat.mul_le_mul_right bytes (nsc_le hc)
    rw [Nat.mul_assoc] at this
    omega
  have hforce : (Question.appendCap (n + m) cap e).forced = false := rfl
  obtain ⟨newCap, hcap, hge⟩ : ∃ q, (Question.appendCap (n + m) cap e).cut (w.tape w.drawn (.appendCap (n + m) cap e)) = q ∧ n + m ≤ q := ⟨_, rfl, by simp only [Question.cut]; omega⟩
  have hti2 : (typeInfo e).run C.P { w with drawn := w.drawn + 1 } = .ok ti { w with drawn := w.drawn + 1 } := by
    obtain ⟨ti2, hti2, _⟩ := bytesT_run A.hb { w with drawn := w.drawn + 1 }
    have : ti2 = ti := by
      unfold bytesT at *
      cases hp : C.P.info? e with
      | none => simp [typeInfo, hp] at hti
      | some q => simp [typeInfo, hp] at hti hti2; rw [← hti, ← hti2]
    rw [this] at hti2; exact hti2
  have fin : ∀ us : List Value, repLA g { w with drawn := w.drawn + 1 } H ncs us → ((os.toArray ++ us.toArray ++ Builtin.zeroCells zv.cells (newCap - (n + m))).size = newCap * size) ∧ repLA g { w with drawn := w.drawn + 1 } H (ocs ++ ncs) ((os.toArray ++ us.toArray ++ Builtin.zeroCells zv.cells (newCap - (n + m))).toList.take (n * size + m * size)) := by
    intro us hr
    have e1 := repLA_length hor
    have e2 := repLA_length hr
    refine ⟨?_, ?_⟩
    · simp only [Array.size_append, List.size_toArray, zeroCells_size, hzsz, ← e1, ← e2, hol, hlen, ← Nat.add_mul]
      congr 1; omega
    · have : (os.toArray ++ us.toArray ++ Builtin.zeroCells zv.cells (newCap - (n + m))).toList.take (n * size + m * size) = os ++ us := by
        simp only [Array.toList_append]
        rw [List.take_left' (by simp [← e1, ← e2, hol, hlen])]
      rw [this]
      exact repLA_append hor hr
  have hnc : ¬ n + m ≤ cap := by omega
  have hbig : ¬ (((n + m : Nat) : Int) > IntKind.i64.max ∧ (b = true ∨ bytes = 0)) := by
    intro hh
    have : IntKind.i64.max = 9223372036854775807 := by decide
    rw [this] at hh
    omega
  cases b with
  | false =>
    obtain ⟨hl, _, _, _⟩ := hf rfl
    obtain ⟨_, us, hus, hr⟩ := hf2 rfl
    obtain ⟨f1, f2⟩ := fin us hr
    refine ⟨newCap, w.drawn + 1, _, hge, ?_, f1, f2⟩
    cases d <;> first | (simp [isIntT, hd] at hT; done) | skip
    all_goals
     simp only [Builtin.append_, hsT, A.h1, List.getElem?_toArray, List.getElem?_cons_zero, List.getElem?_cons_succ, Sem.run_bind, elemT_run hel, Result.andThen_ok, sizeT_run A.hs, run_underlying hd, Sem.run_pure]
     simp only [Bool.false_eq_true, if_false, Bool.not_false, if_true, hl, Sem.run_bind, Result.andThen_ok, hnc, hti, hbytes, false_or]
     rw [if_neg (by intro hh; exact hbig ⟨hh.1, .inr hh.2⟩)]
     simp only [Sem.run_bind, hti, hbytes, Result.andThen_ok]
     rw [if_neg hnsc]
     simp only [Sem.run_bind, run_choose, hforce, Bool.false_eq_true, if_false, Result.andThen_ok, hcap, hti2, run_askRoom, hos, hus, hzv, newRow, run_newObj, Sem.run_pure]
     rfl
  | true =>
    obtain ⟨l, rfl, hl0, hlb, rfl, _⟩ := ht rfl
    obtain ⟨l2, hl2, _, _, hl3, zv2, hzv2, hr⟩ := ht2 rfl
    cases hl2
    rw [hzv] at hzv2; cases hzv2
    obtain ⟨f1, f2⟩ := fin _ hr
    refine ⟨newCap, w.drawn + 1, _, hge, ?_, f1, f2⟩
    cases d <;> first | (simp [isIntT, hd] at hT; done) | skip
    have hwl : IntKind.i64.wrap l = l := by
      have : l * 1 ≤ l * bytes := Int.mul_le_mul_of_nonneg_left (by omega) hl0
      simp only [IntKind.wrap, IntKind.bits, IntKind.signed]; simp; omega
    simp only [Builtin.append_, hsT, A.h1, List.getElem?_toArray, List.getElem?_cons_zero, List.getElem?_cons_succ, Sem.run_bind, elemT_run hel, Result.andThen_ok, sizeT_run A.hs, run_underlying hd, Sem.run_pure]
    simp only [if_true, Bool.not_true, Bool.false_eq_true, if_false, Sem.run_bind, asInt, asIntOf, Sem.run_pure, Result.andThen_ok, hwl, hti, hbytes]
    rw [if_neg (by omega)]
    simp only [Sem.run_bind, hti, hbytes, Result.andThen_ok]
    rw [if_neg (by omega)]
    simp only [Sem.run_pure, Result.andThen_ok, hnc, if_false, Sem.run_bind, hti, hbytes]
    rw [if_neg (by intro hh; exact hbig ⟨hh.1, .inl rfl⟩)]
    simp only [Sem.run_bind, hti, hbytes, Result.andThen_ok]
    rw [if_neg hnsc]
    simp only [Sem.run_bind, run_choose, hforce, Bool.false_eq_true, if_false, Result.andThen_ok, hcap, hti2, run_askRoom, hos]
    by_cases hk : l.toNat * size = 0
    · have hl00 : l.toNat = 0 := by rcases Nat.mul_eq_zero.1 hk with h | h; exact h; exact absurd h A.hs0
      have hz0 : Builtin.zeroCells zv.cells l.toNat = #[] := by rw [hl00]; simp [Builtin.zeroCells, range0]
      rw [hz0]
      simp only [hk, if_true, Sem.run_bind, Sem.run_pure, Result.andThen_ok, hzv, newRow, run_newObj]
      rfl
    · simp only [hk, if_false, Sem.run_bind, Sem.run_pure, Result.andThen_ok, hzv, newRow, run_newObj]
      rfl
end Go.Ev
set_option linter.unusedVariables false
set_option linter.unusedSimpArgs false
namespace Go.Ev
open Go.RowKit
variable {P : Program} {g : G} {w : World} {H : List ABlk}

theorem setV_append : ∀ (us l : List Value) (n : Nat), n + us.length ≤ l.length → (setV l n us).take (n + us.length) = l.take n ++ us
  | [], l, n, _ => by simp [setV]
  | u :: us, l, n, h => by
    simp only [List.length_cons] at h
    have := setV_append us (l.set n u) (n + 1) (by simp; omega)
    simp only [setV, List.length_cons]
    rw [show n + (us.length + 1) = n + 1 + us.length by omega, this]
    have hlt : n < (l.set n u).length := by simp; omega
    rw [← List.take_append_getElem hlt]
    simp only [List.take_set, List.getElem_set_self, List.append_assoc, List.cons_append, List.nil_append]
    rw [List.set_eq_of_length_le (by simp; omega)]
theorem all_append {xs ys : List AV} (h1 : xs.all AV.isCell = true) (h2 : ys.all AV.isCell = true) : (xs ++ ys).all AV.isCell = true := by
  rw [List.all_append, h1, h2]; rfl
theorem evAppend_run {C : Cfg} {ats : Array TypeId} {ty : TypeId} {s x z : AV} {a b : Value} {H' : List ABlk} (hi : Inv g w H) (h : evAppend C ats s x H = some (z, H')) (hs : repA g w H s a) (hx : repA g w H x b) :
    ∃ u w' g', (Builtin.append_ ats ty #[a, b]).run C.P w = .ok u w' ∧ Inv g' w' H' ∧ Ext g w H g' w' H' ∧ repA g' w' H' z u := by
  unfold evAppend at h
  split at h
  case h_2 => cases h
  case h_1 sT xT hsT hxT =>
  split at h
  · cases h
  rename_i e he
  split at h
  case h_2 => cases h
  case h_1 size bytes zz h1 h2 h3 =>
  split at h
  · cases h
  rename_i hn
  split at h
  · cases h
  rename_i m ncs hnew
  have A : AppT C ats xT e size bytes zz := ⟨⟨sT, hsT, he⟩, hxT, h1, h2, h3, by omega, by omega, by omega⟩
  have hncl : ncs.length = m * size := by
    obtain ⟨b, d, _, _, hlen, _⟩ := evNew_run hi hnew hx A.hs A.hb A.hz A.hzl A.hs0 A.hb0
    exact hlen
  unfold evAppend2 at h
  split at h
  case h_4 => cases h
  case h_1 =>
    have hs0 := hs
    simp only [repA, rep] at hs
    obtain ⟨B, cap, rfl, hc0, hB⟩ := hs
    have hBn : B = none := by cases B <;> simp at hB; rfl
    subst hBn
    have := hc0 rfl
    subst this
    split at h
    · rename_i hm
      subst hm
      cases h
      obtain ⟨us, hur, hrun⟩ := append_room (ty := ty) hi A hnew hx none 0 0 (by omega)
      exact ⟨.slice none 0 0, w, g, by rw [hrun]; simp, hi, Ext.refl _ _ _, hs0⟩
    · rename_i hm
      split at h
      case isFalse => cases h
      case isTrue hcond =>
      cases h
      obtain ⟨newCap, k, c, hge, hrun, hcs, hcr⟩ := append_grow (ty := ty) (ocs := []) hi A hnew hx none 0 0 (by omega) (by rw [Nat.zero_add]; exact hcond.1) (fun k => ⟨[], by simp [Builtin.firstCells], by simp [repLA]⟩) (by simp)
      rw [Nat.zero_mul, Nat.zero_add, List.nil_append] at hcr
      rw [Nat.zero_add] at hge hrun
      have hle : ncs.length ≤ c.size := by rw [hncl, hcs]; exact Nat.mul_le_mul_right _ hge
      refine ⟨_, _, _, hrun, new_inv (drawn_inv hi k) c e (0, 0) (by intro j _; simp) 0 _ hle (by rw [hncl]; exact hcr) hcond.2, (drawn_ext g w H k).trans (new_ext (drawn_inv hi k) _ _), ?_⟩
      simp only [repA]
      refine ⟨_, _, rfl, hge, _, by simp; rfl, by simp, fun _ => ⟨.inr (by simp [gNew]), c, e, (0, 0), by simp [gNew, pushB_get], by omega⟩⟩
  case h_2 n xx cs =>
    simp only [repA, rep] at hs
    obtain ⟨B, cap, rfl, hc, hex, hA, hr⟩ := hs
    split at h
    · rename_i hm
      subst hm
      cases h
      obtain ⟨us, hur, hrun⟩ := append_room (ty := ty) hi A hnew hx B n cap (by omega)
      have hncs : ncs = [] := List.eq_nil_of_length_eq_zero (by simpa using hncl)
      subst hncs
      have hus : us = [] := List.eq_nil_of_length_eq_zero (repLA_length hur).symm
      subst hus
      refine ⟨.slice B n cap, w, g, ?_, hi, Ext.refl _ _ _, by simp only [repA, rep]; exact ⟨B, cap, rfl, hc, hex, hA, hr⟩⟩
      rw [hrun]
      cases B <;> simp [storeCells]
    · rename_i hm
      split at h
      case isFalse => cases h
      case isTrue hcond =>
      cases h
      have hcap : cap = n := hex hcond.1
      subst hcap
      have hsrc : srcCells H size cap (.p (.sl cap xx cs)) = some (cs.map .p) := by
        simp only [srcCells, hcond.2.1, Nat.le_refl, and_self, if_true]
        rw [← hcond.2.1, List.take_length]
      obtain ⟨newCap, k, c, hge, hrun, hcs, hcr⟩ := append_grow (ty := ty) (ocs := cs.map .p) hi A hnew hx B cap cap (by omega) hcond.2.2.1 (fun k => srcCells_run (drawn_inv hi k) hsrc (repA_mono (drawn_ext g w H k) (by simp only [repA, rep]; exact ⟨B, cap, rfl, hc, hex, hA, hr⟩)) (by intro h0; rw [h0] at hcond; simp at hcond; simpa using hcond.2.1)) (by simp [hcond.2.1])
      have hlen : (cs.map AV.p ++ ncs).length = cap * size + m * size := by simp [hcond.2.1, hncl]
      have hle : (cs.map AV.p ++ ncs).length ≤ c.size := by rw [hlen, hcs, ← Nat.add_mul]; exact Nat.mul_le_mul_right _ hge
      have hall := all_append hcond.2.2.2.2 hcond.2.2.2.1
      refine ⟨_, _, _, hrun, new_inv (drawn_inv hi k) c e (0, 0) (by intro j _; simp) 0 _ hle (by rw [hlen]; exact hcr) hall, (drawn_ext g w H k).trans (new_ext (drawn_inv hi k) _ _), ?_⟩
      simp only [repA]
      refine ⟨_, _, rfl, hge, _, by simp; rfl, by simp, fun _ => ⟨.inr (by simp [gNew]), c, e, (0, 0), by simp [gNew, pushB_get], by omega⟩⟩
  case h_3 id ver off n sz =>
    simp only [repA] at hs
    obtain ⟨A0, cap, rfl, hc, B, hB, hv, hA⟩ := hs
    rw [hB] at h
    simp only at h
    split at h
    case isFalse => cases h
    case isTrue hcond =>
    obtain ⟨c1, c2, c3, c4, c5, c6, c7⟩ := hcond
    cases h
    subst c4
    obtain ⟨hA1, c, e', fr, hcell, hcsz⟩ := hA c1
    obtain ⟨c0, e0, fr0, d1, d2, d3, d4, d5, d6⟩ := hi.blk id B hB
    rw [hcell] at d1; cases d1
    have hlen : (B.cells ++ ncs).length = n * sz + m * sz := by simp [c5, hncl]
    have hall := all_append d5 c7
    by_cases hroom : n + m ≤ cap
    · obtain ⟨us, hur, hrun⟩ := append_room (ty := ty) hi A hnew hx (some A0) n cap hroom
      have hul := repLA_length hur
      rcases hA1 with hc0 | rfl
      · have hm0 : m = 0 := by omega
        have hn0 : n = 0 := by omega
        subst hm0 hn0
        have hncs : ncs = [] := List.eq_nil_of_length_eq_zero (by simpa using hncl)
        subst hncs
        have hus : us = [] := List.eq_nil_of_length_eq_zero hul.symm
        subst hus
        have hpi := put_inv hi hB c2 hcell c rfl (ver + 1) (B.cells ++ []) (by omega) (by simpa using d3) (by simpa using d4) (by simpa using d5)
        have hpe := put_ext hi hB c2 hcell c rfl ⟨ver + 1, false, B.cells ++ []⟩ (by simp; omega)
        rw [putB_self hcell] at hpi hpe
        refine ⟨_, w, g, by rw [hrun]; simp [storeCells]; rfl, hpi, hpe, ?_⟩
        simp only [repA]
        exact ⟨A0, cap, rfl, hc, _, by rw [List.getElem?_set_self (lt_of_get hB)], by simp, fun _ => ⟨.inl hc0, c, e', fr, hcell, by subst c3; simpa using hcsz⟩⟩
      · subst c3
        have hsc := storeCells_run (P := C.P) (g.φ id) (n * sz) e' fr us 0 c w hcell d2 (by rw [← hul, hncl]; rw [Nat.add_zero, ← Nat.add_mul]; have := Nat.mul_le_mul_right sz hroom; omega) (all_one hur c7)
        have hsz : (setV c.toList (n * sz + 0) us).toArray.size = c.size := by simp [setV_length]
        have hfit : n * sz + us.length ≤ c.toList.length := by rw [← hul, hncl, ← Nat.add_mul, Array.length_toList]; have := Nat.mul_le_mul_right sz hroom; omega
        have hrr : repLA g w H (B.cells ++ ncs) ((setV c.toList (n * sz + 0) us).toArray.toList.take (B.cells ++ ncs).length) := by
          rw [hlen, ← hncl, hul]
          show repLA g w H _ ((setV c.toList (n * sz + 0) us).take _)
          rw [Nat.add_zero, setV_append us c.toList (n * sz) hfit]
          rw [c5] at d4
          exact repLA_append d4 hur
        refine ⟨_, _, g, by rw [hrun]; simp only [addr_add, Nat.zero_add]; rw [hsc]; rfl, put_inv hi hB c2 hcell _ hsz (ver + 1) (B.cells ++ ncs) (by omega) (by rw [hlen, hsz, ← hncl, hul, ← Array.length_toList]; exact hfit) hrr hall, put_ext hi hB c2 hcell _ hsz _ (by simp; omega), ?_⟩
        simp only [repA]
        refine ⟨_, cap, rfl, hroom, _, by rw [List.getElem?_set_self (lt_of_get hB)], by simp, fun _ => ⟨.inr rfl, _, e', fr, by rw [putB_get, if_pos rfl, if_pos (lt_of_aget hcell)], by rw [hsz]; exact hcsz⟩⟩
    · have hsrc : srcCells H sz n (.ms id ver off n sz) = some B.cells := by
        simp only [srcCells, Nat.le_refl, and_self, if_true, blkRead, hB]
        rw [if_pos ⟨c1, by omega⟩, c3, List.drop_zero, ← c5, List.take_length]
      obtain ⟨newCap, k, cc, hge, hrun, hcs, hcr⟩ := append_grow (ty := ty) (ocs := B.cells) hi A hnew hx (some A0) n cap (by omega) c6 (fun k => srcCells_run (drawn_inv hi k) hsrc (repA_mono (drawn_ext g w H k) (by simp only [repA]; exact ⟨A0, cap, rfl, hc, B, hB, hv, hA⟩)) (by intro h0; rw [h0] at c5; exact List.eq_nil_of_length_eq_zero (by simpa using c5))) c5
      have hle : (B.cells ++ ncs).length ≤ cc.size := by rw [hlen, hcs, ← Nat.add_mul]; exact Nat.mul_le_mul_right _ hge
      refine ⟨_, _, _, hrun, move_inv (drawn_inv hi k) hB cc e (0, 0) (by intro j _; simp) (ver + 1) _ (by omega) hle (by rw [hlen]; exact hcr) hall, (drawn_ext g w H k).trans (move_ext (drawn_inv hi k) hB _ _ (by simp; omega)), ?_⟩
      simp only [repA]
      refine ⟨_, _, rfl, hge, _, by rw [List.getElem?_set_self (lt_of_get hB)], by simp, fun _ => ⟨.inr (by simp [gMove]), cc, e, (0, 0), by simp [gMove, pushB_get], by omega⟩⟩
theorem evNew_p {C : Cfg} {xT : TypeId} {size bytes : Nat} {z : List AV} {x : PV} (H : List ABlk) : evNew C xT size bytes z (.p x) [] = evNew C xT size bytes z (.p x) H := by
  unfold evNew
  cases x <;> rfl
theorem evAppendS_run {C : Cfg} {ats : Array TypeId} {ty : TypeId} {s x z : AV} {a b : Value} (hi : Inv g w H) (h : evAppendS C ats s x = some z) (hs : repA g w H s a) (hx : repA g w H x b) :
    ∃ u w' g', (Builtin.append_ ats ty #[a, b]).run C.P w = .ok u w' ∧ Inv g' w' H ∧ Ext g w H g' w' H ∧ repA g' w' H z u := by
  unfold evAppendS at h
  split at h
  case h_2 => cases h
  case h_1 sT xT n xx cs x hsT hxT =>
  split at h
  · cases h
  rename_i e he
  split at h
  case h_2 => cases h
  case h_1 size bytes zz h1 h2 h3 =>
  split at h
  · cases h
  rename_i hn
  split at h
  · cases h
  rename_i m ncs hnew
  rw [evNew_p H] at hnew
  have A : AppT C ats xT e size bytes zz := ⟨⟨sT, hsT, he⟩, hxT, h1, h2, h3, by omega, by omega, by omega⟩
  have hncl : ncs.length = m * size := by
    obtain ⟨b, d, _, _, hlen, _⟩ := evNew_run hi hnew hx A.hs A.hb A.hz A.hzl A.hs0 A.hb0
    exact hlen
  split at h
  case isFalse => cases h
  case isTrue hcond =>
  split at h
  case h_2 => cases h
  case h_1 ys hys =>
  cases h
  have hpe := mapO_pure hys
  subst hpe
  simp only [repA, rep] at hs
  obtain ⟨B, cap, rfl, hc, hex, hA, hr⟩ := hs
  have hcap : cap = n := hex hcond.2.1
  subst hcap
  have hsrc : srcCells H size cap (.p (.sl cap xx cs)) = some (cs.map .p) := by
    simp only [srcCells, hcond.2.2.1, Nat.le_refl, and_self, if_true]
    rw [← hcond.2.2.1, List.take_length]
  obtain ⟨newCap, k, c, hge, hrun, hcs, hcr⟩ := append_grow (ty := ty) (ocs := cs.map .p) hi A hnew hx B cap cap (by omega) hcond.2.2.2 (fun k => srcCells_run (drawn_inv hi k) hsrc (repA_mono (drawn_ext g w H k) (by simp only [repA, rep]; exact ⟨B, cap, rfl, hc, hex, hA, hr⟩)) (by intro h0; rw [h0] at hcond; have := hcond.2.2.1; simpa using this)) (by simp [hcond.2.2.1])
  have hyl : ys.length = m * size := by simpa using hncl
  have hlen : (cs ++ ys).length = cap * size + m * size := by rw [List.length_append, hcond.2.2.1, hyl]
  have hle : (cs ++ ys).length ≤ c.size := by rw [hlen, hcs, ← Nat.add_mul]; exact Nat.mul_le_mul_right _ hge
  obtain ⟨g', i1, i2, i3, i4⟩ := newFrozen (e := e) (c := c) (fr := (0, 0)) (xs := cs ++ ys) (drawn_inv hi k) hle (by rw [hlen, List.map_append]; exact hcr)
  refine ⟨_, _, g', hrun, i1, (drawn_ext g w H k).trans i2, ?_⟩
  simp only [repA, rep]
  exact ⟨_, _, rfl, hge, by simp, by simp, .inr ⟨_, _, rfl, i3, i4⟩⟩
/-! ### Conversions -/
theorem bytesToString_run {us : List Value} {xs : List PV} {l : List Nat} {F : Nat → Prop} (hr : repL F w xs us) (hl : mapO toByte xs = some l) (A : Addr) (n : Nat) (cap : Nat) (hn : us.length = n) (hload : (loadCells A n).run P w = .ok us.toArray w) :
    ∃ s : ByteArray, (Conv.bytesToString (.slice (some A) n cap)).run P w = .ok (.string s) w ∧ s.data.toList.map UInt8.toNat = l := by
  have key : ∀ (xs : List PV) (us : List Value) (l : List Nat), repL F w xs us → mapO toByte xs = some l → ∃ ns : List Int, us = ns.map (Value.int .u8) ∧ l = ns.map (fun n => n.toNat % 256) := by
    intro xs
    induction xs with
    | nil => intro us l h1 h2; cases us with
      | nil => simp [mapO] at h2; subst h2; exact ⟨[], rfl, rfl⟩
      | cons => simp [repL] at h1
    | cons x xs ih => intro us l h1 h2; cases us with
      | nil => simp [repL] at h1
      | cons u us =>
        simp only [repL] at h1
        simp only [mapO] at h2
        cases hx : toByte x with
        | none => rw [hx] at h2; cases h2
        | some y =>
          rw [hx] at h2
          simp only at h2
          split at h2
          · cases h2
          · rename_i ys hys
            cases h2
            obtain ⟨ns, rfl, rfl⟩ := ih us ys h1.2 hys
            unfold toByte at hx
            split at hx
            · rename_i k; cases hx
              have := h1.1
              simp only [rep] at this; subst this
              exact ⟨k :: ns, rfl, rfl⟩
            · cases hx
  obtain ⟨ns, rfl, rfl⟩ := key xs us l hr hl
  refine ⟨ns.foldl (fun r n => r.push (UInt8.ofNat n.toNat)) ByteArray.empty, ?_, ?_⟩
  · simp only [Conv.bytesToString, Sem.run_bind, hload, Result.andThen, List.forIn_toArray]
    rw [run_forIn_bytes _ (by intro n r; simp [Sem.run_pure])]
    rfl
  · have : ∀ (ns : List Int) (r : ByteArray), (ns.foldl (fun r n => r.push (UInt8.ofNat n.toNat)) r).data.toList.map UInt8.toNat = r.data.toList.map UInt8.toNat ++ ns.map (fun n => n.toNat % 256) := by
      intro ns
      induction ns with
      | nil => intro r; simp
      | cons n ns ih => intro r; rw [List.foldl_cons, ih]; simp [ByteArray.data_push]
    rw [this]; simp
theorem str_block (w : World) (e : TypeId) (s : ByteArray) :
    ∃ (cap : Nat) (c : Array Value), s.size ≤ cap ∧ c.size = cap ∧ (Conv.stringToBytes e s).run P w = .ok (.slice (some ⟨w.heap.size, 0, none⟩) s.size cap) (pushB { w with drawn := w.drawn + 1 } (.cells c e (cap, cap + 1))) ∧
      ∀ (g : G) (w : World) (H : List ABlk), repLA g w H ((s.data.toList.map UInt8.toNat).map fun b => .p (u8 b)) (c.toList.take s.size) := by
  have hforce : (Question.appendCap s.size 0 e).forced = false := rfl
  obtain ⟨cap, hcap, hge⟩ : ∃ q, (Question.appendCap s.size 0 e).cut (w.tape w.drawn (.appendCap s.size 0 e)) = q ∧ s.size ≤ q := ⟨_, rfl, by simp only [Question.cut]; omega⟩
  have hsz : (s.data.map fun b => Value.int .u8 b.toNat).size = s.size := by rw [Array.size_map]; rfl
  refine ⟨cap, (s.data.map fun b => Value.int .u8 b.toNat) ++ Array.replicate (cap - s.size) (.int .u8 0), hge, by rw [Array.size_append, hsz, Array.size_replicate]; omega, ?_, fun g w H => ?_⟩
  · simp only [Conv.stringToBytes, Sem.run_bind, run_choose, hforce, Bool.false_eq_true, if_false, Result.andThen_ok, hcap, newRow, run_newObj, Sem.run_pure, markStringish, run_shape]
    have hsh : World.shape? { w with drawn := w.drawn + 1, heap := w.heap.push (.cells ((s.data.map fun b => Value.int .u8 b.toNat) ++ Array.replicate (cap - s.size) (.int .u8 0)) e) } w.heap.size = some (e, cap) := by
      simp only [World.shape?, Array.getElem?_push_size, Array.size_append, hsz, Array.size_replicate]
      congr 2; omega
    simp only [hsh, Sem.run_bind, run_freeze, Result.andThen_ok, Sem.run_pure]
    congr 1
    simp only [World.freeze, pushB]
    rw [if_neg (by omega)]
    congr 1
    apply Array.ext_getElem?
    intro i
    rw [Array.getElem?_modify]
    simp only [Array.getElem?_push]
    by_cases hi : w.heap.size = i
    · subst hi; simp
    · rw [if_neg hi, if_neg (by omega), if_neg (by omega)]
  · rw [Array.toList_append, List.take_left' (by rw [Array.length_toList, hsz])]
    rw [repLA_iff]
    refine ⟨by simp, fun i x hx => ?_⟩
    simp only [List.getElem?_map, Option.map_map, Option.map_eq_some_iff] at hx
    obtain ⟨c, hc, rfl⟩ := hx
    exact ⟨_, by simp only [Array.toList_map, List.getElem?_map, hc]; rfl, by simp [repA, u8, rep]⟩
theorem evBytes_run {src dst e : TypeId} {arg z : AV} {a : Value} {H' : List ABlk} (hi : Inv g w H) (hu1 : P.underlying src = some (.slice e)) (hu2 : P.underlying dst = some .string) (h : evBytes P e arg H = some (z, H')) (hx : repA g w H arg a) :
    ∃ u, (convert src dst a).run P w = .ok u w ∧ repA g w H z u ∧ H' = H := by
    unfold evBytes at h
    split at h
    case h_2 => cases h
    case h_1 hu3 =>
    split at h
    · cases h
    rename_i n hn
    have body : ∀ (cs : List AV) (xs : List PV) (l : List Nat), srcCells H 1 n arg = some cs → mapO AV.pure? cs = some xs → mapO toByte xs = some l → (∃ A cap, a = .slice A n cap ∧ (A = none → n = 0)) →
        ∃ u, (convert src dst a).run P w = .ok u w ∧ rep g.F w (.str l) u := by
      intro cs xs l h1 h2 h3 h4
      obtain ⟨A, cap, rfl, hA0⟩ := h4
      have hlen := srcCells_length h1
      obtain ⟨us, hus, hur⟩ := srcCells_run (P := P) hi h1 hx (by intro h0; rw [h0] at hlen; exact List.eq_nil_of_length_eq_zero (by simpa using hlen))
      rw [mapO_pure h2] at hur hlen
      have hur' := repLA_map.1 hur
      have hul := repL_length hur'
      simp at hlen
      cases A with
      | none =>
        have : xs = [] := List.eq_nil_of_length_eq_zero (by rw [hlen, hA0 rfl])
        subst this
        simp [mapO] at h3; subst h3
        refine ⟨.string .empty, ?_, by simp only [rep]; exact ⟨_, rfl, rfl⟩⟩
        simp only [convert, Sem.run_bind, run_underlying hu1, run_underlying hu2, run_underlying hu3, Result.andThen_ok]
        rfl
      | some A =>
        simp only [Builtin.firstCells, Nat.mul_one] at hus
        obtain ⟨s, hs1, hs2⟩ := bytesToString_run hur' h3 A n cap (by omega) hus
        refine ⟨.string s, ?_, by simp only [rep]; exact ⟨s, rfl, hs2⟩⟩
        simp only [convert, Sem.run_bind, run_underlying hu1, run_underlying hu2, run_underlying hu3, Result.andThen_ok]
        exact hs1
    have shape : (∀ l, arg ≠ .p (.str l)) → ∃ A cap, a = .slice A n cap ∧ (A = none → n = 0) := by
      intro hns
      unfold lenOf at hn
      split at hn
      · cases hn; simp only [repA, rep] at hx; obtain ⟨A, cap, rfl, h1, _, h3, _⟩ := hx; exact ⟨A, cap, rfl, fun h => by have := h3 h; omega⟩
      · cases hn; simp only [repA, rep] at hx; obtain ⟨A, cap, rfl, _⟩ := hx; exact ⟨A, cap, rfl, fun _ => rfl⟩
      · exact absurd rfl (hns _)
      · cases hn; simp only [repA] at hx; obtain ⟨A, cap, rfl, _⟩ := hx; exact ⟨some A, cap, rfl, by simp⟩
      · cases hn
    split at h
    · cases h
    · rename_i hns
      split at h
      · cases h
      rename_i cs hcs
      split at h
      · cases h
      rename_i xs hxs
      split at h
      · cases h
      rename_i l hl
      cases h
      obtain ⟨u, hu, hr⟩ := body cs xs l hcs hxs hl (shape hns)
      exact ⟨u, hu, by simp only [repA]; exact hr, rfl⟩
theorem evConv_run {st : Bool} {src dst : TypeId} {arg z : AV} {a : Value} {H' : List ABlk} (hi : Inv g w H) (h : evConv P st src dst arg H = some (z, H')) (hx : repA g w H arg a) :
    ∃ u w' g', (convert src dst a).run P w = .ok u w' ∧ Inv g' w' H' ∧ Ext g w H g' w' H' ∧ repA g' w' H' z u := by
  unfold evConv at h
  split at h
  case h_1 k0 k k1 n hu1 hu2 =>
    cases h
    simp only [repA, rep] at hx; subst hx
    refine ⟨.int k (k.wrap n), w, g, ?_, hi, Ext.refl _ _ _, by simp only [repA, rep]⟩
    simp only [convert, Sem.run_bind, run_underlying hu1, run_underlying hu2, Result.andThen_ok]
    rfl
  case h_2 l hu1 hu2 =>
    cases h
    have hx' := hx
    simp only [repA, rep] at hx'
    obtain ⟨s, rfl, rfl⟩ := hx'
    refine ⟨_, w, g, ?_, hi, Ext.refl _ _ _, hx⟩
    simp only [convert, Sem.run_bind, run_underlying hu1, run_underlying hu2, Result.andThen_ok]
    rfl
  case h_3 e l hu1 hu2 =>
    simp only [repA, rep] at hx
    obtain ⟨s, rfl, rfl⟩ := hx
    have hl : (s.data.toList.map UInt8.toNat).length = s.size := by rw [List.length_map, Array.length_toList]; rfl
    split at h
    case h_2 => cases h
    case h_1 hu3 =>
    obtain ⟨cap, c, hge, hcs, hrun, hr⟩ := str_block (P := P) w e s
    have hrun' : (convert src dst (.string s)).run P w = .ok (.slice (some ⟨w.heap.size, 0, none⟩) s.size cap) (pushB { w with drawn := w.drawn + 1 } (.cells c e (cap, cap + 1))) := by
      rw [← hrun]
      simp only [convert, Sem.run_bind, run_underlying hu1, run_underlying hu2, run_underlying hu3, Result.andThen_ok]
    split at h
    · cases h
      obtain ⟨g', i1, i2, i3, i4⟩ := newFrozen (e := e) (c := c) (fr := (cap, cap + 1)) (xs := (s.data.toList.map UInt8.toNat).map u8) (drawn_inv hi (w.drawn + 1)) (by rw [List.length_map, hl, hcs]; exact hge) (by rw [List.length_map, hl, List.map_map]; exact hr _ _ _)
      refine ⟨_, _, g', hrun', i1, (drawn_ext g w H (w.drawn + 1)).trans i2, ?_⟩
      simp only [repA, rep]
      exact ⟨_, _, by rw [hl], by rw [hl]; exact hge, by simp, by simp, .inr ⟨_, _, rfl, i3, i4⟩⟩
    · cases h
      have hcl : ((s.data.toList.map UInt8.toNat).map fun b => AV.p (u8 b)).length = s.size := by rw [List.length_map, hl]
      refine ⟨_, _, _, hrun', new_inv (drawn_inv hi (w.drawn + 1)) c e (cap, cap + 1) (by intro j hj; simp only; omega) 0 _ (by rw [hcl, hcs]; exact hge) (by rw [hcl]; exact hr _ _ _) (by rw [List.all_eq_true]; intro x hx; rw [List.mem_map] at hx; obtain ⟨b, _, rfl⟩ := hx; rfl), (drawn_ext g w H (w.drawn + 1)).trans (new_ext (drawn_inv hi (w.drawn + 1)) _ _), ?_⟩
      simp only [repA]
      refine ⟨_, _, by rw [hl], by rw [hl]; exact hge, _, by simp; rfl, by simp, fun _ => ⟨.inr (by simp [gNew]), c, e, (cap, cap + 1), by simp [gNew, pushB_get], by rw [hcs]; omega⟩⟩
  case h_4 e hu1 hu2 =>
    obtain ⟨u, h1, h2, rfl⟩ := evBytes_run hi hu1 hu2 h hx
    exact ⟨u, w, g, h1, hi, Ext.refl _ _ _, h2⟩
  case h_5 => cases h
end Go.Ev
set_option linter.unusedVariables false
set_option linter.unusedSimpArgs false
namespace Go.Ev
open Go.RowKit
variable {g : G} {w : World} {H : List ABlk}

theorem mapO_mono {α β : Type} {f f' : α → Option β} : ∀ {xs : List α} {ys : List β}, mapO f xs = some ys → (∀ x ∈ xs, ∀ y, f x = some y → f' x = some y) → mapO f' xs = some ys
  | [], ys, h, _ => h
  | x :: xs, ys, h, hf => by
    simp only [mapO] at h ⊢
    cases hx : f x with
    | none => rw [hx] at h; cases h
    | some y =>
      rw [hx] at h
      rw [hf x (by simp) y hx]
      simp only at h ⊢
      cases hxs : mapO f xs with
      | none => rw [hxs] at h; cases h
      | some zs =>
        rw [hxs] at h
        rw [mapO_mono hxs (fun x hx => hf x (by simp [hx]))]
        exact h
theorem frz_strict {H H' : List ABlk} (hu : FzUp H H') : ∀ (k : Nat) (a : AV) (x : PV), frz false H k a = some x → (∀ id ∈ ids H k a, ∀ B', H'[id]? = some B' → B'.fz = true) → frz true H' k a = some x := by
  intro k
  induction k with
  | zero => intro a x h _; cases a <;> simp only [frz] at h ⊢ <;> first | exact h | cases h
  | succ k ih =>
    intro a x h hids
    have lst : ∀ (cs : List AV) (xs : List PV), mapO (frz false H k) cs = some xs → (∀ id ∈ cs.flatMap (ids H k), ∀ B', H'[id]? = some B' → B'.fz = true) → mapO (frz true H' k) cs = some xs := fun cs xs h1 h2 =>
      mapO_mono h1 fun c hc y hy => ih c y hy fun id hid B' hB' => h2 id (List.mem_flatMap.2 ⟨c, hc, hid⟩) B' hB'
    cases a with
    | p y => simp only [frz] at h ⊢; exact h
    | ms id ver off n sz =>
      simp only [frz] at h ⊢
      simp only [ids] at hids
      cases hB : H[id]? with
      | none => rw [hB] at h; cases h
      | some B =>
        rw [hB] at h hids
        simp only at h hids
        obtain ⟨B', hB', e1, e2, e3⟩ := hu.blk id B hB
        rw [hB']
        simp only
        split at h
        · rename_i hc
          have hz := hids id (by simp) B' hB'
          rw [if_pos ⟨by rw [e1]; exact hc.1, by rw [e2]; exact hc.2.1, .inr hz⟩, e2]
          cases hm : mapO (frz false H k) ((B.cells.drop off).take (n * sz)) with
          | none => rw [hm] at h; cases h
          | some cs =>
            rw [hm] at h
            rw [lst _ cs hm (fun id hid => hids id (by simp only [List.mem_cons]; exact .inr hid))]
            exact h
        · cases h
    | pt => simp [frz] at h
    | ip => simp [frz] at h
    | fn f a b =>
      simp only [frz] at h ⊢
      simp only [ids] at hids
      cases h1 : mapO (frz false H k) a with
      | none => rw [h1] at h; cases h
      | some xs =>
        cases h2 : mapO (frz false H k) b with
        | none => rw [h1, h2] at h; cases h
        | some ys =>
          rw [h1, h2] at h
          rw [lst _ xs h1 (fun id hid => hids id (List.mem_append.2 (.inl hid))), lst _ ys h2 (fun id hid => hids id (List.mem_append.2 (.inr hid)))]
          exact h
    | agg cs =>
      simp only [frz] at h ⊢
      simp only [ids] at hids
      cases h1 : mapO (frz false H k) cs with
      | none => rw [h1] at h; cases h
      | some xs => rw [h1] at h; rw [lst _ xs h1 hids]; exact h
    | tup cs =>
      simp only [frz] at h ⊢
      simp only [ids] at hids
      cases h1 : mapO (frz false H k) cs with
      | none => rw [h1] at h; cases h
      | some xs => rw [h1] at h; rw [lst _ xs h1 hids]; exact h
theorem norm_rep_all {F : Nat → Prop} {w : World} : ∀ n, (∀ x : PV, SizeOf.sizeOf x ≤ n → ∀ v, rep F w x v → rep F w (norm x) v) ∧ (∀ xs : List PV, SizeOf.sizeOf xs ≤ n → (∀ vs, repL F w xs vs → repL F w (normL xs) vs) ∧ (∀ b off, repF F w b off xs → repF F w b off (normL xs))) := by
  intro n
  induction n with
  | zero =>
    refine ⟨fun x hx => ?_, fun xs hx => ?_⟩
    · cases x <;> simp at hx <;> omega
    · cases xs <;> simp at hx
  | succ n ih =>
    obtain ⟨ih1, ih2⟩ := ih
    refine ⟨fun x hx v h => ?_, fun xs hx => ⟨fun vs h => ?_, fun b off h => ?_⟩⟩
    · cases x with
      | sl m e cs =>
        simp at hx
        simp only [norm, rep] at h ⊢
        obtain ⟨A, cap, rfl, h1, h2, h4, h3⟩ := h
        refine ⟨A, cap, rfl, h1, by simp, h4, ?_⟩
        rcases h3 with rfl | ⟨b, off, rfl, hb, hr⟩
        · left; rfl
        · right; exact ⟨b, off, rfl, hb, (ih2 cs (by omega)).2 b off hr⟩
      | agg cs =>
        simp at hx
        simp only [norm, rep] at h ⊢
        obtain ⟨vs, rfl, hr⟩ := h
        exact ⟨vs, rfl, (ih2 cs (by omega)).1 _ hr⟩
      | tup cs =>
        simp at hx
        simp only [norm, rep] at h ⊢
        obtain ⟨vs, rfl, hr⟩ := h
        exact ⟨vs, rfl, (ih2 cs (by omega)).1 _ hr⟩
      | fn f a b =>
        simp at hx
        simp only [norm, rep] at h ⊢
        obtain ⟨as, bs, rfl, hr, hs⟩ := h
        exact ⟨as, bs, rfl, (ih2 a (by omega)).1 _ hr, (ih2 b (by omega)).1 _ hs⟩
      | nsl b =>
        simp only [norm, rep] at h ⊢
        obtain ⟨A, cap, rfl, h1, _⟩ := h
        exact ⟨A, cap, rfl, Nat.zero_le _, by simp, h1, .inl trivial⟩
      | _ => simpa [norm] using h
    · match xs, vs, h with
      | [], [], _ => simp [normL, repL]
      | x :: xs, v :: vs, h =>
        simp at hx
        simp only [normL, repL] at h ⊢
        exact ⟨ih1 x (by omega) v h.1, (ih2 xs (by omega)).1 vs h.2⟩
    · match xs, h with
      | [], _ => simp [normL, repF]
      | x :: xs, h =>
        simp at hx
        simp only [normL, repF] at h ⊢
        obtain ⟨⟨u, hu, hr⟩, h2⟩ := h
        exact ⟨⟨u, hu, ih1 x (by omega) u hr⟩, (ih2 xs (by omega)).2 b _ h2⟩
theorem norm_rep {F : Nat → Prop} {w : World} {x : PV} {v : Value} (h : rep F w x v) : rep F w (norm x) v := (norm_rep_all (SizeOf.sizeOf x)).1 x (Nat.le_refl _) v h
theorem frz_rep (hi : Inv g w H) : ∀ (k : Nat) (a : AV) (x : PV) (v : Value), frz true H k a = some x → repA g w H a v → rep g.F w x v := by
  intro k
  induction k with
  | zero => intro a x v h hr; cases a <;> simp only [frz] at h <;> first | (cases h; exact norm_rep (by simpa only [repA] using hr)) | cases h
  | succ k ih =>
    intro a x v h hr
    have lst : ∀ (cs : List AV) (xs : List PV) (vs : List Value), mapO (frz true H k) cs = some xs → repLA g w H cs vs → repL g.F w xs vs := fun cs xs vs h1 h2 => by
      obtain ⟨hl, hi1⟩ := mapO_spec h1
      obtain ⟨hl2, hi2⟩ := repLA_iff.1 h2
      rw [repL_iff]
      refine ⟨by omega, fun i y hy => ?_⟩
      have hlt := lt_of_get hy
      obtain ⟨y', hy', hf⟩ := hi1 i cs[i] (List.getElem?_eq_getElem (by omega))
      rw [hy] at hy'; cases hy'
      obtain ⟨u, hu, hur⟩ := hi2 i cs[i] (List.getElem?_eq_getElem (by omega))
      exact ⟨u, hu, ih _ _ _ hf hur⟩
    cases a with
    | p y => simp only [frz] at h; cases h; exact norm_rep (by simpa only [repA] using hr)
    | ms id ver off n sz =>
      simp only [frz] at h
      simp only [repA] at hr
      obtain ⟨A, cap, rfl, hc, B, hB, hv, hA⟩ := hr
      rw [hB] at h
      simp only at h
      split at h
      · rename_i hcond
        cases hm : mapO (frz true H k) ((B.cells.drop off).take (n * sz)) with
        | none => rw [hm] at h; cases h
        | some cs =>
          rw [hm] at h; cases h
          obtain ⟨hA1, c, e, fr, hcell, hcs⟩ := hA hcond.1
          obtain ⟨c0, e0, fr0, d1, d2, d3, d4, d5, d6⟩ := hi.blk id B hB
          have hz : B.fz = true := by rcases hcond.2.2 with h | h; cases h; exact h
          simp only [rep]
          refine ⟨some A, cap, rfl, hc, by simp, by simp, ?_⟩
          rcases hA1 with h0 | rfl
          · left
            have hn : n = 0 := by omega
            have := (mapO_spec hm).1
            rw [hn] at this
            exact List.eq_nil_of_length_eq_zero (by simpa using this.symm)
          · right
            refine ⟨g.φ id, off, rfl, d6.1 hz, ?_⟩
            have hL := lst _ cs _ hm (repLA_take (n * sz) (repLA_drop off d4))
            obtain ⟨hl, hget⟩ := repL_iff.1 hL
            rw [repF_iff]
            intro i y hy
            obtain ⟨u, hu, hur⟩ := hget i y hy
            refine ⟨u, ?_, hur⟩
            rw [cell_of d1, ← Array.getElem?_toList]
            rw [List.getElem?_take] at hu
            split at hu
            · rw [List.getElem?_drop, List.getElem?_take] at hu
              split at hu
              · exact hu
              · cases hu
            · cases hu
      · cases h
    | pt => simp [frz] at h
    | ip => simp [frz] at h
    | fn f a b =>
      simp only [frz] at h
      simp only [repA] at hr
      obtain ⟨as, bs, rfl, r1, r2⟩ := hr
      cases h1 : mapO (frz true H k) a with
      | none => rw [h1] at h; cases h
      | some xs =>
        cases h2 : mapO (frz true H k) b with
        | none => rw [h1, h2] at h; cases h
        | some ys =>
          rw [h1, h2] at h; cases h
          simp only [rep]
          exact ⟨as, bs, rfl, lst _ _ _ h1 r1, lst _ _ _ h2 r2⟩
    | agg cs =>
      simp only [frz] at h
      simp only [repA] at hr
      obtain ⟨vs, rfl, r1⟩ := hr
      cases h1 : mapO (frz true H k) cs with
      | none => rw [h1] at h; cases h
      | some xs => rw [h1] at h; cases h; simp only [rep]; exact ⟨vs, rfl, lst _ _ _ h1 r1⟩
    | tup cs =>
      simp only [frz] at h
      simp only [repA] at hr
      obtain ⟨vs, rfl, r1⟩ := hr
      cases h1 : mapO (frz true H k) cs with
      | none => rw [h1] at h; cases h
      | some xs => rw [h1] at h; cases h; simp only [rep]; exact ⟨vs, rfl, lst _ _ _ h1 r1⟩
theorem frzL_rep (hi : Inv g w H) {as : List AV} {xs : List PV} {vs : List Value} (h : mapO (frz true H deep) as = some xs) (hr : repLA g w H as vs) : repL g.F w xs vs := by
  obtain ⟨hl, hi1⟩ := mapO_spec h
  obtain ⟨hl2, hi2⟩ := repLA_iff.1 hr
  rw [repL_iff]
  refine ⟨by omega, fun i y hy => ?_⟩
  have hlt := lt_of_get hy
  obtain ⟨y', hy', hf⟩ := hi1 i as[i] (List.getElem?_eq_getElem (by omega))
  rw [hy] at hy'; cases hy'
  obtain ⟨u, hu, hur⟩ := hi2 i as[i] (List.getElem?_eq_getElem (by omega))
  exact ⟨u, hu, frz_rep hi _ _ _ _ hf hur⟩

/-- What a call that is handed what nothing changes does to the world. -/
structure PExt (F : Nat → Prop) (w : World) (F' : Nat → Prop) (w' : World) : Prop where
  sub : ∀ b, F b → F' b
  old : ∀ b, b < w.heap.size → w'.heap[b]? = w.heap[b]?
  size : w.heap.size ≤ w'.heap.size
  os : w'.os = w.os
  tape : w'.tape = w.tape
  output : w'.output = w.output
  newF : ∀ b, F' b → F b ∨ w.heap.size ≤ b
  bound : ∀ b, F' b → b < w'.heap.size
theorem PExt.ext {F' : Nat → Prop} {w' : World} (hi : Inv g w H) (h : PExt g.F w F' w') : Ext g w H ⟨F', g.φ⟩ w' H where
  F := h.sub
  keep b hb := h.old b (hi.F b hb)
  blk id B hB := ⟨B, hB, Nat.le_refl _, fun _ => ⟨rfl, fun c e fr hc => ⟨c, fr, (h.old _ (lt_of_aget hc)).trans hc, rfl⟩⟩⟩
  out b h1 _ _ := h.old b h1
  size := h.size
  os := h.os
  tape := h.tape
  output := h.output
  newF b hb := (h.newF b hb).imp id .inl
  newφ b hb := .inl hb
theorem PExt.inv {F' : Nat → Prop} {w' : World} (hi : Inv g w H) (h : PExt g.F w F' w') : Inv ⟨F', g.φ⟩ w' H where
  F := h.bound
  blk id B hB := by
    obtain ⟨c, e, fr, d1, d2, d3, d4, d5, d6⟩ := hi.blk id B hB
    have hlt := lt_of_aget d1
    refine ⟨c, e, fr, (h.old _ hlt).trans d1, d2, d3, repLA_mono (h.ext hi) d4, d5, fun hz => h.sub _ (d6.1 hz), fun hF => ?_⟩
    rcases h.newF _ hF with h' | h'
    · exact d6.2 h'
    · have : w.heap.size ≤ g.φ id := h'
      omega
  inj := hi.inj
theorem PExt.of_ext {F : Nat → Prop} {φ : Nat → Nat} {g' : G} {w' : World} {H' : List ABlk} (hi : Inv g' w' H') (h : Ext ⟨F, φ⟩ w [] g' w' H') : PExt F w g'.F w' where
  sub := h.F
  old b hb := by
    by_cases hF : F b
    · exact h.keep b hF
    · exact h.out b hb hF (by rintro ⟨id, B, hB, _⟩; simp at hB)
  size := h.size
  os := h.os
  tape := h.tape
  output := h.output
  newF b hb := by
    rcases h.newF b hb with h' | h' | ⟨id, B, hB, _⟩
    · exact .inl h'
    · exact .inr h'
    · simp at hB
  bound := hi.F

def CallPost (g : G) (w : World) (H : List ABlk) (r : AV) (H' : List ABlk) (e : Ending) (w' : World) : Prop :=
  ∃ v g', e = .returned v ∧ Inv g' w' H' ∧ Ext g w H g' w' H' ∧ repA g' w' H' r v
def CallOK (C : Cfg) (call : CallE) : Prop := ∀ f args H r H', call f args H = some (r, H') → ∀ (g : G) (w : World) (argv : Array Value), Inv g w H → repLA g w H args argv.toList → Calls C.P f argv w (CallPost g w H r H')
def OraPost (F : Nat → Prop) (w : World) (r : PV) (e : Ending) (w' : World) : Prop := ∃ v F', e = .returned v ∧ PExt F w F' w' ∧ rep F' w' r v
def OraOK (C : Cfg) : Prop := ∀ f xs r, C.O f xs = some r → ∀ (F : Nat → Prop) (w : World) (argv : Array Value), (∀ b, F b → b < w.heap.size) → repL F w xs argv.toList → Calls C.P f argv w (OraPost F w r)

/-! ### What a call made is the caller's own -/
theorem shift_rep {g2 : G} {H2 : List ABlk} (k : Nat) (hF : ∀ b, g.F b → g2.F b) (hH : ∀ (id : Nat) (B : ABlk), H[id]? = some B → ∃ B2, H2[id + k]? = some B2 ∧ B2.ver = B.ver ∧ g2.φ (id + k) = g.φ id) :
    ∀ n, (∀ x : AV, SizeOf.sizeOf x ≤ n → ∀ v, repA g w H x v → repA g2 w H2 (shift k x) v) ∧ (∀ xs : List AV, SizeOf.sizeOf xs ≤ n → ∀ vs, repLA g w H xs vs → repLA g2 w H2 (shiftL k xs) vs) := by
  intro n
  induction n with
  | zero =>
    refine ⟨fun x hx => ?_, fun xs hx => ?_⟩
    · cases x <;> simp at hx <;> omega
    · cases xs <;> simp at hx
  | succ n ih =>
    obtain ⟨ih1, ih2⟩ := ih
    refine ⟨fun x hs v h => ?_, fun xs hs vs h => ?_⟩
    · cases x with
      | p x => simp only [shift, repA] at h ⊢; exact rep_mono hF (fun _ _ => rfl) h
      | ms id ver off m sz =>
        simp only [shift, repA] at h ⊢
        obtain ⟨A, cap, rfl, hc, B, hB, hv, h⟩ := h
        obtain ⟨B2, hB2, hv2, hφ⟩ := hH id B hB
        exact ⟨A, cap, rfl, hc, B2, hB2, by omega, fun he => by rw [hφ]; exact h (by omega)⟩
      | pt id ver off =>
        simp only [shift, repA] at h ⊢
        obtain ⟨A, rfl, B, hB, hv, h⟩ := h
        obtain ⟨B2, hB2, hv2, hφ⟩ := hH id B hB
        exact ⟨A, rfl, B2, hB2, by omega, fun he => by rw [hφ]; exact h (by omega)⟩
      | ip cs =>
        simp only [shift, repA] at h ⊢
        obtain ⟨b, off, rfl, hb, hr⟩ := h
        exact ⟨b, off, rfl, hF b hb, repF_mono hF (fun _ _ => rfl) hb hr⟩
      | agg cs =>
        simp at hs
        simp only [shift, repA] at h ⊢
        obtain ⟨vs, rfl, hr⟩ := h
        exact ⟨vs, rfl, ih2 cs (by omega) _ hr⟩
      | tup cs =>
        simp at hs
        simp only [shift, repA] at h ⊢
        obtain ⟨vs, rfl, hr⟩ := h
        exact ⟨vs, rfl, ih2 cs (by omega) _ hr⟩
      | fn f a b =>
        simp at hs
        simp only [shift, repA] at h ⊢
        obtain ⟨as, bs, rfl, hr, hs2⟩ := h
        exact ⟨as, bs, rfl, ih2 a (by omega) _ hr, ih2 b (by omega) _ hs2⟩
    · match xs, vs, h with
      | [], [], _ => simp [shiftL, repLA]
      | x :: xs, v :: vs, h =>
        simp at hs
        simp only [shiftL, repLA] at h ⊢
        exact ⟨ih1 x (by omega) v h.1, ih2 xs (by omega) vs h.2⟩
theorem shift_isCell (k : Nat) : ∀ x : AV, (shift k x).isCell = x.isCell
  | .p x => rfl
  | .ms .. => rfl
  | .pt .. => rfl
  | .ip .. => rfl
  | .fn .. => rfl
  | .agg .. => rfl
  | .tup .. => rfl
theorem shiftL_eq (k : Nat) : ∀ xs : List AV, shiftL k xs = xs.map (shift k)
  | [] => rfl
  | x :: xs => by simp [shiftL, shiftL_eq k xs]
def gJoin (g : G) (n : Nat) (gc : G) : G := ⟨gc.F, fun i => if i < n then g.φ i else gc.φ (i - n)⟩
theorem join_get {H Hc : List ABlk} {id : Nat} {B : ABlk} (h : (H ++ Hc.map (shiftB H.length))[id]? = some B) :
    (id < H.length ∧ H[id]? = some B) ∨ (H.length ≤ id ∧ ∃ Bc, Hc[id - H.length]? = some Bc ∧ B = shiftB H.length Bc) := by
  by_cases hlt : id < H.length
  · rw [List.getElem?_append_left hlt] at h; exact .inl ⟨hlt, h⟩
  · rw [List.getElem?_append_right (by omega), List.getElem?_map] at h
    simp only [Option.map_eq_some_iff] at h
    obtain ⟨Bc, h1, h2⟩ := h
    exact .inr ⟨by omega, Bc, h1, h2.symm⟩
theorem join_ok {gc' : G} {w' : World} {Hc : List ABlk} (hi : Inv g w H) (hic : Inv gc' w' Hc) (hx : Ext ⟨g.F, fun _ => 0⟩ w [] gc' w' Hc) :
    Inv (gJoin g H.length gc') w' (H ++ Hc.map (shiftB H.length)) ∧ Ext g w H (gJoin g H.length gc') w' (H ++ Hc.map (shiftB H.length)) ∧ ∀ r v, repA gc' w' Hc r v → repA (gJoin g H.length gc') w' (H ++ Hc.map (shiftB H.length)) (shift H.length r) v := by
  have hp := PExt.of_ext hic hx
  have hshift := shift_rep (g := gc') (w := w') (H := Hc) (g2 := gJoin g H.length gc') (H2 := H ++ Hc.map (shiftB H.length)) H.length (fun b h => h) (fun id B hB => ⟨shiftB H.length B, by rw [List.getElem?_append_right (by omega), Nat.add_sub_cancel, List.getElem?_map, hB]; rfl, rfl, by simp only [gJoin]; rw [if_neg (by omega), Nat.add_sub_cancel]⟩)
  have hnew : ∀ (id : Nat) (B : ABlk), Hc[id]? = some B → w.heap.size ≤ gc'.φ id := fun id B hB => by
    rcases hx.newφ (gc'.φ id) ⟨id, B, hB, rfl⟩ with ⟨id2, B2, h2, _⟩ | h'
    · simp at h2
    · exact h'
  have hφ1 : ∀ i, i < H.length → (gJoin g H.length gc').φ i = g.φ i := fun i hi => by simp only [gJoin]; rw [if_pos hi]
  have hφ2 : ∀ i, H.length ≤ i → (gJoin g H.length gc').φ i = gc'.φ (i - H.length) := fun i hi => by simp only [gJoin]; rw [if_neg (by omega)]
  have hold : ∀ (id : Nat) (B : ABlk), H[id]? = some B → g.φ id < w.heap.size := fun id B hB => by
    obtain ⟨c, e, fr, d1, _⟩ := hi.blk id B hB; exact lt_of_aget d1
  have hext : Ext g w H (gJoin g H.length gc') w' (H ++ Hc.map (shiftB H.length)) := by
    refine ⟨hp.sub, fun b hb => hp.old b (hi.F b hb), fun id B hB => ?_, fun b h1 _ _ => hp.old b h1, hp.size, hp.os, hp.tape, hp.output, fun b hb => (hp.newF b hb).imp id .inl, fun b hb => ?_⟩
    · have hlt := lt_of_get hB
      exact ⟨B, by rw [List.getElem?_append_left hlt]; exact hB, Nat.le_refl _, fun _ => ⟨hφ1 id hlt, fun c e fr hc => ⟨c, fr, (hp.old _ (lt_of_aget hc)).trans hc, rfl⟩⟩⟩
    · obtain ⟨id, B, hB, hb⟩ := hb
      rcases join_get hB with ⟨hlt, hB'⟩ | ⟨hge, Bc, hBc, _⟩
      · rw [hφ1 id hlt] at hb; exact .inl ⟨id, B, hB', hb⟩
      · rw [hφ2 id hge] at hb; exact .inr (hb ▸ hnew _ _ hBc)
  refine ⟨⟨hp.bound, fun id B hB => ?_, fun i j Bi Bj hBi hBj fi fj he => ?_⟩, hext, fun r v hr => (hshift (SizeOf.sizeOf r)).1 r (Nat.le_refl _) v hr⟩
  · rcases join_get hB with ⟨hlt, hB'⟩ | ⟨hge, Bc, hBc, rfl⟩
    · obtain ⟨c, e, fr, d1, d2, d3, d4, d5, d6⟩ := hi.blk id B hB'
      refine ⟨c, e, fr, by rw [hφ1 id hlt]; exact (hp.old _ (lt_of_aget d1)).trans d1, d2, d3, repLA_mono hext d4, d5, fun hz => by rw [hφ1 id hlt]; exact hp.sub _ (d6.1 hz), fun hF => ?_⟩
      rw [hφ1 id hlt] at hF
      rcases hp.newF _ hF with h' | h'
      · exact d6.2 h'
      · have := lt_of_aget d1; omega
    · obtain ⟨c, e, fr, d1, d2, d3, d4, d5, d6⟩ := hic.blk _ Bc hBc
      refine ⟨c, e, fr, by rw [hφ2 id hge]; exact d1, d2, by simp only [shiftB, shiftL_eq, List.length_map]; exact d3, ?_, ?_, by rw [hφ2 id hge]; exact d6⟩
      · simp only [shiftB]
        have hl : (shiftL H.length Bc.cells).length = Bc.cells.length := by rw [shiftL_eq, List.length_map]
        rw [hl]
        exact (hshift (SizeOf.sizeOf Bc.cells)).2 _ (Nat.le_refl _) _ d4
      · simp only [shiftB, shiftL_eq, List.all_map]
        rw [List.all_eq_true] at d5 ⊢
        intro x hx
        simp only [Function.comp, shift_isCell]
        exact d5 x hx
  · rcases join_get hBi with ⟨hi1, hBi'⟩ | ⟨hi1, Bci, hBci, rfl⟩ <;> rcases join_get hBj with ⟨hj1, hBj'⟩ | ⟨hj1, Bcj, hBcj, rfl⟩
    · rw [hφ1 i hi1, hφ1 j hj1] at he; exact hi.inj i j Bi Bj hBi' hBj' fi fj he
    · rw [hφ1 i hi1, hφ2 j hj1] at he; have := hold i Bi hBi'; have := hnew _ _ hBcj; omega
    · rw [hφ2 i hi1, hφ1 j hj1] at he; have := hold j Bj hBj'; have := hnew _ _ hBci; omega
    · rw [hφ2 i hi1, hφ2 j hj1] at he
      have := hic.inj _ _ Bci Bcj hBci hBcj fi fj he
      omega
end Go.Ev
set_option linter.unusedVariables false
set_option linter.unusedSimpArgs false
namespace Go.Ev
open Go.RowKit
variable {g : G} {w : World} {H : List ABlk} {C : Cfg} {call : CallE}

structure CfgOK (C : Cfg) : Prop where
  fn : ∀ f, C.md f < 9 → C.md f ≠ 6 → ∃ fn, C.P.funcs[f]? = some fn ∧ (fn.name == "runtime.NumGoroutine") = false ∧ fn.body.isSome = true
  ora : OraOK C
  nz : ∀ f, C.md f = 6 → ∃ fn e t, C.P.funcs[f]? = some fn ∧ (fn.name == "runtime.NumGoroutine") = false ∧ fn.body = none ∧ (Extern.findNext fn).isNone = true ∧ Extern.find fn = some (Extern.BytealgMakeNoZero.makeNoZero fn.params fn.resultTypes) ∧ fn.resultTypes = #[t] ∧ C.P.underlying t = some (.slice e)
  mixed : C.P.follows .mixedOrders = true

theorem mapO_opv {t : List AV} {a : Act} (ht : repLA g w H t a.tmps.toList) : ∀ {os : List Operand} {xs : List AV}, mapO (opv t) os = some xs → repLA g w H xs (os.map a.eval)
  | [], xs, h => by simp [mapO] at h; subst h; simp [repLA]
  | o :: os, xs, h => by
    simp only [mapO] at h
    cases ho : opv t o with
    | none => rw [ho] at h; cases h
    | some y =>
      rw [ho] at h
      simp only at h
      split at h
      · cases h
      · rename_i ys hys
        cases h
        exact ⟨opv_rep ht ho, mapO_opv ht hys⟩
theorem frz_false {H : List ABlk} : ∀ (k : Nat) (a : AV) (x : PV), frz true H k a = some x → frz false H k a = some x := by
  intro k
  induction k with
  | zero => intro a x h; cases a <;> simp only [frz] at h ⊢ <;> first | exact h | cases h
  | succ k ih =>
    intro a x h
    have lst : ∀ (cs : List AV) (xs : List PV), mapO (frz true H k) cs = some xs → mapO (frz false H k) cs = some xs := fun cs xs h1 => mapO_mono h1 fun c hc y hy => ih c y hy
    cases a with
    | p y => simp only [frz] at h ⊢; exact h
    | ms id ver off n sz =>
      simp only [frz] at h ⊢
      cases hB : H[id]? with
      | none => rw [hB] at h; cases h
      | some B =>
        rw [hB] at h
        simp only at h ⊢
        split at h
        · rename_i hc
          rw [if_pos ⟨hc.1, hc.2.1, .inl trivial⟩]
          cases hm : mapO (frz true H k) ((B.cells.drop off).take (n * sz)) with
          | none => rw [hm] at h; cases h
          | some cs => rw [hm] at h; rw [lst _ cs hm]; exact h
        · cases h
    | pt => simp [frz] at h
    | ip => simp [frz] at h
    | fn f a b =>
      simp only [frz] at h ⊢
      cases h1 : mapO (frz true H k) a with
      | none => rw [h1] at h; cases h
      | some xs => cases h2 : mapO (frz true H k) b with
        | none => rw [h1, h2] at h; cases h
        | some ys => rw [h1, h2] at h; rw [lst _ xs h1, lst _ ys h2]; exact h
    | agg cs =>
      simp only [frz] at h ⊢
      cases h1 : mapO (frz true H k) cs with
      | none => rw [h1] at h; cases h
      | some xs => rw [h1] at h; rw [lst _ xs h1]; exact h
    | tup cs =>
      simp only [frz] at h ⊢
      cases h1 : mapO (frz true H k) cs with
      | none => rw [h1] at h; cases h
      | some xs => rw [h1] at h; rw [lst _ xs h1]; exact h
theorem scalar_rep_all {F F' : Nat → Prop} {w w' : World} : ∀ n, (∀ x : PV, SizeOf.sizeOf x ≤ n → scalar x = true → ∀ v, rep F w x v → rep F' w' x v) ∧ (∀ xs : List PV, SizeOf.sizeOf xs ≤ n → scalarL xs = true → ∀ vs, repL F w xs vs → repL F' w' xs vs) := by
  intro n
  induction n with
  | zero =>
    refine ⟨fun x hx => ?_, fun xs hx => ?_⟩
    · cases x <;> simp at hx <;> omega
    · cases xs <;> simp at hx
  | succ n ih =>
    obtain ⟨ih1, ih2⟩ := ih
    refine ⟨fun x hx hs v h => ?_, fun xs hx hs vs h => ?_⟩
    · cases x with
      | sl m y cs =>
        simp only [scalar, List.isEmpty_iff] at hs
        subst hs
        simp only [rep] at h ⊢
        obtain ⟨A, cap, rfl, h1, h2, h3, _⟩ := h
        exact ⟨A, cap, rfl, h1, h2, h3, .inl trivial⟩
      | fn => simp [scalar] at hs
      | agg cs =>
        simp at hx
        simp only [scalar] at hs
        simp only [rep] at h ⊢
        obtain ⟨vs, rfl, hr⟩ := h
        exact ⟨vs, rfl, ih2 cs (by omega) hs _ hr⟩
      | tup cs =>
        simp at hx
        simp only [scalar] at hs
        simp only [rep] at h ⊢
        obtain ⟨vs, rfl, hr⟩ := h
        exact ⟨vs, rfl, ih2 cs (by omega) hs _ hr⟩
      | _ => first | (simp only [rep] at h ⊢; done) | (simp only [rep] at h ⊢; exact h)
    · match xs, vs, h with
      | [], [], _ => simp [repL]
      | x :: xs, v :: vs, h =>
        simp at hx
        simp only [scalarL, Bool.and_eq_true] at hs
        simp only [repL] at h ⊢
        exact ⟨ih1 x (by omega) hs.1 v h.1, ih2 xs (by omega) hs.2 vs h.2⟩
theorem scalar_rep {F F' : Nat → Prop} {w w' : World} {x : PV} (hs : scalar x = true) {v : Value} (h : rep F w x v) : rep F' w' x v := (scalar_rep_all (SizeOf.sizeOf x)).1 x (Nat.le_refl _) hs v h

theorem repA_own_all {F F' : Nat → Prop} {φ : Nat → Nat} {w : World} {H : List ABlk} : ∀ n, (∀ x : AV, SizeOf.sizeOf x ≤ n → ownA x = true → ∀ v, repA ⟨F, φ⟩ w H x v → repA ⟨F', φ⟩ w H x v) ∧ (∀ xs : List AV, SizeOf.sizeOf xs ≤ n → ownL xs = true → ∀ vs, repLA ⟨F, φ⟩ w H xs vs → repLA ⟨F', φ⟩ w H xs vs) := by
  intro n
  induction n with
  | zero =>
    refine ⟨fun x hx => ?_, fun xs hx => ?_⟩
    · cases x <;> simp at hx <;> omega
    · cases xs <;> simp at hx
  | succ n ih =>
    obtain ⟨ih1, ih2⟩ := ih
    refine ⟨fun x hx hs v h => ?_, fun xs hx hs vs h => ?_⟩
    · cases x with
      | p x => simp only [ownA] at hs; simp only [repA] at h ⊢; exact scalar_rep hs h
      | ms => simp only [repA] at h ⊢; exact h
      | pt => simp only [repA] at h ⊢; exact h
      | ip => simp [ownA] at hs
      | fn => simp [ownA] at hs
      | agg cs =>
        simp at hx
        simp only [ownA] at hs
        simp only [repA] at h ⊢
        obtain ⟨vs, rfl, hr⟩ := h
        exact ⟨vs, rfl, ih2 cs (by omega) hs _ hr⟩
      | tup cs =>
        simp at hx
        simp only [ownA] at hs
        simp only [repA] at h ⊢
        obtain ⟨vs, rfl, hr⟩ := h
        exact ⟨vs, rfl, ih2 cs (by omega) hs _ hr⟩
    · match xs, vs, h with
      | [], [], _ => simp [repLA]
      | x :: xs, v :: vs, h =>
        simp at hx
        simp only [ownL, Bool.and_eq_true] at hs
        simp only [repLA] at h ⊢
        exact ⟨ih1 x (by omega) hs.1 v h.1, ih2 xs (by omega) hs.2 vs h.2⟩
/-- An answer that names blocks of its own alone does not hang on what it was handed. -/
theorem own_drop {F F1 : Nat → Prop} {gc' : G} {w w' : World} {Hc : List ABlk} (hsub : ∀ b, F b → F1 b) (hF1 : ∀ b, F b → b < w.heap.size) (j1 : Inv gc' w' Hc) (j2 : Ext ⟨F1, fun _ => 0⟩ w [] gc' w' Hc)
    (hown : (Hc.all fun B => ownL B.cells) = true) :
    ∃ g2 : G, Inv g2 w' Hc ∧ Ext ⟨F, fun _ => 0⟩ w [] g2 w' Hc ∧ ∀ r v, ownA r = true → repA gc' w' Hc r v → repA g2 w' Hc r v := by
  have hnew : ∀ (id : Nat) (B : ABlk), Hc[id]? = some B → w.heap.size ≤ gc'.φ id := fun id B hB => by
    rcases j2.newφ (gc'.φ id) ⟨id, B, hB, rfl⟩ with ⟨id2, B2, h2, _⟩ | h'
    · simp at h2
    · exact h'
  refine ⟨⟨fun b => F b ∨ (gc'.F b ∧ w.heap.size ≤ b), gc'.φ⟩, ⟨fun b hb => ?_, fun id B hB => ?_, j1.inj⟩, ⟨fun b hb => .inl hb, fun b hb => j2.keep b (hsub b hb), fun id B hB => by simp at hB, fun b h1 h2 _ => ?_, j2.size, j2.os, j2.tape, j2.output, fun b hb => hb.imp id fun h => .inl h.2, j2.newφ⟩,
    fun r v hr h => (repA_own_all (SizeOf.sizeOf r)).1 r (Nat.le_refl _) hr v h⟩
  · rcases hb with hb | hb
    · exact Nat.lt_of_lt_of_le (hF1 b hb) j2.size
    · exact j1.F b hb.1
  · obtain ⟨c, e, fr, d1, d2, d3, d4, d5, d6⟩ := j1.blk id B hB
    have ho := List.all_eq_true.1 hown B (List.mem_of_getElem? hB)
    refine ⟨c, e, fr, d1, d2, d3, (repA_own_all (SizeOf.sizeOf B.cells)).2 _ (Nat.le_refl _) ho _ d4, d5, fun hz => .inr ⟨d6.1 hz, hnew id B hB⟩, fun h => ?_⟩
    rcases h with h | h
    · have h1 : gc'.φ id < w.heap.size := hF1 _ h
      have := hnew id B hB; omega
    · exact d6.2 h.1
  · by_cases h : F1 b
    · exact j2.keep b h
    · exact j2.out b h1 h fun ⟨id, B, hB, _⟩ => by simp at hB
/-- What a pure call tells, from whatever marks it is called. -/
theorem tell_sound {f : FuncId} {ok st : Bool} {args : List AV} {xs : List PV} {x : PV} {r : AV} {H' H1 : List ABlk} {argv : Array Value} (hi : Inv g w H) (ha : repLA g w H args argv.toList)
    (hxs : mapO (frz false H deep) args = some xs) (hok : ok = (!st || (mapO (frz true H deep) args).isSome)) (hH1 : H1 = (if st then H else mark (args.flatMap (ids H deep)) H))
    (ht : tell ok H H1 x = some (r, H')) (hcall : ∀ F, (∀ b, F b → b < w.heap.size) → repL F w xs argv.toList → Calls C.P f argv w (OraPost F w x)) : Calls C.P f argv w (CallPost g w H r H') := by
  have hu := fzUp_mark (args.flatMap (ids H deep)) H
  have hmx : repL (gFz g (mark (args.flatMap (ids H deep)) H)).F w xs argv.toList := by
    refine frzL_rep (fz_inv hi hu) (as := args) ?_ (repLA_mono (fz_ext hi hu) ha)
    exact mapO_mono hxs fun a ha1 y hy => frz_strict hu _ _ _ hy fun id hid B' hB' => mark_fz _ _ _ _ (List.mem_flatMap.2 ⟨a, ha1, hid⟩) hB'
  unfold tell at ht
  split at ht
  · rename_i hs
    cases ht
    refine (hcall _ (fz_inv hi hu).F hmx).mono ?_
    rintro e w' ⟨v, F', rfl, hp, hr⟩
    have hp2 : PExt g.F w g.F w' := ⟨fun _ h => h, hp.old, hp.size, hp.os, hp.tape, hp.output, fun _ h => .inl h, fun b hb => Nat.lt_of_lt_of_le (hi.F b hb) hp.size⟩
    exact ⟨v, ⟨g.F, g.φ⟩, rfl, hp2.inv hi, hp2.ext hi, by simp only [repA]; exact scalar_rep hs hr⟩
  · split at ht
    · rename_i hk
      cases ht
      cases st with
      | false =>
        simp only [Bool.false_eq_true, if_false] at hH1
        subst hH1
        refine (hcall _ (fz_inv hi hu).F hmx).mono ?_
        rintro e w' ⟨v, F', rfl, hp, hr⟩
        exact ⟨v, ⟨F', (gFz g (mark (args.flatMap (ids H deep)) H)).φ⟩, rfl, hp.inv (fz_inv hi hu), (fz_ext hi hu).trans (hp.ext (fz_inv hi hu)), by simp only [repA]; exact hr⟩
      | true =>
        simp only [if_true] at hH1
        rw [hk] at hok
        simp only [Bool.not_true, Bool.false_or] at hok
        cases hys : mapO (frz true H deep) args with
        | none => rw [hys] at hok; cases hok
        | some ys =>
          have : ys = xs := by
            have := mapO_mono (f' := frz false H deep) hys fun a _ y hy => frz_false _ _ _ hy
            rw [hxs] at this; cases this; rfl
          subst this
          refine (hcall _ hi.F (frzL_rep hi hys ha)).mono ?_
          rintro e w' ⟨v, F', rfl, hp, hr⟩
          rw [hH1]
          exact ⟨v, ⟨F', g.φ⟩, rfl, hp.inv hi, hp.ext hi, by simp only [repA]; exact hr⟩
    · cases ht
theorem evCall_sound (hC : CfgOK C) (hcall : CallOK C call) {st : Bool} {f : FuncId} {args : List AV} {r : AV} {H' : List ABlk} {argv : Array Value} (hi : Inv g w H) (ha : repLA g w H args argv.toList) (h : evCall C call st f args H = some (r, H')) :
    C.md f < 9 ∧ Calls C.P f argv w (CallPost g w H r H') := by
  unfold evCall at h
  split at h
  · cases h
  rename_i h9
  refine ⟨by omega, ?_⟩
  split at h
  · exact hcall f args H r H' h g w argv hi ha
  split at h
  · split at h
    · exact hcall f args H r H' h g w argv hi ha
    · cases h
  rename_i xs hxs
  simp only at h
  obtain ⟨ok, hok⟩ : ∃ ok, ok = (!st || (mapO (frz true H deep) args).isSome) := ⟨_, rfl⟩
  obtain ⟨H1, hH1⟩ : ∃ H1, H1 = (if st = true then H else mark (args.flatMap (ids H deep)) H) := ⟨_, rfl⟩
  rw [← hok, ← hH1] at h
  have ic : ∀ F : Nat → Prop, (∀ b, F b → b < w.heap.size) → Inv ⟨F, fun _ => 0⟩ w [] := fun F hF => ⟨hF, fun id B hB => by simp at hB, fun i j Bi Bj hBi => by simp at hBi⟩
  split at h
  · rename_i q hq
    exact tell_sound hi ha hxs hok hH1 h fun F hF hr => hC.ora f xs q hq F w argv hF hr
  · split at h
    · rename_i hemp
      obtain ⟨x0, hx0⟩ : ∃ x0, xs = [.sl 0 x0 []] := by
        have := hemp.2
        unfold empty1 at this
        split at this
        · exact ⟨_, rfl⟩
        · cases this
      split at h
      · rename_i q1 H1' q2 H2' h1 h2
        split at h
        · rename_i hE
          refine tell_sound hi ha hxs hok hH1 h fun F hF hr => ?_
          subst hx0
          have hav : ∃ v, argv.toList = [v] ∧ rep F w (.sl 0 x0 []) v := by
            generalize argv.toList = l at hr
            match l, hr with
            | [v], hr => simp only [repL, and_true] at hr; exact ⟨v, rfl, hr⟩
            | [], hr => simp [repL] at hr
            | _ :: _ :: _, hr => simp [repL] at hr
          obtain ⟨v, hv, hvr⟩ := hav
          simp only [rep] at hvr
          obtain ⟨A, cap, rfl, _, _, hA, _⟩ := hvr
          have key : ∀ (b : Bool) (q : AV) (Hq : List ABlk), A.isNone = b → call f [.p (.nsl b)] [] = some (q, Hq) → isE0 q = true → Calls C.P f argv w (OraPost F w (.sl 0 true [])) := by
            intro b q Hq hb hq hE0
            have hcc := hcall f _ [] q Hq hq ⟨F, fun _ => 0⟩ w argv (ic F hF) (by rw [hv]; simp only [repLA, repA, rep, and_true]; exact ⟨A, cap, rfl, hA, hb⟩)
            refine hcc.mono ?_
            rintro e w' ⟨v, gc', rfl, j1, j2, j3⟩
            have hp := PExt.of_ext j1 j2
            refine ⟨v, gc'.F, rfl, hp, ?_⟩
            unfold isE0 at hE0
            split at hE0
            · simp only [repA, rep] at j3 ⊢
              obtain ⟨A', cap', rfl, h0, hn⟩ := j3
              have : A' = none := by cases A' <;> simp at hn; rfl
              have := h0 this
              exact ⟨A', cap', rfl, by omega, fun _ => this, h0, .inl trivial⟩
            · simp only [repA, rep] at j3 ⊢
              obtain ⟨A', cap', rfl, _, h1, h0, _⟩ := j3
              have := h1 trivial
              exact ⟨A', cap', rfl, by omega, fun _ => this, h0, .inl trivial⟩
            · cases hE0
          cases hn : A.isNone with
          | true => exact key true q1 H1' hn h1 hE.1
          | false => exact key false q2 H2' hn h2 hE.2
        · cases h
      · cases h
    split at h
    · cases h
    rename_i rr Hc hrr
    split at h
    · split at h
      · rename_i hown
        cases h
        simp only [Bool.and_eq_true] at hown
        have hu := fzUp_mark (args.flatMap (ids H deep)) H
        have hmx : repL (gFz g (mark (args.flatMap (ids H deep)) H)).F w xs argv.toList := by
          refine frzL_rep (fz_inv hi hu) (as := args) ?_ (repLA_mono (fz_ext hi hu) ha)
          exact mapO_mono hxs fun a ha1 y hy => frz_strict hu _ _ _ hy fun id hid B' hB' => mark_fz _ _ _ _ (List.mem_flatMap.2 ⟨a, ha1, hid⟩) hB'
        have hcc := hcall f _ [] rr Hc hrr ⟨(gFz g (mark (args.flatMap (ids H deep)) H)).F, fun _ => 0⟩ w argv (ic _ (fz_inv hi hu).F) (repLA_map.2 hmx)
        refine hcc.mono ?_
        rintro e w' ⟨v, gc', rfl, j1, j2, j3⟩
        obtain ⟨g2, l1, l2, l3⟩ := own_drop (F := g.F) (fz_ext hi hu).F hi.F j1 j2 hown.2
        obtain ⟨k1, k2, k3⟩ := join_ok hi l1 l2
        exact ⟨v, _, rfl, k1, k2, k3 _ _ (l3 _ _ hown.1 j3)⟩
      split at h
      · rename_i hk
        cases h
        -- the marks under which it is called
        have hmk : ∃ g1, Inv g1 w H1 ∧ Ext g w H g1 w H1 ∧ repL g1.F w xs argv.toList := by
          cases st with
          | true =>
            simp only [if_true] at hH1
            rw [hk] at hok
            simp only [Bool.not_true, Bool.false_or] at hok
            cases hys : mapO (frz true H deep) args with
            | none => rw [hys] at hok; cases hok
            | some ys =>
              have : ys = xs := by
                have := mapO_mono (f' := frz false H deep) hys fun a _ y hy => frz_false _ _ _ hy
                rw [hxs] at this; cases this; rfl
              subst this
              rw [hH1]
              exact ⟨g, hi, Ext.refl _ _ _, frzL_rep hi hys ha⟩
          | false =>
            simp only [Bool.false_eq_true, if_false] at hH1; subst hH1
            have hu := fzUp_mark (args.flatMap (ids H deep)) H
            refine ⟨_, fz_inv hi hu, fz_ext hi hu, frzL_rep (fz_inv hi hu) (as := args) ?_ (repLA_mono (fz_ext hi hu) ha)⟩
            exact mapO_mono hxs fun a ha1 y hy => frz_strict hu _ _ _ hy fun id hid B' hB' => mark_fz _ _ _ _ (List.mem_flatMap.2 ⟨a, ha1, hid⟩) hB'
        obtain ⟨g1, i1, e1, r1⟩ := hmk
        have hcc := hcall f _ [] rr Hc hrr ⟨g1.F, fun _ => 0⟩ w argv (ic _ i1.F) (repLA_map.2 r1)
        refine hcc.mono ?_
        rintro e w' ⟨v, gc', rfl, j1, j2, j3⟩
        obtain ⟨k1, k2, k3⟩ := join_ok i1 j1 j2
        exact ⟨v, _, rfl, k1, e1.trans k2, k3 _ _ j3⟩
      · cases h
    · split at h
      · rename_i x hx
        refine tell_sound hi ha hxs hok hH1 h fun F hF hr => ?_
        have hcc := hcall f _ [] rr Hc hrr ⟨F, fun _ => 0⟩ w argv (ic F hF) (repLA_map.2 hr)
        refine hcc.mono ?_
        rintro e w' ⟨v, gc', rfl, j1, j2, j3⟩
        have hu := fzUp_mark (ids Hc deep rr) Hc
        have jf := fz_inv j1 hu
        have je := fz_ext j1 hu
        have hr := frz_rep jf _ _ _ _ (frz_strict hu _ _ _ hx fun id hid B' hB' => mark_fz _ _ _ _ hid hB') (repA_mono je j3)
        exact ⟨v, _, rfl, PExt.of_ext jf (j2.trans je), hr⟩
      · cases h
theorem calleeOf_rep {x : AV} {f : FuncId} {as bs : List AV} {v : Value} (h : calleeOf x = some (f, as, bs)) (hx : repA g w H x v) : ∃ a b, v = .func (.func f) a b ∧ repLA g w H as a.toList ∧ repLA g w H bs b.toList := by
  unfold calleeOf at h
  split at h
  · cases h
    simp only [repA, rep] at hx
    obtain ⟨a, b, rfl, h1, h2⟩ := hx
    exact ⟨a, b, rfl, repLA_map.2 h1, repLA_map.2 h2⟩
  · cases h
    simp only [repA] at hx
    obtain ⟨a, b, rfl, h1, h2⟩ := hx
    exact ⟨a, b, rfl, h1, h2⟩
  · cases h
theorem optO_rep {t : List AV} {a : Act} (ht : repLA g w H t a.tmps.toList) {o : Option Operand} {x : Option AV} (h : optO (opv t) o = some x) : optR g w H x (o.map a.eval) := by
  cases o with
  | none => simp [optO] at h; subst h; simp [optR]
  | some o =>
    simp only [optO] at h
    split at h
    · rename_i y hy; cases h; simp only [Option.map_some, optR]; exact opv_rep ht hy
    · cases h
section
variable {P : Program} {o : Oper} {a : Act} {K : Act → World → Prop} {Q : Exit → Act → World → Prop}
theorem goes_value {m : Sem Value} {v : Value} {w' : World} (h : m.run P w = .ok v w') (hk : K (a.put o.dst v) w') : o.upon P a K Q ((do pure (.value (← m)) : Sem Next).run P w) := by
  simp only [Sem.run_bind, h, Result.andThen_ok, Sem.run_pure]
  exact hk
end
theorem ret1_some {H H' : List ABlk} {x : AV} {m : Option AV} (h : ret1 H m = some (x, H')) : m = some x ∧ H' = H := by
  unfold ret1 at h
  split at h
  · cases h; exact ⟨rfl, rfl⟩
  · cases h
/-- An operation that only tells a value. -/
theorem same_value {P : Program} {o : Oper} {a : Act} {K : Act → World → Prop} {Q : Exit → Act → World → Prop} {x : AV} {m : Sem Value} (hi : Inv g w H) (h : ∃ v, m.run P w = .ok v w ∧ repA g w H x v)
    (hK : ∀ v w' g', Inv g' w' H → Ext g w H g' w' H → repA g' w' H x v → K (a.put o.dst v) w') : o.upon P a K Q ((do pure (.value (← m)) : Sem Next).run P w) := by
  obtain ⟨v, h1, h2⟩ := h
  exact goes_value h1 (hK v w g hi (Ext.refl _ _ _) h2)
theorem new_value {P : Program} {o : Oper} {a : Act} {K : Act → World → Prop} {Q : Exit → Act → World → Prop} {x : AV} {H' : List ABlk} {m : Sem Value} (h : ∃ v w' g', m.run P w = .ok v w' ∧ Inv g' w' H' ∧ Ext g w H g' w' H' ∧ repA g' w' H' x v)
    (hK : ∀ v w' g', Inv g' w' H' → Ext g w H g' w' H' → repA g' w' H' x v → K (a.put o.dst v) w') : o.upon P a K Q ((do pure (.value (← m)) : Sem Next).run P w) := by
  obtain ⟨v, w', g', h1, h2, h3, h4⟩ := h
  exact goes_value h1 (hK v w' g' h2 h3 h4)
theorem evBuiltin_run {st : Bool} {b : Builtin} {ats : Array TypeId} {args : List AV} {z : AV} {H' : List ABlk} {argv : Array Value} {ty : TypeId} (hi : Inv g w H) (ha : repLA g w H args argv.toList) (h : evBuiltin C st b ats args H = some (z, H')) :
    ∃ m : Sem Value, (∀ cs, builtin b ats ty cs argv = (do pure (.value (← m)) : Sem Next)) ∧ ∃ v w' g', m.run C.P w = .ok v w' ∧ Inv g' w' H' ∧ Ext g w H g' w' H' ∧ repA g' w' H' z v := by
  unfold evBuiltin at h
  have two : ∀ {x y : AV}, repLA g w H [x, y] argv.toList → ∃ u v, argv = #[u, v] ∧ repA g w H x u ∧ repA g w H y v := by
    intro x y hr
    obtain ⟨l⟩ := argv
    match l, hr with
    | [u, v], hr => simp only [repLA, and_true] at hr; exact ⟨u, v, rfl, hr.1, hr.2⟩
    | [], hr => simp [repLA] at hr
    | [_], hr => simp [repLA] at hr
    | _ :: _ :: _ :: _, hr => simp [repLA] at hr
  have one : ∀ {x : AV}, repLA g w H [x] argv.toList → ∃ u, argv = #[u] ∧ repA g w H x u := by
    intro x hr
    obtain ⟨l⟩ := argv
    match l, hr with
    | [u], hr => simp only [repLA, and_true] at hr; exact ⟨u, rfl, hr⟩
    | [], hr => simp [repLA] at hr
    | _ :: _ :: _, hr => simp [repLA] at hr
  split at h
  · obtain ⟨u, v, rfl, h1, h2⟩ := two ha
    split at h
    · split at h
      · rename_i r hr
        cases h
        exact ⟨_, fun _ => rfl, evAppendS_run hi hr h1 h2⟩
      · cases h
    · exact ⟨_, fun _ => rfl, evAppend_run hi h h1 h2⟩
  · obtain ⟨u, v, rfl, h1, h2⟩ := two ha
    obtain ⟨r, w', k1, k2, k3, k4⟩ := evCopy_run (ty := ty) hi h h1 h2
    exact ⟨_, fun _ => rfl, r, w', g, k1, k2, k3, k4⟩
  · obtain ⟨u, rfl, h1⟩ := one ha
    split at h
    · rename_i r hr
      cases h
      obtain ⟨q, k1, k2⟩ := evLen_run (ty := ty) hr h1
      exact ⟨_, fun _ => rfl, q, w, g, k1, hi, Ext.refl _ _ _, by simp only [repA]; exact k2⟩
    · cases h
  · obtain ⟨u, v, rfl, h1, h2⟩ := two ha
    split at h
    · rename_i r hr
      cases h
      obtain ⟨q, k1, k2⟩ := max2_run (P := C.P) (ats := ats) (ty := ty) hr h1 h2
      exact ⟨_, fun _ => rfl, q, w, g, k1, hi, Ext.refl _ _ _, k2⟩
    · cases h
  · obtain ⟨u, v, rfl, h1, h2⟩ := two ha
    split at h
    · rename_i r hr
      cases h
      obtain ⟨q, k1, k2⟩ := min2_run (P := C.P) (ats := ats) (ty := ty) hr h1 h2
      exact ⟨_, fun _ => rfl, q, w, g, k1, hi, Ext.refl _ _ _, k2⟩
    · cases h
  · cases h

theorem digits_get : ∀ (n t : Nat) (acc : Array Value) (i : Nat), i < acc.size + n → (∀ j, j < acc.size → ∃ k, acc[j]? = some (.int .u8 k)) → ∃ k, (Extern.BytealgMakeNoZero.digits n t acc)[i]? = some (.int .u8 k)
  | 0, t, acc, i, hi, h => h i (by simpa using hi)
  | n + 1, t, acc, i, hi, h => by
    simp only [Extern.BytealgMakeNoZero.digits]
    refine digits_get n _ _ i (by simp; omega) fun j hj => ?_
    rw [Array.getElem?_push]
    split
    · exact ⟨_, rfl⟩
    · rename_i hne; simp at hj; exact h j (by omega)
theorem noZero_run {P : Program} (w : World) (ps : Array TypeId) (t e : TypeId) (ht : P.underlying t = some (.slice e)) (n : Nat) (hn : n ≤ 281474976710656) :
    ∃ (cs : Array Value) (k : Nat), (Extern.BytealgMakeNoZero.makeNoZero ps #[t] #[.int .i64 n]).run P w = .ok (.slice (some ⟨w.heap.size, 0, none⟩) n cs.size) (pushB { w with drawn := k } (.cells cs e)) ∧ n ≤ cs.size ∧ ∀ i, i < cs.size → ∃ k, cs[i]? = some (.int .u8 k) := by
  have hdef : Extern.BytealgMakeNoZero.makeNoZero ps #[t] #[.int .i64 n] =
      (do
        let .slice elem ← underlying t | stuck "bytealg.MakeNoZero: slice type expected"
        if (n : Int) < 0 || (n : Int) > 2 ^ 48 then runtimePanic (.error "makeslice: len out of range")
        let cap ← choose (.appendCap (n : Int).toNat 0 elem)
        askRoom cap
        let bytes ← choose (.extern "internal/bytealg.MakeNoZero.bytes" 0)
        let a ← newRow elem (Extern.BytealgMakeNoZero.digits cap bytes #[])
        pure (.slice (some a) (n : Int).toNat cap)) := rfl
  have hforce : (Question.appendCap n 0 e).forced = false := rfl
  have hforce2 : (Question.extern "internal/bytealg.MakeNoZero.bytes" 0).forced = false := rfl
  obtain ⟨cap, hcap, hge⟩ : ∃ q, (Question.appendCap n 0 e).cut (w.tape w.drawn (.appendCap n 0 e)) = q ∧ n ≤ q := ⟨_, rfl, by simp only [Question.cut]; omega⟩
  obtain ⟨bt, hbt⟩ : ∃ q, (Question.extern "internal/bytealg.MakeNoZero.bytes" 0).cut (w.tape (w.drawn + 1) (.extern "internal/bytealg.MakeNoZero.bytes" 0)) = q := ⟨_, rfl⟩
  have hsz : (Extern.BytealgMakeNoZero.digits cap bt #[]).size = cap := by rw [Lib.size_digits]; simp
  refine ⟨Extern.BytealgMakeNoZero.digits cap bt #[], w.drawn + 1 + 1, ?_, by rw [hsz]; exact hge, fun i hi => digits_get cap bt #[] i (by rw [hsz] at hi; simpa using hi) (by simp)⟩
  rw [hdef, hsz]
  simp only [Sem.run_bind, run_underlying ht, Result.andThen_ok]
  rw [if_neg (by simp; omega)]
  simp only [Sem.run_bind, Sem.run_pure, run_choose, Int.toNat_natCast, hforce, hforce2, Bool.false_eq_true, if_false, Result.andThen_ok, hcap, hbt, run_askRoom, newRow, run_newObj]
  rfl
theorem evOp_sound (hC : CfgOK C) (hcall : CallOK C call) {st : Bool} {t : List AV} {a : Act} {o : Oper} {x : AV} {H' : List ABlk} (hi : Inv g w H) (ht : repLA g w H t a.tmps.toList) (h : evOp C call st (opv t) H o = some (x, H'))
    (K : Act → World → Prop) (Q : Exit → Act → World → Prop) (hK : ∀ v w' g', Inv g' w' H' → Ext g w H g' w' H' → repA g' w' H' x v → K (a.put o.dst v) w') : o.wp C.P a w K Q := by
  obtain ⟨dst, op, type, pos, after, guard⟩ := o
  have E := fun o x => opv_rep (g := g) (w := w) (H := H) (t := t) (a := a) ht (o := o) (x := x)
  unfold Oper.wp
  cases op <;> simp only [evOp] at h <;> try (cases h; done)
  case move y =>
    obtain ⟨h1, rfl⟩ := ret1_some h
    exact hK _ w g hi (Ext.refl _ _ _) (E _ _ h1)
  case assign y =>
    obtain ⟨h1, rfl⟩ := ret1_some h
    exact hK _ w g hi (Ext.refl _ _ _) (E _ _ h1)
  case pick c y z =>
    split at h
    · rename_i b u v h1 h2 h3
      cases h
      have hc := E _ _ h1
      simp only [repA, rep] at hc
      simp only [execOp, hc, asBool, Sem.run_bind, Sem.run_pure, Result.andThen_ok]
      refine hK _ w g hi (Ext.refl _ _ _) ?_
      cases b
      · exact E _ _ h3
      · exact E _ _ h2
    · cases h
  case alloc e =>
    split at h
    · rename_i z hz
      cases h
      exact new_value (evAlloc_run hi hz) hK
    · cases h
  case box e y =>
    split at h
    · cases h
    rename_i u hu
    split at h
    · rename_i cs hcs
      cases h
      exact new_value (evBox_run hi (E _ _ hu) hcs) hK
    · cases h
  case build t ps =>
    split at h
    · cases h
    rename_i qs hqs
    obtain ⟨h1, rfl⟩ := ret1_some h
    exact same_value hi (evBuild_run h1 (parts_rep E hqs)) hK
  case buildSlice t n ps =>
    split at h
    · cases h
    rename_i qs hqs
    exact new_value (evBuildSlice_run hi h (parts_rep E hqs)) hK
  case load t y =>
    split at h
    · cases h
    rename_i u hu
    obtain ⟨h1, rfl⟩ := ret1_some h
    exact same_value hi (evLoad_run hi h1 (E _ _ hu)) hK
  case store t y z =>
    split at h
    · rename_i u v hu hv
      split at h
      · rename_i H2 h2
        cases h
        obtain ⟨w', k1, k2, k3⟩ := evStore_run (P := C.P) hi h2 (E _ _ hu) (E _ _ hv)
        simp only [execOp, Sem.run_bind, k1, Result.andThen_ok, Sem.run_pure]
        exact hK _ w' g k2 k3 (by simp [repA, rep])
      · cases h
    · cases h
  case nilCheck y =>
    split at h
    · cases h
    rename_i u hu
    obtain ⟨h1, rfl⟩ := ret1_some h
    have hr := E _ _ hu
    unfold evNilCheck at h1
    split at h1
    · cases h1
      have hr' := hr
      simp only [repA] at hr'
      obtain ⟨A, hA, _⟩ := hr'
      simp only [execOp, hA, Sem.run_pure]
      exact hK _ w g hi (Ext.refl _ _ _) (by rw [hA] at hr; exact hr)
    · cases h1
      have hr' := hr
      simp only [repA] at hr'
      obtain ⟨b, off, hA, _⟩ := hr'
      simp only [execOp, hA, Sem.run_pure]
      exact hK _ w g hi (Ext.refl _ _ _) (by rw [hA] at hr; exact hr)
    · cases h1
      have hr' := hr
      simp only [repA, rep] at hr'
      obtain ⟨as, bs, hA, _⟩ := hr'
      simp only [execOp, hA, Sem.run_pure]
      exact hK _ w g hi (Ext.refl _ _ _) (by rw [hA] at hr; exact hr)
    · cases h1
      have hr' := hr
      simp only [repA] at hr'
      obtain ⟨as, bs, hA, _⟩ := hr'
      simp only [execOp, hA, Sem.run_pure]
      exact hK _ w g hi (Ext.refl _ _ _) (by rw [hA] at hr; exact hr)
    · cases h1
  case binOp op t y z yt =>
    split at h
    · rename_i u v hu hv
      obtain ⟨h1, rfl⟩ := ret1_some h
      exact same_value hi (evBin_run y z h1 (E _ _ hu) (E _ _ hv)) hK
    · cases h
  case unOp op t y =>
    split at h
    · rename_i u hu
      obtain ⟨h1, rfl⟩ := ret1_some h
      exact same_value hi (evUn_run h1 (E _ _ hu)) hK
    · cases h
  case convert s d y =>
    split at h
    · rename_i u hu
      exact new_value (evConv_run hi h (E _ _ hu)) hK
    · cases h
  case makeFunc f y z =>
    split at h
    · rename_i xs ys hx hy
      cases h
      refine hK (.func f (y.map a.eval) (z.map a.eval)) w g hi (Ext.refl _ _ _) (mkFn_rep ?_ ?_)
      · rw [Array.toList_map]; exact mapO_opv ht hx
      · rw [Array.toList_map]; exact mapO_opv ht hy
    · cases h
  case makeSlice t l c =>
    split at h
    · rename_i u v hu hv
      exact new_value (evMakeSlice_run hi h (E _ _ hu) (E _ _ hv)) hK
    · cases h
  case slice t y lo hh mx =>
    split at h
    · rename_i u l m n hu hl hm hn
      obtain ⟨h1, rfl⟩ := ret1_some h
      exact same_value hi (evSlice_run h1 (E _ _ hu) (optO_rep ht hl) (optO_rep ht hm) (optO_rep ht hn)) hK
    · cases h
  case fieldAddr s y i =>
    split at h
    · rename_i u hu
      obtain ⟨h1, rfl⟩ := ret1_some h
      exact same_value hi (evFieldAddr_run h1 (E _ _ hu)) hK
    · cases h
  case field s y i =>
    split at h
    · rename_i u hu
      obtain ⟨h1, rfl⟩ := ret1_some h
      exact same_value hi (evField_run h1 (E _ _ hu)) hK
    · cases h
  case indexAddr t y i =>
    split at h
    · rename_i u v hu hv
      obtain ⟨h1, rfl⟩ := ret1_some h
      exact same_value hi (evIndexAddr_run h1 (E _ _ hu) (E _ _ hv)) hK
    · cases h
  case index t y i =>
    split at h
    · rename_i u v hu hv
      obtain ⟨h1, rfl⟩ := ret1_some h
      exact same_value hi (evIndex_run h1 (E _ _ hu) (E _ _ hv)) hK
    · cases h
  case extract y i =>
    split at h
    · rename_i u hu
      obtain ⟨h1, rfl⟩ := ret1_some h
      exact same_value hi (evExtract_run h1 (E _ _ hu)) hK
    · cases h
  case call c =>
    obtain ⟨callee, cargs, cats⟩ := c
    split at h
    · cases h
    rename_i args hargs
    have hra : repLA g w H args (cargs.map a.eval).toList := by rw [Array.toList_map]; exact mapO_opv ht hargs
    split at h
    · rename_i b hb
      simp only at hb; subst hb
      obtain ⟨m, hm, hv⟩ := evBuiltin_run (ty := type) hi hra h
      simp only [execOp, resolve, Sem.run_bind, Sem.run_pure, Result.andThen_ok, invoke, hm]
      have := new_value (P := C.P) (o := ⟨dst, .call ⟨.builtin b, cargs, cats⟩, type, pos, after, guard⟩) (a := a) (K := K) (Q := Q) hv hK
      simpa only [Sem.run_bind, Sem.run_pure] using this
    · rename_i f hf
      simp only at hf; subst hf
      split at h
      · cases h
      rename_i gv hg
      split at h
      · cases h
      rename_i k as bs hk
      obtain ⟨av, bv, hav, ra, rb⟩ := calleeOf_rep hk (E _ _ hg)
      have hall : repLA g w H (as ++ args ++ bs) (av ++ cargs.map a.eval ++ bv).toList := by
        simp only [Array.toList_append]
        exact repLA_append (repLA_append ra hra) rb
      split at h
      · rename_i h6
        obtain ⟨fn, e, ty, hfn, hnm, hbody, hnx, hfd, hrt, hty⟩ := hC.nz k h6
        unfold evNoZero at h
        split at h
        case h_2 => cases h
        case h_1 n hargs2 =>
        split at h
        case isFalse => cases h
        case isTrue hcn =>
        cases h
        have hav2 : av ++ cargs.map a.eval ++ bv = #[.int .i64 n] := by
          generalize hq : av ++ cargs.map a.eval ++ bv = q at hall
          rw [hargs2] at hall
          obtain ⟨l⟩ := q
          match l, hall with
          | [u], hall => simp only [repLA, repA, rep, and_true] at hall; rw [hall]
          | [], hall => simp [repLA] at hall
          | _ :: _ :: _, hall => simp [repLA] at hall
        obtain ⟨m, rfl⟩ := Int.eq_ofNat_of_zero_le hcn.2.1
        obtain ⟨cs, dk, hrun, hsz, hcell⟩ := noZero_run (P := C.P) w fn.params ty e hty m (by omega)
        simp only [Int.toNat_natCast] at hK
        have hrun2 : (execOp a.eval ⟨dst, .call ⟨.value f, cargs, cats⟩, type, pos, after, guard⟩).run C.P w = .ok (.value (.slice (some ⟨w.heap.size, 0, none⟩) m cs.size)) (pushB { w with drawn := dk } (.cells cs e)) := by
          have hnx2 : Extern.findNext fn = none := by cases hq : Extern.findNext fn with
            | none => rfl
            | some _ => rw [hq] at hnx; cases hnx
          simp only [execOp, resolve, hav, Deferred.ofValue, Sem.run_bind, Sem.run_pure, Result.andThen_ok, invoke, callFunc, run_program, hfn, hnm, Bool.false_eq_true, if_false, hbody, Option.isNone_none, if_true, run_mark, hnx2, hfd, hav2, hrt]
          rw [hrun]
          rfl
        rw [hrun2]
        have hrep : repLA g { w with drawn := dk } H (List.replicate m (.p .u8u)) (cs.toList.take m) := by
          rw [repLA_iff]
          refine ⟨by simp; omega, fun i x hx => ?_⟩
          rw [List.getElem?_replicate] at hx
          split at hx
          · rename_i hlt
            cases hx
            obtain ⟨kk, hk2⟩ := hcell i (by omega)
            exact ⟨_, by rw [List.getElem?_take, if_pos hlt, Array.getElem?_toList]; exact hk2, by simp only [repA, rep]; exact ⟨kk, rfl⟩⟩
          · cases hx
        refine hK _ _ _ (new_inv (drawn_inv hi dk) cs e (0, 0) (by intro j _; simp) 0 _ (by simpa using hsz) (by simpa using hrep) (by simp [AV.isCell])) ((drawn_ext g w H dk).trans (new_ext (drawn_inv hi dk) _ _)) ?_
        simp only [repA]
        exact ⟨_, _, rfl, by simpa using hsz, _, by simp; rfl, by simp, fun _ => ⟨.inr (by simp [gNew]), cs, e, (0, 0), by simp [gNew, pushB_get], by simp⟩⟩
      obtain ⟨h9, hcs⟩ := evCall_sound hC hcall hi hall h
      obtain ⟨fn, hfn, hnm, hbody⟩ := hC.fn k h9 (by assumption)
      have hrun : (execOp a.eval ⟨dst, .call ⟨.value f, cargs, cats⟩, type, pos, after, guard⟩).run C.P w = .ok (.enter k (av ++ cargs.map a.eval ++ bv)) w := by
        simp only [execOp, resolve, hav, Deferred.ofValue, Sem.run_bind, Sem.run_pure, Result.andThen_ok, invoke, callFunc, run_program, hfn, hnm, Bool.false_eq_true, if_false]
        have : fn.body.isNone = false := by cases hb : fn.body with
          | none => simp [hb] at hbody
          | some _ => rfl
        simp only [this, Bool.false_eq_true, if_false, Sem.run_pure]
      rw [hrun]
      refine hcs.mono ?_
      rintro e w' ⟨v, g', rfl, j1, j2, j3⟩
      exact hK v w' g' j1 j2 j3
    · cases h
end Go.Ev
