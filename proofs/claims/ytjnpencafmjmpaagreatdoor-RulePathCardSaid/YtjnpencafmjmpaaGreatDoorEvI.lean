/- Each operation of the model does what the evaluator tells: addresses, fields, len, copy, append, conversions. -/
import Derived.Test.YtjnpencafmjmpaaGreatDoorEvH
set_option linter.unusedVariables false
set_option linter.unusedSimpArgs false
namespace Go.Ev
open Go.RowKit
variable {P : Program} {g : G} {w : World} {H : List ABlk}

theorem evFieldAddr_run {s : TypeId} {x z : AV} {a : Value} {i : Nat} (h : evFieldAddr P s x i = some z) (hx : repA g w H x a) : ∃ v, (Instr.fieldAt s a i).run P w = .ok v w ∧ repA g w H z v := by
  unfold evFieldAddr at h
  split at h
  case h_2 => cases h
  case h_1 fs hu =>
  split at h
  · cases h
  rename_i f hf
  split at h
  · cases h
  rename_i n hn
  split at h
  · cases h
  rename_i hn0
  split at h
  · simp only [repA] at hx ⊢
    obtain ⟨A, rfl, B, hB, hv, hA⟩ := hx
    cases h
    refine ⟨.pointer (some (A.add f.offset)), ?_, ⟨_, rfl, B, hB, hv, fun he => by rw [hA he, addr_add]⟩⟩
    simp [Instr.fieldAt, run_underlying hu, hf, Instr.sureAddr, fieldPlace, sizeT_run hn, hn0]
  · simp only [repA] at hx
    obtain ⟨b, off, rfl, hb, hr⟩ := hx
    cases h
    refine ⟨.pointer (some ⟨b, off + f.offset, none⟩), ?_, by simp only [repA]; exact ⟨b, _, rfl, hb, repF_drop _ hr⟩⟩
    simp [Instr.fieldAt, run_underlying hu, hf, Instr.sureAddr, fieldPlace, sizeT_run hn, hn0, addr_add]
  · cases h
theorem evField_run {s : TypeId} {x z : AV} {a : Value} {i : Nat} (h : evField P s x i = some z) (hx : repA g w H x a) : ∃ v, (Instr.field s a i).run P w = .ok v w ∧ repA g w H z v := by
  unfold evField at h
  split at h
  case h_2 => cases h
  case h_1 fs hu =>
  split at h
  · cases h
  rename_i f hf
  split at h
  · cases h
  rename_i cs hcs
  obtain ⟨vs, rfl, hr⟩ := aggCells_rep hx hcs
  obtain ⟨v, hv, hz⟩ := part_run h hr
  exact ⟨v, by simp [Instr.field, run_underlying hu, hf, asAgg, hv], hz⟩
theorem evIndexAddr_run {t : TypeId} {x y z : AV} {a b : Value} (h : evIndexAddr P t x y = some z) (hx : repA g w H x a) (hy : repA g w H y b) : ∃ v, (Instr.indexAt t a b).run P w = .ok v w ∧ repA g w H z v := by
  unfold evIndexAddr at h
  split at h
  case h_1 e n xx cs k i hu =>
    simp only [repA, rep] at hx hy; subst hy
    obtain ⟨A, cap, rfl, hc, _, _, hr⟩ := hx
    split at h
    case h_2 => cases h
    case h_1 size hs =>
    split at h
    case isFalse => cases h
    case isTrue hi =>
    cases h
    rcases hr with rfl | ⟨bk, off, rfl, hb, hr⟩
    · simp at hi
    · refine ⟨.pointer (some ⟨bk, off + i.toNat * size, none⟩), ?_, by simp only [repA]; exact ⟨bk, _, rfl, hb, repF_drop _ hr⟩⟩
      simp only [Instr.indexAt, asIntOf, Sem.run_bind, Sem.run_pure, Result.andThen_ok, run_underlying hu, sizeT_run hs]
      rw [if_pos ⟨hi.1, hi.2.1⟩]
      simp [sizeT_run hs, addr_add]
  case h_2 e id ver off n sz k i hu =>
    simp only [repA, rep] at hx hy; subst hy
    obtain ⟨A, cap, rfl, hc, B, hB, hv, hA⟩ := hx
    split at h
    case h_2 => cases h
    case h_1 size hs =>
    split at h
    case isFalse => cases h
    case isTrue hi =>
    cases h
    refine ⟨.pointer (some (A.add (i.toNat * size))), ?_, ?_⟩
    · simp only [Instr.indexAt, asIntOf, Sem.run_bind, Sem.run_pure, Result.andThen_ok, run_underlying hu, sizeT_run hs]
      rw [if_pos ⟨hi.1, hi.2.1⟩]
      simp [sizeT_run hs]
    · simp only [repA]
      refine ⟨_, rfl, B, hB, hv, fun he => ?_⟩
      rcases (hA he).1 with h0 | h0
      · omega
      · rw [h0, addr_add]
  case h_3 n e id ver off k i hu =>
    simp only [repA, rep] at hx hy; subst hy
    obtain ⟨A, rfl, B, hB, hv, hA⟩ := hx
    split at h
    case h_2 => cases h
    case h_1 size hs =>
    split at h
    case isFalse => cases h
    case isTrue hi =>
    cases h
    refine ⟨.pointer (some (A.add (i.toNat * size))), ?_, by simp only [repA]; exact ⟨_, rfl, B, hB, hv, fun he => by rw [hA he, addr_add]⟩⟩
    simp only [Instr.indexAt, Instr.sureAddr, asIntOf, Sem.run_bind, Sem.run_pure, Result.andThen_ok, run_underlying hu, sizeT_run hs]
    rw [if_pos ⟨hi.1, hi.2⟩]
    simp [sizeT_run hs]
  case h_4 n e cs k i hu =>
    simp only [repA, rep] at hx hy; subst hy
    obtain ⟨bk, off, rfl, hb, hr⟩ := hx
    split at h
    case h_2 => cases h
    case h_1 size hs =>
    split at h
    case isFalse => cases h
    case isTrue hi =>
    cases h
    refine ⟨.pointer (some ⟨bk, off + i.toNat * size, none⟩), ?_, by simp only [repA]; exact ⟨bk, _, rfl, hb, repF_drop _ hr⟩⟩
    simp only [Instr.indexAt, Instr.sureAddr, asIntOf, Sem.run_bind, Sem.run_pure, Result.andThen_ok, run_underlying hu, sizeT_run hs]
    rw [if_pos ⟨hi.1, hi.2⟩]
    simp [sizeT_run hs, addr_add]
  case h_5 => cases h
theorem evIndex_run {t : TypeId} {x y z : AV} {a b : Value} (h : evIndex P t x y = some z) (hx : repA g w H x a) (hy : repA g w H y b) : ∃ v, (Instr.index t a b).run P w = .ok v w ∧ repA g w H z v := by
  unfold evIndex at h
  split at h
  case h_1 n e k i hu =>
    simp only [repA, rep] at hy; subst hy
    split at h
    case h_2 => cases h
    case h_1 size cs hs hcs =>
    split at h
    case isFalse => cases h
    case isTrue hi =>
    obtain ⟨vs, rfl, hr⟩ := aggCells_rep hx hcs
    obtain ⟨v, hv, hz⟩ := part_run h hr
    refine ⟨v, ?_, hz⟩
    simp only [Instr.index, asIntOf, Sem.run_bind, Sem.run_pure, Result.andThen_ok, run_underlying hu]
    rw [if_pos hi]
    simp [sizeT_run hs, hv]
  case h_2 k i hu =>
    simp only [repA, rep] at hy; subst hy
    split at h
    case h_2 => cases h
    case h_1 l =>
    simp only [repA, rep] at hx
    obtain ⟨s, rfl, rfl⟩ := hx
    split at h
    case isFalse => cases h
    case isTrue hi =>
    split at h
    case h_2 => cases h
    case h_1 c hc =>
    cases h
    rw [List.getElem?_map] at hc
    simp only [Option.map_eq_some_iff] at hc
    obtain ⟨c0, hc0, rfl⟩ := hc
    have hg : s[i.toNat]? = some c0 := by
      rw [Array.getElem?_toList] at hc0
      exact hc0
    refine ⟨.int .u8 c0.toNat, ?_, by simp only [repA, u8, rep]⟩
    simp [Instr.index, asIntOf, run_underlying hu, hi, hg]
  case h_3 => cases h
theorem evExtract_run {x z : AV} {a : Value} {i : Nat} (h : evExtract x i = some z) (hx : repA g w H x a) : ∃ v, (Instr.extract a i).run P w = .ok v w ∧ repA g w H z v := by
  unfold evExtract at h
  split at h
  · simp only [repA, rep] at hx
    obtain ⟨vs, rfl, hr⟩ := hx
    split at h
    · rename_i c hc
      cases h
      obtain ⟨v, hv, hz⟩ := (repL_iff.1 hr).2 _ _ hc
      rw [Array.getElem?_toList] at hv
      exact ⟨v, by simp [Instr.extract, hv], by simp only [repA]; exact hz⟩
    · cases h
  · simp only [repA] at hx
    obtain ⟨vs, rfl, hr⟩ := hx
    obtain ⟨v, hv, hz⟩ := (repLA_iff.1 hr).2 _ _ h
    rw [Array.getElem?_toList] at hv
    exact ⟨v, by simp [Instr.extract, hv], hz⟩
  · cases h
theorem mkFn_rep {f : Fn} {xs ys : List AV} {as bs : Array Value} (h1 : repLA g w H xs as.toList) (h2 : repLA g w H ys bs.toList) : repA g w H (mkFn f xs ys) (.func f as bs) := by
  unfold mkFn
  split
  · rename_i us vs hu hv
    rw [mapO_pure hu] at h1
    rw [mapO_pure hv] at h2
    simp only [repA, rep]
    exact ⟨as, bs, rfl, repLA_map.1 h1, repLA_map.1 h2⟩
  · simp only [repA]; exact ⟨as, bs, rfl, h1, h2⟩
theorem evLen_run {C : Cfg} {ats : Array TypeId} {ty : TypeId} {x : AV} {z : PV} {v : Value} (h : evLen C ats x = some z) (hx : repA g w H x v) : ∃ u, (Builtin.len_ ats ty #[v]).run C.P w = .ok u w ∧ rep g.F w z u := by
  unfold evLen at h
  split at h
  · cases h
  rename_i t ht
  split at h
  · rename_i hu
    split at h
    · cases h
      simp only [repA, rep] at hx
      obtain ⟨s, rfl, rfl⟩ := hx
      refine ⟨.int .i64 s.size, by simp [Builtin.len_, ht, run_underlying hu, goInt], ?_⟩
      simp only [rep]
      congr 2
      rw [List.length_map, Array.length_toList]; rfl
    · cases h
  · rename_i e hu
    split at h
    · cases h
      simp only [repA, rep] at hx
      obtain ⟨A, cap, rfl, _⟩ := hx
      exact ⟨_, by simp [Builtin.len_, ht, run_underlying hu, goInt]; rfl, by simp only [rep]⟩
    · cases h
      simp only [repA, rep] at hx
      obtain ⟨A, cap, rfl, _⟩ := hx
      exact ⟨.int .i64 0, by simp [Builtin.len_, ht, run_underlying hu, goInt], by simp only [rep]⟩
    · cases h
      simp only [repA] at hx
      obtain ⟨A, cap, rfl, _⟩ := hx
      exact ⟨_, by simp [Builtin.len_, ht, run_underlying hu, goInt]; rfl, by simp only [rep]⟩
    · cases h
  · rename_i n e hu
    cases h
    exact ⟨.int .i64 n, by simp [Builtin.len_, ht, run_underlying hu, goInt], by simp only [rep]⟩
  · rename_i a hu
    split at h
    · rename_i n e hu2
      cases h
      exact ⟨.int .i64 n, by simp [Builtin.len_, ht, run_underlying hu, run_underlying hu2, goInt], by simp only [rep]⟩
    · cases h
  · cases h
theorem max2_run {x y z : AV} {a b : Value} {ats : Array TypeId} {ty : TypeId} (h : max2 x y = some z) (hx : repA g w H x a) (hy : repA g w H y b) : ∃ u, (Builtin.max_ ats ty #[a, b]).run P w = .ok u w ∧ repA g w H z u := by
  unfold max2 at h
  split at h
  · simp only [repA, rep] at hx hy; subst hx hy; cases h
    exact ⟨_, by simp [Builtin.max_, Builtin.max2]; rfl, by simp only [repA, rep]⟩
  · cases h
theorem min2_run {x y z : AV} {a b : Value} {ats : Array TypeId} {ty : TypeId} (h : min2 x y = some z) (hx : repA g w H x a) (hy : repA g w H y b) : ∃ u, (Builtin.min_ ats ty #[a, b]).run P w = .ok u w ∧ repA g w H z u := by
  unfold min2 at h
  split at h
  · simp only [repA, rep] at hx hy; subst hx hy; cases h
    exact ⟨_, by simp [Builtin.min_, Builtin.min2]; rfl, by simp only [repA, rep]⟩
  · cases h
/-- The cells of a source. -/
theorem srcCells_run {size n : Nat} {x : AV} {v : Value} {cs : List AV} (hi : Inv g w H) (h : srcCells H size n x = some cs) (hx : repA g w H x v) (hn : n = 0 → cs = [] := by intros; simp_all) :
    ∃ us : List Value, (Builtin.firstCells size n v).run P w = .ok us.toArray w ∧ repLA g w H cs us := by
  unfold srcCells at h
  split at h
  case h_1 bb =>
    split at h
    case isFalse => cases h
    case isTrue hcond =>
    cases h; subst hcond
    simp only [repA, rep] at hx
    obtain ⟨A, cap, rfl, hA, _⟩ := hx
    refine ⟨[], ?_, by simp [repLA]⟩
    cases A with
    | none => simp [Builtin.firstCells]
    | some A => simp only [Builtin.firstCells, Nat.zero_mul, loadCells, loadCellsFrom]; rfl
  case h_2 m xx xs =>
    simp only [repA, rep] at hx
    obtain ⟨A, cap, rfl, hc, _, hA, hr⟩ := hx
    split at h
    case isFalse => cases h
    case isTrue hcond =>
    cases h
    rcases hr with rfl | ⟨b, off, rfl, hb, hr⟩
    · have hz : n * size = 0 := Nat.le_zero.1 hcond.2
      cases A with
      | none => exact ⟨[], by simp [Builtin.firstCells], by simp [repLA]⟩
      | some A =>
        refine ⟨[], ?_, by simp [repLA]⟩
        simp only [Builtin.firstCells, hz, loadCells, loadCellsFrom]; rfl
    · obtain ⟨us, h1, h2⟩ := repF_vals (repF_take (n * size) hr)
      have hl := repL_length h1
      rw [List.length_take] at hl
      have := load_list (P := P) b off us h2
      rw [show us.length = n * size by omega] at this
      exact ⟨us, by simp only [Builtin.firstCells]; exact this, repLA_map.2 h1⟩
  case h_3 l =>
    simp only [repA, rep] at hx
    obtain ⟨s, rfl, rfl⟩ := hx
    split at h
    case isFalse => cases h
    case isTrue hcond =>
    cases h
    refine ⟨((s.data.toList.take n).map fun b => Value.int .u8 b.toNat), ?_, ?_⟩
    · simp only [Builtin.firstCells, Sem.run_pure]
      congr 1
      apply Array.ext'
      simp [ByteArray.data_extract, List.extract_eq_take_drop]
    · rw [repLA_iff]
      refine ⟨by simp, fun i x hx => ?_⟩
      simp only [List.getElem?_map, List.getElem?_take] at hx ⊢
      split at hx
      · rename_i hlt
        rw [if_pos hlt]
        simp only [List.getElem?_map, Option.map_map, Option.map_eq_some_iff] at hx ⊢
        obtain ⟨c, hc, rfl⟩ := hx
        exact ⟨_, ⟨c, hc, rfl⟩, by simp [repA, u8, rep]⟩
      · simp at hx
  case h_4 id ver off m sz =>
    simp only [repA] at hx
    obtain ⟨A, cap, rfl, hc, B, hB, hv, hA⟩ := hx
    split at h
    case isFalse => cases h
    case isTrue hcond =>
    obtain ⟨B', hB', hver, hl, vs, hvl, hrep, _, hcell⟩ := blkRead_run hi h
    rw [hB] at hB'; cases hB'
    refine ⟨vs, ?_, hrep⟩
    rcases (hA hver).1 with h0 | h0
    · have : n = 0 := by omega
      subst this
      have : vs = [] := List.eq_nil_of_length_eq_zero (by simpa using hvl)
      subst this
      simp [Builtin.firstCells, loadCells, loadCellsFrom]
    · subst h0
      have := load_list (P := P) (g.φ id) off vs hcell
      rw [hvl] at this
      simp only [Builtin.firstCells]; exact this
  case h_5 => cases h
theorem lenOf_run {x : AV} {v : Value} {n : Nat} (h : lenOf x = some n) (hx : repA g w H x v) : (Builtin.lenOf v).run P w = .ok n w := by
  unfold lenOf at h
  split at h
  · cases h; simp only [repA, rep] at hx; obtain ⟨A, cap, rfl, _⟩ := hx; rfl
  · cases h; simp only [repA, rep] at hx; obtain ⟨A, cap, rfl, _⟩ := hx; rfl
  · cases h; simp only [repA, rep] at hx; obtain ⟨s, rfl, rfl⟩ := hx
    simp only [Builtin.lenOf, Sem.run_pure]
    congr 1
    rw [List.length_map, Array.length_toList]; rfl
  · cases h; simp only [repA] at hx; obtain ⟨A, cap, rfl, _⟩ := hx; rfl
  · cases h
end Go.Ev
