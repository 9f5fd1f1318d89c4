/- Memory of the call's own: what a new block, a mark, a store does. -/
import Derived.Test.YtjnpencafmjmpaaGreatDoorEvB
set_option linter.unusedVariables false
set_option linter.unusedSimpArgs false
namespace Go.Ev
open Go.RowKit

theorem lt_of_get {α : Type} {l : List α} {i : Nat} {x : α} (h : l[i]? = some x) : i < l.length := by
  rcases Nat.lt_or_ge i l.length with h' | h'
  · exact h'
  · simp [List.getElem?_eq_none h'] at h
theorem lt_of_aget {α : Type} {l : Array α} {i : Nat} {x : α} (h : l[i]? = some x) : i < l.size := by
  rcases Nat.lt_or_ge i l.size with h' | h'
  · exact h'
  · simp [Array.getElem?_eq_none h'] at h

/-- The world with one block another. -/
def putB (w : World) (b : Nat) (o : Obj) : World := { w with heap := w.heap.setIfInBounds b o }
theorem putB_get (w : World) (b : Nat) (o : Obj) (k : Nat) : (putB w b o).heap[k]? = if b = k then (if b < w.heap.size then some o else none) else w.heap[k]? := by
  simp only [putB, Array.getElem?_setIfInBounds]
def pushB (w : World) (o : Obj) : World := { w with heap := w.heap.push o }
theorem pushB_get (w : World) (o : Obj) (k : Nat) : (pushB w o).heap[k]? = if k = w.heap.size then some o else w.heap[k]? := by
  simp only [pushB, Array.getElem?_push]
theorem pushB_size (w : World) (o : Obj) : (pushB w o).heap.size = w.heap.size + 1 := by simp [pushB]

/-! ### A new block -/
def gNew (g : G) (n b : Nat) : G := { F := g.F, φ := fun i => if i = n then b else g.φ i }
theorem new_ext {g : G} {w : World} {H : List ABlk} (hi : Inv g w H) (o : Obj) (B : ABlk) : Ext g w H (gNew g H.length w.heap.size) (pushB w o) (H ++ [B]) where
  F b h := h
  keep b h := by
    have := hi.F b h
    rw [pushB_get, if_neg (by omega)]
  blk id B0 h := by
    have hlt := lt_of_get h
    refine ⟨B0, by rw [List.getElem?_append_left hlt]; exact h, Nat.le_refl _, fun _ => ⟨by simp only [gNew]; rw [if_neg (by omega)], fun c e fr hc => ⟨c, fr, ?_, rfl⟩⟩⟩
    have := lt_of_aget hc
    rw [pushB_get, if_neg (by omega)]; exact hc
  out b h1 h2 h3 := by rw [pushB_get, if_neg (by omega)]
  size := by rw [pushB_size]; omega
  os := rfl
  tape := rfl
  output := rfl
  newF b h := .inl h
  newφ b h := by
    obtain ⟨id, B0, hB, hb⟩ := h
    simp only [gNew] at hb
    by_cases he : id = H.length
    · rw [if_pos he] at hb; exact .inr (by omega)
    · rw [if_neg he] at hb
      have hlt := lt_of_get hB
      simp at hlt
      rw [List.getElem?_append_left (by omega)] at hB
      exact .inl ⟨id, B0, hB, hb⟩
theorem new_inv {g : G} {w : World} {H : List ABlk} (hi : Inv g w H) (c : Array Value) (e : TypeId) (fr : Nat × Nat) (hfr : ∀ j, j < c.size → ¬ (fr.1 ≤ j ∧ j < fr.2)) (v : Nat) (cs : List AV)
    (hl : cs.length ≤ c.size) (hr : repLA g w H cs (c.toList.take cs.length)) (hc : cs.all AV.isCell = true) :
    Inv (gNew g H.length w.heap.size) (pushB w (.cells c e fr)) (H ++ [⟨v, false, cs⟩]) := by
  have hx := new_ext hi (.cells c e fr) ⟨v, false, cs⟩
  refine ⟨fun b h => ?_, fun id B hB => ?_, fun i j Bi Bj hBi hBj fi fj he => ?_⟩
  · have := hi.F b h; rw [pushB_size]; omega
  · by_cases he : id = H.length
    · subst he
      rw [List.getElem?_append_right (Nat.le_refl _)] at hB
      simp at hB
      subst hB
      have hφ : (gNew g H.length w.heap.size).φ H.length = w.heap.size := by simp [gNew]
      refine ⟨c, e, fr, by rw [hφ, pushB_get, if_pos rfl], hfr, hl, repLA_mono hx hr, hc, by simp, fun h => ?_⟩
      rw [hφ] at h
      have := hi.F _ h
      omega
    · have hlt := lt_of_get hB
      simp at hlt
      rw [List.getElem?_append_left (by omega)] at hB
      obtain ⟨c0, e0, fr0, h1, h2, h3, h4, h5, h6⟩ := hi.blk id B hB
      have hφ : (gNew g H.length w.heap.size).φ id = g.φ id := by simp [gNew, he]
      refine ⟨c0, e0, fr0, ?_, h2, h3, repLA_mono hx h4, h5, by rw [hφ]; exact h6⟩
      have := lt_of_aget h1
      rw [hφ, pushB_get, if_neg (by omega)]; exact h1
  · have key : ∀ (i : Nat) (B : ABlk), (H ++ [⟨v, false, cs⟩])[i]? = some B → (i < H.length ∧ H[i]? = some B ∧ (gNew g H.length w.heap.size).φ i = g.φ i ∧ g.φ i < w.heap.size) ∨ (i = H.length ∧ (gNew g H.length w.heap.size).φ i = w.heap.size) := by
      intro i B hB
      by_cases he : i = H.length
      · exact .inr ⟨he, by simp [gNew, he]⟩
      · have hlt := lt_of_get hB
        simp at hlt
        rw [List.getElem?_append_left (by omega)] at hB
        obtain ⟨c0, e0, fr0, h1, _⟩ := hi.blk i B hB
        exact .inl ⟨by omega, hB, by simp [gNew, he], lt_of_aget h1⟩
    rcases key i Bi hBi with ⟨a1, a2, a3, a4⟩ | ⟨a1, a2⟩ <;> rcases key j Bj hBj with ⟨b1, b2, b3, b4⟩ | ⟨b1, b2⟩
    · exact hi.inj i j Bi Bj a2 b2 fi fj (by rw [← a3, ← b3]; exact he)
    · omega
    · omega
    · omega

/-! ### Marks -/
structure FzUp (H H' : List ABlk) : Prop where
  len : H'.length = H.length
  blk : ∀ (id : Nat) (B : ABlk), H[id]? = some B → ∃ B', H'[id]? = some B' ∧ B'.ver = B.ver ∧ B'.cells = B.cells ∧ (B.fz = true → B'.fz = true)
theorem FzUp.refl (H : List ABlk) : FzUp H H := ⟨rfl, fun id B h => ⟨B, h, rfl, rfl, fun x => x⟩⟩
theorem FzUp.trans {H H' H'' : List ABlk} (h : FzUp H H') (k : FzUp H' H'') : FzUp H H'' :=
  ⟨k.len.trans h.len, fun id B hB => by
    obtain ⟨B', hB', a1, a2, a3⟩ := h.blk id B hB
    obtain ⟨B'', hB'', b1, b2, b3⟩ := k.blk id B' hB'
    exact ⟨B'', hB'', b1.trans a1, b2.trans a2, fun h => b3 (a3 h)⟩⟩
theorem fzUp_modify (H : List ABlk) (i : Nat) : FzUp H (H.modify i fun B => { B with fz := true }) :=
  ⟨by simp, fun id B hB => by
    by_cases h : i = id
    · subst h; exact ⟨{ B with fz := true }, by simp [hB], rfl, rfl, fun _ => rfl⟩
    · exact ⟨B, by rw [List.getElem?_modify, hB]; simp [h], rfl, rfl, fun h => h⟩⟩
theorem fzUp_mark (ids : List Nat) : ∀ H : List ABlk, FzUp H (mark ids H) := by
  induction ids with
  | nil => exact fun H => .refl H
  | cons i ids ih => exact fun H => (fzUp_modify H i).trans (ih _)
theorem mark_fz (ids : List Nat) : ∀ (H : List ABlk) (id : Nat) (B' : ABlk), id ∈ ids → (mark ids H)[id]? = some B' → B'.fz = true := by
  induction ids with
  | nil => intro H id B' h; simp at h
  | cons i ids ih =>
    intro H id B' h hB
    rcases List.mem_cons.1 h with h | h
    · subst h
      have hlt := lt_of_get hB
      rw [(fzUp_mark (id :: ids) H).len] at hlt
      obtain ⟨B0, hB0⟩ : ∃ B0, H[id]? = some B0 := ⟨_, List.getElem?_eq_getElem hlt⟩
      have h1 : (H.modify id fun B => { B with fz := true })[id]? = some { B0 with fz := true } := by simp [hB0]
      obtain ⟨B'', hB'', _, _, hz⟩ := (fzUp_mark ids _).blk id _ h1
      have : (mark (id :: ids) H)[id]? = some B'' := hB''
      rw [this] at hB; cases hB
      exact hz rfl
    · exact ih _ id B' h hB
theorem fzUp_flags {H H1 : List ABlk} (h : H.length ≤ H1.length) : FzUp H (flags H H1) := by
  refine ⟨by simp [flags]; omega, fun id B hB => ?_⟩
  have hlt := lt_of_get hB
  obtain ⟨B1, hB1⟩ : ∃ B1, H1[id]? = some B1 := ⟨_, List.getElem?_eq_getElem (by omega)⟩
  exact ⟨{ B with fz := B.fz || B1.fz }, by simp [flags, List.getElem?_zipWith, hB, hB1], rfl, rfl, fun h => by simp [h]⟩
def gFz (g : G) (H' : List ABlk) : G := { F := fun b => g.F b ∨ ∃ (id : Nat) (B' : ABlk), H'[id]? = some B' ∧ B'.fz = true ∧ g.φ id = b, φ := g.φ }
theorem fz_ext {g : G} {w : World} {H H' : List ABlk} (hi : Inv g w H) (hu : FzUp H H') : Ext g w H (gFz g H') w H' where
  F b h := .inl h
  keep _ _ := rfl
  blk id B hB := by
    obtain ⟨B', hB', h1, h2, h3⟩ := hu.blk id B hB
    exact ⟨B', hB', by omega, fun _ => ⟨rfl, fun c e fr hc => ⟨c, fr, hc, rfl⟩⟩⟩
  out _ _ _ _ := rfl
  size := Nat.le_refl _
  os := rfl
  tape := rfl
  output := rfl
  newF b h := by
    rcases h with h | ⟨id, B', hB', _, hb⟩
    · exact .inl h
    · have hlt := lt_of_get hB'
      rw [hu.len] at hlt
      exact .inr (.inr ⟨id, _, List.getElem?_eq_getElem hlt, hb⟩)
  newφ b h := by
    obtain ⟨id, B', hB', hb⟩ := h
    have hlt := lt_of_get hB'
    rw [hu.len] at hlt
    exact .inl ⟨id, _, List.getElem?_eq_getElem hlt, hb⟩
theorem fz_inv {g : G} {w : World} {H H' : List ABlk} (hi : Inv g w H) (hu : FzUp H H') : Inv (gFz g H') w H' := by
  have hx := fz_ext hi hu
  have back : ∀ (id : Nat) (B' : ABlk), H'[id]? = some B' → ∃ B, H[id]? = some B ∧ B'.ver = B.ver ∧ B'.cells = B.cells ∧ (B.fz = true → B'.fz = true) := by
    intro id B' hB'
    have hlt := lt_of_get hB'
    rw [hu.len] at hlt
    obtain ⟨B'', hB'', h1, h2, h3⟩ := hu.blk id _ (List.getElem?_eq_getElem hlt)
    rw [hB'] at hB''; cases hB''
    exact ⟨_, List.getElem?_eq_getElem hlt, h1, h2, h3⟩
  refine ⟨fun b h => ?_, fun id B' hB' => ?_, fun i j Bi Bj hBi hBj fi fj he => ?_⟩
  · rcases h with h | ⟨id, B', hB', _, hb⟩
    · exact hi.F b h
    · obtain ⟨B, hB, _⟩ := back id B' hB'
      obtain ⟨c, e, fr, hc, _⟩ := hi.blk id B hB
      rw [← hb]; exact lt_of_aget hc
  · obtain ⟨B, hB, h1, h2, h3⟩ := back id B' hB'
    obtain ⟨c, e, fr, c1, c2, c3, c4, c5, c6⟩ := hi.blk id B hB
    refine ⟨c, e, fr, c1, c2, by rw [h2]; exact c3, by rw [h2]; exact repLA_mono hx c4, by rw [h2]; exact c5, fun h => .inr ⟨id, B', hB', h, rfl⟩, fun h => ?_⟩
    rcases h with h | ⟨id2, B2', hB2', hz2, hb2⟩
    · exact h3 (c6.2 h)
    · obtain ⟨B2, hB2, k1, k2, k3⟩ := back id2 B2' hB2'
      cases hz : B'.fz with
      | true => rfl
      | false =>
        have hBf : B.fz = false := by cases hb : B.fz with | false => rfl | true => simp [h3 hb] at hz
        cases hb2z : B2.fz with
        | true =>
          obtain ⟨_, _, _, _, _, _, _, _, d6⟩ := hi.blk id2 B2 hB2
          have := d6.1 hb2z
          have hb2' : g.φ id2 = g.φ id := hb2
          rw [hb2'] at this
          have := c6.2 this
          simp [hBf] at this
        | false =>
          have := hi.inj id2 id B2 B hB2 hB hb2z hBf hb2
          subst this
          rw [hB'] at hB2'; cases hB2'
          simp [hz] at hz2
  · obtain ⟨Bi0, hBi0, _, _, h3⟩ := back i Bi hBi
    obtain ⟨Bj0, hBj0, _, _, k3⟩ := back j Bj hBj
    have e1 : Bi0.fz = false := by cases hb : Bi0.fz with | false => rfl | true => simp [h3 hb] at fi
    have e2 : Bj0.fz = false := by cases hb : Bj0.fz with | false => rfl | true => simp [k3 hb] at fj
    exact hi.inj i j Bi0 Bj0 hBi0 hBj0 e1 e2 he

/-! ### A block is written -/
theorem put_ext {g : G} {w : World} {H : List ABlk} (hi : Inv g w H) {id : Nat} {B : ABlk} (hB : H[id]? = some B) (hf : B.fz = false) {c : Array Value} {e : TypeId} {fr : Nat × Nat}
    (hc : w.heap[g.φ id]? = some (.cells c e fr)) (c' : Array Value) (hs : c'.size = c.size) (B' : ABlk) (hv : B.ver ≤ B'.ver) :
    Ext g w H g (putB w (g.φ id) (.cells c' e fr)) (H.set id B') where
  F b h := h
  keep b h := by
    rw [putB_get, if_neg]
    intro he
    subst he
    obtain ⟨_, _, _, _, _, _, _, _, d6⟩ := hi.blk id B hB
    simp [d6.2 h] at hf
  blk id2 B2 hB2 := by
    by_cases he : id = id2
    · subst he
      rw [hB] at hB2; cases hB2
      refine ⟨B', by rw [List.getElem?_set_self (lt_of_get hB)], hv, fun _ => ⟨rfl, fun c2 e2 fr2 hc2 => ?_⟩⟩
      rw [hc] at hc2; cases hc2
      exact ⟨c', fr, by rw [putB_get, if_pos rfl, if_pos (lt_of_aget hc)], hs⟩
    · refine ⟨B2, by rw [List.getElem?_set_ne he]; exact hB2, Nat.le_refl _, fun _ => ⟨rfl, fun c2 e2 fr2 hc2 => ?_⟩⟩
      by_cases hφ : g.φ id = g.φ id2
      · rw [← hφ, hc] at hc2; cases hc2
        exact ⟨c', fr, by rw [← hφ, putB_get, if_pos rfl, if_pos (lt_of_aget hc)], hs⟩
      · exact ⟨c2, fr2, by rw [putB_get, if_neg hφ]; exact hc2, rfl⟩
  out b h1 h2 h3 := by
    rw [putB_get, if_neg]
    intro he
    exact h3 ⟨id, B, hB, he⟩
  size := by simp [putB]
  os := rfl
  tape := rfl
  output := rfl
  newF b h := .inl h
  newφ b h := by
    obtain ⟨id2, B2, hB2, hb⟩ := h
    have hlt := lt_of_get hB2
    simp at hlt
    exact .inl ⟨id2, _, List.getElem?_eq_getElem hlt, hb⟩
theorem put_inv {g : G} {w : World} {H : List ABlk} (hi : Inv g w H) {id : Nat} {B : ABlk} (hB : H[id]? = some B) (hf : B.fz = false) {c : Array Value} {e : TypeId} {fr : Nat × Nat}
    (hc : w.heap[g.φ id]? = some (.cells c e fr)) (c' : Array Value) (hs : c'.size = c.size) (v : Nat) (cs : List AV) (hv : B.ver ≤ v)
    (hl : cs.length ≤ c'.size) (hr : repLA g w H cs (c'.toList.take cs.length)) (hcell : cs.all AV.isCell = true) :
    Inv g (putB w (g.φ id) (.cells c' e fr)) (H.set id ⟨v, false, cs⟩) := by
  have hx := put_ext hi hB hf hc c' hs ⟨v, false, cs⟩ hv
  obtain ⟨c0, e0, fr0, d1, d2, d3, d4, d5, d6⟩ := hi.blk id B hB
  rw [hc] at d1; cases d1
  refine ⟨fun b h => ?_, fun id2 B2 hB2 => ?_, fun i j Bi Bj hBi hBj fi fj he => ?_⟩
  · have := hi.F b h; simpa [putB] using this
  · by_cases he : id = id2
    · subst he
      rw [List.getElem?_set_self (lt_of_get hB)] at hB2; cases hB2
      refine ⟨c', e, fr, by rw [putB_get, if_pos rfl, if_pos (lt_of_aget hc)], fun j hj => d2 j (by omega), hl, repLA_mono hx hr, hcell, by simp, fun h => ?_⟩
      simp [d6.2 h] at hf
    · rw [List.getElem?_set_ne he] at hB2
      obtain ⟨c2, e2, fr2, k1, k2, k3, k4, k5, k6⟩ := hi.blk id2 B2 hB2
      by_cases hφ : g.φ id = g.φ id2
      · cases hz : B2.fz with
        | false => exact absurd (hi.inj id id2 B B2 hB hB2 hf hz hφ) he
        | true =>
          have := k6.1 hz
          rw [← hφ] at this
          simp [d6.2 this] at hf
      · exact ⟨c2, e2, fr2, by rw [putB_get, if_neg hφ]; exact k1, k2, k3, repLA_mono hx k4, k5, k6⟩
  · have key : ∀ (i : Nat) (Bi : ABlk), (H.set id ⟨v, false, cs⟩)[i]? = some Bi → Bi.fz = false → ∃ B0, H[i]? = some B0 ∧ B0.fz = false := by
      intro i Bi hBi fi
      by_cases he : id = i
      · subst he; exact ⟨B, hB, hf⟩
      · rw [List.getElem?_set_ne he] at hBi; exact ⟨Bi, hBi, fi⟩
    obtain ⟨Bi0, a1, a2⟩ := key i Bi hBi fi
    obtain ⟨Bj0, b1, b2⟩ := key j Bj hBj fj
    exact hi.inj i j Bi0 Bj0 a1 b1 a2 b2 he

/-! ### A block goes on in a new one -/
def gMove (g : G) (id b : Nat) : G := { F := g.F, φ := fun i => if i = id then b else g.φ i }
theorem move_ext {g : G} {w : World} {H : List ABlk} (hi : Inv g w H) {id : Nat} {B : ABlk} (hB : H[id]? = some B) (o : Obj) (B' : ABlk) (hv : B.ver < B'.ver) :
    Ext g w H (gMove g id w.heap.size) (pushB w o) (H.set id B') where
  F b h := h
  keep b h := by
    have := hi.F b h
    rw [pushB_get, if_neg (by omega)]
  blk id2 B2 hB2 := by
    by_cases he : id = id2
    · subst he
      rw [hB] at hB2; cases hB2
      exact ⟨B', by rw [List.getElem?_set_self (lt_of_get hB)], by omega, fun h => by omega⟩
    · refine ⟨B2, by rw [List.getElem?_set_ne he]; exact hB2, Nat.le_refl _, fun _ => ⟨by simp only [gMove]; rw [if_neg (by omega)], fun c2 e2 fr2 hc2 => ⟨c2, fr2, ?_, rfl⟩⟩⟩
      have := lt_of_aget hc2
      rw [pushB_get, if_neg (by omega)]; exact hc2
  out b h1 h2 h3 := by rw [pushB_get, if_neg (by omega)]
  size := by rw [pushB_size]; omega
  os := rfl
  tape := rfl
  output := rfl
  newF b h := .inl h
  newφ b h := by
    obtain ⟨id2, B2, hB2, hb⟩ := h
    have hlt := lt_of_get hB2
    simp at hlt
    simp only [gMove] at hb
    by_cases he : id2 = id
    · rw [if_pos he] at hb; exact .inr (by omega)
    · rw [if_neg he] at hb; exact .inl ⟨id2, _, List.getElem?_eq_getElem hlt, hb⟩
theorem move_inv {g : G} {w : World} {H : List ABlk} (hi : Inv g w H) {id : Nat} {B : ABlk} (hB : H[id]? = some B) (c : Array Value) (e : TypeId) (fr : Nat × Nat) (hfr : ∀ j, j < c.size → ¬ (fr.1 ≤ j ∧ j < fr.2)) (v : Nat) (cs : List AV) (hv : B.ver < v)
    (hl : cs.length ≤ c.size) (hr : repLA g w H cs (c.toList.take cs.length)) (hc : cs.all AV.isCell = true) :
    Inv (gMove g id w.heap.size) (pushB w (.cells c e fr)) (H.set id ⟨v, false, cs⟩) := by
  have hx := move_ext hi hB (.cells c e fr) ⟨v, false, cs⟩ hv
  refine ⟨fun b h => ?_, fun id2 B2 hB2 => ?_, fun i j Bi Bj hBi hBj fi fj he => ?_⟩
  · have := hi.F b h; rw [pushB_size]; omega
  · by_cases he : id = id2
    · subst he
      rw [List.getElem?_set_self (lt_of_get hB)] at hB2; cases hB2
      have hφ : (gMove g id w.heap.size).φ id = w.heap.size := by simp [gMove]
      refine ⟨c, e, fr, by rw [hφ, pushB_get, if_pos rfl], hfr, hl, repLA_mono hx hr, hc, by simp, fun h => ?_⟩
      rw [hφ] at h
      have := hi.F _ h
      omega
    · rw [List.getElem?_set_ne he] at hB2
      obtain ⟨c0, e0, fr0, h1, h2, h3, h4, h5, h6⟩ := hi.blk id2 B2 hB2
      have hφ : (gMove g id w.heap.size).φ id2 = g.φ id2 := by simp only [gMove]; rw [if_neg (by omega)]
      refine ⟨c0, e0, fr0, ?_, h2, h3, repLA_mono hx h4, h5, by rw [hφ]; exact h6⟩
      have := lt_of_aget h1
      rw [hφ, pushB_get, if_neg (by omega)]; exact h1
  · have key : ∀ (i : Nat) (Bi : ABlk), (H.set id ⟨v, false, cs⟩)[i]? = some Bi → (i = id ∧ (gMove g id w.heap.size).φ i = w.heap.size) ∨ (i ≠ id ∧ H[i]? = some Bi ∧ (gMove g id w.heap.size).φ i = g.φ i ∧ g.φ i < w.heap.size) := by
      intro i Bi hBi
      by_cases he : id = i
      · subst he; exact .inl ⟨rfl, by simp [gMove]⟩
      · rw [List.getElem?_set_ne he] at hBi
        obtain ⟨c0, e0, fr0, h1, _⟩ := hi.blk i Bi hBi
        exact .inr ⟨by omega, hBi, by simp only [gMove]; rw [if_neg (by omega)], lt_of_aget h1⟩
    rcases key i Bi hBi with ⟨a1, a2⟩ | ⟨a1, a2, a3, a4⟩ <;> rcases key j Bj hBj with ⟨b1, b2⟩ | ⟨b1, b2, b3, b4⟩
    · omega
    · omega
    · omega
    · exact hi.inj i j Bi Bj a2 b2 fi fj (by rw [← a3, ← b3]; exact he)

/-! ### The count of draws -/
theorem drawn_ext (g : G) (w : World) (H : List ABlk) (n : Nat) : Ext g w H g { w with drawn := n } H :=
  ⟨fun _ h => h, fun _ _ => rfl, fun id B h => ⟨B, h, Nat.le_refl _, fun _ => ⟨rfl, fun c e fr hc => ⟨c, fr, hc, rfl⟩⟩⟩, fun _ _ _ _ => rfl, Nat.le_refl _, rfl, rfl, rfl, fun _ h => .inl h, fun _ h => .inl h⟩
theorem drawn_inv {g : G} {w : World} {H : List ABlk} (hi : Inv g w H) (n : Nat) : Inv g { w with drawn := n } H :=
  ⟨hi.F, fun id B hB => by
    obtain ⟨c, e, fr, h1, h2, h3, h4, h5, h6⟩ := hi.blk id B hB
    exact ⟨c, e, fr, h1, h2, h3, repLA_mono (drawn_ext g w H n) h4, h5, h6⟩, hi.inj⟩
end Go.Ev
