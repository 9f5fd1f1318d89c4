/- What a plain value says of a value of the model; how that is kept. -/
import Derived.Test.YtjnpencafmjmpaaGreatDoorEvA
import Derived.Below
set_option linter.unusedVariables false
set_option linter.unusedSimpArgs false
namespace Go.Ev
open Go.RowKit

structure G where
  F : Nat → Prop
  φ : Nat → Nat

mutual
def rep (F : Nat → Prop) (w : World) : PV → Value → Prop
  | .int k n, v => v = .int k n
  | .bool b, v => v = .bool b
  | .str l, v => ∃ s, v = .string s ∧ s.data.toList.map UInt8.toNat = l
  | .nilp, v => v = .pointer none
  | .nilf, v => v = .nilFunc
  | .und, v => v = undef
  | .any, _ => True
  | .u8u, v => ∃ n, v = .int .u8 n
  | .nsl b, v => ∃ A cap, v = .slice A 0 cap ∧ (A = none → cap = 0) ∧ A.isNone = b
  | .fn f a b, v => ∃ as bs, v = .func f as bs ∧ repL F w a as.toList ∧ repL F w b bs.toList
  | .sl n x cs, v => ∃ A cap, v = .slice A n cap ∧ n ≤ cap ∧ (x = true → cap = n) ∧ (A = none → cap = 0) ∧ (cs = [] ∨ ∃ b off, A = some ⟨b, off, none⟩ ∧ F b ∧ repF F w b off cs)
  | .agg cs, v => ∃ vs, v = .agg vs ∧ repL F w cs vs.toList
  | .tup cs, v => ∃ vs, v = .tuple vs ∧ repL F w cs vs.toList
def repL (F : Nat → Prop) (w : World) : List PV → List Value → Prop
  | [], [] => True
  | x :: xs, v :: vs => rep F w x v ∧ repL F w xs vs
  | _, _ => False
def repF (F : Nat → Prop) (w : World) (b : Nat) : Nat → List PV → Prop
  | _, [] => True
  | off, x :: xs => (∃ u, w.cell? ⟨b, off, none⟩ = some u ∧ rep F w x u) ∧ repF F w b (off + 1) xs
end
mutual
def repA (g : G) (w : World) (H : List ABlk) : AV → Value → Prop
  | .p x, v => rep g.F w x v
  | .ms id ver off n sz, v => ∃ A cap, v = .slice (some A) n cap ∧ n ≤ cap ∧ ∃ B, H[id]? = some B ∧ ver ≤ B.ver ∧
      (B.ver = ver → (cap = 0 ∨ A = ⟨g.φ id, off, none⟩) ∧ ∃ c e fr, w.heap[g.φ id]? = some (.cells c e fr) ∧ off + cap * sz ≤ c.size)
  | .pt id ver off, v => ∃ A, v = .pointer (some A) ∧ ∃ B, H[id]? = some B ∧ ver ≤ B.ver ∧ (B.ver = ver → A = ⟨g.φ id, off, none⟩)
  | .ip cs, v => ∃ b off, v = .pointer (some ⟨b, off, none⟩) ∧ g.F b ∧ repF g.F w b off cs
  | .fn f a b, v => ∃ as bs, v = .func f as bs ∧ repLA g w H a as.toList ∧ repLA g w H b bs.toList
  | .agg cs, v => ∃ vs, v = .agg vs ∧ repLA g w H cs vs.toList
  | .tup cs, v => ∃ vs, v = .tuple vs ∧ repLA g w H cs vs.toList
def repLA (g : G) (w : World) (H : List ABlk) : List AV → List Value → Prop
  | [], [] => True
  | x :: xs, v :: vs => repA g w H x v ∧ repLA g w H xs vs
  | _, _ => False
end

def dom (g : G) (H : List ABlk) (b : Nat) : Prop := ∃ id B, H[id]? = some B ∧ g.φ id = b

structure Inv (g : G) (w : World) (H : List ABlk) : Prop where
  F : ∀ b, g.F b → b < w.heap.size
  blk : ∀ id B, H[id]? = some B → ∃ c e fr, w.heap[g.φ id]? = some (.cells c e fr) ∧ (∀ j, j < c.size → ¬ (fr.1 ≤ j ∧ j < fr.2)) ∧
    B.cells.length ≤ c.size ∧ repLA g w H B.cells (c.toList.take B.cells.length) ∧ B.cells.all AV.isCell = true ∧ (B.fz = true ↔ g.F (g.φ id))
  inj : ∀ i j Bi Bj, H[i]? = some Bi → H[j]? = some Bj → Bi.fz = false → Bj.fz = false → g.φ i = g.φ j → i = j

structure Ext (g : G) (w : World) (H : List ABlk) (g' : G) (w' : World) (H' : List ABlk) : Prop where
  F : ∀ b, g.F b → g'.F b
  keep : ∀ b, g.F b → w'.heap[b]? = w.heap[b]?
  blk : ∀ id B, H[id]? = some B → ∃ B', H'[id]? = some B' ∧ B.ver ≤ B'.ver ∧ (B'.ver = B.ver → g'.φ id = g.φ id ∧
    ∀ c e fr, w.heap[g.φ id]? = some (.cells c e fr) → ∃ c' fr', w'.heap[g.φ id]? = some (.cells c' e fr') ∧ c'.size = c.size)
  out : ∀ b, b < w.heap.size → ¬ g.F b → ¬ dom g H b → w'.heap[b]? = w.heap[b]?
  size : w.heap.size ≤ w'.heap.size
  os : w'.os = w.os
  tape : w'.tape = w.tape
  output : w'.output = w.output
  newF : ∀ b, g'.F b → g.F b ∨ w.heap.size ≤ b ∨ dom g H b
  newφ : ∀ b, dom g' H' b → dom g H b ∨ w.heap.size ≤ b

/-! ### Lists of values -/
theorem repL_length {F : Nat → Prop} {w : World} : ∀ {cs vs}, repL F w cs vs → cs.length = vs.length
  | [], [], _ => rfl
  | _ :: _, _ :: _, h => by simp only [repL] at h; simp [repL_length h.2]
  | [], _ :: _, h => by simp [repL] at h
  | _ :: _, [], h => by simp [repL] at h
theorem repLA_length {g : G} {w : World} {H : List ABlk} : ∀ {cs vs}, repLA g w H cs vs → cs.length = vs.length
  | [], [], _ => rfl
  | _ :: _, _ :: _, h => by simp only [repLA] at h; simp [repLA_length h.2]
  | [], _ :: _, h => by simp [repLA] at h
  | _ :: _, [], h => by simp [repLA] at h
theorem repL_iff {F : Nat → Prop} {w : World} : ∀ {cs vs}, repL F w cs vs ↔ cs.length = vs.length ∧ ∀ (i : Nat) (x : PV), cs[i]? = some x → ∃ v, vs[i]? = some v ∧ rep F w x v
  | [], [] => by simp [repL]
  | x :: xs, v :: vs => by
    simp only [repL, repL_iff (cs := xs) (vs := vs), List.length_cons]
    constructor
    · rintro ⟨h, hl, hi⟩
      refine ⟨by omega, fun i y hy => ?_⟩
      cases i with
      | zero => simp at hy; subst hy; exact ⟨v, by simp, h⟩
      | succ i => simp at hy; obtain ⟨u, hu, hr⟩ := hi i y hy; exact ⟨u, by simpa using hu, hr⟩
    · rintro ⟨hl, hi⟩
      refine ⟨?_, by omega, fun i y hy => ?_⟩
      · obtain ⟨u, hu, hr⟩ := hi 0 x (by simp); simp at hu; subst hu; exact hr
      · obtain ⟨u, hu, hr⟩ := hi (i + 1) y (by simpa using hy); exact ⟨u, by simpa using hu, hr⟩
  | [], _ :: _ => by simp [repL]
  | _ :: _, [] => by simp [repL]
theorem repLA_iff {g : G} {w : World} {H : List ABlk} : ∀ {cs vs}, repLA g w H cs vs ↔ cs.length = vs.length ∧ ∀ (i : Nat) (x : AV), cs[i]? = some x → ∃ v, vs[i]? = some v ∧ repA g w H x v
  | [], [] => by simp [repLA]
  | x :: xs, v :: vs => by
    simp only [repLA, repLA_iff (cs := xs) (vs := vs), List.length_cons]
    constructor
    · rintro ⟨h, hl, hi⟩
      refine ⟨by omega, fun i y hy => ?_⟩
      cases i with
      | zero => simp at hy; subst hy; exact ⟨v, by simp, h⟩
      | succ i => simp at hy; obtain ⟨u, hu, hr⟩ := hi i y hy; exact ⟨u, by simpa using hu, hr⟩
    · rintro ⟨hl, hi⟩
      refine ⟨?_, by omega, fun i y hy => ?_⟩
      · obtain ⟨u, hu, hr⟩ := hi 0 x (by simp); simp at hu; subst hu; exact hr
      · obtain ⟨u, hu, hr⟩ := hi (i + 1) y (by simpa using hy); exact ⟨u, by simpa using hu, hr⟩
  | [], _ :: _ => by simp [repLA]
  | _ :: _, [] => by simp [repLA]
theorem repF_iff {F : Nat → Prop} {w : World} {b : Nat} : ∀ {cs off}, repF F w b off cs ↔ ∀ (i : Nat) (x : PV), cs[i]? = some x → ∃ u, w.cell? ⟨b, off + i, none⟩ = some u ∧ rep F w x u
  | [], off => by simp [repF]
  | x :: xs, off => by
    simp only [repF, repF_iff (cs := xs) (off := off + 1)]
    constructor
    · rintro ⟨h, hi⟩ i y hy
      cases i with
      | zero => simp at hy; subst hy; exact h
      | succ i => simp at hy; obtain ⟨u, hu, hr⟩ := hi i y hy; exact ⟨u, by rw [← hu]; congr 2; omega, hr⟩
    · intro hi
      refine ⟨hi 0 x (by simp), fun i y hy => ?_⟩
      obtain ⟨u, hu, hr⟩ := hi (i + 1) y (by simpa using hy)
      exact ⟨u, by rw [← hu]; congr 2; omega, hr⟩
theorem repLA_map {g : G} {w : World} {H : List ABlk} : ∀ {xs vs}, repLA g w H (xs.map .p) vs ↔ repL g.F w xs vs
  | [], [] => by simp [repL, repLA]
  | x :: xs, v :: vs => by simp [repL, repLA, repA, repLA_map (xs := xs) (vs := vs)]
  | [], _ :: _ => by simp [repL, repLA]
  | _ :: _, [] => by simp [repL, repLA]
theorem repLA_append {g : G} {w : World} {H : List ABlk} {xs ys vs us} (h1 : repLA g w H xs vs) (h2 : repLA g w H ys us) : repLA g w H (xs ++ ys) (vs ++ us) := by
  induction xs generalizing vs with
  | nil => cases vs with
    | nil => exact h2
    | cons => simp [repLA] at h1
  | cons x xs ih => cases vs with
    | nil => simp [repLA] at h1
    | cons v vs => simp only [repLA] at h1; simp only [List.cons_append, repLA]; exact ⟨h1.1, ih h1.2⟩
theorem repLA_take {g : G} {w : World} {H : List ABlk} (n : Nat) : ∀ {xs vs}, repLA g w H xs vs → repLA g w H (xs.take n) (vs.take n) := by
  induction n with
  | zero => intro xs vs h; simp [repLA]
  | succ n ih =>
    intro xs vs h
    match xs, vs, h with
    | [], [], _ => simp [repLA]
    | x :: xs, v :: vs, h => simp only [repLA] at h; simp only [List.take_succ_cons, repLA]; exact ⟨h.1, ih h.2⟩
theorem repLA_drop {g : G} {w : World} {H : List ABlk} (n : Nat) : ∀ {xs vs}, repLA g w H xs vs → repLA g w H (xs.drop n) (vs.drop n) := by
  induction n with
  | zero => intro xs vs h; simpa using h
  | succ n ih =>
    intro xs vs h
    match xs, vs, h with
    | [], [], _ => simp [repLA]
    | x :: xs, v :: vs, h => simp only [repLA] at h; simpa using ih h.2
theorem repLA_set {g : G} {w : World} {H : List ABlk} {x v} (hx : repA g w H x v) : ∀ {xs vs} (n : Nat), repLA g w H xs vs → repLA g w H (xs.set n x) (vs.set n v)
  | [], [], n, _ => by simp [repLA]
  | y :: xs, u :: vs, 0, h => by simp only [repLA] at h; simp only [List.set_cons_zero, repLA]; exact ⟨hx, h.2⟩
  | y :: xs, u :: vs, n + 1, h => by simp only [repLA] at h; simp only [List.set_cons_succ, repLA]; exact ⟨h.1, repLA_set hx n h.2⟩
theorem mapO_spec {α β : Type} {f : α → Option β} : ∀ {xs ys}, mapO f xs = some ys → xs.length = ys.length ∧ ∀ (i : Nat) (x : α), xs[i]? = some x → ∃ y, ys[i]? = some y ∧ f x = some y
  | [], ys, h => by simp [mapO] at h; subst h; simp
  | x :: xs, ys, h => by
    simp only [mapO] at h
    cases hx : f x with
    | none => rw [hx] at h; simp at h
    | some y =>
      rw [hx] at h
      cases hxs : mapO f xs with
      | none => rw [hxs] at h; simp at h
      | some zs =>
        rw [hxs] at h; simp at h; subst h
        obtain ⟨hl, hi⟩ := mapO_spec hxs
        refine ⟨by simp [hl], fun i z hz => ?_⟩
        cases i with
        | zero => simp at hz; subst hz; exact ⟨y, by simp, hx⟩
        | succ i => simp at hz; obtain ⟨u, hu, hr⟩ := hi i z hz; exact ⟨u, by simpa using hu, hr⟩
theorem mapO_pure {cs : List AV} {xs : List PV} (h : mapO AV.pure? cs = some xs) : cs = xs.map .p := by
  induction cs generalizing xs with
  | nil => simp [mapO] at h; subst h; rfl
  | cons c cs ih =>
    simp only [mapO] at h
    cases c with
    | p x =>
      simp only [AV.pure?] at h
      cases hxs : mapO AV.pure? cs with
      | none => rw [hxs] at h; simp at h
      | some zs => rw [hxs] at h; simp at h; subst h; simp [ih hxs]
    | _ => simp [AV.pure?] at h

/-! ### What is kept -/
section
variable {F F' : Nat → Prop} {w w' : World}
theorem rep_repL_mono (hF : ∀ b, F b → F' b) (hk : ∀ b, F b → w'.heap[b]? = w.heap[b]?) :
    (∀ x v, rep F w x v → rep F' w' x v) ∧ (∀ xs vs, repL F w xs vs → repL F' w' xs vs) ∧ (∀ xs b off, F b → repF F w b off xs → repF F' w' b off xs) := by
  suffices h : ∀ n, (∀ x : PV, SizeOf.sizeOf x ≤ n → ∀ v, rep F w x v → rep F' w' x v) ∧ (∀ xs : List PV, SizeOf.sizeOf xs ≤ n → ∀ vs, repL F w xs vs → repL F' w' xs vs) ∧ (∀ xs : List PV, SizeOf.sizeOf xs ≤ n → ∀ b off, F b → repF F w b off xs → repF F' w' b off xs) from
    ⟨fun x v => (h (SizeOf.sizeOf x)).1 x (Nat.le_refl _) v, fun xs vs => (h (SizeOf.sizeOf xs)).2.1 xs (Nat.le_refl _) vs, fun xs b off => (h (SizeOf.sizeOf xs)).2.2 xs (Nat.le_refl _) b off⟩
  intro n
  induction n with
  | zero =>
    refine ⟨fun x hx => ?_, fun xs hx => ?_, fun xs hx => ?_⟩
    · cases x <;> simp at hx <;> omega
    · cases xs <;> simp at hx
    · cases xs <;> simp at hx
  | succ n ih =>
    obtain ⟨ih1, ih2, ih3⟩ := ih
    refine ⟨fun x hx v h => ?_, fun xs hx vs h => ?_, fun xs hx b off hb h => ?_⟩
    · cases x with
      | sl m e cs =>
        simp at hx
        simp only [rep] at h ⊢
        obtain ⟨A, cap, rfl, h1, h2, h4, h3⟩ := h
        refine ⟨A, cap, rfl, h1, h2, h4, h3.imp id ?_⟩
        rintro ⟨b, off, rfl, hb, hr⟩
        exact ⟨b, off, rfl, hF b hb, ih3 cs (by omega) b off hb hr⟩
      | agg cs =>
        simp at hx
        simp only [rep] at h ⊢
        obtain ⟨vs, rfl, hr⟩ := h
        exact ⟨vs, rfl, ih2 cs (by omega) _ hr⟩
      | tup cs =>
        simp at hx
        simp only [rep] at h ⊢
        obtain ⟨vs, rfl, hr⟩ := h
        exact ⟨vs, rfl, ih2 cs (by omega) _ hr⟩
      | fn f a b =>
        simp at hx
        simp only [rep] at h ⊢
        obtain ⟨as, bs, rfl, hr, hs⟩ := h
        exact ⟨as, bs, rfl, ih2 a (by omega) _ hr, ih2 b (by omega) _ hs⟩
      | _ => first | (simp only [rep] at h ⊢; done) | (simp only [rep] at h ⊢; exact h)
    · match xs, vs, h with
      | [], [], _ => simp [repL]
      | x :: xs, v :: vs, h =>
        simp at hx
        simp only [repL] at h ⊢
        exact ⟨ih1 x (by omega) v h.1, ih2 xs (by omega) vs h.2⟩
    · match xs, h with
      | [], _ => simp [repF]
      | x :: xs, h =>
        simp at hx
        simp only [repF] at h ⊢
        obtain ⟨⟨u, hu, hr⟩, h2⟩ := h
        exact ⟨⟨u, (World.cell?_of_block (w := w) (a := ⟨b, off, none⟩) (hk b hb)).trans hu, ih1 x (by omega) u hr⟩, ih3 xs (by omega) b _ hb h2⟩
end
theorem rep_mono {F F' : Nat → Prop} {w w' : World} (hF : ∀ b, F b → F' b) (hk : ∀ b, F b → w'.heap[b]? = w.heap[b]?) {x v} (h : rep F w x v) : rep F' w' x v := (rep_repL_mono hF hk).1 x v h
theorem repF_mono {F F' : Nat → Prop} {w w' : World} (hF : ∀ b, F b → F' b) (hk : ∀ b, F b → w'.heap[b]? = w.heap[b]?) {xs b off} (hb : F b) (h : repF F w b off xs) : repF F' w' b off xs := (rep_repL_mono hF hk).2.2 xs b off hb h

theorem repA_repLA_mono {g g' : G} {w w' : World} {H H' : List ABlk} (hx : Ext g w H g' w' H') :
    (∀ x v, repA g w H x v → repA g' w' H' x v) ∧ (∀ xs vs, repLA g w H xs vs → repLA g' w' H' xs vs) := by
  suffices h : ∀ n, (∀ x : AV, SizeOf.sizeOf x ≤ n → ∀ v, repA g w H x v → repA g' w' H' x v) ∧ (∀ xs : List AV, SizeOf.sizeOf xs ≤ n → ∀ vs, repLA g w H xs vs → repLA g' w' H' xs vs) from
    ⟨fun x v => (h (SizeOf.sizeOf x)).1 x (Nat.le_refl _) v, fun xs vs => (h (SizeOf.sizeOf xs)).2 xs (Nat.le_refl _) vs⟩
  intro n
  induction n with
  | zero =>
    refine ⟨fun x hx => ?_, fun xs hx => ?_⟩
    · cases x <;> simp at hx <;> omega
    · cases xs <;> simp at hx
  | succ n ih =>
    obtain ⟨ih1, ih2⟩ := ih
    refine ⟨fun x hs v h => ?_, fun xs hs vs h => ?_⟩
    · cases x with
      | p x => simp only [repA] at h ⊢; exact rep_mono hx.F hx.keep h
      | ms id ver off m sz =>
        simp only [repA] at h ⊢
        obtain ⟨A, cap, rfl, hc, B, hB, hv, h⟩ := h
        obtain ⟨B', hB', hv', h'⟩ := hx.blk id B hB
        refine ⟨A, cap, rfl, hc, B', hB', by omega, fun he => ?_⟩
        obtain ⟨ha, c, e, fr, hcell, hsz⟩ := h (by omega)
        obtain ⟨hφ, hcc⟩ := h' (by omega)
        obtain ⟨c', fr', hc', hs'⟩ := hcc c e fr hcell
        exact ⟨by rw [hφ]; exact ha, c', e, fr', by rw [hφ]; exact hc', by omega⟩
      | pt id ver off =>
        simp only [repA] at h ⊢
        obtain ⟨A, rfl, B, hB, hv, h⟩ := h
        obtain ⟨B', hB', hv', h'⟩ := hx.blk id B hB
        exact ⟨A, rfl, B', hB', by omega, fun he => by rw [(h' (by omega)).1]; exact h (by omega)⟩
      | ip cs =>
        simp only [repA] at h ⊢
        obtain ⟨b, off, rfl, hb, hr⟩ := h
        exact ⟨b, off, rfl, hx.F b hb, repF_mono hx.F hx.keep hb hr⟩
      | agg cs =>
        simp at hs
        simp only [repA] at h ⊢
        obtain ⟨vs, rfl, hr⟩ := h
        exact ⟨vs, rfl, ih2 cs (by omega) _ hr⟩
      | tup cs =>
        simp at hs
        simp only [repA] at h ⊢
        obtain ⟨vs, rfl, hr⟩ := h
        exact ⟨vs, rfl, ih2 cs (by omega) _ hr⟩
      | fn f a b =>
        simp at hs
        simp only [repA] at h ⊢
        obtain ⟨as, bs, rfl, hr, hs2⟩ := h
        exact ⟨as, bs, rfl, ih2 a (by omega) _ hr, ih2 b (by omega) _ hs2⟩
    · match xs, vs, h with
      | [], [], _ => simp [repLA]
      | x :: xs, v :: vs, h =>
        simp at hs
        simp only [repLA] at h ⊢
        exact ⟨ih1 x (by omega) v h.1, ih2 xs (by omega) vs h.2⟩
theorem repA_mono {g g' : G} {w w' : World} {H H' : List ABlk} (hx : Ext g w H g' w' H') {x v} (h : repA g w H x v) : repA g' w' H' x v := (repA_repLA_mono hx).1 x v h
theorem repLA_mono {g g' : G} {w w' : World} {H H' : List ABlk} (hx : Ext g w H g' w' H') {x v} (h : repLA g w H x v) : repLA g' w' H' x v := (repA_repLA_mono hx).2 x v h

theorem Ext.refl (g : G) (w : World) (H : List ABlk) : Ext g w H g w H :=
  ⟨fun _ h => h, fun _ _ => rfl, fun id B h => ⟨B, h, Nat.le_refl _, fun _ => ⟨rfl, fun c e fr hc => ⟨c, fr, hc, rfl⟩⟩⟩, fun _ _ _ _ => rfl, Nat.le_refl _, rfl, rfl, rfl, fun _ h => .inl h, fun _ h => .inl h⟩
theorem Ext.trans {g g' g'' : G} {w w' w'' : World} {H H' H'' : List ABlk} (h : Ext g w H g' w' H') (k : Ext g' w' H' g'' w'' H'') : Ext g w H g'' w'' H'' where
  F b hb := k.F b (h.F b hb)
  keep b hb := (k.keep b (h.F b hb)).trans (h.keep b hb)
  blk id B hB := by
    obtain ⟨B', hB', hv, h1⟩ := h.blk id B hB
    obtain ⟨B'', hB'', hv', k1⟩ := k.blk id B' hB'
    refine ⟨B'', hB'', by omega, fun he => ?_⟩
    obtain ⟨hφ, hc⟩ := h1 (by omega)
    obtain ⟨kφ, kc⟩ := k1 (by omega)
    refine ⟨kφ.trans hφ, fun c e fr hcell => ?_⟩
    obtain ⟨c', fr', hc', hs'⟩ := hc c e fr hcell
    obtain ⟨c'', fr'', hc'', hs''⟩ := kc c' e fr' (by rw [hφ]; exact hc')
    exact ⟨c'', fr'', by rw [← hφ]; exact hc'', by omega⟩
  out b hb hF hd := by
    refine (k.out b (Nat.lt_of_lt_of_le hb h.size) (fun hF' => ?_) (fun hd' => ?_)).trans (h.out b hb hF hd)
    · rcases h.newF b hF' with h' | h' | h'
      · exact hF h'
      · omega
      · exact hd h'
    · rcases h.newφ b hd' with h' | h'
      · exact hd h'
      · omega
  size := Nat.le_trans h.size k.size
  os := k.os.trans h.os
  tape := k.tape.trans h.tape
  output := k.output.trans h.output
  newF b hb := by
    rcases k.newF b hb with h' | h' | h'
    · exact h.newF b h'
    · exact .inr (.inl (Nat.le_trans h.size h'))
    · rcases h.newφ b h' with h'' | h''
      · exact .inr (.inr h'')
      · exact .inr (.inl h'')
  newφ b hb := by
    rcases k.newφ b hb with h' | h'
    · exact h.newφ b h'
    · exact .inr (Nat.le_trans h.size h')
end Go.Ev
