/- RulePath: atom.GetSmall of a byte. -/
import Derived.Test.YtjnpencafmjmpaaGreatDoorEvG2
set_option linter.unusedVariables false
namespace Go.Proofs
open Go.RowKit Go.Shelf Go.Ev
attribute [local go_sem] Oper.semAt_some

theorem PExt.below {F F' : Nat → Prop} {w w' : World} (h : PExt F w F' w') : Below w.heap.size w w' := ⟨h.os, h.tape, h.output, h.size, fun k hk => h.old k hk⟩
theorem kv (n : Nat) : (Int.ofNat n) = (n : Int) := rfl
/-- The node of a byte, as the machine has it. -/
structure IsOne (F : Nat → Prop) (w : World) (p : Nat) (a : Option Addr) (c : Nat) (a2 : Option Addr) (c2 : Nat) : Prop where
  bd : ∀ b, F b → b < w.heap.size
  r : repL F w [.int .u8 2, .sl 1 false [.int .u8 (Int.ofNat p)], .sl 0 false []] [.int .u8 2, .slice a 1 c, .slice a2 0 c2]
def fewOf : (p : Nat) → p ≤ 100 → List (Fin 101)
  | 0, _ => []
  | p + 1, h => [⟨p + 1, by omega⟩]
theorem fewOf_len (p : Nat) (hp : p ≤ 100) : (fewOf p hp).length ≤ 1 := by cases p <;> simp [fewOf]
theorem few_rep {F : Nat → Prop} {w : World} {p : Nat} (hp : p ≤ 100) {v : Value} (hF : ∀ b, F b → b < w.heap.size) (h : rep F w (oneNat p) v) : FewDigits w.heap.size w v (fewOf p hp) := by
  cases p with
  | zero =>
    simp only [oneNat, rep] at h
    obtain ⟨A, cap, rfl, _⟩ := h
    exact ⟨A, cap, .inl ⟨rfl, rfl⟩⟩
  | succ p =>
    simp only [oneNat, rep] at h
    obtain ⟨A, cap, rfl, _, _, _, h | ⟨b, off, rfl, hb, hc⟩⟩ := h
    · cases h
    · simp only [repF, rep] at hc
      obtain ⟨⟨u, hu, rfl⟩, _⟩ := hc
      exact ⟨none, cap, .inr ⟨b, off, ⟨p + 1, by omega⟩, rfl, rfl, hF b hb, hu⟩⟩
theorem int_calls {F : Nat → Prop} {w W : World} {p : Nat} (hp : p ≤ 100) {a a2 : Option Addr} {c c2 : Nat} (h : IsOne F w p a c a2 c2) (hB : Below w.heap.size w W) :
    Calls Tryz.prog 58 #[.agg #[.int .u8 2, .slice a 1 c, .slice a2 0 c2], .int .i64 9] W fun e w' => ∃ A n cap F', e = .returned (.tuple #[.slice A n cap, .bool true]) ∧ Below W.heap.size W w' ∧ (∀ b, F' b → b < w'.heap.size) ∧ rep F' w' (oneNat p) (.slice A n cap) := by
  have hk : ∀ b, F b → W.heap[b]? = w.heap[b]? := fun b hb => hB.block b (h.bd b hb)
  have hr : repL F W [oneNode p, .int .i64 9] (#[Value.agg #[.int .u8 2, .slice a 1 c, .slice a2 0 c2], Value.int .i64 9]).toList := by
    simp only [oneNode, repL, rep, and_true]
    exact ⟨_, rfl, (rep_repL_mono (fun _ h => h) hk).2.1 _ _ h.r⟩
  refine (WP_sound tpB_ok.1 tpB_ok.2 (int_one p hp) (F := F) (fun b hb => Nat.lt_of_lt_of_le (h.bd b hb) hB.size) hr).mono ?_
  rintro e w' ⟨v, F', rfl, hx, hr⟩
  simp only [rep] at hr
  obtain ⟨vs, rfl, hr⟩ := hr
  obtain ⟨vs⟩ := vs
  match vs, hr with
  | [x, y], hr =>
    simp only [repL, rep, and_true] at hr
    obtain ⟨hx1, rfl⟩ := hr
    have : ∃ A n cap, x = .slice A n cap := by
      cases p <;> simp only [oneNat, rep] at hx1 <;> obtain ⟨A, cap, rfl, _⟩ := hx1 <;> exact ⟨_, _, _, rfl⟩
    obtain ⟨A, n, cap, rfl⟩ := this
    exact ⟨A, n, cap, F', rfl, PExt.below hx, hx.bound, hx1⟩
  | [], hr => simp [repL] at hr
  | [_], hr => simp [repL] at hr
  | _ :: _ :: _ :: _, hr => simp [repL] at hr
theorem bits_calls {F : Nat → Prop} {w W : World} {p : Nat} (hp : p ≤ 100) {v : Value} (hF : ∀ b, F b → b < w.heap.size) (h : rep F w (oneNat p) v) (hB : Below w.heap.size w W) :
    Calls Tryz.prog 59 #[v] W fun e w' => ∃ n : Int, n ≤ 64 ∧ e = .returned (.int .i64 n) ∧ Below W.heap.size W w' := by
  have hk : ∀ b, F b → W.heap[b]? = w.heap[b]? := fun b hb => hB.block b (hF b hb)
  obtain ⟨n, hn, hw⟩ := bits_one p hp
  refine (WP_sound tpB_ok.1 tpB_ok.2 hw (F := F) (w := W) (argv := #[v]) (fun b hb => Nat.lt_of_lt_of_le (hF b hb) hB.size) ⟨rep_mono (fun _ h => h) hk h, trivial⟩).mono ?_
  rintro e w' ⟨v, F', rfl, hx, hr⟩
  simp only [rep] at hr
  subst hr
  exact ⟨n, hn, rfl, PExt.below hx⟩
def lastOf : List (Fin 101) → Int
  | [] => 0
  | x :: _ => (x.1 : Int)
theorem lastOf_few (p : Nat) (hp : p ≤ 100) : lastOf (fewOf p hp) = (p : Int) := by cases p <;> rfl
theorem or_zero : ∀ x : Fin 101, Go.bits .or .u64 0 (x.1 : Int) = (x.1 : Int) := by decide +kernel
theorem tz_nt32 : Tryz.f32.ntmps = 31 := rfl
set_option maxRecDepth 100000 in
set_option maxHeartbeats 4000000 in
theorem small_calls {F : Nat → Prop} {w : World} {p : Nat} (hp : p ≤ 100) {a a2 : Option Addr} {c c2 : Nat} (h : IsOne F w p a c a2 c2) :
    Calls Tryz.prog 32 #[.agg #[.int .u8 2, .slice a 1 c, .slice a2 0 c2]] w fun e w' => e = .returned (.tuple #[.int .u64 (p : Int), .bool true]) ∧ Below w.heap.size w w' := by
  refine (callsIn_wide (n := 3)).1 ?_
  have hro : Fence.wide.round = none := rfl
  refine callsIn_of_wp_marks Tryz.func32 rfl trivial ?_ hro
  simp only [tz_nt32, List.size_toArray, List.length_cons, List.length_nil, Nat.reduceAdd, Nat.reduceSub, Array.replicate_succ, Array.replicate_zero, List.push_toArray, List.append_toArray, List.nil_append, List.cons_append]
  gi_wp2_with (refine ⟨trivial, ?_⟩; gi_at_call 58; refine (callsIn_wide.2 (int_calls hp h ((Below.refl _ _).alloc (Nat.le_refl _) _))).mono ?_; rintro e w1 ⟨A, n, cap, F1, rfl, hB1, hF1, hr1⟩)
  have hB1' : Below w.heap.size w w1 := ((Below.refl _ w).alloc (Nat.le_refl _) _).trans (hB1.mono (by simp))
  gi_wp2_with (refine ⟨trivial, ?_⟩; gi_at_call 59; refine (callsIn_wide.2 (bits_calls hp hF1 hr1 (Below.refl _ _))).mono ?_; rintro e w2 ⟨nb, hnb, rfl, hB2⟩)
  have hd : decide (nb > 64) = false := by simp; omega
  simp only [hd]
  gi_wp2_with (refine ⟨trivial, ?_⟩; gi_at_call 60; refine (back_in Fence.wide 2 trivial hro _ _ _ _).mono ?_; rintro e w3 ⟨rfl, rfl⟩)
  have hB2' : Below w.heap.size w w2 := hB1'.trans (hB2.mono hB1'.size)
  have hsz : w.heap.size + 1 ≤ w2.heap.size := Nat.le_trans (by have := hB1.size; simpa using this) hB2.size
  have hD : FewDigits w2.heap.size w2 (.slice A n cap) (fewOf p hp) := by
    obtain ⟨X, cp, e | ⟨b, off, z, e1, e2, hb, hc⟩⟩ := few_rep hp hF1 hr1
    · exact ⟨X, cp, .inl e⟩
    · exact ⟨X, cp, .inr ⟨b, off, z, e1, e2, Nat.lt_of_lt_of_le hb hB2.size, (hB2.cell (p := ⟨b, off, none⟩) hb).trans hc⟩⟩
  have bV := Boxed.new w2 40 (.int .u64 0)
  have bN := Boxed.new (w2.alloc (.cells #[.int .u64 0] 40)) 23 (.slice A n cap)
  rw [World.size_alloc] at bN
  have hB0 : Below w2.heap.size w2 ((w2.alloc (.cells #[.int .u64 0] 40)).alloc (.cells #[.slice A n cap] 23)) := ((Below.refl _ w2).alloc (Nat.le_refl _) _).alloc (by simp) _
  have h1 : 1 ≤ 3 := by omega
  refine wpIn_rangeFunc_ownF hro h1 (gf := 85) (lb := #[.pointer (some ⟨w2.heap.size + 1, 0, none⟩)]) rfl trivial (enters_of Tryz.func85 (by kernel_rfl) rfl)
    (back_stops Fence.wide 2 trivial hro (by omega) (w2.heap.size + 1) w2.heap.size _ (fewOf p hp) _ (by simp) (by simp; omega) bN.cell (hD.below hB0)) belowK_t (belowK_b (by simp; omega)) (Below.refl _ _) (fun _ => rfl)
    (fun pre W => (W.cell? ⟨w2.heap.size, 0, none⟩ = some (.int .u64 (lastOf pre)) ∧ W.frozen? ⟨w2.heap.size, 0, none⟩ = false) ∧ Below w2.heap.size w2 W)
    (fun _ _ _ => False)
    (OwnFrom.and (Own.from (fun s A B row hs hg hr => ⟨cell_kept hs.1 hg hr, (frozen_kept hs.1 hg hr).trans hs.2⟩) _) (ownFrom_below (Nat.le_refl _) (by simp; omega)))
    (fun _ _ _ _ _ hs _ _ => hs)
    ⟨⟨(bV.alloc _).cell, (bV.alloc _).frozen⟩, hB0⟩
    (fun x => { tmps := #[Value.agg #[Value.int IntKind.u8 2, Value.slice a 1 c, Value.slice a2 0 c2], Value.pointer (some { block := w.heap.size, off := 0 }), Value.int IntKind.u64 0, Value.bool false, Value.slice A n cap, Value.bool true, Value.pointer (some { block := w2.heap.size, off := 0 }), undef, Value.int IntKind.u32 (x.1 : Int), Value.tuple #[Value.slice A n cap, Value.bool true], Value.agg #[Value.int IntKind.u8 2, Value.slice a 1 c, Value.slice a2 0 c2], Value.tuple #[Value.slice A n cap, Value.bool true], Value.slice A n cap, Value.bool true, Value.bool true, Value.bool false, Value.bool false, Value.slice A n cap, Value.int IntKind.i64 nb, Value.bool false, Value.bool false, Value.slice A n cap, Value.func (Fn.func 85) #[] #[Value.pointer (some { block := w2.heap.size + 1, off := 0 })], Value.int IntKind.i64 0, Value.int IntKind.u32 (x.1 : Int), undef, undef, undef, undef, undef, undef], defers := [] }) ?assign ?body ?done ?stop
  case assign =>
    intro l x W K hK
    gi_wp2
    exact hK
  case body =>
    rintro l pre x W ⟨⟨hc, hf⟩, hB⟩ hlen
    have : pre = [] := by
      have := fewOf_len p hp
      cases pre with
      | nil => rfl
      | cons y ys => simp at hlen; omega
    subst this
    simp only [lastOf] at hc
    gi_wp2
    refine ⟨KeepsOthers.setCell _ _ _, (Below.refl w2.heap.size W).setCell (p := ⟨w2.heap.size, 0, none⟩) (Nat.le_refl _) _, ⟨?_, by rw [World.frozen?_setCell]; exact hf⟩, hB.setCell (p := ⟨w2.heap.size, 0, none⟩) (Nat.le_refl _) _⟩
    rw [or_zero]
    exact World.cell?_setCell_same' _ _ _ (by rw [hc]; rfl)
  case done =>
    rintro D ys W hD rfl ⟨⟨hc, _⟩, hB⟩ hK
    gi_wp2
    refine ⟨by simp, .inl ⟨_, _, rfl, run_takeDeferred hK, ?_⟩⟩
    exact ⟨_, results_tmp2 rfl _ _ _, by rw [lastOf_few]; rfl, (hB2'.trans (hB.mono hB2'.size)).trans (belowK_b (w := w2) (n₀ := w.heap.size) (by omega) W D _ _ (by simp at hD; omega) hK rfl rfl)⟩
  case stop =>
    rintro D c pre W _ _ h _
    exact h.elim
end Go.Proofs
