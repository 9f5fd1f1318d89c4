/- The evaluator is sound: regions, calls. No condition. -/
import Derived.Test.YtfhhgndppfpngaaRsa02
set_option linter.unusedSimpArgs false
set_option linter.unusedVariables false
set_option linter.unusedVariables false
set_option linter.unusedSimpArgs false
namespace Go.Ev
open Go.RowKit
variable {g : G} {w : World} {H : List ABlk} {C : Cfg} {call : CallE}

structure Rel (g : G) (w : World) (S : St) (a : Act) : Prop where
  inv : Inv g w S.H
  tmps : repLA g w S.H S.t a.tmps.toList
  defers : a.defers = []

theorem wantedA_spec {ops : Array Oper} {t : List AV} {tmps : Array Value} {o : Oper} {b : Bool} (ht : repLA g w H t tmps.toList) (h : wantedA ops t o = some b) : Region.wanted o (yielded ops tmps) = b := by
  unfold wantedA at h
  unfold Region.wanted
  split at h
  · rename_i hg; rw [hg]; cases h; rfl
  · rename_i j want hg
    rw [hg]
    simp only
    unfold yielded
    split at h
    · rename_i hd; rw [hd]; cases h; rfl
    · rename_i d hd
      rw [hd]
      simp only [Option.bind_some]
      split at h
      · rename_i c hc
        obtain ⟨v, hv, hr⟩ := (repLA_iff.1 ht).2 _ _ hc
        simp only [repA, rep] at hr; subst hr
        rw [Array.getElem?_toList] at hv
        rw [hv]; cases h
        simp
      · rename_i hc
        obtain ⟨v, hv, hr⟩ := (repLA_iff.1 ht).2 _ _ hc
        simp only [repA, rep] at hr; subst hr
        rw [Array.getElem?_toList] at hv
        rw [hv]; cases h
        rfl
      · cases h
theorem put_rep {t : List AV} {a : Act} {d : Option Tmp} {x : AV} {v : Value} (ht : repLA g w H t a.tmps.toList) (hx : repA g w H x v) : repLA g w H (putA t d x) (a.put d v).tmps.toList := by
  cases d with
  | none => exact ht
  | some d => simp only [putA, Act.put, Array.toList_setIfInBounds]; exact repLA_set hx d ht
theorem put_defers (a : Act) (d : Option Tmp) (v : Value) : (a.put d v).defers = a.defers := by cases d <;> rfl

theorem evStep_sound (hC : CfgOK C) (hcall : CallOK C call) {st : Bool} {ops : Array Oper} {i : Nat} {o : Oper} {S S1 : St} {a : Act} (ho : ops[i]? = some o) (h : evStep C call st ops o S = some S1) (hr : Rel g w S a)
    (K : Act → World → Prop) (Q : Exit → Act → World → Prop) (hK : ∀ a' w' g', Rel g' w' S1 a' → Ext g w S.H g' w' S1.H → K a' w') : wpOp C.P ops Q i K a w := by
  unfold wpOp
  rw [ho]
  simp only
  unfold evStep at h
  split at h
  · cases h
  · rename_i hw
    cases h
    rw [wantedA_spec hr.tmps hw]
    simp only [Bool.false_eq_true, if_false]
    exact hK _ w g ⟨hr.inv, put_rep hr.tmps (by simp [repA, rep]), by rw [put_defers]; exact hr.defers⟩ (Ext.refl _ _ _)
  · rename_i hw
    rw [wantedA_spec hr.tmps hw]
    simp only [if_true]
    split at h
    · cases h
    · rename_i x H' hx
      cases h
      left
      refine evOp_sound hC hcall hr.inv hr.tmps hx K Q fun v w' g' h1 h2 h3 => ?_
      exact hK _ w' g' ⟨h1, put_rep (repLA_mono h2 hr.tmps) h3, by rw [put_defers]; exact hr.defers⟩ h2

def evIdx (C : Cfg) (call : CallE) (st : Bool) (ops : Array Oper) : List Nat → St → Option St
  | [], S => some S
  | i :: l, S => match ops[i]? with
    | none => evIdx C call st ops l S
    | some o => match evStep C call st ops o S with
      | none => none
      | some S1 => evIdx C call st ops l S1
theorem evIdx_ops {st : Bool} {ops : Array Oper} : ∀ (l : List Nat) (S : St), evIdx C call st ops l S = evOps C call st ops (l.filterMap (ops[·]?)) S
  | [], S => rfl
  | i :: l, S => by
    simp only [evIdx, List.filterMap_cons]
    cases ops[i]? with
    | none => simp only; exact evIdx_ops l S
    | some o => simp only [evOps]; cases evStep C call st ops o S with
      | none => rfl
      | some S1 => simp only; exact evIdx_ops l S1
theorem range_ops (ops : Array Oper) : (List.range ops.size).filterMap (ops[·]?) = ops.toList := by
  have : ∀ (l : List Oper), (List.range l.length).filterMap (l[·]?) = l := by
    intro l
    induction l with
    | nil => rfl
    | cons x l ih =>
      rw [List.length_cons, List.range_succ_eq_map, List.filterMap_cons]
      simp only [List.getElem?_cons_zero, List.filterMap_map]
      congr 1
  have h := this ops.toList
  rw [Array.length_toList] at h
  simpa only [Array.getElem?_toList] using h
theorem evIdx_sound (hC : CfgOK C) (hcall : CallOK C call) {st : Bool} {ops : Array Oper} (Q : Exit → Act → World → Prop) : ∀ (l : List Nat) (S S' : St) (g : G) (w : World) (a : Act), evIdx C call st ops l S = some S' → Rel g w S a →
    (∀ a' w' g', Rel g' w' S' a' → Ext g w S.H g' w' S'.H → Q .normal a' w') → wpOps C.P ops Q l a w
  | [], S, S', g, w, a, h, hr, hQ => by cases h; exact hQ a w g hr (Ext.refl _ _ _)
  | i :: l, S, S', g, w, a, h, hr, hQ => by
    rw [wpOps_cons]
    simp only [evIdx] at h
    cases ho : ops[i]? with
    | none => rw [ho] at h; unfold wpOp; rw [ho]; exact evIdx_sound hC hcall Q l S S' g w a h hr hQ
    | some o =>
      rw [ho] at h
      simp only at h
      cases hs : evStep C call st ops o S with
      | none => rw [hs] at h; cases h
      | some S1 =>
        rw [hs] at h
        exact evStep_sound hC hcall ho hs hr _ Q fun a' w' g' h1 h2 => evIdx_sound hC hcall Q l S1 S' g' w' a' h h1 fun a2 w2 g2 k1 k2 => hQ a2 w2 g2 k1 (h2.trans k2)

/-! ### Whatever the order -/
def cls (C : Cfg) (o : Oper) : Nat :=
  match o.op with
  | .move _ | .assign _ | .pick .. | .build .. | .unOp .. | .binOp .. | .makeFunc .. | .slice .. | .fieldAddr .. | .field .. | .indexAddr .. | .index .. | .extract .. | .nilCheck _ | .buildSlice .. | .makeSlice .. => 0
  | .convert s _ _ => match C.P.underlying s with
    | some (.slice _) => 1
    | _ => 0
  | .load .. => 1
  | .call c => match c.callee with
    | .builtin .len | .builtin .max | .builtin .min => 0
    | .builtin .append => if C.pa then 0 else 2
    | .value (.func k) => if C.md k = 0 ∨ C.md k = 4 then 1 else 2
    | _ => 2
  | _ => 2
def commC (a b : Nat) : Bool := a == 0 || b == 0 || (a == 1 && b == 1)
def preds (o : Oper) : List Nat := (o.after.toList.filter (Region.binds .any)).map (·.on)
def drawOK (C : Cfg) (ops : Array Oper) : Bool :=
  let M := Region.before ops
  (List.range ops.size).all fun i => match ops[i]? with
    | none => true
    | some o => (preds o).all (fun e => decide (e < i)) && (List.range i).all fun j => match ops[j]? with
      | none => true
      | some q => if (M.getD i 0).testBit j then (preds o).contains j || (preds o).any (fun e => decide (j < e) && (M.getD e 0).testBit j) else Oper.apart ops q o && commC (cls C q) (cls C o)

theorem mapO_congr {α β : Type} {f f' : α → Option β} : ∀ {xs : List α}, (∀ x ∈ xs, f x = f' x) → mapO f xs = mapO f' xs
  | [], _ => rfl
  | x :: xs, h => by simp only [mapO]; rw [h x (by simp), mapO_congr (fun y hy => h y (by simp [hy]))]
theorem evOp_congr {st : Bool} {ρ ρ' : Env} {o : Oper} (h : ∀ x ∈ o.op.operands, ρ x = ρ' x) : evOp C call st ρ H o = evOp C call st ρ' H o := by
  obtain ⟨dst, op, type, pos, after, guard⟩ := o
  have hp : ∀ ps : Array (Nat × Operand), (∀ x ∈ (ps.toList.map (·.2)).toArray, ρ x = ρ' x) → parts ρ ps = parts ρ' ps := fun ps hps => by
    unfold parts
    exact mapO_congr fun q hq => by rw [hps q.2 (by simp only [List.mem_toArray, List.mem_map]; exact ⟨q, hq, rfl⟩)]
  have ho : ∀ x : Option Operand, (∀ y ∈ x.toArray, ρ y = ρ' y) → optO ρ x = optO ρ' x := fun x hx => by
    cases x with
    | none => rfl
    | some y => simp only [optO]; rw [hx y (by simp)]
  cases op <;> simp only [Op.operands] at h <;> simp only [evOp] <;> try rfl
  case move x => rw [h x (by simp)]
  case assign x => rw [h x (by simp)]
  case pick c x y => rw [h c (by simp), h x (by simp), h y (by simp)]
  case box e x => rw [h x (by simp)]
  case build t ps => rw [hp ps h]
  case buildSlice t n ps => rw [hp ps h]
  case load t x => rw [h x (by simp)]
  case store t x y => rw [h x (by simp), h y (by simp)]
  case nilCheck x => rw [h x (by simp)]
  case binOp op t x y yt => rw [h x (by simp), h y (by simp)]
  case unOp op t x => rw [h x (by simp)]
  case convert s d x => rw [h x (by simp)]
  case makeFunc f x y =>
    rw [mapO_congr (f := ρ) (f' := ρ') (xs := x.toList) (fun z hz => h z (by simp at hz ⊢; exact .inl hz)), mapO_congr (f := ρ) (f' := ρ') (xs := y.toList) (fun z hz => h z (by simp at hz ⊢; exact .inr hz))]
  case makeSlice t x y => rw [h x (by simp), h y (by simp)]
  case slice t x lo hi mx =>
    rw [h x (by simp), ho lo (fun y hy => h y (by simp at hy ⊢; simp [hy])), ho hi (fun y hy => h y (by simp at hy ⊢; simp [hy])), ho mx (fun y hy => h y (by simp at hy ⊢; simp [hy]))]
  case fieldAddr s x i => rw [h x (by simp)]
  case field s x i => rw [h x (by simp)]
  case indexAddr t x i => rw [h x (by simp), h i (by simp)]
  case index t x i => rw [h x (by simp), h i (by simp)]
  case extract x i => rw [h x (by simp)]
  case call c =>
    simp only [Call.operands] at h
    rw [mapO_congr (f := ρ) (f' := ρ') (xs := c.args.toList) (fun z hz => h z (by simp at hz ⊢; exact .inr hz))]
    obtain ⟨callee, cargs, cats⟩ := c
    cases callee with
    | value f => simp only; rw [h f (by simp)]
    | invoke r m => rfl
    | builtin b => rfl
theorem ret1_any {H H1 : List ABlk} {x : AV} {m : Option AV} (h : ret1 H m = some (x, H1)) : H1 = H ∧ ∀ H2, ret1 H2 m = some (x, H2) := by
  obtain ⟨h1, h2⟩ := ret1_some h
  exact ⟨h2, fun H2 => by rw [h1]; rfl⟩
theorem evBuildSlice_true (P : Program) (t : TypeId) (n : Nat) (qs : List (Nat × AV)) : ∃ m, ∀ H, evBuildSlice P true t n qs H = ret1 H m := by
  unfold evBuildSlice
  cases h1 : elemT P t with
  | none => exact ⟨none, fun _ => rfl⟩
  | some e =>
    simp only
    cases h2 : sizeT P e with
    | none => exact ⟨none, fun _ => rfl⟩
    | some size => cases h3 : zeroT P e with
      | none => exact ⟨none, fun _ => rfl⟩
      | some z =>
        simp only
        by_cases hc : size = 0 ∨ z.length ≠ size ∨ n * size > 16777216
        · exact ⟨none, fun _ => by rw [if_pos hc]; rfl⟩
        · simp only [if_neg hc]
          cases h4 : afill (fun i => some (i * size, size)) (List.replicate n z).flatten qs with
          | none => exact ⟨none, fun _ => rfl⟩
          | some cs =>
            simp only
            cases h5 : mapO AV.pure? cs with
            | none => exact ⟨none, fun _ => rfl⟩
            | some xs => exact ⟨some (.p (.sl n true xs)), fun _ => rfl⟩
theorem evMakeSlice_true (P : Program) (t : TypeId) (a b : AV) : ∃ m, ∀ H, evMakeSlice P true t a b H = ret1 H m := by
  by_cases hm : ∃ x, ∃ H H1, evMakeSlice P true t a b H = some (x, H1)
  · obtain ⟨x, H, H1, h⟩ := hm
    refine ⟨some x, fun H2 => ?_⟩
    unfold evMakeSlice at h ⊢
    split at h
    · split at h
      · split at h
        · cases h
        · rename_i hn
          rw [if_neg hn]
          split at h
          · rename_i hp
            rw [if_pos hp]
            simp only [if_true] at h ⊢
            split at h
            · rename_i hl
              rw [if_pos hl]
              split at h
              · cases h; rfl
              · cases h
            · cases h
          · cases h
      · cases h
    · cases h
  · refine ⟨none, fun H => ?_⟩
    cases h : evMakeSlice P true t a b H with
    | none => rfl
    | some q => exact absurd ⟨q.1, H, q.2, h⟩ hm
theorem evOp_plain {ρ : Env} {o : Oper} {x : AV} {H1 : List ABlk} (hc : cls C o = 0) (h : evOp C call true ρ H o = some (x, H1)) : H1 = H ∧ ∀ H2, evOp C call true ρ H2 o = some (x, H2) := by
  obtain ⟨dst, op, type, pos, after, guard⟩ := o
  cases op <;> simp only [cls] at hc <;> try (cases hc; done)
  all_goals simp only [evOp] at h ⊢
  case move => exact ret1_any h
  case assign => exact ret1_any h
  case pick => split at h <;> cases h; exact ⟨rfl, fun _ => rfl⟩
  case build => split at h; cases h; exact ret1_any h
  case buildSlice t n ps =>
    split at h
    · cases h
    · obtain ⟨m, hm⟩ := evBuildSlice_true C.P t n ‹_›
      simp only [hm] at h ⊢
      exact ret1_any h
  case nilCheck => split at h; cases h; exact ret1_any h
  case binOp => split at h; exact ret1_any h; cases h
  case unOp => split at h; exact ret1_any h; cases h
  case convert s d y =>
    split at h
    · rename_i u hu
      unfold evConv at h ⊢
      split at h
      · cases h; exact ⟨rfl, fun _ => rfl⟩
      · cases h; exact ⟨rfl, fun _ => rfl⟩
      · split at h
        · simp only [if_true] at h ⊢; cases h; exact ⟨rfl, fun _ => rfl⟩
        · cases h
      · rename_i e hs _
        rw [hs] at hc; simp at hc
      · cases h
    · cases h
  case makeFunc => split at h; cases h; exact ⟨rfl, fun _ => rfl⟩; cases h
  case makeSlice t l c =>
    split at h
    · rename_i u v _ _
      obtain ⟨m, hm⟩ := evMakeSlice_true C.P t u v
      simp only [hm] at h ⊢
      exact ret1_any h
    · cases h
  case slice => split at h; exact ret1_any h; cases h
  case fieldAddr => split at h; exact ret1_any h; cases h
  case field => split at h; exact ret1_any h; cases h
  case indexAddr => split at h; exact ret1_any h; cases h
  case index => split at h; exact ret1_any h; cases h
  case extract => split at h; exact ret1_any h; cases h
  case call c =>
    obtain ⟨callee, cargs, cats⟩ := c
    split at h
    · cases h
    rename_i args hargs
    cases callee with
    | value f =>
      exfalso
      cases f <;> simp at hc
      split at hc <;> cases hc
    | invoke r m => simp at hc
    | builtin b =>
      simp only at h ⊢
      cases b <;> simp at hc
      all_goals
        unfold evBuiltin at h ⊢
        split at h <;> first | (cases h; done) | skip
        all_goals first
          | contradiction
          | (rw [hc] at h ⊢
             simp only [Bool.and_self, if_true] at h ⊢
             split at h
             · cases h; exact ⟨rfl, fun _ => rfl⟩
             · cases h)
          | (split at h
             · cases h; exact ⟨rfl, fun _ => rfl⟩
             · cases h)
theorem evOp_reads {ρ : Env} (hρ : ∀ k, ρ (.func k) = some (.p (.fn (.func k) [] []))) {o : Oper} {x : AV} {H1 : List ABlk} (hc : cls C o = 0 ∨ cls C o = 1) (h : evOp C call true ρ H o = some (x, H1)) : H1 = H := by
  rcases hc with hc | hc
  · exact (evOp_plain hc h).1
  obtain ⟨dst, op, type, pos, after, guard⟩ := o
  cases op <;> simp only [cls] at hc <;> try (cases hc; done)
  all_goals simp only [evOp] at h
  case load => split at h; cases h; exact (ret1_some h).2
  case convert s d y =>
    split at h
    · unfold evConv at h
      split at h
      · cases h; rfl
      · cases h; rfl
      · split at h
        · simp only [if_true] at h; cases h; rfl
        · cases h
      · unfold evBytes at h
        split at h
        · split at h
          · cases h
          · split at h
            · cases h
            · split at h
              · cases h
              · split at h
                · cases h
                · split at h
                  · cases h
                  · cases h; rfl
        · cases h
      · cases h
    · cases h
  case call c =>
    obtain ⟨callee, cargs, cats⟩ := c
    split at h
    · cases h
    cases callee with
    | value f =>
      cases f with
      | func k =>
        simp only at hc
        split at hc
        · rename_i hk
          simp only [hρ, calleeOf, List.map_nil, List.nil_append, List.append_nil] at h
          split at h
          · omega
          unfold evCall at h
          have ht : ∀ {ok : Bool} {y : PV}, tell ok H H y = some (x, H1) → H1 = H := by
            intro ok y ht
            unfold tell at ht
            split at ht
            · cases ht; rfl
            · split at ht
              · cases ht; rfl
              · cases ht
          split at h
          · cases h
          split at h
          · omega
          split at h
          · split at h
            · omega
            · cases h
          · simp only [if_true] at h
            split at h
            · exact ht h
            · split at h
              · split at h
                · split at h
                  · exact ht h
                  · cases h
                · cases h
              split at h
              · cases h
              · split at h
                · omega
                · split at h
                  · exact ht h
                  · cases h
        · cases hc
      | _ => simp at hc
    | invoke r m => simp at hc
    | builtin b => cases b <;> simp at hc <;> (split at hc <;> cases hc)
theorem wantedA_put {ops : Array Oper} {t : List AV} {d : Option Tmp} {x : AV} {o : Oper} (h : ∀ e, d = some e → e ∉ o.looksAt ops) : wantedA ops (putA t d x) o = wantedA ops t o := by
  unfold wantedA
  cases hg : o.guard with
  | none => rfl
  | some q =>
    obtain ⟨j, want⟩ := q
    simp only
    cases hd : (ops[j]?).bind (·.dst) with
    | none => rfl
    | some e =>
      simp only
      cases d with
      | none => rfl
      | some f =>
        have hne : f ≠ e := fun he => h f rfl (by simp [Oper.looksAt, hg, hd, he])
        simp only [putA, List.getElem?_set_ne hne]
theorem opv_put' {t : List AV} {d : Option Tmp} {x : AV} {o : Oper} {ops : Array Oper} (h : ∀ e, d = some e → e ∉ o.looksAt ops) : ∀ y ∈ o.op.operands, opv (putA t d x) y = opv t y := by
  intro y hy
  cases d with
  | none => rfl
  | some e =>
    cases y with
    | tmp i =>
      have hne : e ≠ i := fun he => h e rfl (by
        simp only [Oper.looksAt, List.mem_append]
        left
        rw [List.mem_filterMap]
        exact ⟨.tmp i, by simpa using hy, by rw [he]⟩)
      simp only [opv, putA, List.getElem?_set_ne hne]
    | _ => rfl
theorem putA_comm {t : List AV} {d e : Option Tmp} {x y : AV} (h : ∀ k, d = some k → e ≠ some k) : putA (putA t d x) e y = putA (putA t e y) d x := by
  cases d with
  | none => rfl
  | some k => cases e with
    | none => rfl
    | some m =>
      have : k ≠ m := fun he => h k rfl (by rw [he])
      simp only [putA]
      exact List.set_comm _ _ this
/-- Two operations that do not hang on each other may change places. -/
theorem swap {ops : Array Oper} {p q : Oper} (ha : Oper.apart ops p q = true) (hc : commC (cls C p) (cls C q) = true) {S Sp S2 : St} (h1 : evStep C call true ops p S = some Sp) (h2 : evStep C call true ops q Sp = some S2) :
    ∃ Sq, evStep C call true ops q S = some Sq ∧ evStep C call true ops p Sq = some S2 := by
  obtain ⟨a1, a2, a3⟩ := Oper.apart_spec ha
  have key : ∀ {o : Oper} {t : List AV} {H : List ABlk} {S1 : St}, evStep C call true ops o ⟨t, H⟩ = some S1 → ∃ x H1, S1 = ⟨putA t o.dst x, H1⟩ ∧ (wantedA ops t o = some false ∧ x = .p .und ∧ H1 = H ∨ wantedA ops t o = some true ∧ evOp C call true (opv t) H o = some (x, H1)) := by
    intro o t H S1 h
    unfold evStep at h
    simp only at h
    split at h
    · cases h
    · rename_i hw; cases h; exact ⟨_, _, rfl, .inl ⟨hw, rfl, rfl⟩⟩
    · rename_i hw
      split at h
      · cases h
      · rename_i x H1 hx; cases h; exact ⟨x, H1, rfl, .inr ⟨hw, hx⟩⟩
  obtain ⟨t, H⟩ := S
  obtain ⟨x, H1, rfl, hx⟩ := key h1
  obtain ⟨y, H2, rfl, hy⟩ := key h2
  have hwq : wantedA ops (putA t p.dst x) q = wantedA ops t q := wantedA_put a1
  have hwp : ∀ y, wantedA ops (putA t q.dst y) p = wantedA ops t p := fun y => wantedA_put a3
  have heq : ∀ H, evOp C call true (opv (putA t p.dst x)) H q = evOp C call true (opv t) H q := fun H => evOp_congr (opv_put' a1)
  have hep : ∀ y H, evOp C call true (opv (putA t q.dst y)) H p = evOp C call true (opv t) H p := fun y H => evOp_congr (opv_put' a3)
  rw [hwq] at hy
  simp only [heq] at hy
  have hcm : putA (putA t p.dst x) q.dst y = putA (putA t q.dst y) p.dst x := putA_comm a2
  -- what q does at H, what p does behind it
  have main : (wantedA ops t q = some false ∧ y = .p .und ∧ H2 = H1 ∧ True) ∨ (wantedA ops t q = some true ∧ ∃ Hq, evOp C call true (opv t) H q = some (y, Hq) ∧ ((wantedA ops t p = some false ∧ x = .p .und ∧ H2 = Hq) ∨ (wantedA ops t p = some true ∧ evOp C call true (opv t) Hq p = some (x, H2)))) := by
    rcases hy with ⟨w1, e1, e2⟩ | ⟨w1, hq⟩
    · exact .inl ⟨w1, e1, e2, trivial⟩
    · right
      refine ⟨w1, ?_⟩
      rcases hx with ⟨u1, f1, f2⟩ | ⟨u1, hp⟩
      · subst f2; exact ⟨H2, hq, .inl ⟨u1, f1, rfl⟩⟩
      · have hcc : cls C p = 0 ∨ cls C q = 0 ∨ (cls C p = 1 ∧ cls C q = 1) := by
          simp only [commC, Bool.or_eq_true, Bool.and_eq_true, beq_iff_eq] at hc
          rcases hc with (h | h) | h
          · exact .inl h
          · exact .inr (.inl h)
          · exact .inr (.inr h)
        rcases hcc with h0 | h0 | ⟨hp1, hq1⟩
        · obtain ⟨e1, e2⟩ := evOp_plain h0 hp
          subst e1
          exact ⟨H2, hq, .inr ⟨u1, e2 H2⟩⟩
        · obtain ⟨e1, e2⟩ := evOp_plain h0 hq
          subst e1
          exact ⟨H, e2 H, .inr ⟨u1, hp⟩⟩
        · have e1 := evOp_reads (fun _ => rfl) (.inr hp1) hp
          subst e1
          have e2 := evOp_reads (fun _ => rfl) (.inr hq1) hq
          subst e2
          exact ⟨H2, hq, .inr ⟨u1, hp⟩⟩
  rcases main with ⟨w1, e1, e2, _⟩ | ⟨w1, Hq, hq, hp⟩
  · subst e1 e2
    refine ⟨⟨putA t q.dst (.p .und), H⟩, by simp only [evStep, w1], ?_⟩
    rw [hcm]
    rcases hx with ⟨u1, f1, f2⟩ | ⟨u1, hp⟩
    · subst f1 f2; simp only [evStep, hwp, u1]
    · simp only [evStep, hwp, u1, hep, hp]
  · refine ⟨⟨putA t q.dst y, Hq⟩, by simp only [evStep, w1, hq], ?_⟩
    rw [hcm]
    rcases hp with ⟨u1, f1, f2⟩ | ⟨u1, hp⟩
    · subst f1 f2; simp only [evStep, hwp, u1]
    · simp only [evStep, hwp, u1, hep, hp]
end Go.Ev
set_option linter.unusedVariables false
set_option linter.unusedSimpArgs false
namespace Go.Ev
open Go.RowKit
variable {g : G} {w : World} {H : List ABlk} {C : Cfg} {call : CallE}

/-- The edges of a region, as 'drawOK' looked at them. -/
structure DrawFacts (C : Cfg) (ops : Array Oper) : Prop where
  low : ∀ (i : Nat) (o : Oper), ops[i]? = some o → ∀ e ∈ preds o, e < i
  pair : ∃ M : Array Nat, ∀ (i j : Nat) (o q : Oper), ops[i]? = some o → ops[j]? = some q → j < i →
    (((M.getD i 0).testBit j = true ∧ (j ∈ preds o ∨ ∃ e ∈ preds o, j < e ∧ (M.getD e 0).testBit j = true)) ∨ ((M.getD i 0).testBit j = false ∧ Oper.apart ops q o = true ∧ commC (cls C q) (cls C o) = true))
theorem drawOK_spec {ops : Array Oper} (h : drawOK C ops = true) : DrawFacts C ops := by
  unfold drawOK at h
  simp only [List.all_eq_true, List.mem_range] at h
  have row : ∀ (i : Nat) (o : Oper), ops[i]? = some o → ((preds o).all (fun e => decide (e < i)) = true ∧ ∀ j, j < i → ∀ q, ops[j]? = some q → (if ((Region.before ops).getD i 0).testBit j then (preds o).contains j || (preds o).any (fun e => decide (j < e) && ((Region.before ops).getD e 0).testBit j) else Oper.apart ops q o && commC (cls C q) (cls C o)) = true) := by
    intro i o ho
    have hi := lt_of_aget ho
    have := h i hi
    rw [ho] at this
    simp only [Bool.and_eq_true, List.all_eq_true, List.mem_range] at this
    refine ⟨by rw [List.all_eq_true]; exact this.1, fun j hj q hq => ?_⟩
    have h2 := this.2 j hj
    rw [hq] at h2
    exact h2
  refine ⟨fun i o ho e he => ?_, Region.before ops, fun i j o q ho hq hj => ?_⟩
  · have := (row i o ho).1
    rw [List.all_eq_true] at this
    simpa using this e he
  · have := (row i o ho).2 j hj q hq
    split at this
    · rename_i hb
      left
      refine ⟨hb, ?_⟩
      simp only [Bool.or_eq_true, List.contains_iff_mem, List.any_eq_true, Bool.and_eq_true, decide_eq_true_eq] at this
      exact this
    · rename_i hb
      right
      simp only [Bool.and_eq_true] at this
      exact ⟨by simpa using hb, this.1, this.2⟩
theorem ready_spec {ops : Array Oper} {listed : Array Bool} {i : Nat} (h : i ∈ Region.ready .any ops listed) : i < ops.size ∧ listed.getD i true = false ∧ ∃ o, ops[i]? = some o ∧ ∀ e ∈ preds o, listed.getD e false = true := by
  unfold Region.ready at h
  simp only [List.mem_filter, List.mem_range, Bool.and_eq_true, Bool.not_eq_true'] at h
  obtain ⟨h1, h2, h3⟩ := h
  refine ⟨h1, h2, ops[i], Array.getElem?_eq_getElem h1, fun e he => ?_⟩
  rw [Array.getElem?_eq_getElem h1] at h3
  simp only [Option.map_some, Option.getD_some] at h3
  simp only [preds, List.mem_map, List.mem_filter] at he
  obtain ⟨ed, ⟨hed, hb⟩, rfl⟩ := he
  rw [Array.all_eq_true] at h3
  obtain ⟨k, hk, hk2⟩ := List.getElem_of_mem hed
  rw [Array.length_toList] at hk
  have := h3 k hk
  rw [Array.getElem_toList] at hk2
  rw [hk2] at this
  simpa [hb] using this
theorem ready_of {ops : Array Oper} {listed : Array Bool} {i : Nat} {o : Oper} (ho : ops[i]? = some o) (h1 : listed.getD i true = false) (h2 : ∀ e ∈ preds o, listed.getD e false = true) : i ∈ Region.ready .any ops listed := by
  unfold Region.ready
  simp only [List.mem_filter, List.mem_range, Bool.and_eq_true, Bool.not_eq_true']
  refine ⟨lt_of_aget ho, h1, ?_⟩
  rw [ho]
  simp only [Option.map_some, Option.getD_some]
  rw [Array.all_eq_true]
  intro k hk
  by_cases hb : Region.binds .any o.after[k] = true
  · have := h2 o.after[k].on (by
      simp only [preds, List.mem_map, List.mem_filter]
      exact ⟨o.after[k], ⟨by simp, hb⟩, rfl⟩)
    simp [this]
  · simp [hb]
/-- What may be next comes to the front. -/
theorem front {ops : Array Oper} {i : Nat} {o : Oper} (ho : ops[i]? = some o) : ∀ (p s : List Nat) (S S' : St), (∀ q ∈ p, ∀ oq, ops[q]? = some oq → Oper.apart ops oq o = true ∧ commC (cls C oq) (cls C o) = true) →
    evIdx C call true ops (p ++ i :: s) S = some S' → ∃ S1, evStep C call true ops o S = some S1 ∧ evIdx C call true ops (p ++ s) S1 = some S'
  | [], s, S, S', _, h => by
    simp only [List.nil_append, evIdx, ho] at h ⊢
    cases hs : evStep C call true ops o S with
    | none => rw [hs] at h; cases h
    | some S1 => rw [hs] at h; exact ⟨S1, rfl, h⟩
  | q :: p, s, S, S', hp, h => by
    simp only [List.cons_append, evIdx] at h ⊢
    cases hq : ops[q]? with
    | none => rw [hq] at h; exact front ho p s S S' (fun r hr => hp r (by simp [hr])) h
    | some oq =>
      rw [hq] at h
      simp only at h ⊢
      cases hs : evStep C call true ops oq S with
      | none => rw [hs] at h; cases h
      | some Sq =>
        rw [hs] at h
        obtain ⟨Si, h1, h2⟩ := front ho p s Sq S' (fun r hr => hp r (by simp [hr])) h
        obtain ⟨ha, hc⟩ := hp q (by simp) oq hq
        obtain ⟨S1, k1, k2⟩ := swap ha hc hs h1
        exact ⟨S1, k1, by rw [k2]; exact h2⟩
theorem any_sound (hC : CfgOK C) (hcall : CallOK C call) {ops : Array Oper} (hd : DrawFacts C ops) (Q : Exit → Act → World → Prop) : ∀ (fuel : Nat) (listed : Array Bool) (L : List Nat) (S S' : St) (g : G) (w : World) (a : Act),
    listed.size = ops.size → (∀ i, i ∈ L ↔ i < ops.size ∧ listed.getD i true = false) → L.Pairwise (· < ·) → (∀ (x : Nat) (o : Oper), ops[x]? = some o → listed.getD x true = true → ∀ e ∈ preds o, listed.getD e false = true) → L.length ≤ fuel →
    evIdx C call true ops L S = some S' → Rel g w S a → (∀ a' w' g', Rel g' w' S' a' → Ext g w S.H g' w' S'.H → Q .normal a' w') → wpAny C.P .any ops Q fuel listed a w := by
  intro fuel
  have none_left : ∀ (listed : Array Bool) (L : List Nat) (S S' : St) (g : G) (w : World) (a : Act), listed.size = ops.size → (∀ i, i ∈ L ↔ i < ops.size ∧ listed.getD i true = false) → L.Pairwise (· < ·) →
      evIdx C call true ops L S = some S' → Rel g w S a → (∀ a' w' g', Rel g' w' S' a' → Ext g w S.H g' w' S'.H → Q .normal a' w') → Region.ready .any ops listed = [] → Q .normal a w := by
    intro listed L S S' g w a hsz hL hP h hr hQ hre
    cases L with
    | nil => cases h; exact hQ a w g hr (Ext.refl _ _ _)
    | cons i L =>
      exfalso
      obtain ⟨hi, hli⟩ := (hL i).1 (by simp)
      have ho : ops[i]? = some ops[i] := Array.getElem?_eq_getElem hi
      have : i ∈ Region.ready .any ops listed := ready_of ho hli fun e he => by
        have hlt := hd.low i _ ho e he
        cases hle : listed.getD e true with
        | false =>
          have := (hL e).2 ⟨by omega, hle⟩
          rcases List.mem_cons.1 this with h | h
          · omega
          · have := (List.pairwise_cons.1 hP).1 e h; omega
        | true =>
          have : e < listed.size := by omega
          simp only [Array.getD, this, dif_pos] at hle ⊢
          exact hle
      rw [hre] at this
      simp at this
  induction fuel with
  | zero =>
    intro listed L S S' g w a hsz hL hP hcl hf h hr hQ
    have hL0 : L = [] := List.eq_nil_of_length_eq_zero (by omega)
    have hre : Region.ready .any ops listed = [] := by
      rw [List.eq_nil_iff_forall_not_mem]
      intro i hi
      obtain ⟨h1, h2, _⟩ := ready_spec hi
      have := (hL i).2 ⟨h1, h2⟩
      rw [hL0] at this
      simp at this
    exact ⟨hre, none_left listed L S S' g w a hsz hL hP h hr hQ hre⟩
  | succ fuel ih =>
    intro listed L S S' g w a hsz hL hP hcl hf h hr hQ
    refine ⟨none_left listed L S S' g w a hsz hL hP h hr hQ, fun i hi => ?_⟩
    obtain ⟨h1, h2, o, ho, hpre⟩ := ready_spec hi
    have hmem := (hL i).2 ⟨h1, h2⟩
    obtain ⟨p, s, rfl⟩ := List.append_of_mem hmem
    have hPp := List.pairwise_append.1 hP
    have hp : ∀ q ∈ p, ∀ oq, ops[q]? = some oq → Oper.apart ops oq o = true ∧ commC (cls C oq) (cls C o) = true := by
      intro q hq oq hoq
      have hlt : q < i := hPp.2.2 q hq i (by simp)
      obtain ⟨M, hM⟩ := hd.pair
      rcases hM i q o oq ho hoq hlt with ⟨hb, hor⟩ | ⟨_, h3, h4⟩
      · exfalso
        have hnq : listed.getD q true = false := ((hL q).1 (by simp [hq])).2
        have hq0 : listed.getD q false = false := by
          have : q < listed.size := by omega
          simp only [Array.getD, this, dif_pos] at hnq ⊢
          exact hnq
        -- whatever is ahead of i is listed
        have key : ∀ n e, e ≤ n → e < ops.size → listed.getD e false = true → (M.getD e 0).testBit q = true → q < e → False := by
          intro n
          induction n with
          | zero => intro e he _ _ _ hqe; omega
          | succ n ihn =>
            intro e he hes hle hbe hqe
            have hoe : ops[e]? = some ops[e] := Array.getElem?_eq_getElem hes
            have hle' : listed.getD e true = true := by
              have : e < listed.size := by omega
              simp only [Array.getD, this, dif_pos] at hle ⊢
              exact hle
            have hpe := hcl e _ hoe hle'
            rcases hM e q _ oq hoe hoq hqe with ⟨_, hor2⟩ | ⟨hb2, _⟩
            · rcases hor2 with h5 | ⟨e2, h5, hqe2, h6⟩
              · rw [hpe q h5] at hq0; cases hq0
              · have hlt2 := hd.low e _ hoe e2 h5
                exact ihn e2 (by omega) (by omega) (hpe e2 h5) h6 hqe2
            · rw [hbe] at hb2; cases hb2
        rcases hor with h5 | ⟨e2, h5, hqe2, h6⟩
        · rw [hpre q h5] at hq0; cases hq0
        · have hlt2 := hd.low i _ ho e2 h5
          exact key e2 e2 (Nat.le_refl _) (by omega) (hpre e2 h5) h6 hqe2
      · exact ⟨h3, h4⟩
    obtain ⟨S1, k1, k2⟩ := front ho p s S S' hp h
    refine evStep_sound hC hcall ho k1 hr _ Q fun a' w' g' j1 j2 => ?_
    refine ih (listed.setIfInBounds i true) (p ++ s) S1 S' g' w' a' (by simpa using hsz) (fun x => ?_) ?_ (fun x ox hox hlx e he => ?_) (by simp at hf ⊢; omega) k2 j1 (fun a2 w2 g2 m1 m2 => hQ a2 w2 g2 m1 (j2.trans m2))
    · have hset : (listed.setIfInBounds i true).getD x true = if x = i then true else listed.getD x true := by
        simp only [Array.getD_eq_getD_getElem?, Array.getElem?_setIfInBounds]
        by_cases hx : i = x
        · subst hx
          have : i < listed.size := by omega
          simp [this]
        · rw [if_neg hx, if_neg (by omega)]
      have hnd : x ∈ p ++ s ↔ x ∈ p ++ i :: s ∧ x ≠ i := by
        simp only [List.mem_append, List.mem_cons]
        have e1 : x ∈ p → x ≠ i := fun hx => by have := hPp.2.2 x hx i (by simp); omega
        have e2 : x ∈ s → x ≠ i := fun hx => by have := (List.pairwise_cons.1 hPp.2.1).1 x hx; omega
        constructor
        · rintro (h | h)
          · exact ⟨.inl h, e1 h⟩
          · exact ⟨.inr (.inr h), e2 h⟩
        · rintro ⟨h | h | h, hne⟩
          · exact .inl h
          · exact absurd h hne
          · exact .inr h
      rw [hnd, hL, hset]
      by_cases hx : x = i
      · simp [hx]
      · simp [hx]
    · exact hP.sublist (List.Sublist.append_left (List.sublist_cons_self _ _) _)
    · have hget : ∀ (y : Nat) (d : Bool), (listed.setIfInBounds i true).getD y d = if y = i ∧ i < listed.size then true else listed.getD y d := by
        intro y d
        simp only [Array.getD_eq_getD_getElem?, Array.getElem?_setIfInBounds]
        by_cases hy : i = y
        · subst hy
          by_cases hlt : i < listed.size
          · simp [hlt]
          · simp [hlt]
        · rw [if_neg hy, if_neg (by omega)]
      rw [hget] at hlx ⊢
      by_cases hxi : x = i
      · subst hxi
        rw [ho] at hox; cases hox
        have := hpre e he
        split
        · rfl
        · exact this
      · rw [if_neg (by omega)] at hlx
        have := hcl x ox hox hlx e he
        split
        · rfl
        · exact this
theorem evRegion_sound (hC : CfgOK C) (hcall : CallOK C call) {id : Nat} {draw : Bool} {ops : Array Oper} {S S' : St} {a : Act} (hok : draw = true → drawOK C ops = true) (h : evRegion C call draw ops S = some S') (hr : Rel g w S a)
    (Q : Exit → Act → World → Prop) (hQ : ∀ a' w' g', Rel g' w' S' a' → Ext g w S.H g' w' S'.H → Q .normal a' w') : (Code.region id ops draw).wp C.P Q a w := by
  unfold evRegion at h
  split at h
  · rename_i hd
    subst hd
    have hdf := drawOK_spec (hok rfl)
    have go : ∀ (S0 : St) (g0 : G), evOps C call true ops ops.toList S0 = some S' → Rel g0 w S0 a → Ext g w S.H g0 w S0.H → (Code.region id ops true).wp C.P Q a w := by
      intro S0 g0 h0 hr0 hx0
      refine wp_region_any hC.mixed ?_
      have hr1 : Rel g0 { w with drawn := w.drawn + 1 } S0 a := ⟨drawn_inv hr0.inv _, repLA_mono (drawn_ext g0 w S0.H _) hr0.tmps, hr0.defers⟩
      refine any_sound hC hcall hdf Q ops.size _ (List.range ops.size) S0 S' g0 _ a (by simp) (fun i => ?_) List.pairwise_lt_range (fun x o ho hx => ?_) (by simp) (by rw [evIdx_ops, range_ops]; exact h0) hr1 (fun a' w' g' k1 k2 => hQ a' w' g' k1 ((hx0.trans (drawn_ext g0 w S0.H _)).trans k2))
      · simp only [List.mem_range, Array.getD_eq_getD_getElem?, Array.getElem?_replicate]
        constructor
        · intro hi; exact ⟨hi, by simp [hi]⟩
        · exact fun h => h.1
      · have hlt := lt_of_aget ho
        simp only [Array.getD_eq_getD_getElem?, Array.getElem?_replicate, hlt, if_true, Option.getD_some] at hx
        cases hx
    split at h
    · cases h
    · rename_i S1 hS1
      split at h
      · rename_i hle
        have hu := fzUp_flags hle
        exact go _ _ h ⟨fz_inv hr.inv hu, repLA_mono (fz_ext hr.inv hu) hr.tmps, hr.defers⟩ (fz_ext hr.inv hu)
      · cases h
  · rename_i hd
    have hd' : draw = false := by simpa using hd
    subst hd'
    refine wp_region ?_
    exact evIdx_sound hC hcall Q _ S S' g w a (by rw [evIdx_ops, range_ops]; exact h) hr hQ
theorem clean_rep : ∀ {lv : List Bool} {t : List AV} {vs : List Value}, repLA g w H t vs → repLA g w H (clean lv t) vs
  | [], t, vs, h => by cases t <;> exact h
  | b :: lv, [], vs, h => h
  | b :: lv, x :: t, [], h => by simp [repLA] at h
  | b :: lv, x :: t, v :: vs, h => by
    simp only [repLA] at h
    simp only [clean, repLA]
    refine ⟨?_, clean_rep h.2⟩
    cases b
    · simp [repA, rep]
    · exact h.1

def Ex.conv : Ex → Exit
  | .normal => .normal
  | .exit i => .exit i
  | .ret => .ret
def codeOK (C : Cfg) : Code → Bool
  | .region _ ops draw => !draw || drawOK C ops
  | .seq a b => codeOK C a && codeOK C b
  | .cond _ a b => codeOK C a && codeOK C b
  | .block _ a => codeOK C a
  | .loop a => codeOK C a
  | _ => true
theorem evC_sound (hC : CfgOK C) (hcall : CallOK C call) (lv : List Bool) (k : Nat) : ∀ (c : Code), codeOK C c = true → ∀ (S : St) (ex : Ex) (S' : St), evC C call lv k c S = some (ex, S') → ∀ (g : G) (w : World) (a : Act) (Q : Exit → Act → World → Prop), Rel g w S a →
    (∀ a' w' g', Rel g' w' S' a' → Ext g w S.H g' w' S'.H → Q ex.conv a' w') → c.wp C.P Q a w := by
  intro c
  induction c with
  | skip => intro _ S ex S' h g w a Q hr hQ; simp only [evC] at h; cases h; exact wp_skip (hQ a w g hr (Ext.refl _ _ _))
  | label l => intro _ S ex S' h g w a Q hr hQ; simp only [evC] at h; cases h; exact wp_label (hQ a w g hr (Ext.refl _ _ _))
  | region id ops draw =>
    intro hok S ex S' h g w a Q hr hQ
    simp only [evC] at h
    split at h
    · cases h
    · rename_i S1 hS1
      cases h
      refine evRegion_sound hC hcall (fun hd => ?_) hS1 hr Q fun a' w' g' h1 h2 => hQ a' w' g' ⟨h1.inv, clean_rep h1.tmps, h1.defers⟩ h2
      simp only [codeOK, hd, Bool.not_true, Bool.false_or] at hok
      exact hok
  | seq x y ihx ihy =>
    intro hok S ex S' h g w a Q hr hQ
    simp only [codeOK, Bool.and_eq_true] at hok
    simp only [evC] at h
    refine wp_seq ?_
    split at h
    · rename_i S1 h1
      refine ihx hok.1 S .normal S1 h1 g w a _ hr fun a' w' g' k1 k2 => ?_
      exact ihy hok.2 S1 ex S' h g' w' a' Q k1 fun a2 w2 g2 m1 m2 => hQ a2 w2 g2 m1 (k2.trans m2)
    · rename_i hne
      refine ihx hok.1 S ex S' h g w a _ hr fun a' w' g' k1 k2 => ?_
      have := hQ a' w' g' k1 k2
      cases ex with
      | normal => exact absurd h (hne S')
      | exit i => exact this
      | ret => exact this
  | cond cnd x y ihx ihy =>
    intro hok S ex S' h g w a Q hr hQ
    simp only [codeOK, Bool.and_eq_true] at hok
    simp only [evC] at h
    split at h
    · rename_i t ht
      have hv := opv_rep hr.tmps ht
      simp only [repA, rep] at hv
      refine wp_cond hv ?_
      cases t
      · simp only [Bool.false_eq_true, if_false] at h ⊢; exact ihy hok.2 S ex S' h g w a Q hr hQ
      · simp only [if_true] at h ⊢; exact ihx hok.1 S ex S' h g w a Q hr hQ
    · cases h
  | block id x ih =>
    intro hok S ex S' h g w a Q hr hQ
    simp only [codeOK] at hok
    simp only [evC] at h
    refine wp_block ?_
    split at h
    · rename_i i S1 h1
      split at h
      · rename_i he
        cases h
        refine ih hok S _ S' h1 g w a _ hr fun a' w' g' k1 k2 => ?_
        simp only [Ex.conv, Exit.inBlock, he, if_true]
        exact hQ a' w' g' k1 k2
      · rename_i he
        cases h
        refine ih hok S _ S' h1 g w a _ hr fun a' w' g' k1 k2 => ?_
        simp only [Ex.conv, Exit.inBlock, he, if_false]
        exact hQ a' w' g' k1 k2
    · rename_i hne
      refine ih hok S ex S' h g w a _ hr fun a' w' g' k1 k2 => ?_
      have := hQ a' w' g' k1 k2
      cases ex with
      | normal => exact this
      | exit i => exact absurd h (hne i S')
      | ret => exact this
  | loop x ih =>
    intro hok S ex S' h g w a Q hr hQ
    simp only [codeOK] at hok
    simp only [evC] at h
    refine wp_loop_rounds k ?_
    have key : ∀ (n : Nat) (S : St) (g : G) (w : World) (a : Act), iter (evC C call lv k x) n S = some (ex, S') → Rel g w S a → (∀ a' w' g', Rel g' w' S' a' → Ext g w S.H g' w' S'.H → Q ex.conv a' w') → Code.rounds C.P x Q n a w := by
      intro n
      induction n with
      | zero => intro S g w a h; simp [iter] at h
      | succ n ihn =>
        intro S g w a h hr hQ
        rw [rounds_succ]
        simp only [iter] at h
        split at h
        · rename_i S1 h1
          refine ih hok S .normal S1 h1 g w a _ hr fun a' w' g' k1 k2 => ?_
          exact ihn S1 g' w' a' h k1 fun a2 w2 g2 m1 m2 => hQ a2 w2 g2 m1 (k2.trans m2)
        · rename_i hne
          refine ih hok S ex S' h g w a _ hr fun a' w' g' k1 k2 => ?_
          have := hQ a' w' g' k1 k2
          cases ex with
          | normal => exact absurd h (hne S')
          | exit i => exact this
          | ret => exact this
    exact key k S g w a h hr hQ
  | exit id => intro _ S ex S' h g w a Q hr hQ; simp only [evC] at h; cases h; exact wp_exit (hQ a w g hr (Ext.refl _ _ _))
  | ret => intro _ S ex S' h g w a Q hr hQ; simp only [evC] at h; cases h; exact wp_ret (hQ a w g hr (Ext.refl _ _ _))
  | rangeFunc => intro _ S ex S' h; simp [evC] at h
  | scope => intro _ S ex S' h; simp [evC] at h
  | goto => intro _ S ex S' h; simp [evC] at h
  | refuse => intro _ S ex S' h; simp [evC] at h

def resV (a : Act) : ResultVar → Sem Value
  | .tmp t => pure (a.tmps.getD t undef)
  | .cell b t => do loadVar t (← asAddr (a.tmps.getD b undef))
theorem evResult_run {S : St} {a : Act} {r : ResultVar} {x : AV} (hr : Rel g w S a) (h : evResult C S r = some x) :
    ∃ v, (resV a r).run C.P w = .ok v w ∧ repA g w S.H x v := by
  cases r with
  | tmp t =>
    simp only [evResult] at h
    exact ⟨_, rfl, opv_rep hr.tmps h⟩
  | cell b t =>
    simp only [evResult] at h
    split at h
    · rename_i y hy
      have hv : repA g w S.H y (a.tmps.getD b undef) := opv_rep hr.tmps hy
      obtain ⟨u, h1, h2⟩ := evLoad_run (P := C.P) hr.inv h hv
      refine ⟨u, ?_, h2⟩
      have hp : ∃ A, a.tmps.getD b undef = .pointer (some A) := by
        unfold evLoad at h
        split at h
        · simp only [repA] at hv; obtain ⟨A, hA, _⟩ := hv; exact ⟨A, hA⟩
        · simp only [repA] at hv; obtain ⟨A, hA, _⟩ := hv; exact ⟨A, hA⟩
        · simp only [repA] at hv; obtain ⟨b, off, hA, _⟩ := hv; exact ⟨_, hA⟩
        · simp only [repA] at hv; obtain ⟨b, off, hA, _⟩ := hv; exact ⟨_, hA⟩
        · cases h
      obtain ⟨A, hA⟩ := hp
      rw [hA] at h1
      simp only [resV, hA, asAddr, Sem.run_bind, Sem.run_pure, Result.andThen_ok]
      simpa only [Instr.loadAt, Instr.sureAddr, Sem.run_bind, Sem.run_pure, Result.andThen_ok] using h1
    · cases h
theorem mapM_results {S : St} {a : Act} (hr : Rel g w S a) : ∀ {rs : List ResultVar} {xs : List AV}, mapO (evResult C S) rs = some xs → ∃ vs : List Value, (rs.mapM (resV a)).run C.P w = .ok vs w ∧ repLA g w S.H xs vs
  | [], xs, h => by simp [mapO] at h; subst h; exact ⟨[], by simp, by simp [repLA]⟩
  | r :: rs, xs, h => by
    simp only [mapO] at h
    cases hx : evResult C S r with
    | none => rw [hx] at h; cases h
    | some x =>
      rw [hx] at h
      simp only at h
      split at h
      · cases h
      · rename_i ys hys
        cases h
        obtain ⟨v, h1, h2⟩ := evResult_run hr hx
        obtain ⟨vs, k1, k2⟩ := mapM_results hr hys
        refine ⟨v :: vs, ?_, by simp only [repLA]; exact ⟨h2, k2⟩⟩
        simp only [List.mapM_cons, Sem.run_bind, h1, Result.andThen_ok, k1, Sem.run_pure]
theorem results_eq (fn : Func) (a : Act) : results fn a.tmps = (do let vs ← fn.results.mapM (resV a); pure (if h : vs.size = 1 then vs[0] else .tuple vs)) := by
  have : ∃ F : ResultVar → Sem Value, results fn a.tmps = (do let vs ← fn.results.mapM F; pure (if h : vs.size = 1 then vs[0] else .tuple vs)) ∧ ∀ r, F r = resV a r := ⟨_, rfl, fun r => by cases r <;> rfl⟩
  obtain ⟨F, h1, h2⟩ := this
  rw [h1, show F = resV a from funext h2]
theorem evResults_run {S : St} {a : Act} {fn : Func} {x : AV} (hr : Rel g w S a) (h : evResults C fn S = some x) : ∃ v, (results fn a.tmps).run C.P w = .ok v w ∧ repA g w S.H x v := by
  unfold evResults at h
  have run : ∀ xs, mapO (evResult C S) fn.results.toList = some xs → ∃ vs : List Value, (results fn a.tmps).run C.P w = .ok (if h : vs.toArray.size = 1 then vs.toArray[0] else .tuple vs.toArray) w ∧ repLA g w S.H xs vs := by
    intro xs hx
    obtain ⟨vs, k1, k2⟩ := mapM_results hr hx
    refine ⟨vs, ?_, k2⟩
    rw [results_eq, Array.mapM_eq_mapM_toList]
    simp only [Sem.run_bind, Sem.run_map]
    rw [k1]
    rfl
  split at h
  · rename_i y hy
    cases h
    obtain ⟨vs, k1, k2⟩ := run _ hy
    match vs, k2 with
    | [v], k2 =>
      simp only [repLA, and_true] at k2
      exact ⟨v, by rw [k1]; simp, k2⟩
  · rename_i xs hne hy
    cases h
    obtain ⟨vs, k1, k2⟩ := run _ hy
    refine ⟨.tuple vs.toArray, ?_, mkTup_rep k2⟩
    have hl := repLA_length k2
    rw [k1, dif_neg]
    intro h1
    simp only [List.size_toArray] at h1
    match xs, hl with
    | [y], hl => exact hne y rfl
    | [], hl => simp at hl; omega
    | _ :: _ :: _, hl => simp at hl; omega
  · cases h
def fnsOK (C : Cfg) : Prop := ∀ f fn c, C.md f < 9 → C.P.funcs[f]? = some fn → fn.body = some c → codeOK C c = true
theorem evF_sound (hC : CfgOK C) (hok : fnsOK C) : ∀ k, CallOK C (evF C k) := by
  intro k
  induction k with
  | zero => intro f args H r H' h; simp [evF] at h
  | succ k ih =>
    intro f args H r H' h g w argv hi ha
    simp only [evF] at h
    split at h
    · cases h
    rename_i h9
    split at h
    · cases h
    rename_i fn hfn
    split at h
    · cases h
    rename_i c hc
    refine calls_of_wp hfn hc ?_
    have hl : args.length = argv.size := (repLA_length ha).trans Array.length_toList
    have hr : Rel g w ⟨args ++ List.replicate (fn.ntmps - args.length) (.p .und), H⟩ { tmps := argv ++ Array.replicate (fn.ntmps - argv.size) undef, defers := [] } := by
      refine ⟨hi, ?_, rfl⟩
      simp only [Array.toList_append, Array.toList_replicate]
      rw [hl]
      refine repLA_append ha ?_
      rw [repLA_iff]
      refine ⟨by simp, fun i x hx => ?_⟩
      rw [List.getElem?_replicate] at hx ⊢
      split at hx
      · rename_i hlt; cases hx; exact ⟨undef, by simp [hlt], by simp [repA, rep]⟩
      · cases hx
    have fin : ∀ (ex : Ex) (S : St), (ex = .normal ∨ ex = .ret) → evC C (evF C k) (C.lv f) k c ⟨args ++ List.replicate (fn.ntmps - args.length) (.p .und), H⟩ = some (ex, S) → (match evResults C fn S with | some x => some (x, S.H) | none => none) = some (r, H') →
        c.wp C.P (bodyPost C.P fn (CallPost g w H r H')) { tmps := argv ++ Array.replicate (fn.ntmps - argv.size) undef, defers := [] } w := by
      intro ex S hex hev hres
      split at hres
      · rename_i x hx
        cases hres
        refine evC_sound hC ih (C.lv f) k c (hok f fn c (by omega) hfn hc) _ ex S hev g w _ _ hr fun a' w' g' k1 k2 => ?_
        obtain ⟨v, m1, m2⟩ := evResults_run k1 hx
        rcases hex with rfl | rfl
        · exact ⟨k1.defers, v, m1, v, g', rfl, k1.inv, k2, m2⟩
        · exact ⟨k1.defers, v, m1, v, g', rfl, k1.inv, k2, m2⟩
      · cases hres
    split at h
    · cases h
    · rename_i ex S hne hev
      refine fin ex S ?_ hev h
      cases ex with
      | normal => exact .inl rfl
      | ret => exact .inr rfl
      | exit i => exact (hne i rfl).elim
    · cases h
end Go.Ev
set_option linter.unusedVariables false
set_option linter.unusedSimpArgs false
namespace Go.Ev
variable {C : Cfg}

def Le {α : Type} (x y : Option α) : Prop := ∀ r, x = some r → y = some r
theorem Le.refl {α : Type} (x : Option α) : Le x x := fun _ h => h
theorem Le.none {α : Type} (x : Option α) : Le Option.none x := fun _ h => by cases h
def LeC (f g : CallE) : Prop := ∀ a b c, Le (f a b c) (g a b c)

theorem evCall_mono {f g : CallE} (h : LeC f g) (st : Bool) (k : FuncId) (args : List AV) (H : List ABlk) : Le (evCall C f st k args H) (evCall C g st k args H) := by
  intro r hr
  unfold evCall at hr ⊢
  split
  · rename_i h9; rw [if_pos h9] at hr; exact hr
  rename_i h9; rw [if_neg h9] at hr
  split
  · rename_i h2; rw [if_pos h2] at hr; exact h _ _ _ _ hr
  rename_i h2; rw [if_neg h2] at hr
  cases hx : mapO (frz false H deep) args with
  | none =>
    rw [hx] at hr
    simp only at hr ⊢
    split
    · rename_i h3; rw [if_pos h3] at hr; exact h _ _ _ _ hr
    · rename_i h3; rw [if_neg h3] at hr; exact hr
  | some xs =>
    rw [hx] at hr
    simp only at hr ⊢
    cases ho : C.O k xs with
    | some q => rw [ho] at hr; exact hr
    | none =>
      rw [ho] at hr
      simp only at hr ⊢
      split
      · rename_i hc
        rw [if_pos hc] at hr
        cases h1 : f k [.p (.nsl true)] [] with
        | none => rw [h1] at hr; cases hr
        | some q1 =>
          cases h2 : f k [.p (.nsl false)] [] with
          | none => rw [h1, h2] at hr; cases hr
          | some q2 => rw [h1, h2] at hr; rw [h _ _ _ _ h1, h _ _ _ _ h2]; exact hr
      rename_i hc
      rw [if_neg hc] at hr
      cases hf : f k (xs.map .p) [] with
      | none => rw [hf] at hr; cases hr
      | some q => rw [hf] at hr; rw [h _ _ _ _ hf]; exact hr
theorem evOp_mono {f g : CallE} (h : LeC f g) (st : Bool) (ρ : Env) (H : List ABlk) (o : Oper) : Le (evOp C f st ρ H o) (evOp C g st ρ H o) := by
  obtain ⟨dst, op, type, pos, after, guard⟩ := o
  cases op <;> first
    | exact Le.refl _
    | skip
  rename_i c
  obtain ⟨callee, cargs, cats⟩ := c
  intro r hr
  simp only [evOp] at hr ⊢
  cases hx : mapO ρ cargs.toList with
  | none => rw [hx] at hr; cases hr
  | some args =>
    rw [hx] at hr
    simp only at hr ⊢
    cases callee with
    | builtin b => exact hr
    | invoke a b => exact hr
    | value v =>
      simp only at hr ⊢
      cases hv : ρ v with
      | none => rw [hv] at hr; cases hr
      | some gv =>
        rw [hv] at hr
        simp only at hr ⊢
        cases hc : calleeOf gv with
        | none => rw [hc] at hr; cases hr
        | some q =>
          obtain ⟨k, a, b⟩ := q
          rw [hc] at hr
          simp only at hr ⊢
          split
          · rename_i h6; rw [if_pos h6] at hr; exact hr
          · rename_i h6; rw [if_neg h6] at hr; exact evCall_mono h _ _ _ _ _ hr
theorem evStep_mono {f g : CallE} (h : LeC f g) (st : Bool) (ops : Array Oper) (o : Oper) (S : St) : Le (evStep C f st ops o S) (evStep C g st ops o S) := by
  intro r hr
  unfold evStep at hr ⊢
  cases hw : wantedA ops S.t o with
  | none => rw [hw] at hr; cases hr
  | some b =>
    rw [hw] at hr
    cases b with
    | false => exact hr
    | true =>
      simp only at hr ⊢
      cases hx : evOp C f st (opv S.t) S.H o with
      | none => rw [hx] at hr; cases hr
      | some q => rw [hx] at hr; rw [evOp_mono h _ _ _ _ _ hx]; exact hr
theorem evOps_mono {f g : CallE} (h : LeC f g) (st : Bool) (ops : Array Oper) : ∀ (l : List Oper) (S : St), Le (evOps C f st ops l S) (evOps C g st ops l S)
  | [], S => Le.refl _
  | o :: l, S => by
    intro r hr
    simp only [evOps] at hr ⊢
    cases hx : evStep C f st ops o S with
    | none => rw [hx] at hr; cases hr
    | some S1 => rw [hx] at hr; rw [evStep_mono h _ _ _ _ _ hx]; exact evOps_mono h st ops l S1 _ hr
theorem evRegion_mono {f g : CallE} (h : LeC f g) (d : Bool) (ops : Array Oper) (S : St) : Le (evRegion C f d ops S) (evRegion C g d ops S) := by
  intro r hr
  unfold evRegion at hr ⊢
  cases d with
  | false => exact evOps_mono h _ _ _ _ _ hr
  | true =>
    simp only [if_true] at hr ⊢
    cases hx : evOps C f false ops ops.toList S with
    | none => rw [hx] at hr; cases hr
    | some S1 =>
      rw [hx] at hr
      rw [evOps_mono h _ _ _ _ _ hx]
      simp only at hr ⊢
      split
      · rename_i hl; rw [if_pos hl] at hr; exact evOps_mono h _ _ _ _ _ hr
      · rename_i hl; rw [if_neg hl] at hr; cases hr
theorem iter_mono {f g : St → Option (Ex × St)} (h : ∀ S, Le (f S) (g S)) : ∀ (n m : Nat), n ≤ m → ∀ S, Le (iter f n S) (iter g m S)
  | 0, m, _, S => by intro r hr; simp [iter] at hr
  | n + 1, m, hm, S => by
    obtain ⟨m, rfl⟩ : ∃ q, m = q + 1 := ⟨m - 1, by omega⟩
    intro r hr
    simp only [iter] at hr ⊢
    cases hx : f S with
    | none => rw [hx] at hr; cases hr
    | some q =>
      obtain ⟨e, S1⟩ := q
      rw [hx] at hr
      rw [h S _ hx]
      cases e with
      | normal => exact iter_mono h n m (by omega) S1 _ hr
      | exit i => exact hr
      | ret => exact hr
theorem evC_mono {f g : CallE} (h : LeC f g) (lv : List Bool) {k k' : Nat} (hk : k ≤ k') : ∀ (c : Code) (S : St), Le (evC C f lv k c S) (evC C g lv k' c S) := by
  intro c
  induction c with
  | region id ops d =>
    intro S r hr
    simp only [evC] at hr ⊢
    cases hx : evRegion C f d ops S with
    | none => rw [hx] at hr; cases hr
    | some S1 => rw [hx] at hr; rw [evRegion_mono h _ _ _ _ hx]; exact hr
  | seq a b iha ihb =>
    intro S r hr
    simp only [evC] at hr ⊢
    cases hx : evC C f lv k a S with
    | none => rw [hx] at hr; cases hr
    | some q =>
      obtain ⟨e, S1⟩ := q
      rw [hx] at hr
      rw [iha S _ hx]
      cases e with
      | normal => exact ihb S1 _ hr
      | exit i => exact hr
      | ret => exact hr
  | cond cn a b iha ihb =>
    intro S r hr
    simp only [evC] at hr ⊢
    split
    · rename_i t ht
      rw [ht] at hr
      simp only at hr
      cases t with
      | true => simp only [if_true] at hr ⊢; exact iha S _ hr
      | false => simp only [Bool.false_eq_true, if_false] at hr ⊢; exact ihb S _ hr
    · rename_i hne
      split at hr
      · rename_i t ht; exact absurd ht (hne t)
      · exact hr
  | block id a ih =>
    intro S r hr
    simp only [evC] at hr ⊢
    cases hx : evC C f lv k a S with
    | none => rw [hx] at hr; cases hr
    | some q => rw [hx] at hr; rw [ih S _ hx]; exact hr
  | loop a ih =>
    intro S r hr
    simp only [evC] at hr ⊢
    exact iter_mono ih k k' hk S _ hr
  | _ => intro S r hr; exact hr
theorem evF_mono1 : ∀ k, LeC (evF C k) (evF C (k + 1))
  | 0 => fun f a H r hr => by simp [evF] at hr
  | k + 1 => fun f a H r hr => by
    have ih := evF_mono1 k
    rw [evF] at hr ⊢
    split
    · rename_i h9; rw [if_pos h9] at hr; cases hr
    rename_i h9; rw [if_neg h9] at hr
    cases hf : C.P.funcs[f]? with
    | none => rw [hf] at hr; cases hr
    | some fn =>
      rw [hf] at hr
      simp only at hr ⊢
      cases hb : fn.body with
      | none => rw [hb] at hr; cases hr
      | some c =>
        rw [hb] at hr
        simp only at hr ⊢
        cases hx : evC C (evF C k) (C.lv f) k c ⟨a ++ List.replicate (fn.ntmps - a.length) (.p .und), H⟩ with
        | none => rw [hx] at hr; cases hr
        | some q => rw [hx] at hr; rw [evC_mono ih (C.lv f) (Nat.le_succ k) c _ _ hx]; exact hr
theorem evF_mono {k k' : Nat} (h : k ≤ k') : LeC (evF C k) (evF C k') := by
  induction h with
  | refl => exact fun _ _ _ => Le.refl _
  | step _ ih => exact fun a b c r hr => evF_mono1 _ a b c r (ih a b c r hr)

/-! ### The limit -/
open Classical in
noncomputable def lim {α : Type} (F : Nat → Option α) : Option α := if h : ∃ k r, F k = some r then some (Classical.choose (Classical.choose_spec h)) else none
theorem lim_iff {α : Type} {F : Nat → Option α} (hm : ∀ k k', k ≤ k' → Le (F k) (F k')) (r : α) : lim F = some r ↔ ∃ k, F k = some r := by
  unfold lim
  constructor
  · intro h
    split at h
    · rename_i hx
      cases h
      exact ⟨_, Classical.choose_spec (Classical.choose_spec hx)⟩
    · cases h
  · rintro ⟨k, hk⟩
    have hx : ∃ k r, F k = some r := ⟨k, r, hk⟩
    rw [dif_pos hx]
    have h1 := Classical.choose_spec (Classical.choose_spec hx)
    generalize hq : Classical.choose (Classical.choose_spec hx) = q at h1
    generalize Classical.choose hx = n at h1
    have e1 := hm n (max n k) (by omega) _ h1
    have e2 := hm k (max n k) (by omega) _ hk
    rw [e1] at e2
    exact e2
theorem lim_eq {α : Type} {F : Nat → Option α} (hm : ∀ k k', k ≤ k' → Le (F k) (F k')) {x : Option α} (h : ∀ r, x = some r ↔ ∃ k, F k = some r) : lim F = x := by
  cases hx : x with
  | some r => rw [lim_iff hm]; exact (h r).1 hx
  | none =>
    cases hl : lim F with
    | none => rfl
    | some r => rw [lim_iff hm] at hl; rw [(h r).2 hl] at hx; cases hx
noncomputable def W (C : Cfg) : CallE := fun f a H => lim fun k => evF C k f a H
theorem W_iff {f : FuncId} {a : List AV} {H : List ABlk} {r : AV × List ABlk} : W C f a H = some r ↔ ∃ k, evF C k f a H = some r := lim_iff (fun k k' h => evF_mono h f a H) r
theorem evF_le_W (k : Nat) : LeC (evF C k) (W C) := fun _ _ _ _ h => W_iff.2 ⟨k, h⟩
noncomputable def WC (C : Cfg) (lv : List Bool) (c : Code) (S : St) : Option (Ex × St) := lim fun k => evC C (evF C k) lv k c S
theorem WC_mono (lv : List Bool) (c : Code) (S : St) : ∀ k k', k ≤ k' → Le (evC C (evF C k) lv k c S) (evC C (evF C k') lv k' c S) := fun k k' h => evC_mono (evF_mono h) lv h c S
theorem WC_iff {lv : List Bool} {c : Code} {S : St} {r : Ex × St} : WC C lv c S = some r ↔ ∃ k, evC C (evF C k) lv k c S = some r := lim_iff (WC_mono lv c S) r
theorem WC_eq {lv : List Bool} {c : Code} {S : St} {x : Option (Ex × St)} (h : ∀ r, x = some r ↔ ∃ k, evC C (evF C k) lv k c S = some r) : WC C lv c S = x := lim_eq (WC_mono lv c S) h

/-! ### Calls in the limit -/
theorem evCall_cont {st : Bool} {f : FuncId} {args : List AV} {H : List ABlk} {r : AV × List ABlk} (h : evCall C (W C) st f args H = some r) : ∃ k, evCall C (evF C k) st f args H = some r := by
  unfold evCall at h
  split at h
  · cases h
  rename_i h9
  split at h
  · rename_i h2
    obtain ⟨k, hk⟩ := W_iff.1 h
    exact ⟨k, by unfold evCall; rw [if_neg h9, if_pos h2]; exact hk⟩
  rename_i h2
  cases hx : mapO (frz false H deep) args with
  | none =>
    rw [hx] at h
    simp only at h
    split at h
    · rename_i h3
      obtain ⟨k, hk⟩ := W_iff.1 h
      exact ⟨k, by unfold evCall; rw [if_neg h9, if_neg h2, hx]; simp only; rw [if_pos h3]; exact hk⟩
    · cases h
  | some xs =>
    rw [hx] at h
    simp only at h
    cases ho : C.O f xs with
    | some q =>
      rw [ho] at h
      exact ⟨0, by unfold evCall; rw [if_neg h9, if_neg h2, hx]; simp only; rw [ho]; exact h⟩
    | none =>
      rw [ho] at h
      simp only at h
      split at h
      · rename_i hc
        cases h1 : W C f [.p (.nsl true)] [] with
        | none => rw [h1] at h; cases h
        | some q1 =>
          cases hw2 : W C f [.p (.nsl false)] [] with
          | none => rw [h1, hw2] at h; cases h
          | some q2 =>
            obtain ⟨k1, hk1⟩ := W_iff.1 h1
            obtain ⟨k2, hk2⟩ := W_iff.1 hw2
            rw [h1, hw2] at h
            exact ⟨max k1 k2, by unfold evCall; rw [if_neg h9, if_neg h2, hx]; simp only; rw [ho]; simp only; rw [if_pos hc, evF_mono (Nat.le_max_left k1 k2) _ _ _ _ hk1, evF_mono (Nat.le_max_right k1 k2) _ _ _ _ hk2]; exact h⟩
      rename_i hc
      cases hw : W C f (xs.map .p) [] with
      | none => rw [hw] at h; cases h
      | some q =>
        rw [hw] at h
        obtain ⟨k, hk⟩ := W_iff.1 hw
        exact ⟨k, by unfold evCall; rw [if_neg h9, if_neg h2, hx]; simp only; rw [ho]; simp only; rw [if_neg hc, hk]; exact h⟩
theorem evOp_cont {st : Bool} {ρ : Env} {H : List ABlk} {o : Oper} {r : AV × List ABlk} (h : evOp C (W C) st ρ H o = some r) : ∃ k, evOp C (evF C k) st ρ H o = some r := by
  obtain ⟨dst, op, type, pos, after, guard⟩ := o
  cases op <;> first
    | exact ⟨0, h⟩
    | skip
  rename_i c
  obtain ⟨callee, cargs, cats⟩ := c
  simp only [evOp] at h
  cases hx : mapO ρ cargs.toList with
  | none => rw [hx] at h; cases h
  | some args =>
    rw [hx] at h
    simp only at h
    cases callee with
    | builtin b => exact ⟨0, by simp only [evOp, hx]; exact h⟩
    | invoke a b => cases h
    | value v =>
      simp only at h
      cases hv : ρ v with
      | none => rw [hv] at h; cases h
      | some gv =>
        rw [hv] at h
        simp only at h
        cases hc : calleeOf gv with
        | none => rw [hc] at h; cases h
        | some q =>
          obtain ⟨k, a, b⟩ := q
          rw [hc] at h
          simp only at h
          split at h
          · rename_i h6
            exact ⟨0, by simp only [evOp, hx, hv, hc]; rw [if_pos h6]; exact h⟩
          · rename_i h6
            obtain ⟨n, hn⟩ := evCall_cont h
            exact ⟨n, by simp only [evOp, hx, hv, hc]; rw [if_neg h6]; exact hn⟩
theorem evStep_cont {st : Bool} {ops : Array Oper} {o : Oper} {S r : St} (h : evStep C (W C) st ops o S = some r) : ∃ k, evStep C (evF C k) st ops o S = some r := by
  unfold evStep at h
  split at h
  · cases h
  · rename_i hw; exact ⟨0, by unfold evStep; rw [hw]; exact h⟩
  · rename_i hw
    split at h
    · cases h
    · rename_i x H1 hx
      obtain ⟨k, hk⟩ := evOp_cont hx
      exact ⟨k, by unfold evStep; rw [hw]; simp only; rw [hk]; exact h⟩
theorem evOps_cont {st : Bool} {ops : Array Oper} : ∀ {l : List Oper} {S r : St}, evOps C (W C) st ops l S = some r → ∃ k, evOps C (evF C k) st ops l S = some r
  | [], S, r, h => ⟨0, h⟩
  | o :: l, S, r, h => by
    simp only [evOps] at h
    cases hx : evStep C (W C) st ops o S with
    | none => rw [hx] at h; cases h
    | some S1 =>
      rw [hx] at h
      obtain ⟨k1, h1⟩ := evStep_cont hx
      obtain ⟨k2, h2⟩ := evOps_cont h
      refine ⟨max k1 k2, ?_⟩
      simp only [evOps]
      rw [evStep_mono (evF_mono (Nat.le_max_left k1 k2)) _ _ _ _ _ h1]
      exact evOps_mono (evF_mono (Nat.le_max_right k1 k2)) _ _ _ _ _ h2
theorem evRegion_cont {d : Bool} {ops : Array Oper} {S r : St} (h : evRegion C (W C) d ops S = some r) : ∃ k, evRegion C (evF C k) d ops S = some r := by
  unfold evRegion at h
  cases d with
  | false =>
    obtain ⟨k, hk⟩ := evOps_cont h
    exact ⟨k, hk⟩
  | true =>
    simp only [if_true] at h
    split at h
    · cases h
    · rename_i S1 h1
      split at h
      · rename_i hl
        obtain ⟨k1, hk1⟩ := evOps_cont h1
        obtain ⟨k2, hk2⟩ := evOps_cont h
        refine ⟨max k1 k2, ?_⟩
        unfold evRegion
        simp only [if_true]
        rw [evOps_mono (evF_mono (Nat.le_max_left k1 k2)) _ _ _ _ _ hk1]
        simp only
        rw [if_pos hl]
        exact evOps_mono (evF_mono (Nat.le_max_right k1 k2)) _ _ _ _ _ hk2
      · cases h

/-! ### The equations -/
section
variable (lv : List Bool) (S : St)
theorem WC_skip : WC C lv .skip S = some (.normal, S) := WC_eq fun r => ⟨fun h => ⟨0, h⟩, fun ⟨_, h⟩ => h⟩
theorem WC_label (l : Nat) : WC C lv (.label l) S = some (.normal, S) := WC_eq fun r => ⟨fun h => ⟨0, h⟩, fun ⟨_, h⟩ => h⟩
theorem WC_exit (id : Nat) : WC C lv (.exit id) S = some (.exit id, S) := WC_eq fun r => ⟨fun h => ⟨0, h⟩, fun ⟨_, h⟩ => h⟩
theorem WC_ret : WC C lv .ret S = some (.ret, S) := WC_eq fun r => ⟨fun h => ⟨0, h⟩, fun ⟨_, h⟩ => h⟩
theorem WC_region (id : Nat) (ops : Array Oper) (d : Bool) : WC C lv (.region id ops d) S = match evRegion C (W C) d ops S with
    | none => none
    | some S1 => some (.normal, ⟨clean lv S1.t, S1.H⟩) := by
  refine WC_eq fun r => ⟨fun h => ?_, fun ⟨k, h⟩ => ?_⟩
  · split at h
    · cases h
    · rename_i S1 h1
      obtain ⟨k, hk⟩ := evRegion_cont h1
      exact ⟨k, by simp only [evC]; rw [hk]; exact h⟩
  · simp only [evC] at h
    cases hx : evRegion C (evF C k) d ops S with
    | none => rw [hx] at h; cases h
    | some S1 => rw [hx] at h; rw [evRegion_mono (evF_le_W k) _ _ _ _ hx]; exact h
theorem WC_seq (a b : Code) : WC C lv (.seq a b) S = match WC C lv a S with
    | some (.normal, S1) => WC C lv b S1
    | r => r := by
  refine WC_eq fun r => ⟨fun h => ?_, fun ⟨k, h⟩ => ?_⟩
  · cases hx : WC C lv a S with
    | none => rw [hx] at h; cases h
    | some q =>
      obtain ⟨e, S1⟩ := q
      obtain ⟨k1, h1⟩ := WC_iff.1 hx
      rw [hx] at h
      cases e with
      | normal =>
        obtain ⟨k2, h2⟩ := WC_iff.1 h
        refine ⟨max k1 k2, ?_⟩
        simp only [evC]
        rw [WC_mono lv a S k1 _ (Nat.le_max_left k1 k2) _ h1]
        exact WC_mono lv b S1 k2 _ (Nat.le_max_right k1 k2) _ h2
      | exit i => exact ⟨k1, by simp only [evC]; rw [h1]; exact h⟩
      | ret => exact ⟨k1, by simp only [evC]; rw [h1]; exact h⟩
  · simp only [evC] at h
    cases hx : evC C (evF C k) lv k a S with
    | none => rw [hx] at h; cases h
    | some q =>
      obtain ⟨e, S1⟩ := q
      rw [hx] at h
      rw [WC_iff.2 ⟨k, hx⟩]
      cases e with
      | normal => exact WC_iff.2 ⟨k, h⟩
      | exit i => exact h
      | ret => exact h
theorem WC_cond (c : Operand) (a b : Code) : WC C lv (.cond c a b) S = match opv S.t c with
    | some (.p (.bool t)) => if t then WC C lv a S else WC C lv b S
    | _ => none := by
  refine WC_eq fun r => ?_
  simp only [evC]
  split
  · rename_i t ht
    simp only [ht]
    cases t with
    | true => simp only [if_true]; exact WC_iff
    | false => simp only [Bool.false_eq_true, if_false]; exact WC_iff
  · rename_i hne
    refine ⟨fun h => (by cases h), fun ⟨_, h⟩ => ?_⟩
    split at h
    · rename_i t ht; exact absurd ht (hne t)
    · exact h
theorem WC_block (id : Nat) (a : Code) : WC C lv (.block id a) S = match WC C lv a S with
    | some (.exit i, S1) => if i = id then some (.normal, S1) else some (.exit i, S1)
    | r => r := by
  refine WC_eq fun r => ⟨fun h => ?_, fun ⟨k, h⟩ => ?_⟩
  · cases hx : WC C lv a S with
    | none => rw [hx] at h; cases h
    | some q =>
      obtain ⟨k1, h1⟩ := WC_iff.1 hx
      rw [hx] at h
      exact ⟨k1, by simp only [evC]; rw [h1]; exact h⟩
  · simp only [evC] at h
    cases hx : evC C (evF C k) lv k a S with
    | none => rw [hx] at h; cases h
    | some q => rw [hx] at h; rw [WC_iff.2 ⟨k, hx⟩]; exact h
theorem WC_loop (a : Code) : WC C lv (.loop a) S = match WC C lv a S with
    | some (.normal, S1) => WC C lv (.loop a) S1
    | r => r := by
  refine WC_eq fun r => ⟨fun h => ?_, fun ⟨k, h⟩ => ?_⟩
  · cases hx : WC C lv a S with
    | none => rw [hx] at h; cases h
    | some q =>
      obtain ⟨e, S1⟩ := q
      obtain ⟨k1, h1⟩ := WC_iff.1 hx
      rw [hx] at h
      cases e with
      | normal =>
        obtain ⟨k2, h2⟩ := WC_iff.1 h
        refine ⟨max k1 k2 + 1, ?_⟩
        simp only [evC, iter]
        rw [WC_mono lv a S k1 _ (by omega) _ h1]
        simp only [evC] at h2
        exact iter_mono (fun S => WC_mono lv a S k2 _ (by omega)) k2 _ (by omega) S1 _ h2
      | exit i => exact ⟨k1 + 1, by simp only [evC, iter]; rw [WC_mono lv a S k1 _ (by omega) _ h1]; exact h⟩
      | ret => exact ⟨k1 + 1, by simp only [evC, iter]; rw [WC_mono lv a S k1 _ (by omega) _ h1]; exact h⟩
  · simp only [evC] at h
    cases k with
    | zero => simp [iter] at h
    | succ k =>
      simp only [iter] at h
      cases hx : evC C (evF C (k + 1)) lv (k + 1) a S with
      | none => rw [hx] at h; cases h
      | some q =>
        obtain ⟨e, S1⟩ := q
        rw [hx] at h
        rw [WC_iff.2 ⟨k + 1, hx⟩]
        cases e with
        | normal => exact WC_iff.2 ⟨k + 1, by simp only [evC]; exact iter_mono (fun S => Le.refl _) k (k + 1) (by omega) S1 _ h⟩
        | exit i => exact h
        | ret => exact h
end
theorem W_eq {f : FuncId} {fn : Func} {c : Code} (h9 : C.md f < 9) (hf : C.P.funcs[f]? = some fn) (hc : fn.body = some c) (args : List AV) (H : List ABlk) :
    W C f args H = match WC C (C.lv f) c ⟨args ++ List.replicate (fn.ntmps - args.length) (.p .und), H⟩ with
    | some (.exit _, _) => none
    | some (_, S) => match evResults C fn S with
      | some x => some (x, S.H)
      | none => none
    | none => none := by
  have hn9 : ¬ 9 ≤ C.md f := by omega
  refine lim_eq (fun k k' h => evF_mono h f args H) fun r => ⟨fun h => ?_, fun ⟨k, h⟩ => ?_⟩
  · cases hx : WC C (C.lv f) c ⟨args ++ List.replicate (fn.ntmps - args.length) (.p .und), H⟩ with
    | none => rw [hx] at h; cases h
    | some q =>
      obtain ⟨k, hk⟩ := WC_iff.1 hx
      rw [hx] at h
      exact ⟨k + 1, by rw [evF, if_neg hn9, hf]; simp only; rw [hc]; simp only; rw [hk]; exact h⟩
  · cases k with
    | zero => simp [evF] at h
    | succ k =>
      rw [evF, if_neg hn9, hf] at h
      simp only at h
      rw [hc] at h
      simp only at h
      cases hx : evC C (evF C k) (C.lv f) k c ⟨args ++ List.replicate (fn.ntmps - args.length) (.p .und), H⟩ with
      | none => rw [hx] at h; cases h
      | some q => rw [hx] at h; rw [WC_iff.2 ⟨k, hx⟩]; exact h
theorem W_sound (hC : CfgOK C) (hok : fnsOK C) : CallOK C (W C) := fun f args H r H' h g w argv hi ha => by
  obtain ⟨k, hk⟩ := W_iff.1 h
  exact evF_sound hC hok k f args H r H' hk g w argv hi ha
end Go.Ev
set_option linter.unusedVariables false
namespace Go.Ev

/-- May a function be run? -/
def fOK (C : Cfg) (f : Nat) : Bool :=
  match C.P.funcs[f]? with
  | none => false
  | some fn => !(fn.name == "runtime.NumGoroutine") && match fn.body with
    | some c => codeOK C c
    | none => false
theorem tab_ok {C : Cfg} {n : Nat} (hn : ∀ f, C.md f < 9 → f < n) (h : ((List.range n).all fun f => decide (9 ≤ C.md f) || C.md f == 6 || fOK C f) = true)
    (ora : OraOK C) (mixed : C.P.follows .mixedOrders = true)
    (nz : ∀ f, C.md f = 6 → ∃ fn e t, C.P.funcs[f]? = some fn ∧ (fn.name == "runtime.NumGoroutine") = false ∧ fn.body = none ∧ (Extern.findNext fn).isNone = true ∧ Extern.find fn = some (Extern.BytealgMakeNoZero.makeNoZero fn.params fn.resultTypes) ∧ fn.resultTypes = #[t] ∧ C.P.underlying t = some (.slice e)) :
    CfgOK C ∧ fnsOK C := by
  have key : ∀ f, C.md f < 9 → C.md f ≠ 6 → fOK C f = true := by
    intro f hf h6
    have := List.all_eq_true.1 h f (List.mem_range.2 (hn f hf))
    simp only [Bool.or_eq_true, decide_eq_true_eq, beq_iff_eq] at this
    rcases this with (h1 | h1) | h1
    · omega
    · exact absurd h1 h6
    · exact h1
  refine ⟨⟨fun f hf h6 => ?_, ora, nz, mixed⟩, fun f fn c hf hfn hc => ?_⟩
  · have := key f hf h6
    unfold fOK at this
    split at this
    · cases this
    · rename_i fn hfn
      simp only [Bool.and_eq_true, Bool.not_eq_true'] at this
      refine ⟨fn, hfn, this.1, ?_⟩
      have h2 := this.2
      split at h2
      · rename_i c hc; rw [hc]; rfl
      · cases h2
  · by_cases h6 : C.md f = 6
    · obtain ⟨fn', _, _, h1, _, h2, _⟩ := nz f h6
      rw [hfn] at h1; cases h1
      rw [hc] at h2; cases h2
    · have := key f hf h6
      unfold fOK at this
      rw [hfn] at this
      simp only [Bool.and_eq_true, hc] at this
      exact this.2
theorem ora_none {P : Program} {md : FuncId → Nat} {lv : FuncId → List Bool} : OraOK { P := P, O := fun _ _ => none, md := md, lv := lv } := fun _ _ _ h => by cases h
theorem W_of_evF {C : Cfg} (k : Nat) {f : FuncId} {a : List AV} {H : List ABlk} {r : AV × List ABlk} (h : evF C k f a H = some r) : W C f a H = some r := evF_le_W k _ _ _ _ h

/-- A table's conditions. -/
def tabCfg (P : Program) (L : List Nat) : Cfg := { P := P, O := fun _ _ => none, md := fun f => L.getD f 9, lv := fun _ => [] }
theorem tab_lt {L : List Nat} {f : Nat} (h : L.getD f 9 < 9) : f < L.length := by
  by_cases hf : f < L.length
  · exact hf
  · rw [List.getD_eq_getElem?_getD, List.getElem?_eq_none (by omega)] at h; simp at h
theorem tabCfg_ok {P : Program} {L : List Nat} (h : ((List.range L.length).all fun f => decide (9 ≤ L.getD f 9) || L.getD f 9 == 6 || fOK (tabCfg P L) f) = true)
    (mixed : P.follows .mixedOrders = true) (h6 : L.contains 6 = false) : CfgOK (tabCfg P L) ∧ fnsOK (tabCfg P L) := by
  refine tab_ok (n := L.length) (fun f hf => tab_lt hf) h ora_none mixed fun f hf => ?_
  have hf' : L.getD f 9 = 6 := hf
  have hl := tab_lt (L := L) (f := f) (by omega)
  have : (6 : Nat) ∈ L := by
    rw [← hf', List.getD_eq_getElem?_getD, List.getElem?_eq_getElem hl]
    exact List.getElem_mem hl
  simp only [List.contains_eq_mem, decide_eq_false_iff_not] at h6
  exact absurd this h6

/-! ### A call that is handed what nothing changes -/
noncomputable def WP (C : Cfg) (f : FuncId) (xs : List PV) : Option PV := match W C f (xs.map .p) [] with
  | some (r, Hc) => frz false Hc deep r
  | none => none
def evP (C : Cfg) (k : Nat) (f : FuncId) (xs : List PV) : Option PV := match evF C k f (xs.map .p) [] with
  | some (r, Hc) => frz false Hc deep r
  | none => none
theorem WP_run {C : Cfg} (k : Nat) {f : FuncId} {xs : List PV} {x : PV} (h : evP C k f xs = some x) : WP C f xs = some x := by
  unfold evP at h
  split at h
  · rename_i r Hc hr
    unfold WP
    rw [W_of_evF k hr]
    exact h
  · cases h
theorem WP_eq {C : Cfg} {f : FuncId} {fn : Func} {c : Code} (h9 : C.md f < 9) (hf : C.P.funcs[f]? = some fn) (hc : fn.body = some c) (xs : List PV) :
    WP C f xs = match WC C (C.lv f) c ⟨xs.map .p ++ List.replicate (fn.ntmps - xs.length) (.p .und), []⟩ with
    | some (.exit _, _) => none
    | some (_, S) => match evResults C fn S with
      | some x => frz false S.H deep x
      | none => none
    | none => none := by
  unfold WP
  rw [W_eq h9 hf hc, List.length_map]
  cases WC C (C.lv f) c ⟨xs.map .p ++ List.replicate (fn.ntmps - xs.length) (.p .und), []⟩ with
  | none => rfl
  | some q =>
    obtain ⟨e, S⟩ := q
    cases e <;> simp only <;> cases evResults C fn S <;> rfl
theorem evCall_pure {C : Cfg} {st : Bool} {f : FuncId} {args : List AV} {H : List ABlk} {xs : List PV} (h0 : C.md f = 0) (ho : C.O f xs = none) (hx : mapO (frz false H deep) args = some xs) :
    evCall C (W C) st f args H = match WP C f xs with
      | none => none
      | some x => tell (!st || (mapO (frz true H deep) args).isSome) H (if st then H else mark (args.flatMap (ids H deep)) H) x := by
  unfold evCall WP
  rw [if_neg (by omega), if_neg (by omega), hx]
  simp only
  rw [ho]
  simp only
  rw [if_neg (fun h => by omega)]
  cases W C f (xs.map .p) [] with
  | none => rfl
  | some q =>
    obtain ⟨r, Hc⟩ := q
    simp only
    rw [if_neg (by omega)]
    cases frz false Hc deep r <;> rfl
theorem beqs : (false == true) = false ∧ (true == false) = false ∧ (true == true) = true ∧ (false == false) = true := by decide
theorem evCall_tab {C : Cfg} (hO : ∀ f xs, C.O f xs = none) {st : Bool} {f : FuncId} {args : List AV} {H : List ABlk} (h0 : C.md f = 0) :
    evCall C (W C) st f args H = match mapO (frz false H deep) args with
      | none => none
      | some xs => match WP C f xs with
        | none => none
        | some x => tell (!st || (mapO (frz true H deep) args).isSome) H (if st then H else Go.Ev.mark (args.flatMap (ids H deep)) H) x := by
  cases hx : mapO (frz false H deep) args with
  | none =>
    unfold evCall
    rw [if_neg (by omega), if_neg (by omega), hx]
    simp only
    rw [if_neg (by omega)]
  | some xs => exact evCall_pure h0 (hO f xs) hx
end Go.Ev
set_option linter.unusedVariables false
namespace Go.Ev

theorem WP_sound {C : Cfg} (hC : CfgOK C) (hok : fnsOK C) {f : FuncId} {xs : List PV} {x : PV} (h : WP C f xs = some x) {F : Nat → Prop} {w : World} {argv : Array Value}
    (hF : ∀ b, F b → b < w.heap.size) (hr : repL F w xs argv.toList) : Calls C.P f argv w (OraPost F w x) := by
  unfold WP at h
  split at h
  · rename_i rr Hc hrr
    have ic : Inv ⟨F, fun _ => 0⟩ w [] := ⟨hF, fun id B hB => by simp at hB, fun i j Bi Bj hBi => by simp at hBi⟩
    have hcc := W_sound hC hok f _ [] rr Hc hrr ⟨F, fun _ => 0⟩ w argv ic (repLA_map.2 hr)
    refine hcc.mono ?_
    rintro e w' ⟨v, gc', rfl, j1, j2, j3⟩
    have hu := fzUp_mark (ids Hc deep rr) Hc
    have jf := fz_inv j1 hu
    have je := fz_ext j1 hu
    have hr := frz_rep jf _ _ _ _ (frz_strict hu _ _ _ h fun id hid B' hB' => mark_fz _ _ _ _ hid hB') (repA_mono je j3)
    exact ⟨v, _, rfl, PExt.of_ext jf (j2.trans je), hr⟩
  · cases h
/-- Nothing that was there has turned. -/
theorem PExt.kept {F F' : Nat → Prop} {w w' : World} (h : PExt F w F' w') : w.keptBut w' (fun _ => False) := by
  refine ⟨h.os, h.output, fun i hi => ?_⟩
  rw [h.old i hi]
  split <;> rename_i h1 h2
  · cases h1.symm.trans h2; exact ⟨rfl, rfl, rfl, fun _ _ => rfl⟩
  · cases h1.symm.trans h2; exact .inr ⟨rfl, rfl⟩
  · rfl
theorem PExt.frozen {F F' : Nat → Prop} {w w' : World} (h : PExt F w F' w') {a : Addr} (ha : a.block < w.heap.size) : w'.frozen? a = w.frozen? a := by
  unfold World.frozen?
  rw [h.old _ ha]
/-- How a function ends. -/
def fin (C : Cfg) (fn : Func) : Option (Ex × St) → Option (AV × List ABlk)
  | some (.exit _, _) => none
  | some (_, S) => match evResults C fn S with
    | some x => some (x, S.H)
    | none => none
  | none => none
theorem W_fin {C : Cfg} {f : FuncId} {fn : Func} {c : Code} (h9 : C.md f < 9) (hf : C.P.funcs[f]? = some fn) (hc : fn.body = some c) (args : List AV) (H : List ABlk) :
    W C f args H = fin C fn (WC C (C.lv f) c ⟨args ++ List.replicate (fn.ntmps - args.length) (.p .und), H⟩) := by
  rw [W_eq h9 hf hc]
  rfl
theorem WC_run {C : Cfg} (k : Nat) {lv : List Bool} {c : Code} {S : St} {r : Ex × St} (h : evC C (evF C k) lv k c S = some r) : WC C lv c S = some r := WC_iff.2 ⟨k, h⟩
theorem WC_fin {C : Cfg} (k : Nat) {fn : Func} {lv : List Bool} {c : Code} {S : St} {r : AV × List ABlk} (h : fin C fn (evC C (evF C k) lv k c S) = some r) : fin C fn (WC C lv c S) = some r := by
  cases hx : evC C (evF C k) lv k c S with
  | none => rw [hx] at h; cases h
  | some q => rw [WC_run k hx, ← hx]; exact h
theorem evCall_own {C : Cfg} {st : Bool} {f : FuncId} (hO : ∀ xs, C.O f xs = none) {args : List AV} {H : List ABlk} (h1 : C.md f = 1) :
    evCall C (W C) st f args H = match mapO (frz false H deep) args with
      | none => none
      | some xs => match W C f (xs.map .p) [] with
        | none => none
        | some (r, Hc) => if (ownA r && Hc.all fun B => ownL B.cells) = true then some (shift H.length r, H ++ Hc.map (shiftB H.length)) else
          if (!st || (mapO (frz true H deep) args).isSome) = true then some (shift (if st then H else Go.Ev.mark (args.flatMap (ids H deep)) H).length r, (if st then H else Go.Ev.mark (args.flatMap (ids H deep)) H) ++ Hc.map (shiftB (if st then H else Go.Ev.mark (args.flatMap (ids H deep)) H).length)) else none := by
  unfold evCall
  rw [if_neg (by omega), if_neg (by omega)]
  cases hx : mapO (frz false H deep) args with
  | none => simp only; rw [if_neg (by omega)]
  | some xs =>
    simp only
    rw [hO xs]
    simp only
    rw [if_neg (fun h => by omega)]
    cases W C f (xs.map .p) [] with
    | none => rfl
    | some q =>
      obtain ⟨r, Hc⟩ := q
      simp only
      rw [if_pos (.inl h1)]
end Go.Ev
set_option linter.unusedVariables false
namespace Go.Ev

mutual
/-- Are two values one? Functions are not looked at. -/
def eqPV : PV → PV → Bool
  | .int k a, .int k' b => decide (k = k') && decide (a = b)
  | .bool a, .bool b => a == b
  | .str a, .str b => decide (a = b)
  | .nilp, .nilp => true
  | .nilf, .nilf => true
  | .nsl a, .nsl b => a == b
  | .sl n x cs, .sl m y ds => decide (n = m) && x == y && eqPVL cs ds
  | .agg cs, .agg ds => eqPVL cs ds
  | .tup cs, .tup ds => eqPVL cs ds
  | _, _ => false
def eqPVL : List PV → List PV → Bool
  | [], [] => true
  | x :: xs, y :: ys => eqPV x y && eqPVL xs ys
  | _, _ => false
end
theorem eqPV_all : ∀ n, (∀ x : PV, SizeOf.sizeOf x ≤ n → ∀ y, eqPV x y = true → x = y) ∧ (∀ xs : List PV, SizeOf.sizeOf xs ≤ n → ∀ ys, eqPVL xs ys = true → xs = ys) := by
  intro n
  induction n with
  | zero =>
    refine ⟨fun x hx => ?_, fun xs hx => ?_⟩
    · cases x <;> simp at hx <;> omega
    · cases xs <;> simp at hx
  | succ n ih =>
    obtain ⟨ih1, ih2⟩ := ih
    refine ⟨fun x hx y h => ?_, fun xs hx ys h => ?_⟩
    · cases x <;> cases y <;> simp [eqPV] at h ⊢ <;> simp at hx
      · exact h
      · exact h
      · exact h
      · exact h
      · exact ⟨h.1.1, h.1.2, ih2 _ (by omega) _ h.2⟩
      · exact ih2 _ (by omega) _ h
      · exact ih2 _ (by omega) _ h
    · match xs, ys, h with
      | [], [], _ => rfl
      | x :: xs, y :: ys, h =>
        simp at hx
        simp only [eqPVL, Bool.and_eq_true] at h
        rw [ih1 x (by omega) y h.1, ih2 xs (by omega) ys h.2]
theorem eqPVL_eq {xs ys : List PV} (h : eqPVL xs ys = true) : xs = ys := (eqPV_all (SizeOf.sizeOf xs)).2 xs (Nat.le_refl _) ys h
theorem eqPV_eq {x y : PV} (h : eqPV x y = true) : x = y := (eqPV_all (SizeOf.sizeOf x)).1 x (Nat.le_refl _) y h

structure Fact where
  f : FuncId
  xs : List PV
  r : PV
def Fact.ok (C : Cfg) (a : Fact) : Prop := WP C a.f a.xs = some a.r
def tabO (T : List Fact) (f : FuncId) (xs : List PV) : Option PV := match T with
  | [] => none
  | a :: T => if Nat.beq a.f f then if eqPVL a.xs xs then some a.r else tabO T f xs else tabO T f xs
theorem tabO_some : ∀ {T : List Fact} {f : FuncId} {xs : List PV} {r : PV}, tabO T f xs = some r → ∃ a ∈ T, a.f = f ∧ a.xs = xs ∧ a.r = r
  | [], _, _, _, h => by simp [tabO] at h
  | a :: T, f, xs, r, h => by
    simp only [tabO] at h
    split at h
    · rename_i hf
      split at h
      · rename_i hx
        cases h
        exact ⟨a, by simp, Nat.eq_of_beq_eq_true hf, eqPVL_eq hx, rfl⟩
      · obtain ⟨b, hb, h⟩ := tabO_some h
        exact ⟨b, by simp [hb], h⟩
    · obtain ⟨b, hb, h⟩ := tabO_some h
      exact ⟨b, by simp [hb], h⟩
theorem tabO_none : ∀ {T : List Fact} {f : FuncId} (h : (T.all fun a => !(Nat.beq a.f f)) = true) (xs : List PV), tabO T f xs = none
  | [], _, _, _ => rfl
  | a :: T, f, h, xs => by
    simp only [List.all_cons, Bool.and_eq_true, Bool.not_eq_true'] at h
    simp only [tabO, h.1]
    rw [if_neg (by simp)]
    exact tabO_none h.2 xs
/-- The same program with a table. -/
def Cfg.told (C : Cfg) (T : List Fact) : Cfg := { C with O := tabO T }
theorem codeOK_told {C : Cfg} {T : List Fact} : ∀ c, codeOK (C.told T) c = codeOK C c := by
  intro c
  induction c with
  | seq a b iha ihb => simp only [codeOK, iha, ihb]
  | cond c a b iha ihb => simp only [codeOK, iha, ihb]
  | block id a ih => simp only [codeOK, ih]
  | loop a ih => simp only [codeOK, ih]
  | region id ops d => rfl
  | _ => rfl
theorem told_ok {C : Cfg} {T : List Fact} (hC : CfgOK C) (hok : fnsOK C) (hT : ∀ a ∈ T, Fact.ok C a) : CfgOK (C.told T) ∧ fnsOK (C.told T) := by
  refine ⟨⟨hC.fn, ?_, hC.nz, hC.mixed⟩, fun f fn c h1 h2 h3 => by rw [codeOK_told]; exact hok f fn c h1 h2 h3⟩
  intro f xs r h F w argv hF hr
  obtain ⟨a, ha, rfl, rfl, rfl⟩ := tabO_some h
  exact WP_sound hC hok (hT a ha) hF hr
theorem facts_nil {C : Cfg} : ∀ a ∈ ([] : List Fact), Fact.ok C a := fun a h => by cases h
theorem facts_cons {C : Cfg} {a : Fact} {T : List Fact} (h : Fact.ok C a) (hT : ∀ b ∈ T, Fact.ok C b) : ∀ b ∈ a :: T, Fact.ok C b := fun b hb => by
  rcases List.mem_cons.1 hb with rfl | hb
  · exact h
  · exact hT b hb
def eqO : Option PV → PV → Bool
  | some x, y => eqPV x y
  | none, _ => false
theorem fact_run {C : Cfg} (k : Nat) {a : Fact} (h : eqO (evP C k a.f a.xs) a.r = true) : Fact.ok C a := by
  refine WP_run k ?_
  cases hx : evP C k a.f a.xs with
  | none => rw [hx] at h; cases h
  | some x => rw [hx] at h; rw [eqPV_eq h]

/-- A table of modes with bytealg.MakeNoZero in it. -/
theorem tabCfg_ok6 {P : Program} {L : List Nat} (n : Nat) (h : ((List.range L.length).all fun f => decide (9 ≤ L.getD f 9) || L.getD f 9 == 6 || fOK (tabCfg P L) f) = true)
    (mixed : P.follows .mixedOrders = true) (h6 : ((List.range L.length).all fun f => L.getD f 9 != 6 || f == n) = true)
    (nz : ∃ fn e t, P.funcs[n]? = some fn ∧ (fn.name == "runtime.NumGoroutine") = false ∧ fn.body = none ∧ (Extern.findNext fn).isNone = true ∧ Extern.find fn = some (Extern.BytealgMakeNoZero.makeNoZero fn.params fn.resultTypes) ∧ fn.resultTypes = #[t] ∧ P.underlying t = some (.slice e)) :
    CfgOK (tabCfg P L) ∧ fnsOK (tabCfg P L) := by
  refine tab_ok (n := L.length) (fun f hf => tab_lt hf) h ora_none mixed fun f hf => ?_
  have hf' : L.getD f 9 = 6 := hf
  have hl := tab_lt (L := L) (f := f) (by omega)
  have := List.all_eq_true.1 h6 f (List.mem_range.2 hl)
  rw [hf'] at this
  simp at this
  subst this
  exact nz
end Go.Ev
set_option linter.unusedVariables false
namespace Go.Ev

/-! ### Live slots -/
def tmpOf : Operand → List Nat
  | .tmp i => [i]
  | _ => []
def usesOf (ops : Array Oper) (o : Oper) : List Nat :=
  o.op.operands.toList.flatMap tmpOf ++ match o.guard with
    | some (j, _) => match (ops[j]?).bind (·.dst) with
      | some d => [d]
      | none => []
    | none => []
def regionLive (ops : Array Oper) : List Oper → List Nat → List Nat → List Nat
  | [], _, live => live
  | o :: os, dn, live => regionLive ops os (match o.dst with
    | some d => d :: dn
    | none => dn) (live ++ (usesOf ops o).filter fun i => !dn.contains i && !live.contains i)
def liveC : Code → List Nat
  | .region _ ops _ => regionLive ops ops.toList [] []
  | .seq a b => liveC a ++ liveC b
  | .cond c a b => tmpOf c ++ liveC a ++ liveC b
  | .block _ a => liveC a
  | .loop a => liveC a
  | _ => []
def resLive : ResultVar → List Nat
  | .tmp t => [t]
  | .cell a _ => [a]
def lvOf (P : Program) (f : FuncId) : List Bool := match P.funcs[f]? with
  | some fn => match fn.body with
    | some c => let l := liveC c ++ fn.results.toList.flatMap resLive
      (List.range fn.ntmps).map fun i => l.contains i
    | none => []
  | none => []
def tabCfgL (P : Program) (L : List Nat) : Cfg := { P := P, O := fun _ _ => none, md := fun f => L.getD f 9, lv := lvOf P }
theorem codeOK_lv {C : Cfg} {lv : FuncId → List Bool} : ∀ c, codeOK { C with lv := lv } c = codeOK C c := by
  intro c
  induction c with
  | seq a b iha ihb => simp only [codeOK, iha, ihb]
  | cond c a b iha ihb => simp only [codeOK, iha, ihb]
  | block id a ih => simp only [codeOK, ih]
  | loop a ih => simp only [codeOK, ih]
  | region id ops d => rfl
  | _ => rfl
theorem lv_ok {C : Cfg} {lv : FuncId → List Bool} (hC : CfgOK C) (hok : fnsOK C) (ora : OraOK { C with lv := lv }) : CfgOK { C with lv := lv } ∧ fnsOK { C with lv := lv } :=
  ⟨⟨hC.fn, ora, hC.nz, hC.mixed⟩, fun f fn c h1 h2 h3 => by rw [codeOK_lv]; exact hok f fn c h1 h2 h3⟩
theorem tabCfgL_ok {P : Program} {L : List Nat} (h : CfgOK (tabCfg P L) ∧ fnsOK (tabCfg P L)) : CfgOK (tabCfgL P L) ∧ fnsOK (tabCfgL P L) :=
  lv_ok (C := tabCfg P L) (lv := lvOf P) h.1 h.2 fun _ _ _ h => by cases h
end Go.Ev
