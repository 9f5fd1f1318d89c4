/- Regions: in the text's order, and in whatever order the edges allow. -/
import Derived.Test.YtjnpencafmjmpaaGreatDoorEvM
set_option linter.unusedVariables false
set_option linter.unusedSimpArgs false
namespace Go.Ev
open Go.RowKit
variable {g : G} {w : World} {H : List ABlk} {C : Cfg} {call : CallE}

structure Rel (g : G) (w : World) (S : St) (a : Act) : Prop where
  inv : Inv g w S.H
  tmps : repLA g w S.H S.t a.tmps.toList
  defers : a.defers = []

theorem wantedA_spec {ops : Array Oper} {t : List AV} {tmps : Array Value} {o : Oper} {b : Bool} (ht : repLA g w H t tmps.toList) (h : wantedA ops t o = some b) : Region.wanted o (yielded ops tmps) = b := by
  unfold wantedA at h
  unfold Region.wanted
  split at h
  · rename_i hg; rw [hg]; cases h; rfl
  · rename_i j want hg
    rw [hg]
    simp only
    unfold yielded
    split at h
    · rename_i hd; rw [hd]; cases h; rfl
    · rename_i d hd
      rw [hd]
      simp only [Option.bind_some]
      split at h
      · rename_i c hc
        obtain ⟨v, hv, hr⟩ := (repLA_iff.1 ht).2 _ _ hc
        simp only [repA, rep] at hr; subst hr
        rw [Array.getElem?_toList] at hv
        rw [hv]; cases h
        simp
      · rename_i hc
        obtain ⟨v, hv, hr⟩ := (repLA_iff.1 ht).2 _ _ hc
        simp only [repA, rep] at hr; subst hr
        rw [Array.getElem?_toList] at hv
        rw [hv]; cases h
        rfl
      · cases h
theorem put_rep {t : List AV} {a : Act} {d : Option Tmp} {x : AV} {v : Value} (ht : repLA g w H t a.tmps.toList) (hx : repA g w H x v) : repLA g w H (putA t d x) (a.put d v).tmps.toList := by
  cases d with
  | none => exact ht
  | some d => simp only [putA, Act.put, Array.toList_setIfInBounds]; exact repLA_set hx d ht
theorem put_defers (a : Act) (d : Option Tmp) (v : Value) : (a.put d v).defers = a.defers := by cases d <;> rfl

theorem evStep_sound (hC : CfgOK C) (hcall : CallOK C call) {st : Bool} {ops : Array Oper} {i : Nat} {o : Oper} {S S1 : St} {a : Act} (ho : ops[i]? = some o) (h : evStep C call st ops o S = some S1) (hr : Rel g w S a)
    (K : Act → World → Prop) (Q : Exit → Act → World → Prop) (hK : ∀ a' w' g', Rel g' w' S1 a' → Ext g w S.H g' w' S1.H → K a' w') : wpOp C.P ops Q i K a w := by
  unfold wpOp
  rw [ho]
  simp only
  unfold evStep at h
  split at h
  · cases h
  · rename_i hw
    cases h
    rw [wantedA_spec hr.tmps hw]
    simp only [Bool.false_eq_true, if_false]
    exact hK _ w g ⟨hr.inv, put_rep hr.tmps (by simp [repA, rep]), by rw [put_defers]; exact hr.defers⟩ (Ext.refl _ _ _)
  · rename_i hw
    rw [wantedA_spec hr.tmps hw]
    simp only [if_true]
    split at h
    · cases h
    · rename_i x H' hx
      cases h
      left
      refine evOp_sound hC hcall hr.inv hr.tmps hx K Q fun v w' g' h1 h2 h3 => ?_
      exact hK _ w' g' ⟨h1, put_rep (repLA_mono h2 hr.tmps) h3, by rw [put_defers]; exact hr.defers⟩ h2

def evIdx (C : Cfg) (call : CallE) (st : Bool) (ops : Array Oper) : List Nat → St → Option St
  | [], S => some S
  | i :: l, S => match ops[i]? with
    | none => evIdx C call st ops l S
    | some o => match evStep C call st ops o S with
      | none => none
      | some S1 => evIdx C call st ops l S1
theorem evIdx_ops {st : Bool} {ops : Array Oper} : ∀ (l : List Nat) (S : St), evIdx C call st ops l S = evOps C call st ops (l.filterMap (ops[·]?)) S
  | [], S => rfl
  | i :: l, S => by
    simp only [evIdx, List.filterMap_cons]
    cases ops[i]? with
    | none => simp only; exact evIdx_ops l S
    | some o => simp only [evOps]; cases evStep C call st ops o S with
      | none => rfl
      | some S1 => simp only; exact evIdx_ops l S1
theorem range_ops (ops : Array Oper) : (List.range ops.size).filterMap (ops[·]?) = ops.toList := by
  have : ∀ (l : List Oper), (List.range l.length).filterMap (l[·]?) = l := by
    intro l
    induction l with
    | nil => rfl
    | cons x l ih =>
      rw [List.length_cons, List.range_succ_eq_map, List.filterMap_cons]
      simp only [List.getElem?_cons_zero, List.filterMap_map]
      congr 1
  have h := this ops.toList
  rw [Array.length_toList] at h
  simpa only [Array.getElem?_toList] using h
theorem evIdx_sound (hC : CfgOK C) (hcall : CallOK C call) {st : Bool} {ops : Array Oper} (Q : Exit → Act → World → Prop) : ∀ (l : List Nat) (S S' : St) (g : G) (w : World) (a : Act), evIdx C call st ops l S = some S' → Rel g w S a →
    (∀ a' w' g', Rel g' w' S' a' → Ext g w S.H g' w' S'.H → Q .normal a' w') → wpOps C.P ops Q l a w
  | [], S, S', g, w, a, h, hr, hQ => by cases h; exact hQ a w g hr (Ext.refl _ _ _)
  | i :: l, S, S', g, w, a, h, hr, hQ => by
    rw [wpOps_cons]
    simp only [evIdx] at h
    cases ho : ops[i]? with
    | none => rw [ho] at h; unfold wpOp; rw [ho]; exact evIdx_sound hC hcall Q l S S' g w a h hr hQ
    | some o =>
      rw [ho] at h
      simp only at h
      cases hs : evStep C call st ops o S with
      | none => rw [hs] at h; cases h
      | some S1 =>
        rw [hs] at h
        exact evStep_sound hC hcall ho hs hr _ Q fun a' w' g' h1 h2 => evIdx_sound hC hcall Q l S1 S' g' w' a' h h1 fun a2 w2 g2 k1 k2 => hQ a2 w2 g2 k1 (h2.trans k2)

/-! ### Whatever the order -/
def cls (C : Cfg) (o : Oper) : Nat :=
  match o.op with
  | .move _ | .assign _ | .pick .. | .build .. | .unOp .. | .binOp .. | .makeFunc .. | .slice .. | .fieldAddr .. | .field .. | .indexAddr .. | .index .. | .extract .. | .nilCheck _ | .buildSlice .. | .makeSlice .. => 0
  | .convert s _ _ => match C.P.underlying s with
    | some (.slice _) => 1
    | _ => 0
  | .load .. => 1
  | .call c => match c.callee with
    | .builtin .len | .builtin .max | .builtin .min => 0
    | .value (.func k) => if C.md k = 0 ∨ C.md k = 4 then 1 else 2
    | _ => 2
  | _ => 2
def commC (a b : Nat) : Bool := a == 0 || b == 0 || (a == 1 && b == 1)
def preds (o : Oper) : List Nat := (o.after.toList.filter (Region.binds .any)).map (·.on)
def drawOK (C : Cfg) (ops : Array Oper) : Bool :=
  let M := Region.before ops
  (List.range ops.size).all fun i => match ops[i]? with
    | none => true
    | some o => (preds o).all (fun e => decide (e < i)) && (List.range i).all fun j => match ops[j]? with
      | none => true
      | some q => if (M.getD i 0).testBit j then (preds o).contains j || (preds o).any (fun e => decide (j < e) && (M.getD e 0).testBit j) else Oper.apart ops q o && commC (cls C q) (cls C o)

theorem mapO_congr {α β : Type} {f f' : α → Option β} : ∀ {xs : List α}, (∀ x ∈ xs, f x = f' x) → mapO f xs = mapO f' xs
  | [], _ => rfl
  | x :: xs, h => by simp only [mapO]; rw [h x (by simp), mapO_congr (fun y hy => h y (by simp [hy]))]
theorem evOp_congr {st : Bool} {ρ ρ' : Env} {o : Oper} (h : ∀ x ∈ o.op.operands, ρ x = ρ' x) : evOp C call st ρ H o = evOp C call st ρ' H o := by
  obtain ⟨dst, op, type, pos, after, guard⟩ := o
  have hp : ∀ ps : Array (Nat × Operand), (∀ x ∈ (ps.toList.map (·.2)).toArray, ρ x = ρ' x) → parts ρ ps = parts ρ' ps := fun ps hps => by
    unfold parts
    exact mapO_congr fun q hq => by rw [hps q.2 (by simp only [List.mem_toArray, List.mem_map]; exact ⟨q, hq, rfl⟩)]
  have ho : ∀ x : Option Operand, (∀ y ∈ x.toArray, ρ y = ρ' y) → optO ρ x = optO ρ' x := fun x hx => by
    cases x with
    | none => rfl
    | some y => simp only [optO]; rw [hx y (by simp)]
  cases op <;> simp only [Op.operands] at h <;> simp only [evOp] <;> try rfl
  case move x => rw [h x (by simp)]
  case assign x => rw [h x (by simp)]
  case pick c x y => rw [h c (by simp), h x (by simp), h y (by simp)]
  case box e x => rw [h x (by simp)]
  case build t ps => rw [hp ps h]
  case buildSlice t n ps => rw [hp ps h]
  case load t x => rw [h x (by simp)]
  case store t x y => rw [h x (by simp), h y (by simp)]
  case nilCheck x => rw [h x (by simp)]
  case binOp op t x y yt => rw [h x (by simp), h y (by simp)]
  case unOp op t x => rw [h x (by simp)]
  case convert s d x => rw [h x (by simp)]
  case makeFunc f x y =>
    rw [mapO_congr (f := ρ) (f' := ρ') (xs := x.toList) (fun z hz => h z (by simp at hz ⊢; exact .inl hz)), mapO_congr (f := ρ) (f' := ρ') (xs := y.toList) (fun z hz => h z (by simp at hz ⊢; exact .inr hz))]
  case makeSlice t x y => rw [h x (by simp), h y (by simp)]
  case slice t x lo hi mx =>
    rw [h x (by simp), ho lo (fun y hy => h y (by simp at hy ⊢; simp [hy])), ho hi (fun y hy => h y (by simp at hy ⊢; simp [hy])), ho mx (fun y hy => h y (by simp at hy ⊢; simp [hy]))]
  case fieldAddr s x i => rw [h x (by simp)]
  case field s x i => rw [h x (by simp)]
  case indexAddr t x i => rw [h x (by simp), h i (by simp)]
  case index t x i => rw [h x (by simp), h i (by simp)]
  case extract x i => rw [h x (by simp)]
  case call c =>
    simp only [Call.operands] at h
    rw [mapO_congr (f := ρ) (f' := ρ') (xs := c.args.toList) (fun z hz => h z (by simp at hz ⊢; exact .inr hz))]
    obtain ⟨callee, cargs, cats⟩ := c
    cases callee with
    | value f => simp only; rw [h f (by simp)]
    | invoke r m => rfl
    | builtin b => rfl
theorem ret1_any {H H1 : List ABlk} {x : AV} {m : Option AV} (h : ret1 H m = some (x, H1)) : H1 = H ∧ ∀ H2, ret1 H2 m = some (x, H2) := by
  obtain ⟨h1, h2⟩ := ret1_some h
  exact ⟨h2, fun H2 => by rw [h1]; rfl⟩
theorem evBuildSlice_true (P : Program) (t : TypeId) (n : Nat) (qs : List (Nat × AV)) : ∃ m, ∀ H, evBuildSlice P true t n qs H = ret1 H m := by
  unfold evBuildSlice
  cases h1 : elemT P t with
  | none => exact ⟨none, fun _ => rfl⟩
  | some e =>
    simp only
    cases h2 : sizeT P e with
    | none => exact ⟨none, fun _ => rfl⟩
    | some size => cases h3 : zeroT P e with
      | none => exact ⟨none, fun _ => rfl⟩
      | some z =>
        simp only
        by_cases hc : size = 0 ∨ z.length ≠ size ∨ n * size > 16777216
        · exact ⟨none, fun _ => by rw [if_pos hc]; rfl⟩
        · simp only [if_neg hc]
          cases h4 : afill (fun i => some (i * size, size)) (List.replicate n z).flatten qs with
          | none => exact ⟨none, fun _ => rfl⟩
          | some cs =>
            simp only
            cases h5 : mapO AV.pure? cs with
            | none => exact ⟨none, fun _ => rfl⟩
            | some xs => exact ⟨some (.p (.sl n true xs)), fun _ => rfl⟩
theorem evMakeSlice_true (P : Program) (t : TypeId) (a b : AV) : ∃ m, ∀ H, evMakeSlice P true t a b H = ret1 H m := by
  by_cases hm : ∃ x, ∃ H H1, evMakeSlice P true t a b H = some (x, H1)
  · obtain ⟨x, H, H1, h⟩ := hm
    refine ⟨some x, fun H2 => ?_⟩
    unfold evMakeSlice at h ⊢
    split at h
    · split at h
      · split at h
        · cases h
        · rename_i hn
          rw [if_neg hn]
          split at h
          · rename_i hp
            rw [if_pos hp]
            simp only [if_true] at h ⊢
            split at h
            · rename_i hl
              rw [if_pos hl]
              split at h
              · cases h; rfl
              · cases h
            · cases h
          · cases h
      · cases h
    · cases h
  · refine ⟨none, fun H => ?_⟩
    cases h : evMakeSlice P true t a b H with
    | none => rfl
    | some q => exact absurd ⟨q.1, H, q.2, h⟩ hm
theorem evOp_plain {ρ : Env} {o : Oper} {x : AV} {H1 : List ABlk} (hc : cls C o = 0) (h : evOp C call true ρ H o = some (x, H1)) : H1 = H ∧ ∀ H2, evOp C call true ρ H2 o = some (x, H2) := by
  obtain ⟨dst, op, type, pos, after, guard⟩ := o
  cases op <;> simp only [cls] at hc <;> try (cases hc; done)
  all_goals simp only [evOp] at h ⊢
  case move => exact ret1_any h
  case assign => exact ret1_any h
  case pick => split at h <;> cases h; exact ⟨rfl, fun _ => rfl⟩
  case build => split at h; cases h; exact ret1_any h
  case buildSlice t n ps =>
    split at h
    · cases h
    · obtain ⟨m, hm⟩ := evBuildSlice_true C.P t n ‹_›
      simp only [hm] at h ⊢
      exact ret1_any h
  case nilCheck => split at h; cases h; exact ret1_any h
  case binOp => split at h; exact ret1_any h; cases h
  case unOp => split at h; exact ret1_any h; cases h
  case convert s d y =>
    split at h
    · rename_i u hu
      unfold evConv at h ⊢
      split at h
      · cases h; exact ⟨rfl, fun _ => rfl⟩
      · cases h; exact ⟨rfl, fun _ => rfl⟩
      · split at h
        · simp only [if_true] at h ⊢; cases h; exact ⟨rfl, fun _ => rfl⟩
        · cases h
      · rename_i e hs _
        rw [hs] at hc; simp at hc
      · cases h
    · cases h
  case makeFunc => split at h; cases h; exact ⟨rfl, fun _ => rfl⟩; cases h
  case makeSlice t l c =>
    split at h
    · rename_i u v _ _
      obtain ⟨m, hm⟩ := evMakeSlice_true C.P t u v
      simp only [hm] at h ⊢
      exact ret1_any h
    · cases h
  case slice => split at h; exact ret1_any h; cases h
  case fieldAddr => split at h; exact ret1_any h; cases h
  case field => split at h; exact ret1_any h; cases h
  case indexAddr => split at h; exact ret1_any h; cases h
  case index => split at h; exact ret1_any h; cases h
  case extract => split at h; exact ret1_any h; cases h
  case call c =>
    obtain ⟨callee, cargs, cats⟩ := c
    split at h
    · cases h
    rename_i args hargs
    cases callee with
    | value f =>
      exfalso
      cases f <;> simp at hc
      split at hc <;> cases hc
    | invoke r m => simp at hc
    | builtin b =>
      simp only at h ⊢
      cases b <;> simp at hc
      all_goals
        unfold evBuiltin at h ⊢
        split at h <;> first | (cases h; done) | skip
        all_goals first
          | contradiction
          | (split at h
             · cases h; exact ⟨rfl, fun _ => rfl⟩
             · cases h)
theorem evOp_reads {ρ : Env} (hρ : ∀ k, ρ (.func k) = some (.p (.fn (.func k) [] []))) {o : Oper} {x : AV} {H1 : List ABlk} (hc : cls C o = 0 ∨ cls C o = 1) (h : evOp C call true ρ H o = some (x, H1)) : H1 = H := by
  rcases hc with hc | hc
  · exact (evOp_plain hc h).1
  obtain ⟨dst, op, type, pos, after, guard⟩ := o
  cases op <;> simp only [cls] at hc <;> try (cases hc; done)
  all_goals simp only [evOp] at h
  case load => split at h; cases h; exact (ret1_some h).2
  case convert s d y =>
    split at h
    · unfold evConv at h
      split at h
      · cases h; rfl
      · cases h; rfl
      · split at h
        · simp only [if_true] at h; cases h; rfl
        · cases h
      · unfold evBytes at h
        split at h
        · split at h
          · cases h
          · split at h
            · cases h
            · split at h
              · cases h
              · split at h
                · cases h
                · split at h
                  · cases h
                  · cases h; rfl
        · cases h
      · cases h
    · cases h
  case call c =>
    obtain ⟨callee, cargs, cats⟩ := c
    split at h
    · cases h
    cases callee with
    | value f =>
      cases f with
      | func k =>
        simp only at hc
        split at hc
        · rename_i hk
          simp only [hρ, calleeOf, List.map_nil, List.nil_append, List.append_nil] at h
          split at h
          · omega
          unfold evCall at h
          have ht : ∀ {ok : Bool} {y : PV}, tell ok H H y = some (x, H1) → H1 = H := by
            intro ok y ht
            unfold tell at ht
            split at ht
            · cases ht; rfl
            · split at ht
              · cases ht; rfl
              · cases ht
          split at h
          · cases h
          split at h
          · omega
          split at h
          · split at h
            · omega
            · cases h
          · simp only [if_true] at h
            split at h
            · exact ht h
            · split at h
              · split at h
                · split at h
                  · exact ht h
                  · cases h
                · cases h
              split at h
              · cases h
              · split at h
                · omega
                · split at h
                  · exact ht h
                  · cases h
        · cases hc
      | _ => simp at hc
    | invoke r m => simp at hc
    | builtin b => cases b <;> simp at hc
theorem wantedA_put {ops : Array Oper} {t : List AV} {d : Option Tmp} {x : AV} {o : Oper} (h : ∀ e, d = some e → e ∉ o.looksAt ops) : wantedA ops (putA t d x) o = wantedA ops t o := by
  unfold wantedA
  cases hg : o.guard with
  | none => rfl
  | some q =>
    obtain ⟨j, want⟩ := q
    simp only
    cases hd : (ops[j]?).bind (·.dst) with
    | none => rfl
    | some e =>
      simp only
      cases d with
      | none => rfl
      | some f =>
        have hne : f ≠ e := fun he => h f rfl (by simp [Oper.looksAt, hg, hd, he])
        simp only [putA, List.getElem?_set_ne hne]
theorem opv_put' {t : List AV} {d : Option Tmp} {x : AV} {o : Oper} {ops : Array Oper} (h : ∀ e, d = some e → e ∉ o.looksAt ops) : ∀ y ∈ o.op.operands, opv (putA t d x) y = opv t y := by
  intro y hy
  cases d with
  | none => rfl
  | some e =>
    cases y with
    | tmp i =>
      have hne : e ≠ i := fun he => h e rfl (by
        simp only [Oper.looksAt, List.mem_append]
        left
        rw [List.mem_filterMap]
        exact ⟨.tmp i, by simpa using hy, by rw [he]⟩)
      simp only [opv, putA, List.getElem?_set_ne hne]
    | _ => rfl
theorem putA_comm {t : List AV} {d e : Option Tmp} {x y : AV} (h : ∀ k, d = some k → e ≠ some k) : putA (putA t d x) e y = putA (putA t e y) d x := by
  cases d with
  | none => rfl
  | some k => cases e with
    | none => rfl
    | some m =>
      have : k ≠ m := fun he => h k rfl (by rw [he])
      simp only [putA]
      exact List.set_comm _ _ this
/-- Two operations that do not hang on each other may change places. -/
theorem swap {ops : Array Oper} {p q : Oper} (ha : Oper.apart ops p q = true) (hc : commC (cls C p) (cls C q) = true) {S Sp S2 : St} (h1 : evStep C call true ops p S = some Sp) (h2 : evStep C call true ops q Sp = some S2) :
    ∃ Sq, evStep C call true ops q S = some Sq ∧ evStep C call true ops p Sq = some S2 := by
  obtain ⟨a1, a2, a3⟩ := Oper.apart_spec ha
  have key : ∀ {o : Oper} {t : List AV} {H : List ABlk} {S1 : St}, evStep C call true ops o ⟨t, H⟩ = some S1 → ∃ x H1, S1 = ⟨putA t o.dst x, H1⟩ ∧ (wantedA ops t o = some false ∧ x = .p .und ∧ H1 = H ∨ wantedA ops t o = some true ∧ evOp C call true (opv t) H o = some (x, H1)) := by
    intro o t H S1 h
    unfold evStep at h
    simp only at h
    split at h
    · cases h
    · rename_i hw; cases h; exact ⟨_, _, rfl, .inl ⟨hw, rfl, rfl⟩⟩
    · rename_i hw
      split at h
      · cases h
      · rename_i x H1 hx; cases h; exact ⟨x, H1, rfl, .inr ⟨hw, hx⟩⟩
  obtain ⟨t, H⟩ := S
  obtain ⟨x, H1, rfl, hx⟩ := key h1
  obtain ⟨y, H2, rfl, hy⟩ := key h2
  have hwq : wantedA ops (putA t p.dst x) q = wantedA ops t q := wantedA_put a1
  have hwp : ∀ y, wantedA ops (putA t q.dst y) p = wantedA ops t p := fun y => wantedA_put a3
  have heq : ∀ H, evOp C call true (opv (putA t p.dst x)) H q = evOp C call true (opv t) H q := fun H => evOp_congr (opv_put' a1)
  have hep : ∀ y H, evOp C call true (opv (putA t q.dst y)) H p = evOp C call true (opv t) H p := fun y H => evOp_congr (opv_put' a3)
  rw [hwq] at hy
  simp only [heq] at hy
  have hcm : putA (putA t p.dst x) q.dst y = putA (putA t q.dst y) p.dst x := putA_comm a2
  -- what q does at H, what p does behind it
  have main : (wantedA ops t q = some false ∧ y = .p .und ∧ H2 = H1 ∧ True) ∨ (wantedA ops t q = some true ∧ ∃ Hq, evOp C call true (opv t) H q = some (y, Hq) ∧ ((wantedA ops t p = some false ∧ x = .p .und ∧ H2 = Hq) ∨ (wantedA ops t p = some true ∧ evOp C call true (opv t) Hq p = some (x, H2)))) := by
    rcases hy with ⟨w1, e1, e2⟩ | ⟨w1, hq⟩
    · exact .inl ⟨w1, e1, e2, trivial⟩
    · right
      refine ⟨w1, ?_⟩
      rcases hx with ⟨u1, f1, f2⟩ | ⟨u1, hp⟩
      · subst f2; exact ⟨H2, hq, .inl ⟨u1, f1, rfl⟩⟩
      · have hcc : cls C p = 0 ∨ cls C q = 0 ∨ (cls C p = 1 ∧ cls C q = 1) := by
          simp only [commC, Bool.or_eq_true, Bool.and_eq_true, beq_iff_eq] at hc
          rcases hc with (h | h) | h
          · exact .inl h
          · exact .inr (.inl h)
          · exact .inr (.inr h)
        rcases hcc with h0 | h0 | ⟨hp1, hq1⟩
        · obtain ⟨e1, e2⟩ := evOp_plain h0 hp
          subst e1
          exact ⟨H2, hq, .inr ⟨u1, e2 H2⟩⟩
        · obtain ⟨e1, e2⟩ := evOp_plain h0 hq
          subst e1
          exact ⟨H, e2 H, .inr ⟨u1, hp⟩⟩
        · have e1 := evOp_reads (fun _ => rfl) (.inr hp1) hp
          subst e1
          have e2 := evOp_reads (fun _ => rfl) (.inr hq1) hq
          subst e2
          exact ⟨H2, hq, .inr ⟨u1, hp⟩⟩
  rcases main with ⟨w1, e1, e2, _⟩ | ⟨w1, Hq, hq, hp⟩
  · subst e1 e2
    refine ⟨⟨putA t q.dst (.p .und), H⟩, by simp only [evStep, w1], ?_⟩
    rw [hcm]
    rcases hx with ⟨u1, f1, f2⟩ | ⟨u1, hp⟩
    · subst f1 f2; simp only [evStep, hwp, u1]
    · simp only [evStep, hwp, u1, hep, hp]
  · refine ⟨⟨putA t q.dst y, Hq⟩, by simp only [evStep, w1, hq], ?_⟩
    rw [hcm]
    rcases hp with ⟨u1, f1, f2⟩ | ⟨u1, hp⟩
    · subst f1 f2; simp only [evStep, hwp, u1]
    · simp only [evStep, hwp, u1, hep, hp]
end Go.Ev
