/- Operations that look at no world; the trees of orders of a region. -/
import Derived.Test.YtcfjcoglhimdeaaDoorAvCall
import Derived.Test.YtcfjcoglhimdeaaDoorAvE
set_option linter.unusedSimpArgs false
set_option linter.unusedVariables false
section
namespace Go.Proofs.Av
open Go.RowKit
section
variable {C : Ctx} {w w' : World} {g g' : Nat → Value} {s s' : S} {a : Act} {o : Oper} {d : Option Nat} {out : Out} {call : FuncId → List V → Obs → Option Res} {GI : World → Prop} {Q : Exit → Act → World → Prop}
/-- The operation hands a value back, the same in each world. -/
def PuA (C : Ctx) (w : World) (g : Nat → Value) (s : S) (a : Act) (o : Oper) (d : Option Nat) (out : Out) (s' : S) : Prop :=
  out = .nx ∧ ∃ u v, (∀ w2, (execOp a.eval o).run C.P w2 = .ok (.value u) w2) ∧ s' = s.put d v ∧ RV C.P w (C.Al s.obs g) g v u
theorem mv_al (h : Inv C w g s a) {x : Operand} {y : Opd} (hop : o.op = .move x ∨ o.op = .assign x) (hx : okOpd C.P x y = true) (hs : stepO call s d (.mv y) = some (out, s'))   : PuA C w g s a o d out s' := by
  obtain ⟨rfl, rfl⟩ := go_eq hs
  refine ⟨rfl, a.eval x, _, ?_, rfl, ev_ok h hx⟩
  intro w2
  rcases hop with hop | hop <;> simp [execOp, hop]
theorem ar_al (h : Inv C w g s a) {op : BinOp} {t : TypeId} {k : IntKind} {x y : Operand} {x' y' : Opd} {ty : TypeId} (hop : o.op = .binOp op t x y ty) (ha : isArith op = true)
    (hx : okOpd C.P x x' = true) (hy : okOpd C.P y y' = true) (hs : stepO call s d (.ar op k x' y') = some (out, s'))   : PuA C w g s a o d out s' := by
  simp only [stepO] at hs
  split at hs
  · rename_i kx m ky n hm hn
    by_cases hk : (kx == k && ky == k) = true
    · rw [hk, cond_true] at hs
      simp only [Bool.and_eq_true, beq_iff_eq] at hk
      obtain ⟨rfl, rfl⟩ := hk
      cases hr : intOp op ky m n with
      | none => rw [hr] at hs; cases hs
      | some r =>
        rw [hr] at hs
        obtain ⟨rfl, rfl⟩ := go_eq hs
        have ex := ev_ok h hx
        have ey := ev_ok h hy
        rw [hm] at ex
        rw [hn] at ey
        obtain ⟨ex, x1, x2⟩ := RV_i ex
        obtain ⟨ey, y1, y2⟩ := RV_i ey
        have e := fun w2 => (bits_eq op ky m n r hr w2 C.P ha).1
        have hb := (bits_eq op ky m n r hr w C.P ha).2
        refine ⟨rfl, _, _, ?_, rfl, mk_i (hb x1 x2 y1 y2).1 (hb x1 x2 y1 y2).2⟩
        intro w2
        simp [execOp, hop, ex, ey, guard_int, binOp_ty op t 0, e]
    · rw [Bool.not_eq_true] at hk
      rw [hk] at hs
      cases hs
  · cases hs
theorem cm_al (h : Inv C w g s a) {op : BinOp} {t : TypeId} {x y : Operand} {x' y' : Opd} {ty : TypeId} (hop : o.op = .binOp op t x y ty)
    (hx : okOpd C.P x x' = true) (hy : okOpd C.P y y' = true) (hs : stepO call s d (.cm op x' y') = some (out, s'))   : PuA C w g s a o d out s' := by
  simp only [stepO] at hs
  split at hs
  · rename_i kx m ky n hm hn
    by_cases hk : (kx == ky) = true
    · rw [hk, cond_true] at hs
      simp only [beq_iff_eq] at hk
      subst hk
      cases hr : cmpOp op m n with
      | none => rw [hr] at hs; cases hs
      | some r =>
        rw [hr] at hs
        obtain ⟨rfl, rfl⟩ := go_eq hs
        have ex := ev_ok h hx
        have ey := ev_ok h hy
        rw [hm] at ex
        rw [hn] at ey
        obtain ⟨ex, _⟩ := RV_i ex
        obtain ⟨ey, _⟩ := RV_i ey
        refine ⟨rfl, _, _, ?_, rfl, mk_b r⟩
        intro w2
        simp [execOp, hop, ex, ey, guard_int, binOp_ty op t 0, cm_eq op kx m n r hr]
    · rw [Bool.not_eq_true] at hk
      rw [hk] at hs
      cases hs
  · cases hs
theorem nc_al (h : Inv C w g s a) {x : Operand} {x' : Opd} (hop : o.op = .nilCheck x) (hx : okOpd C.P x x' = true) (hs : stepO call s d (.nc x') = some (out, s'))   : PuA C w g s a o d out s' := by
  simp only [stepO] at hs
  have ex := ev_ok h hx
  split at hs
  · rename_i q c hq
    obtain ⟨rfl, rfl⟩ := go_eq hs
    rw [hq] at ex
    have ex' := ex
    obtain ⟨b, _, e⟩ := ex
    exact ⟨rfl, _, _, fun w2 => by simp [execOp, hop, e], rfl, e ▸ ex'⟩
  · rename_i f vs hq
    obtain ⟨rfl, rfl⟩ := go_eq hs
    rw [hq] at ex
    have ex' := ex
    obtain ⟨us, e, _⟩ := ex
    exact ⟨rfl, _, _, fun w2 => by simp [execOp, hop, e], rfl, e ▸ ex'⟩
  · rename_i ts hq
    obtain ⟨rfl, rfl⟩ := go_eq hs
    rw [hq] at ex
    have ex' := ex
    obtain ⟨b, us, e, _⟩ := ex
    exact ⟨rfl, _, _, fun w2 => by simp [execOp, hop, e], rfl, e ▸ ex'⟩
  · cases hs
theorem fa_al (h : Inv C w g s a) {t : TypeId} {f off : Nat} {x : Operand} {x' : Opd} (hop : o.op = .fieldAddr t x f) {ft : TypeId} {i : TypeInfo} (hf : fieldOff C.P t f = some (off, ft)) (hi : C.P.info? ft = some i) (hz : 0 < i.size) (hx : okOpd C.P x x' = true)
    (hs : stepO call s d (.fa off x') = some (out, s'))   : PuA C w g s a o d out s' := by
  simp only [stepO] at hs
  have ex := ev_ok h hx
  split at hs
  · rename_i q c hq
    obtain ⟨rfl, rfl⟩ := go_eq hs
    rw [hq] at ex
    obtain ⟨b, h1, e⟩ := ex
    exact ⟨rfl, .pointer (some ⟨b, c + off, none⟩), _, fun w2 => by simp [execOp, hop, e, run_field hf hi hz, add_pl], rfl, ⟨b, h1, rfl⟩⟩
  · rename_i q k agg ls j c hq
    obtain ⟨rfl, rfl⟩ := go_eq hs
    rw [hq] at ex
    obtain ⟨b, n, cap, h1, hj, e, hk⟩ := ex
    exact ⟨rfl, .pointer (some ⟨b, j * ls.length + (c + off), none⟩), _, fun w2 => by simp [execOp, hop, e, run_field hf hi hz, add_pl, Nat.add_assoc], rfl, ⟨b, n, cap, h1, hj, rfl, hk⟩⟩
  · rename_i ts hq
    obtain ⟨rfl, rfl⟩ := go_eq hs
    rw [hq] at ex
    obtain ⟨ad, us, e, h1, h2, h3⟩ := ex
    refine ⟨rfl, .pointer (some (ad.add off)), _, fun w2 => by simp [execOp, hop, e, run_field hf hi hz], rfl, ⟨_, us.drop off, rfl, ?_, (Rs.one (g := g) h3 h2).2.2 off, fun x hx => h3 x (List.mem_of_mem_drop hx)⟩⟩
    by_cases he : us.drop off = []
    · exact .inl he
    · rcases h1 with rfl | ⟨ad', h4, hA, hc⟩
      · exact absurd (by simp) he
      · simp only [Option.some.injEq] at h4
        subst h4
        refine .inr ⟨_, rfl, ?_, fun j u hu => ?_⟩
        · have : (ad.add off).block = ad.block := by unfold Addr.add; split <;> rfl
          rw [this]; exact hA
        · rw [Addr.add_add]
          exact hc _ u (by rwa [List.getElem?_drop] at hu)
  · cases hs
theorem len_al (h : Inv C w g s a) {x : Operand} {x' : Opd} {t : TypeId} {str : Bool} (hop : o.op = .call { callee := .builtin .len, args := #[x], argTypes := #[t] }) (ht : (bif str then isStr C.P t else (elemT? C.P t).isSome) = true) (hx : okOpd C.P x x' = true)
    (hs : stepO call s d (.len str x') = some (out, s'))   : PuA C w g s a o d out s' := by
  simp only [stepO] at hs
  split at hs
  · rename_i n hn
    obtain ⟨rfl, rfl⟩ := go_eq hs
    have ex := ev_ok h hx
    have hi : n ≤ maxLen ∧ (if str then ∃ sx, a.eval x = .string sx ∧ sx.size = n else ∃ b c, a.eval x = .slice b n c) := by
      unfold sliceLen at hn
      split at hn
      · rename_i tt hv
        rw [hv] at ex
        by_cases hq : (isS tt == str) = true
        · rw [hq, cond_true] at hn
          have := tlen_im ex hn
          rwa [beq_iff_eq.1 hq] at this
        · rw [Bool.not_eq_true] at hq
          rw [hq] at hn
          cases hn
      · rename_i q hv
        rw [hv] at ex
        split at hn
        · rename_i e t' hq
          by_cases hb : str = true
          · subst hb; cases hn
          · rw [Bool.not_eq_true] at hb
            subst hb
            obtain ⟨h1, b, c, h2, _⟩ := RO_len (h.obs _ _ hq) hn
            exact ⟨h1, by simp only [Bool.false_eq_true, if_false]; exact ⟨b, c, ex.1.trans h2⟩⟩
        · cases hn
      · cases hn
    refine ⟨rfl, .int .i64 n, _, ?_, rfl, mk_i (by simp [IntKind.min, IntKind.signed, IntKind.bits] <;> omega) (by have := hi.1; simp [IntKind.max, IntKind.signed, IntKind.bits]; unfold maxLen at this; omega)⟩
    intro w2
    cases str with
    | true =>
      simp only [if_true] at hi
      obtain ⟨_, sx, e1, e2⟩ := hi
      rw [cond_true] at ht
      simp [execOp, hop, e1, resolve, invoke, builtin, Builtin.len_, run_underlying (isStr_eq ht), goInt, e2]
    | false =>
      simp only [Bool.false_eq_true, if_false] at hi
      obtain ⟨_, b, c, e1⟩ := hi
      rw [cond_false] at ht
      obtain ⟨e, he⟩ := Option.isSome_iff_exists.1 ht
      simp [execOp, hop, e1, resolve, invoke, builtin, Builtin.len_, run_underlying (elem_eq he), goInt]
  · cases hs
theorem ext_al (h : Inv C w g s a) {x : Operand} {j : Nat} {x' : Opd} (hop : o.op = .extract x j) (hx : okOpd C.P x x' = true) (hs : stepO call s d (.ext x' j) = some (out, s'))   : PuA C w g s a o d out s' := by
  simp only [stepO] at hs
  have ex := ev_ok h hx
  split at hs
  · rename_i vs hq
    obtain ⟨v, hv, hz⟩ := bind_go hs
    simp only [Prod.mk.injEq] at hz
    obtain ⟨rfl, rfl⟩ := hz
    rw [hq] at ex
    obtain ⟨us, e, h1⟩ := ex
    obtain ⟨u, hu, hR⟩ := RVs.at_ h1 hv
    have hu' : us[j]? = some u := by simpa using hu
    exact ⟨rfl, u, _, fun w2 => by simp [execOp, hop, e, Instr.extract, hu'], rfl, hR⟩
  · cases hs
theorem step_al (h : Inv C w g s a) {op : Op} {x : PO} (hop : o.op = op) (hk : chkO C.P op x = true) (hq : (⟨d, none, x⟩ : POp).al = true) (hs : stepO call s d x = some (out, s')) : PuA C w g s a o d out s' := by
  unfold chkO at hk
  split at hk
  all_goals first
    | (simp only [POp.al, Bool.false_eq_true] at hq; done)
    | skip
  · exact mv_al h (.inl hop) hk hs
  · exact mv_al h (.inr hop) hk hs
  · simp only [Bool.and_eq_true, beq_iff_eq] at hk
    obtain ⟨⟨⟨⟨rfl, h2⟩, h3⟩, h4⟩, h5⟩ := hk
    exact ar_al h hop h2 h4 h5 hs
  · simp only [Bool.and_eq_true, beq_iff_eq] at hk
    obtain ⟨⟨⟨rfl, h2⟩, h4⟩, h5⟩ := hk
    exact cm_al h hop h4 h5 hs
  · split at hk
    · rename_i h1 h2
      rw [and_t] at hk
      have e1 := list1 h1
      have e2 := list1 h2
      subst e1 e2
      exact len_al h hop hk.2 hk.1 hs
    · cases hk
  · exact nc_al h hop hk hs
  · rw [and_t] at hk
    obtain ⟨h1, h2⟩ := hk
    split at h2
    · rename_i o2 ft hf
      simp only [Bool.and_eq_true, beq_iff_eq] at h2
      obtain ⟨rfl, h3⟩ := h2
      split at h3
      · rename_i n hn
        simp only [decide_eq_true_eq] at h3
        obtain ⟨i, hi, hin⟩ := Option.map_eq_some_iff.1 hn
        exact fa_al h hop hf hi (by omega) h1 hs
      · cases h3
    · cases h2
  · rw [and_t, beq_iff_eq] at hk
    obtain ⟨h1, rfl⟩ := hk
    exact ext_al h hop h1 hs
  · cases hk
theorem Inv.drew (h : Inv C w g s a) (n : Nat) : Inv C { w with drawn := n } g s a := by
  refine ⟨fun t => ?_, fun o x ho => ?_, h.apart, h.own, ⟨h.frame.os, h.frame.tape, h.frame.output, h.frame.size, h.frame.block⟩, h.low, h.size, h.defers⟩
  · exact RV.keep (w := w) (w' := { w with drawn := n }) (fun b hb _ => ⟨rfl, hb⟩) _ _ (fun _ _ => rfl) (h.env t)
  · exact RO.keep (w := w) (w' := { w with drawn := n }) (fun b hb _ => ⟨rfl, hb⟩) (fun _ _ => rfl) (fun _ _ => rfl) rfl (h.obs o x ho)
theorem Oper.wp_then {P : Program} {N K : Act → World → Prop} {o : Oper} (h : o.wp P a w N (Exit.then K Q)) : o.wp P a w N Q := by
  unfold Oper.wp at *
  generalize (execOp a.eval o).run P w = r at *
  cases r with
  | ok n w' =>
    cases n <;> simp only [Oper.upon] at h ⊢ <;>
      first
        | exact h
        | exact Calls.mono h (fun e w'' he => by cases e <;> first | exact he | (obtain ⟨a, w, h⟩ := he; exact ⟨a, w, h⟩))
  | halt x w' => cases x <;> simp only [Oper.upon] at h ⊢ <;> exact h
theorem wpOp_of_list {P : Program} {ops : Array Oper} {K : Act → World → Prop} {i : Nat} (ho : ops[i]? = some o) (h : wpList P ops (Exit.then K Q) [o] a w) : wpOp P ops Q i K a w := by
  unfold wpOp
  rw [ho]
  simp only [wpList] at h ⊢
  split
  · rename_i hw
    rw [if_pos hw] at h
    rcases h with h | ⟨h1, a', w', h2⟩
    · exact .inl (Oper.wp_mono (fun _ _ h => h) (Oper.wp_then h))
    · exact .inr ⟨h1, a', w', h2⟩
  · rename_i hw
    rw [if_neg hw] at h
    exact h
theorem chkOps_at {P : Program} {nt : Nat} {all : Array Oper} : ∀ {os : List Oper} {ps : List POp} {i : Nat} {p : POp}, chkOps P nt all os ps = true → ps[i]? = some p → ∃ o, os[i]? = some o ∧ chkOps P nt all [o] [p] = true
  | [], [], _, _, _, h => by simp at h
  | o :: os, p :: ps, 0, q, hk, h => by
    simp only [List.getElem?_cons_zero, Option.some.injEq] at h
    subst h
    simp only [chkOps, and_t] at hk
    exact ⟨o, rfl, by simp only [chkOps, and_t]; exact ⟨hk.1, trivial⟩⟩
  | o :: os, p :: ps, i + 1, q, hk, h => by
    simp only [chkOps, and_t] at hk
    exact chkOps_at (os := os) (ps := ps) hk.2 (by simpa using h)
  | [], _ :: _, _, _, hk, _ => by simp [chkOps] at hk
  | _ :: _, [], _, _, hk, _ => by simp [chkOps] at hk
/-- A panic's post speaks of no slot. -/
def PanQ (Q : Exit → Act → World → Prop) : Prop := ∀ c (a : Act) d v w, Q (.panic c) (a.put d v) w → Q (.panic c) a w
theorem PanQ.then (h : PanQ Q) (K : Act → World → Prop) : PanQ (Exit.then K Q) := h
theorem behind_some {r : Option (Out × S)} {k : S → Option (Out × S)} {q : Out × S} (h : behind r k = some q) : (∃ s1, r = some (.nx, s1) ∧ k s1 = some q) ∨ (∃ o s1, r = some (o, s1) ∧ o ≠ .nx ∧ q = (o, ⟨[], s1.obs⟩)) := by
  unfold behind at h
  obtain ⟨⟨o, s1⟩, h1, h2⟩ := Option.bind_eq_some_iff.1 h
  cases o with
  | nx => exact .inl ⟨s1, h1, h2⟩
  | ex i => simp only [Option.some.injEq] at h2; exact .inr ⟨_, s1, h1, by simp, h2.symm⟩
  | rt => simp only [Option.some.injEq] at h2; exact .inr ⟨_, s1, h1, by simp, h2.symm⟩
  | pn v => simp only [Option.some.injEq] at h2; exact .inr ⟨_, s1, h1, by simp, h2.symm⟩
theorem Post.bare {out : Out} {s1 : S} (hp : Post C Q out ⟨[], s1.obs⟩) (hne : out ≠ .nx) (K : Act → World → Prop) : Post C (Exit.then K Q) out s1 := by
  refine ⟨fun e => absurd e hne, fun id e a w hi => ?_, fun e a w hi => ?_, fun v e a w g u hi hr => ?_⟩
  · obtain ⟨g, hi⟩ := hi
    exact hp.ex id e a w ⟨g, hi.prune []⟩
  · obtain ⟨g, hi⟩ := hi
    exact hp.rt e a w ⟨g, hi.prune []⟩
  · exact hp.pn v e a w g u (hi.prune []) hr
theorem runT_ok {ops : Array Oper} {ps : List POp} {keep : List Nat} (hG : Glob C GI) (hS : SoundT C.P GI call) (hch : chkOps C.P C.nt ops ops.toList ps = true) (hno : Region.noSelect ops = true) (hQ : PanQ Q) :
    ∀ (t : OT) (n : Nat) (l : Array Bool) (s : S) (a : Act) (w : World) (out : Out) (s' : S), chkT ops ps t n l = true → InvE C w s a → runT call ps keep t s = some (out, s') → Post C Q out s' →
      (t.node = true → wpAny C.P .any ops Q n l a w) ∧ ∀ i ∈ t.heads, ∃ m, n = m + 1 ∧ wpOp C.P ops Q i (wpAny C.P .any ops Q m (l.setIfInBounds i true)) a w
  | .done, n, l, s, a, w, out, s', hk, h, hr, hp => by
    obtain ⟨rfl, rfl⟩ := go_eq hr
    obtain ⟨g, h⟩ := h
    simp only [chkT, List.isEmpty_iff] at hk
    exact ⟨fun _ => wpAny_done hk (hp.nx rfl a w ⟨g, h.prune keep⟩) n, fun i hi => (by cases hi)⟩
  | .stop, _, _, _, _, _, _, _, _, _, hr, _ => by cases hr
  | .br t, n, l, s, a, w, out, s', hk, h, hr, hp => by
    simp only [chkT, and_t] at hk
    obtain ⟨⟨k1, k2⟩, k3⟩ := hk
    refine ⟨fun _ => ?_, fun i hi => (by cases hi)⟩
    have ih := (runT_ok hG hS hch hno hQ t n l s a w out s' k3 h hr hp).2
    have hne : Region.ready .any ops l ≠ [] := by
      intro e
      rw [e] at k1
      cases k1
    have hin : ∀ i ∈ Region.ready .any ops l, i ∈ t.heads := fun i hi => by
      have := List.all_eq_true.1 k2 i hi
      simpa using this
    obtain ⟨i0, r0, e0⟩ := List.exists_cons_of_ne_nil hne
    obtain ⟨m, rfl, _⟩ := ih i0 (hin i0 (by rw [e0]; simp))
    refine wpAny_all rfl hne (fun i hi => ?_)
    obtain ⟨m', e, hw⟩ := ih i (hin i hi)
    obtain rfl : m' = m := by omega
    exact hw
  | .one i t, 0, l, s, a, w, out, s', hk, h, hr, hp => by simp [chkT] at hk
  | .one i t, n + 1, l, s, a, w, out, s', hk, h, hr, hp => by
    simp only [chkT, and_t] at hk
    obtain ⟨⟨⟨⟨k1, k2⟩, k3⟩, k4⟩, k5⟩ := hk
    refine ⟨fun _ => ?_, fun i hi => (by cases hi)⟩
    simp only [runT, stepT] at hr
    cases hpi : ps[i]? with
    | none => rw [hpi] at hr; cases hr
    | some p =>
      rw [hpi] at hr k3
      simp only [and_t] at k3
      obtain ⟨o, ho, hc⟩ := chkOps_at hch hpi
      have ho' : ops[i]? = some o := by rw [← ho]; simp
      obtain ⟨d, pg, po⟩ := p
      have hpg : pg = none := by simpa using k3.2
      subst hpg
      simp only [chkOps, and_t, beq_iff_eq] at hc
      obtain ⟨⟨⟨⟨c1, c2⟩, c3⟩, c4⟩, _⟩ := hc
      have hog : o.guard = none := by
        cases hg : o.guard with
        | none => rfl
        | some x => rw [hg] at c3; cases c3
      have hd : ∀ t, d = some t → t < C.nt := by
        intro t ht
        simp only [ht] at c2
        simpa using c2
      obtain ⟨g, h⟩ := h
      simp only [runOps] at hr
      have key : ∃ q s1, stepO call s d po = some (q, s1) ∧ behind (andThen (some (q, s1)) (runOps call [])) (runT call ps keep t) = some (out, s') := by
        cases hq : stepO call s d po with
        | none => rw [hq] at hr; cases hr
        | some q => obtain ⟨q, s1⟩ := q; rw [hq] at hr; exact ⟨q, s1, rfl, hr⟩
      obtain ⟨q, s1, hq, hr⟩ := key
      obtain ⟨rfl, u, v, e1, rfl, e2⟩ := step_al h rfl c4 (show (⟨d, none, po⟩ : POp).al = true from k3.1) hq
      have hr2 : runT call ps keep t (s.put d v) = some (out, s') := hr
      have hi : Inv C w g (s.put d v) (a.put o.dst u) := by rw [c1]; exact h.put hd e2
      have ih := (runT_ok hG hS hch hno hQ t n (l.setIfInBounds i true) (s.put d v) (a.put o.dst u) w out s' k5 ⟨g, hi⟩ hr2 hp).1 k4
      exact wpAny_take ho' hno k1 k2 (fun c a w => hQ c a o.dst u w) (.inl ⟨by simp [Region.wanted, hog], e1⟩) ih
  | .alt i t r, 0, l, s, a, w, out, s', hk, h, hr, hp => by simp [chkT] at hk
  | .alt i t r, n + 1, l, s, a, w, out, s', hk, h, hr, hp => by
    simp only [chkT, and_t] at hk
    obtain ⟨⟨k1, k2⟩, k3⟩ := hk
    refine ⟨fun e => (by cases e), fun j hj => ?_⟩
    have two : stepT call ps i s (runT call ps keep t) = some (out, s') ∧ (r = .stop ∨ runT call ps keep r s = some (out, s')) := by
      cases r with
      | stop => exact ⟨hr, .inl rfl⟩
      | _ => exact ⟨(both_eq hr).1, .inr (both_eq hr).2⟩
    obtain ⟨hr1, hr2⟩ := two
    simp only [OT.heads, List.mem_cons] at hj
    rcases hj with rfl | hj
    · refine ⟨n, rfl, ?_⟩
      simp only [stepT] at hr1
      cases hpi : ps[j]? with
      | none => rw [hpi] at hr1; cases hr1
      | some p =>
        rw [hpi] at hr1
        simp only at hr1
        obtain ⟨o, ho, hc⟩ := chkOps_at hch hpi
        have ho' : ops[j]? = some o := by rw [← ho]; simp
        refine wpOp_of_list ho' ?_
        rcases behind_some hr1 with ⟨s1, h1, h2⟩ | ⟨q, s1, h1, h2, h3⟩
        · refine runOps_ok hG hS [o] [p] s a w hc h h1 ⟨fun _ a w hi => ?_, fun _ e => (by cases e), fun e => (by cases e), fun _ e => (by cases e)⟩
          exact (runT_ok hG hS hch hno hQ t n (l.setIfInBounds j true) s1 a w out s' k2 hi h2 hp).1 k1
        · simp only [Prod.mk.injEq] at h3
          obtain ⟨rfl, rfl⟩ := h3
          exact runOps_ok hG hS [o] [p] s a w hc h h1 (hp.bare h2 _)
    · rcases hr2 with rfl | hr2
      · cases hj
      · exact (runT_ok hG hS hch hno hQ r (n + 1) l s a w out s' k3 h hr2 hp).2 j hj
end
end Go.Proofs.Av
end
section
namespace Go.Proofs.Av
open Go.RowKit
section
variable {C : Ctx} {w w' : World} {g g' : Nat → Value} {s s' : S} {a : Act} {o : Oper} {d : Option Nat} {out : Out} {call : FuncId → List V → Obs → Option Res} {loop : PC → S → Option (Out × S)} {GI : World → Prop} {Q : Exit → Act → World → Prop}
def LoopOk (P : Program) (GI : World → Prop) (loop : PC → S → Option (Out × S)) : Prop :=
  ∀ (C : Ctx) (Q : Exit → Act → World → Prop) (c : Code) (pc : PC) (s : S) (a : Act) (w : World) (out : Out) (s' : S), C.P = P → Glob C GI → PanQ Q → chkC P C.nt c pc = true → InvE C w s a → loop pc s = some (out, s') → Post C Q out s' → c.wp P Q a w
theorem Post.then (hp : Post C Q out s') (hne : out ≠ .nx) (next : Act → World → Prop) : Post C (Exit.then next Q) out s' :=
  ⟨fun e => absurd e hne, hp.ex, hp.rt, hp.pn⟩
theorem chk_rg {P : Program} {nt : Nat} {c : Code} {ps : List POp} {keep : List Nat} (h : chkC P nt c (.rg ps keep) = true) : ∃ id ops, c = .region id ops false ∧ chkOps P nt ops ops.toList ps = true := by
  cases c with
  | region id ops draw =>
    cases draw with
    | false => exact ⟨id, ops, rfl, h⟩
    | true => simp [chkC] at h
  | _ => simp [chkC] at h
theorem run_ok (hG : Glob C GI) (hS : SoundT C.P GI call) (hL : LoopOk C.P GI loop) : ∀ (pc : PC) (c : Code) (Q : Exit → Act → World → Prop) (s : S) (a : Act) (w : World) (out : Out) (s' : S), PanQ Q → chkC C.P C.nt c pc = true → InvE C w s a → run call loop pc s = some (out, s') → Post C Q out s' → c.wp C.P Q a w
  | .sk, c, Q, s, a, w, out, s', hQ, hk, h, hr, hp => by
    obtain ⟨rfl, rfl⟩ := go_eq hr
    cases c <;> simp only [chkC, Bool.false_eq_true] at hk
    exact wp_skip (hp.nx rfl a w h)
  | .rg ps keep, c, Q, s, a, w, out, s', hQ, hk, h, hr, hp => by
    obtain ⟨id, ops, rfl, hk2⟩ := chk_rg hk
    simp only [run] at hr
    refine wp_region_list ?_
    rcases andThen_eq hr with ⟨s1, h1, h2⟩ | ⟨h1, h2⟩
    · obtain ⟨rfl, rfl⟩ := go_eq h2
      refine runOps_ok hG hS _ ps s a w hk2 h h1 ⟨fun _ a w hi => ?_, fun _ e => (by cases e), fun e => (by cases e), fun _ e => (by cases e)⟩
      obtain ⟨g, hi⟩ := hi
      exact hp.nx rfl a w ⟨g, hi.prune keep⟩
    · exact runOps_ok hG hS _ ps s a w hk2 h h1 hp
  | .rd ps t keep, c, Q, s, a, w, out, s', hQ, hk, h, hr, hp => by
    have hc : ∃ id ops, c = .region id ops true := by
      cases c with
      | region id ops draw =>
        cases draw with
        | false => simp [chkC] at hk
        | true => exact ⟨id, ops, rfl⟩
      | _ => simp [chkC] at hk
    obtain ⟨id, ops, rfl⟩ := hc
    simp only [chkC, and_t] at hk
    obtain ⟨⟨⟨⟨k1, k2⟩, k3⟩, k4⟩, k5⟩ := hk
    obtain ⟨g, hi⟩ := h
    exact wp_region_any k1 ((runT_ok hG hS k3 k2 hQ t ops.size _ s a _ out s' k5 ⟨g, hi.drew _⟩ hr hp).1 k4)
  | .sq x y, c, Q, s, a, w, out, s', hQ, hk, h, hr, hp => by
    cases c <;> simp only [chkC, Bool.false_eq_true, and_t] at hk
    simp only [run] at hr
    refine wp_seq ?_
    rcases andThen_eq hr with ⟨s1, h1, h2⟩ | ⟨h1, h2⟩
    · refine run_ok hG hS hL x _ _ s a w .nx s1 (hQ.then _) hk.1 h h1 ⟨fun _ a w hi => ?_, fun _ e => (by cases e), fun e => (by cases e), fun _ e => (by cases e)⟩
      exact run_ok hG hS hL y _ Q s1 a w out s' hQ hk.2 hi h2 hp
    · exact run_ok hG hS hL x _ _ s a w out s' (hQ.then _) hk.1 h h1 (hp.then h2 _)
  | .cd q x y, c, Q, s, a, w, out, s', hQ, hk, h, hr, hp => by
    cases c <;> simp only [chkC, Bool.false_eq_true, and_t] at hk
    simp only [run] at hr
    split at hr
    · rename_i b hb
      obtain ⟨g, hi⟩ := h
      have e := ev_ok hi hk.1.1
      rw [hb] at e
      refine wp_cond (t := b) (RV_b e) ?_
      cases b with
      | true => exact run_ok hG hS hL x _ Q s a w out s' hQ hk.1.2 ⟨g, hi⟩ hr hp
      | false => exact run_ok hG hS hL y _ Q s a w out s' hQ hk.2 ⟨g, hi⟩ hr hp
    · cases hr
  | .bk id x, c, Q, s, a, w, out, s', hQ, hk, h, hr, hp => by
    cases c <;> simp only [chkC, Bool.false_eq_true, and_t, beq_iff_eq] at hk
    obtain ⟨rfl, hk⟩ := hk
    rename_i id _
    simp only [run, leave] at hr
    obtain ⟨⟨q, s1⟩, h1, h2⟩ := Option.bind_eq_some_iff.1 hr
    refine wp_block ?_
    refine run_ok hG hS hL x _ _ s a w q s1 hQ hk h h1 ?_
    cases q with
    | nx =>
      simp only [Option.some.injEq, Prod.mk.injEq] at h2
      obtain ⟨rfl, rfl⟩ := h2
      exact ⟨hp.nx, fun _ e => (by cases e), fun e => (by cases e), fun _ e => (by cases e)⟩
    | ex j =>
      simp only at h2
      by_cases hj : j = id
      · subst hj
        simp only [beq_self_eq_true, cond_true] at h2
        obtain ⟨rfl, rfl⟩ := go_eq h2
        refine ⟨fun e => (by cases e), fun i e a w hi => ?_, fun e => (by cases e), fun _ e => (by cases e)⟩
        injection e with e
        subst e
        simp only [Exit.inBlock, if_true]
        exact hp.nx rfl a w hi
      · rw [beq_false_of_ne hj, cond_false] at h2
        simp only [Option.some.injEq, Prod.mk.injEq] at h2
        obtain ⟨rfl, rfl⟩ := h2
        refine ⟨fun e => (by cases e), fun i e a w hi => ?_, fun e => (by cases e), fun _ e => (by cases e)⟩
        injection e with e
        subst e
        simp only [Exit.inBlock, if_neg hj]
        exact hp.ex _ rfl a w hi
    | rt =>
      simp only [Option.some.injEq, Prod.mk.injEq] at h2
      obtain ⟨rfl, rfl⟩ := h2
      exact ⟨fun e => (by cases e), fun _ e => (by cases e), hp.rt, fun _ e => (by cases e)⟩
    | pn v =>
      simp only [Option.some.injEq, Prod.mk.injEq] at h2
      obtain ⟨rfl, rfl⟩ := h2
      exact ⟨fun e => (by cases e), fun _ e => (by cases e), fun e => (by cases e), hp.pn⟩
  | .lp keep own x, c, Q, s, a, w, out, s', hQ, hk, h, hr, hp => hL C Q c _ s a w out s' rfl hG hQ hk h hr hp
  | .ex id, c, Q, s, a, w, out, s', hQ, hk, h, hr, hp => by
    cases c <;> simp only [chkC, Bool.false_eq_true, beq_iff_eq] at hk
    subst hk
    simp only [run, Option.some.injEq, Prod.mk.injEq] at hr
    obtain ⟨rfl, rfl⟩ := hr
    exact wp_exit (hp.ex _ rfl a w h)
  | .rt, c, Q, s, a, w, out, s', hQ, hk, h, hr, hp => by
    cases c <;> simp only [chkC, Bool.false_eq_true] at hk
    simp only [run, Option.some.injEq, Prod.mk.injEq] at hr
    obtain ⟨rfl, rfl⟩ := hr
    exact wp_ret (hp.rt rfl a w h)
end
end Go.Proofs.Av
end
section
namespace Go.Proofs.Av
open Go.RowKit
theorem exists_least {p : Nat → Prop} (h : ∃ k, p k) : ∃ k, p k ∧ ∀ j, p j → k ≤ j := by
  obtain ⟨k, hk⟩ := h
  induction k using Nat.strongRecOn with
  | _ k ih =>
    by_cases hj : ∃ j, j < k ∧ p j
    · obtain ⟨j, h1, h2⟩ := hj
      exact ih j h1 h2
    · exact ⟨k, hk, fun j h1 => Nat.le_of_not_lt fun h2 => hj ⟨j, h2, h1⟩⟩
noncomputable def least {p : Nat → Prop} (h : ∃ k, p k) : Nat := Classical.choose (exists_least h)
theorem least_spec {p : Nat → Prop} (h : ∃ k, p k) : p (least h) := (Classical.choose_spec (exists_least h)).1
theorem least_min {p : Nat → Prop} (h : ∃ k, p k) {j : Nat} (hj : p j) : least h ≤ j := (Classical.choose_spec (exists_least h)).2 j hj
section
variable {C : Ctx} {w w' : World} {g g' : Nat → Value} {s s' : S} {a : Act} {out : Out} {GI : World → Prop} {Q : Exit → Act → World → Prop} {tab : FuncId → Option PF} {lib : FuncId → List V → Obs → Option Res}
/-- A loop's head is sound. -/
def NormOk (P : Program) : Prop := ∀ (C : Ctx) (keep : List Nat) (own : List (Nat × Bool × TypeId)) (s s0 : S) (a : Act) (w : World) (b : Code) (x : PC), C.P = P → chkC P C.nt (.loop b) (.lp keep own x) = true → norm keep own s = some s0 → InvE C w s a → InvE C w s0 a
theorem chk_lp {P : Program} {nt : Nat} {c : Code} {keep : List Nat} {own : List (Nat × Bool × TypeId)} {x : PC} (h : chkC P nt c (.lp keep own x) = true) : ∃ b, c = .loop b ∧ chkC P nt b x = true := by
  cases c with
  | loop b =>
    simp only [chkC, and_t] at h
    exact ⟨b, rfl, h.2⟩
  | region id ops draw => cases draw <;> simp [chkC] at h
  | _ => simp [chkC] at h
/-- What is left to evaluate, with so much fuel. -/
def Left (tab : FuncId → Option PF) (lib : FuncId → List V → Obs → Option Res) (C : Ctx) (pc : PC) (out : Out) (s' : S) (k : Nat) (a : Act) (w : World) : Prop := ∃ s, InvE C w s a ∧ loopN tab lib k pc s = some (out, s')
theorem loop_ok {P : Program} (hN : NormOk P) (n : Nat) (ih : ∀ m, m < n → SoundT P GI (callN tab lib m) ∧ LoopOk P GI (loopN tab lib m)) : LoopOk P GI (loopN tab lib n) := by
  intro C Q c pc s a w out s' hP hG hQ hk h hr hp
  subst hP
  cases pc with
  | lp keep own x =>
    obtain ⟨b, rfl, hkb⟩ := chk_lp hk
    classical
    let μ : Act → World → Nat := fun a w => if he : ∃ k, Left tab lib C (.lp keep own x) out s' k a w then least he else 0
    refine wp_loop (fun a w => ∃ k, k ≤ n ∧ Left tab lib C (.lp keep own x) out s' k a w) μ ⟨n, Nat.le_refl _, s, h, hr⟩ ?_
    rintro a w ⟨k0, hk0, hl0⟩
    have he : ∃ k, Left tab lib C (.lp keep own x) out s' k a w := ⟨k0, hl0⟩
    have hμ : μ a w = least he := dif_pos he
    have hle : least he ≤ n := Nat.le_trans (least_min he hl0) hk0
    obtain ⟨s1, hi, hl⟩ := least_spec he
    rw [hμ]
    generalize least he = k at *
    cases k with
    | zero => simp [loopN] at hl
    | succ m =>
      simp only [loopN, round] at hl
      obtain ⟨s0, h0, hl⟩ := Option.bind_eq_some_iff.1 hl
      unfold again at hl
      obtain ⟨⟨q, s2⟩, h1, h2⟩ := Option.bind_eq_some_iff.1 hl
      have hi0 := hN C keep own s1 s0 a w b x rfl hk h0 hi
      obtain ⟨hS, hL⟩ := ih m (by omega)
      refine run_ok hG hS hL x b _ s0 a w q s2 hQ hkb hi0 h1 ?_
      by_cases hq : q = .nx
      · subst hq
        simp only at h2
        refine ⟨fun _ a' w' hi' => ?_, fun _ e => (by cases e), fun e => (by cases e), fun _ e => (by cases e)⟩
        have hl' : Left tab lib C (.lp keep own x) out s' m a' w' := ⟨s2, hi', h2⟩
        refine ⟨⟨m, by omega, hl'⟩, ?_⟩
        have he' : ∃ k, Left tab lib C (.lp keep own x) out s' k a' w' := ⟨m, hl'⟩
        have : μ a' w' = least he' := dif_pos he'
        rw [this]
        exact Nat.lt_succ_of_le (least_min he' hl')
      · have : out = q ∧ s' = s2 := by
          cases q <;> simp only [Option.some.injEq, Prod.mk.injEq] at h2
          · exact absurd rfl hq
          · exact ⟨h2.1.symm, h2.2.symm⟩
          · exact ⟨h2.1.symm, h2.2.symm⟩
          · exact ⟨h2.1.symm, h2.2.symm⟩
        obtain ⟨rfl, rfl⟩ := this
        exact hp.then hq _
  | _ => cases n <;> simp [loopN, round] at hr
end
end Go.Proofs.Av
end
section
namespace Go.Proofs.Av
open Go.RowKit
section
variable {C : Ctx} {w w' : World} {g g' : Nat → Value} {s s' : S} {a : Act}
theorem get_envSet (v : V) (t q : Nat) : ∀ (e : Env), get (envSet e t v) q = if t = q ∧ (e.any fun x => x.1 == t) = true then v else get e q
  | [] => by simp [envSet, get]
  | (d, x) :: r => by
    simp only [envSet]
    by_cases hd : d = t
    · subst hd
      simp only [beq_self_eq_true, cond_true, get_put]
      by_cases hq : d = q
      · subst hq; simp
      · rw [if_neg hq, if_neg hq, if_neg (fun h => hq h.1)]
    · rw [beq_false_of_ne hd, cond_false, get_put, get_envSet v t q r, get_put]
      by_cases hdq : d = q
      · subst hdq
        rw [if_pos rfl, if_pos rfl, if_neg (fun h => hd h.1.symm)]
      · rw [if_neg hdq, if_neg hdq]
        have : ((d, x) :: r).any (fun x => x.1 == t) = r.any fun x => x.1 == t := by
          simp [List.any_cons, hd]
        rw [this]
theorem Inv.env_set (h : Inv C w g s a) {t : Nat} {v : V} (hv : RV C.P w (C.Al s.obs g) g v (a.eval (.tmp t))) : Inv C w g ⟨envSet s.env t v, s.obs⟩ a := by
  refine ⟨fun q => ?_, h.obs, h.apart, h.own, h.frame, h.low, h.size, h.defers⟩
  rw [get_envSet]
  split
  · rename_i hq
    obtain ⟨rfl, _⟩ := hq
    exact hv
  · exact h.env q
theorem gc_at {l : Obs} {p : Nat} {x : Ob} {f : Nat → Bool} : ∀ {l : Obs}, obAt (l.filter fun x => f x.1) p = some x → obAt l p = some x
  | [], h => by cases h
  | (o, y) :: r, h => by
    by_cases hf : f o = true
    · rw [List.filter_cons_of_pos (by simpa using hf), obAt_cons] at h
      rw [obAt_cons]
      by_cases ho : o = p
      · rw [if_pos ho] at h ⊢; exact h
      · rw [if_neg ho] at h ⊢; exact gc_at (l := l) h
    · rw [List.filter_cons_of_neg (by simpa using hf)] at h
      have h2 := gc_at (l := l) h
      rw [obAt_cons]
      by_cases ho : o = p
      · subst ho
        exfalso
        have hm := obAt_mem h
        rw [List.mem_filter] at hm
        exact hf (by simpa using hm.2)
      · rw [if_neg ho]; exact h2
theorem Inv.gc (h : Inv C w g s a) : Inv C w g s.gc a := by
  unfold S.gc
  refine h.sub (fun p x hp => ?_)
  exact gc_at (l := []) (f := fun o => decide (o < 1000) || (List.elem o (s.env.flatMap (fun x => x.2.ids) ++ s.obs.flatMap fun x => x.2.ids))) hp
theorem Inv.fastBut (own : List (Nat × Bool × TypeId)) : ∀ (e : Env) (s : S), Inv C w g s a → Inv C w g (fastBut own e s) a
  | [], _, h => h
  | (t, v) :: r, s, h => by
    cases v with
    | ow o =>
      simp only [Av.fastBut]
      refine Inv.fastBut own r _ ?_
      cases own.any (fun x => x.1 == t) with
      | true => exact h
      | false => exact h.fast o
    | _ => exact Inv.fastBut own r s h
/-- A nil slice becomes a row without elements. -/
theorem Inv.thaw (h : Inv C w g s a) {id : Nat} (hid : 1000 ≤ id) (hf : s.free id = true) {e : TypeId} {t : T} {sz : Nat} (hz : 0 < sz) (hi : (C.P.info? e).map (·.size) = some sz) (ht : tlen t = some 0) (hE : elemsOf t = [])
    (hq : match (generalizing := false) t with
      | .sl z e' xs => z = false ∧ e' = e ∧ ∃ agg ls, kindE C.P e = some (agg, ls) ∧ ∀ x ∈ xs, okElem agg ls x = true
      | .by_ z _ => z = false ∧ sz = 1 ∧ C.P.underlying e = some (.int .u8)
      | _ => False) :
    Inv C w (fun o => if o = id then .slice none 0 0 else g o) ⟨s.env, (id, .row e t) :: s.obs⟩ a := by
  refine h.change (x := .row e t) (dead := fun _ => False) hid hf (fun p y hp => ?_) (fun b hb _ => rfl) rfl rfl rfl (Nat.le_refl _) (fun b hb => by simp [blk] at hb) (fun H => ?_)
  · rw [obAt_cons] at hp
    split at hp
    · rename_i e; simp only [Option.some.injEq] at hp; exact .inl ⟨e.symm, hp.symm⟩
    · rename_i e; exact .inr ⟨fun q => e q.symm, fun q => q, hp⟩
  · refine ⟨0, [], sz, ⟨by simp, .inl ⟨by simp, rfl⟩⟩, hz, hi, ht, by rw [hE]; rfl, hq⟩
theorem thaw1_ok (h : InvE C w s a) {t : Nat} {k : Bool × TypeId} (hk : (!k.1 || (isU8 C.P k.2 && sizeT C.P k.2 == some 1)) = true) (hs : thaw1 s t k = some s') : InvE C w s' a := by
  obtain ⟨g, h⟩ := h
  unfold thaw1 at hs
  split at hs
  · rename_i e' hq
    obtain ⟨hc, hs⟩ := bif_some hs
    simp only [Option.some.injEq] at hs
    subst hs
    simp only [Bool.and_eq_true] at hc
    have ev := h.env t
    rw [hq] at ev
    obtain ⟨ad, c, cs, e1, _, _, e2, _, _, agg, ls, hke, _⟩ := RV_sl ev
    obtain ⟨e3, e4⟩ := e2 rfl
    subst e3 e4
    obtain ⟨i, hi, his, hpos, _⟩ := kindE_size hke
    have h1 := h.thaw (id := 1000 + t) (by omega) hc.2 (e := e') (t := .sl false e' []) (sz := i.size) (by omega) (by simp [hi]) rfl rfl ⟨rfl, rfl, agg, ls, hke, by simp⟩
    exact ⟨_, h1.env_set ⟨by rw [e1]; simp, _, _, _, e1⟩⟩
  · rename_i hq
    obtain ⟨hc, hs⟩ := bif_some hs
    simp only [Option.some.injEq] at hs
    subst hs
    simp only [Bool.and_eq_true] at hc
    have ev := h.env t
    rw [hq] at ev
    obtain ⟨ad, c, e1, _, _, e2, _⟩ := RV_by ev
    obtain ⟨e3, e4⟩ := e2 rfl
    subst e3 e4
    rw [hc.1] at hk
    simp only [Bool.not_true, Bool.false_or, Bool.and_eq_true, beq_iff_eq] at hk
    have h1 := h.thaw (id := 1000 + t) (by omega) hc.2 (e := k.2) (t := .by_ false []) (sz := 1) (by omega) hk.2 rfl rfl ⟨rfl, rfl, isInt_eq hk.1⟩
    exact ⟨_, h1.env_set ⟨by rw [e1]; simp, _, _, _, e1⟩⟩
  · simp only [Option.some.injEq] at hs
    subst hs
    exact ⟨g, h⟩
theorem thaw_ok : ∀ (own : List (Nat × Bool × TypeId)) (s : S), InvE C w s a → (own.all fun y => !y.2.1 || (isU8 C.P y.2.2 && sizeT C.P y.2.2 == some 1)) = true → thaw s own = some s' → InvE C w s' a
  | [], s, h, _, hs => by
    simp only [thaw, Option.some.injEq] at hs
    subst hs
    exact h
  | (t, k) :: r, s, h, hk, hs => by
    simp only [List.all_cons, and_t] at hk
    simp only [thaw] at hs
    split at hs
    · rename_i s1 h1
      exact thaw_ok r s1 (thaw1_ok h hk.1 h1) hk.2 hs
    · cases hs
end
end Go.Proofs.Av
end
section
namespace Go.Proofs.Av
open Go.RowKit
section
variable {C : Ctx} {w w' : World} {g g' : Nat → Value} {s s' : S} {a : Act}
noncomputable def renG (g : Nat → Value) (f : Nat → Nat) (l : List Nat) (p : Nat) : Value := by
  classical
  exact if h : ∃ o, o ∈ l ∧ f o = p then g (Classical.choose h) else g p
theorem renG_eq {f : Nat → Nat} {l : List Nat} (hi : injOn f l = true) {o : Nat} (ho : o ∈ l) : renG g f l (f o) = g o := by
  have he : ∃ o', o' ∈ l ∧ f o' = f o := ⟨o, ho, rfl⟩
  unfold renG
  rw [dif_pos he]
  obtain ⟨h1, h2⟩ := Classical.choose_spec he
  have := List.all_eq_true.1 (List.all_eq_true.1 hi _ h1) _ ho
  simp only [Bool.or_eq_true, beq_iff_eq, Bool.not_eq_true'] at this
  rcases this with h3 | h3
  · rw [h3]
  · rw [h2] at h3
    simp at h3
theorem get_ids (e : Env) (t : Nat) : ∀ p ∈ (get e t).ids, p ∈ e.flatMap fun x => x.2.ids := by
  induction e with
  | nil => intro p hp; simp [get, V.ids] at hp
  | cons y r ih =>
    obtain ⟨d, v⟩ := y
    intro p hp
    rw [get_put] at hp
    rw [List.flatMap_cons, List.mem_append]
    split at hp
    · exact .inl hp
    · exact .inr (ih p hp)
theorem Inv.ren (h : Inv C w g s a) {f : Nat → Nat} (hi : injOn f s.allIds = true) (hlow : ∀ o, f o < 1000 → f o = o) : Inv C w (renG g f s.allIds) (s.ren f) a := by
  have hk : ∀ p x, obAt s.obs p = some x → renG g f s.allIds (f p) = g p ∧ ∀ q ∈ x.ids, renG g f s.allIds (f q) = g q := by
    intro p x hp
    have hm := obAt_mem hp
    refine ⟨renG_eq hi ?_, fun q hq => renG_eq hi ?_⟩
    · exact List.mem_append.2 (.inl (List.mem_flatMap.2 ⟨_, hm, by simp⟩))
    · exact List.mem_append.2 (.inl (List.mem_flatMap.2 ⟨_, hm, by simp [hq]⟩))
  have hA : ∀ b, C.Al s.obs g b → C.Al (s.ren f).obs (renG g f s.allIds) b := by
    rintro b ⟨h1, h2⟩
    refine ⟨h1, ?_⟩
    rintro ⟨p, y, h3, h4⟩
    obtain ⟨o, x, h5, rfl, rfl⟩ := mapIds_first h3
    rw [(hk o x h5).1] at h4
    exact h2 ⟨o, x, h5, h4⟩
  refine ⟨fun t => ?_, fun p y hp => ?_, fun p p' y y' b hp hp' hne hb hb' => ?_, fun p y b hp hb => ?_, h.frame, fun o ho => ?_, h.size, h.defers⟩
  · show RV _ _ _ _ (get (s.env.map fun x => (x.1, x.2.ren f)) t) _
    rw [get_map (V.ren f) rfl]
    refine RV.ren _ _ (fun o ho => renG_eq hi (List.mem_append.2 (.inr (get_ids s.env t o ho)))) ?_
    exact RV.keep (fun b hb _ => ⟨rfl, hA b hb⟩) _ _ (fun _ _ => rfl) (h.env t)
  · obtain ⟨o, x, h5, rfl, rfl⟩ := mapIds_first hp
    refine RO.ren (hk o x h5).1 (hk o x h5).2 ?_
    exact RO.keep (fun b hb _ => ⟨rfl, hA b hb⟩) (fun _ _ => rfl) (fun _ _ => rfl) rfl (h.obs o x h5)
  · obtain ⟨o, x, h5, rfl, rfl⟩ := mapIds_first hp
    obtain ⟨o', x', h5', rfl, rfl⟩ := mapIds_first hp'
    rw [(hk o x h5).1] at hb
    rw [(hk o' x' h5').1] at hb'
    exact h.apart o o' x x' b h5 h5' (fun e => hne (by rw [e])) hb hb'
  · obtain ⟨o, x, h5, rfl, rfl⟩ := mapIds_first hp
    rw [(hk o x h5).1] at hb
    exact h.own o x b h5 hb
  · unfold renG
    split
    · rename_i he
      obtain ⟨h1, h2⟩ := Classical.choose_spec he
      have := hlow _ (by rw [h2]; exact ho)
      rw [h2] at this
      rw [← this]
      exact h.low o ho
    · exact h.low o ho
theorem lookN_low : ∀ (m : List (Nat × Nat)), (m.all fun x => decide (1000 ≤ x.1) && decide (1000 ≤ x.2)) = true → ∀ o, lookN m o < 1000 → lookN m o = o
  | [], _, o, _ => rfl
  | (p, n) :: r, hm, o, ho => by
    simp only [List.all_cons, and_t, decide_eq_true_eq] at hm
    simp only [lookN] at ho ⊢
    by_cases hp : p = o
    · subst hp
      simp only [beq_self_eq_true, cond_true] at ho
      omega
    · rw [beq_false_of_ne hp, cond_false] at ho ⊢
      exact lookN_low r hm.2 o ho
theorem norm_ok (P : Program) : NormOk P := by
  intro C keep own s s0 a w b x hP hk hs h
  subst hP
  simp only [chkC, and_t] at hk
  obtain ⟨g, h⟩ := h
  unfold norm at hs
  split at hs
  · cases hs
  · rename_i s1 h1
    obtain ⟨g1, k1⟩ := thaw_ok own _ ⟨g, h.prune keep⟩ hk.1 h1
    have k2 := ((k1.fastBut own s1.env s1).gc).gc
    simp only at hs
    obtain ⟨hc, hs⟩ := bif_some hs
    simp only [Option.some.injEq] at hs
    subst hs
    rw [and_t] at hc
    exact ⟨_, k2.ren hc.1 (lookN_low _ hc.2)⟩
end
end Go.Proofs.Av
end
