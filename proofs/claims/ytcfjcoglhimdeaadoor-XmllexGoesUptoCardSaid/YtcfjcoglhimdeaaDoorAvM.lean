/- Operations that make or write memory: what they need. -/
import Derived.Test.YtcfjcoglhimdeaaDoorAvP
set_option linter.unusedSimpArgs false
set_option linter.unusedVariables false
section
namespace Go.Proofs.Av
open Go.RowKit
section
variable {C : Ctx} {w : World} {g : Nat → Value} {s s' : S} {a : Act} {o : Oper} {d : Option Nat} {out : Out} {call : FuncId → List V → Obs → Option Res}
theorem eqs_ok (h : Inv C w g s a) {op : BinOp} {t ty : TypeId} {eq : Bool} {x y : Operand} {x' y' : Opd} {ls : List LK} (hop : o.op = .binOp op t x y ty) (he : isEq eq op = true) {fs : Array Field} (ht : C.P.underlying t = some (.struct fs)) (hp : C.P.stoodInHeld t = false) (hm : C.P.eqGuardType C.P.depth t = false)
    (hf : eqFieldsOk C.P 0 fs.toList ls = true) (hx : okOpd C.P x x' = true) (hy : okOpd C.P y y' = true) (hs : stepO call s d (.eqs eq ls x' y') = some (out, s')) : Pu C w g s a o d out s' := by
  simp only [stepO] at hs
  split at hs
  · rename_i xs ys hxs hys
    obtain ⟨r, hr, hq⟩ := bind_go hs
    simp only [Prod.mk.injEq] at hq
    obtain ⟨rfl, rfl⟩ := hq
    have ex := ev_ok h hx
    have ey := ev_ok h hy
    rw [hxs] at ex
    rw [hys] at ey
    obtain ⟨us, e1, h1⟩ := ex
    obtain ⟨vs, e2, h2⟩ := ey
    have hfo : C.P.fieldsOf t = fs := by simp [Program.fieldsOf, ht]
    have e3 := run_equalIn_struct (P := C.P) w 9999 t us vs (by rw [hfo]; exact ht) hp
    rw [hfo, eqs_fields (dp := 9998) hf (n := 0) (by simpa using h1) (by simpa using h2) hr] at e3
    have e4 := binOp_eq op eq he t _ _ (.inr (.inr ⟨us, rfl⟩)) (.inr (.inr ⟨vs, rfl⟩)) (run_equal t _ _ e3)
    refine ⟨rfl, _, _, ?_, rfl, mk_b _⟩
    simp [execOp, hop, e1, e2, run_eqGuard_agg (P := C.P) w op t x y us vs hm, e4]
  · cases hs

/-! ### A step of the machine that makes or writes -/
theorem RV.mono {P : Program} {w w' : World} {A A' : Nat → Prop} {g : Nat → Value} (hA : ∀ b, A b → b < w.heap.size → w'.heap[b]? = w.heap[b]? ∧ A' b) {v : V} {u : Value} (h : RV P w A g v u) : RV P w' A' g v u := RV.keep hA v u (fun _ _ => rfl) h
/-- What is read lies in blocks that there are: the rest of an allowance doesn't matter. -/
theorem obAt_mem : ∀ {l : Obs} {o : Nat} {x : Ob}, obAt l o = some x → (o, x) ∈ l
  | [], _, _, h => by cases h
  | (p, v) :: r, o, x, h => by
    simp only [obAt] at h
    by_cases hp : p = o
    · subst hp
      simp at h
      subst h
      exact List.mem_cons_self
    · rw [beq_false_of_ne hp, cond_false] at h
      exact List.mem_cons_of_mem _ (obAt_mem h)
theorem obAt_cons (p o : Nat) (v : Ob) (l : Obs) : obAt ((p, v) :: l) o = if p = o then some v else obAt l o := by
  simp only [obAt]
  by_cases h : p = o
  · simp [h]
  · rw [beq_false_of_ne h, if_neg h]; rfl
theorem obAt_set (l : Obs) (o p : Nat) (x : Ob) : obAt (obSet l o x) p = if p = o then (obAt l o).map (fun _ => x) else obAt l p := by
  induction l with
  | nil => simp [obSet, obAt]
  | cons y r ih =>
    obtain ⟨q, v⟩ := y
    simp only [obSet]
    by_cases hq : q = o
    · subst hq
      simp only [beq_self_eq_true, cond_true, obAt_cons]
      by_cases hp : p = q
      · subst hp; simp
      · rw [if_neg (fun e => hp e.symm), if_neg hp, if_neg (fun e => hp e.symm)]
    · rw [beq_false_of_ne hq, cond_false, obAt_cons, ih, obAt_cons, obAt_cons]
      by_cases hp : p = o
      · subst hp
        rw [if_neg hq, if_pos rfl, if_pos rfl, if_neg hq]
      · rw [if_neg hp, if_neg hp]
theorem obAt_del (l : Obs) (o p : Nat) : obAt (obDel l o) p = if p = o then none else obAt l p := by
  induction l with
  | nil => simp [obDel, obAt]
  | cons y r ih =>
    obtain ⟨q, v⟩ := y
    simp only [obDel]
    by_cases hq : q = o
    · subst hq
      simp only [beq_self_eq_true, cond_true, ih, obAt_cons]
      by_cases hp : p = q
      · rw [if_pos hp, if_pos hp]
      · rw [if_neg hp, if_neg hp, if_neg (fun e => hp e.symm)]
    · rw [beq_false_of_ne hq, cond_false, obAt_cons, ih, obAt_cons]
      by_cases hp : p = o
      · subst hp
        rw [if_neg hq, if_pos rfl, if_pos rfl]
      · rw [if_neg hp, if_neg hp]
theorem obAt_map (l : Obs) (f : Ob → Ob) (p : Nat) : obAt (l.map fun x => (x.1, f x.2)) p = (obAt l p).map f := by
  induction l with
  | nil => rfl
  | cons y r ih =>
    obtain ⟨q, v⟩ := y
    simp only [List.map_cons, obAt_cons, ih]
    split <;> rfl

/-! ### Rows held fast -/
section
variable {P : Program} {w : World} {A A' : Nat → Prop} {g : Nat → Value}
/-- What a row holds, read. -/
theorem row_im {q : Nat} {e : TypeId} {t : T} (h : RO P w A g q (.row e t)) (hA : ∀ b, blk (g q) = some b → A' b) (hR : ∀ us, Rs P w A (elemsOf t) us → Rs P w A' (elemsOf t) us) : R P w A' t [g q] := by
  obtain ⟨n, us, sz, h1, h2, h3, h4, h5, h6⟩ := h
  have hs := hR us h5
  have hlen := h1.1
  have hcell : ∃ ad c, g q = .slice ad n c ∧ n ≤ c ∧ c ≤ maxLen ∧ Cells w A' ad us ∧ (ad = none → c = 0) := by
    rcases h1.2 with ⟨e1, e2⟩ | ⟨gg, cap, cur, e1, _, _, e5, e6, _⟩
    · subst e2
      have : us = [] := List.eq_nil_of_length_eq_zero (by simpa using hlen)
      exact ⟨none, 0, e1, by simp, by simp, .inl this, fun _ => rfl⟩
    · exact ⟨_, cap, e1, e5, e6, .inr ⟨_, rfl, hA gg (by rw [e1]; rfl), h1.cells (g := gg) (by rw [e1]; rfl)⟩, fun e => by cases e⟩
  obtain ⟨ad, c, e1, e2, e3, e4, e9⟩ := hcell
  cases t <;> simp only at h6
  · rename_i z l
    obtain ⟨rfl, rfl, _⟩ := h6
    simp only [tlen, Option.some.injEq] at h4
    have := Rs.bytes_eq h5
    subst this
    exact ⟨ad, c, by rw [e1, h4], by omega, e3, ⟨by simp, e9⟩, e4⟩
  · rename_i z e' xs
    obtain ⟨rfl, rfl, agg, ls, hk, hok⟩ := h6
    simp only [tlen, Option.some.injEq] at h4
    simp only [R]
    exact ⟨ad, c, us, by rw [e1, h4], by omega, e3, by simp, e4, hs, agg, ls, hk, hok⟩
end
end
end Go.Proofs.Av
end
section
namespace Go.Proofs.Av
open Go.RowKit
section
variable {P : Program} {w : World} {A A' : Nat → Prop} {g : Nat → Value}
mutual
theorem RV.snap1 {o : Nat} {t : T} (ho : R P w A' t [g o]) (hA : ∀ b, A b → A' b) : ∀ (v : V) (u : Value), RV P w A g v u → RV P w A' g (v.snap1 o t) u
  | .un, _, h => h
  | .im t', u, h => RV.keep (fun b hb _ => ⟨rfl, hA b hb⟩) (.im t') u (fun _ _ => rfl) h
  | .ip ts, u, h => RV.keep (fun b hb _ => ⟨rfl, hA b hb⟩) (.ip ts) u (fun _ _ => rfl) h
  | .rf _ _, _, h => h
  | .ow p, u, h => by
    simp only [V.snap1]
    by_cases hp : p = o
    · subst hp
      simp only [beq_self_eq_true, cond_true]
      have := h.1
      subst this
      exact ho
    · rw [beq_false_of_ne hp, cond_false]
      exact h
  | .re _ _ _ _ _ _, _, h => h
  | .fn _ vs, _, h => by
    obtain ⟨us, h1, h2⟩ := h
    exact ⟨us, h1, RVs.snap1 ho hA vs us.toList h2⟩
  | .ag vs, _, h => by
    obtain ⟨us, h1, h2⟩ := h
    exact ⟨us, h1, RVs.snap1 ho hA vs us.toList h2⟩
  | .tp vs, _, h => by
    obtain ⟨us, h1, h2⟩ := h
    exact ⟨us, h1, RVs.snap1 ho hA vs us.toList h2⟩
theorem RVs.snap1 {o : Nat} {t : T} (ho : R P w A' t [g o]) (hA : ∀ b, A b → A' b) : ∀ (vs : List V) (us : List Value), RVs P w A g vs us → RVs P w A' g (V.snap1L o t vs) us
  | [], _, h => h
  | v :: r, _, h => by
    obtain ⟨u, us', h1, h2, h3⟩ := h
    exact ⟨u, us', h1, RV.snap1 ho hA v u h2, RVs.snap1 ho hA r us' h3⟩
end
theorem RO.keep {w' : World} {g' : Nat → Value} {o : Nat} {x : Ob} (H : ∀ b, A b → b < w.heap.size → w'.heap[b]? = w.heap[b]? ∧ A' b) (hb : ∀ b, blk (g o) = some b → w'.heap[b]? = w.heap[b]?) (hg : ∀ p ∈ x.ids, g' p = g p) (hgo : g' o = g o) (h : RO P w A g o x) : RO P w' A' g' o x := by
  cases x with
  | box vs =>
    obtain ⟨b, us, e, h1, h2, h3⟩ := h
    exact ⟨b, us, e, by rw [hgo, h1], by rw [hb b (by rw [h1]; rfl), h2], RVs.keep H vs us.toList hg h3⟩
  | row e t =>
    obtain ⟨n, us, sz, h1, h2, h3, h4, h5, h6⟩ := h
    refine ⟨n, us, sz, ?_, h2, h3, h4, Rs.keep H _ us h5, h6⟩
    rw [hgo]
    refine ⟨h1.1, ?_⟩
    rcases h1.2 with e1 | ⟨gg, cap, cur, e1, e2, e3, e4⟩
    · exact .inl e1
    · exact .inr ⟨gg, cap, cur, e1, e2, by rw [hb gg (by rw [e1]; rfl), e3], e4⟩
end
section
variable {C : Ctx} {w w' : World} {g g' : Nat → Value} {s s' : S} {a : Act}
/-- Some objects are let go: what they hold may be read, and is written no more. -/
theorem Inv.sub (h : Inv C w g s a) {l : Obs} (hl : ∀ p x, obAt l p = some x → obAt s.obs p = some x) : Inv C w g ⟨s.env, l⟩ a := by
  have hA : ∀ b, C.Al s.obs g b → C.Al l g b := fun b hb => ⟨hb.1, fun ⟨p, x, h1, h2⟩ => hb.2 ⟨p, x, hl p x h1, h2⟩⟩
  exact ⟨fun t => RV.mono (fun b hb _ => ⟨rfl, hA b hb⟩) (h.env t), fun o x ho => RO.keep (fun b hb _ => ⟨rfl, hA b hb⟩) (fun _ _ => rfl) (fun _ _ => rfl) rfl (h.obs o x (hl o x ho)),
    fun o o' x x' b h1 h2 => h.apart o o' x x' b (hl o x h1) (hl o' x' h2), fun o x b h1 => h.own o x b (hl o x h1), h.frame, h.low, h.size, h.defers⟩
theorem get_map (f : V → V) (hf : f .un = .un) : ∀ (e : Env) (t : Nat), get (e.map fun x => (x.1, f x.2)) t = f (get e t)
  | [], t => hf.symm
  | (d, v) :: r, t => by
    simp only [List.map_cons]
    rw [get_put, get_put, get_map f hf r t]
    split <;> rfl
theorem obAt_mapf (l : Obs) (f : Ob → Ob) (p : Nat) : obAt (l.map fun x => (x.1, f x.2)) p = (obAt l p).map f := obAt_map l f p
/-- A row is held fast. -/
theorem Inv.fast (h : Inv C w g s a) (o : Nat) : Inv C w g (s.fast o) a := by
  unfold S.fast
  split
  · rename_i e t ho
    let snapO : Ob → Ob := Ob.snap1 o t
    let l : Obs := (obDel s.obs o).map fun x => (x.1, snapO x.2)
    show Inv C w g ⟨s.env.map fun x => (x.1, x.2.snap1 o t), l⟩ a
    have hat : ∀ p, obAt l p = if p = o then none else (obAt s.obs p).map snapO := fun p => by
      rw [show obAt l p = _ from obAt_mapf _ snapO p, obAt_del]
      split <;> rfl
    have hM : ∀ b, Mb l g b → Mb s.obs g b ∧ blk (g o) ≠ some b := by
      rintro b ⟨p, x, h1, h2⟩
      rw [hat] at h1
      split at h1
      · cases h1
      · rename_i hp
        obtain ⟨y, hy, _⟩ := Option.map_eq_some_iff.1 h1
        exact ⟨⟨p, y, hy, h2⟩, h.apart p o y _ b hy ho hp h2⟩
    have hA : ∀ b, C.Al s.obs g b → C.Al l g b := fun b hb => ⟨hb.1, fun hm => hb.2 (hM b hm).1⟩
    have ht : R C.P w (C.Al l g) t [g o] := row_im (h.obs o _ ho) (fun b hb => ⟨(h.own o _ b ho hb).elim (fun h1 => .inr (.inl h1)) (fun h1 => .inr (.inr h1)), fun hm => (hM b hm).2 hb⟩)
      (fun us hu => Rs.keep (fun b hb _ => ⟨rfl, hA b hb⟩) _ us hu)
    refine ⟨fun q => ?_, fun p x hp => ?_, fun p p' x x' b h1 h2 hne hb => ?_, fun p x b h1 hb => ?_, h.frame, h.low, h.size, h.defers⟩
    · rw [get_map (V.snap1 o t) rfl]
      exact RV.snap1 ht hA _ _ (h.env q)
    · rw [hat] at hp
      split at hp
      · cases hp
      · rename_i hpo
        obtain ⟨y, hy, rfl⟩ := Option.map_eq_some_iff.1 hp
        have := h.obs p y hy
        cases y with
        | box vs =>
          obtain ⟨b, us, e', h1, h2, h3⟩ := this
          exact ⟨b, us, e', h1, h2, RVs.snap1 ht hA vs us.toList h3⟩
        | row e' t' => exact RO.keep (fun b hb _ => ⟨rfl, hA b hb⟩) (fun _ _ => rfl) (fun _ _ => rfl) rfl this
    · rw [hat] at h1 h2
      split at h1
      · cases h1
      · split at h2
        · cases h2
        · obtain ⟨y, hy, _⟩ := Option.map_eq_some_iff.1 h1
          obtain ⟨y', hy', _⟩ := Option.map_eq_some_iff.1 h2
          exact h.apart p p' y y' b hy hy' hne hb
    · rw [hat] at h1
      split at h1
      · cases h1
      · obtain ⟨y, hy, _⟩ := Option.map_eq_some_iff.1 h1
        exact h.own p y b hy hb
  · exact h
theorem Inv.fasts (h : Inv C w g s a) : ∀ (l : List Nat) {s : S}, Inv C w g s a → Inv C w g (s.fasts l) a
  | [], _, k => k
  | o :: r, _, k => Inv.fasts h r (k.fast o)
theorem get_prune (keep : List Nat) (e : Env) (t : Nat) : get (keep.map fun t => (t, get e t)) t = get e t ∨ get (keep.map fun t => (t, get e t)) t = .un := by
  induction keep with
  | nil => exact .inr rfl
  | cons k r ih =>
    simp only [List.map_cons]
    rw [get_put]
    by_cases hk : k = t
    · subst hk; rw [if_pos rfl]; exact .inl rfl
    · rw [if_neg hk]; exact ih
theorem Inv.prune (h : Inv C w g s a) (keep : List Nat) : Inv C w g (prune keep s) a := by
  refine ⟨fun t => ?_, h.obs, h.apart, h.own, h.frame, h.low, h.size, h.defers⟩
  simp only [Av.prune]
  rcases get_prune keep s.env t with e | e
  · rw [e]; exact h.env t
  · rw [e]; trivial

/-! ### A new object -/
theorem elem_false {o : Nat} {l : List Nat} (h : l.elem o = false) : ∀ p ∈ l, p ≠ o := by
  rintro p hp rfl
  rw [List.elem_eq_mem] at h
  simp [hp] at h
theorem free_env {o : Nat} (h : s.free o = true) : (∀ t, ∀ p ∈ (get s.env t).ids, p ≠ o) ∧ (∀ q x, obAt s.obs q = some x → q ≠ o ∧ ∀ p ∈ x.ids, p ≠ o) := by
  simp only [S.free, Bool.and_eq_true, Bool.not_eq_true', List.any_eq_false, Bool.or_eq_true, not_or, Bool.not_eq_true, beq_iff_eq] at h
  refine ⟨fun t => ?_, fun q x hx => ?_⟩
  · have : ∀ e : Env, (∀ x ∈ e, List.elem o x.2.ids = false) → ∀ p ∈ (get e t).ids, p ≠ o := by
      intro e
      induction e with
      | nil => intro _ p hp; simp [get, V.ids] at hp
      | cons y r ih =>
        intro he p hp
        obtain ⟨d, v⟩ := y
        rw [get_put] at hp
        split at hp
        · exact elem_false (he (d, v) List.mem_cons_self) p hp
        · exact ih (fun x hx => he x (List.mem_cons_of_mem _ hx)) p hp
    exact this s.env h.1
  · have := h.2 (q, x) (obAt_mem hx)
    exact ⟨this.2, elem_false this.1⟩
theorem free_none {o : Nat} (h : s.free o = true) : obAt s.obs o = none := by
  cases hx : obAt s.obs o with
  | none => rfl
  | some x => exact absurd rfl ((free_env h).2 o x hx).1
/-- One object comes (in new memory, or in that of objects that go); others than these last. -/
theorem Inv.change (h : Inv C w g s a) {l : Obs} {id : Nat} {x : Ob} {val : Value} {dead : Nat → Prop} (hid : 1000 ≤ id) (hfree : s.free id = true)
    (hat : ∀ p y, obAt l p = some y → (p = id ∧ y = x) ∨ (p ≠ id ∧ ¬ dead p ∧ obAt s.obs p = some y))
    (hw : ∀ b, b < w.heap.size → (∀ p y, dead p → obAt s.obs p = some y → blk (g p) ≠ some b) → w'.heap[b]? = w.heap[b]?)
    (hos : w'.os = w.os) (htape : w'.tape = w.tape) (hout : w'.output = w.output) (hsize : w.heap.size ≤ w'.heap.size)
    (hval : ∀ b, blk val = some b → w.heap.size ≤ b ∨ ∃ p y, dead p ∧ obAt s.obs p = some y ∧ blk (g p) = some b)
    (hro : (∀ b, C.Al s.obs g b → b < w.heap.size → w'.heap[b]? = w.heap[b]? ∧ C.Al l (fun o => if o = id then val else g o) b) → RO C.P w' (C.Al l (fun o => if o = id then val else g o)) (fun o => if o = id then val else g o) id x) :
    Inv C w' (fun o => if o = id then val else g o) ⟨s.env, l⟩ a := by
  obtain ⟨f1, f2⟩ := free_env hfree
  have hg : ∀ p, p ≠ id → (fun o => if o = id then val else g o) p = g p := fun p hp => if_neg hp
  have H : ∀ b, C.Al s.obs g b → b < w.heap.size → w'.heap[b]? = w.heap[b]? ∧ C.Al l (fun o => if o = id then val else g o) b := by
    rintro b ⟨hb1, hb2⟩ hlt
    refine ⟨hw b hlt (fun p y _ h1 h2 => hb2 ⟨p, y, h1, h2⟩), hb1, ?_⟩
    rintro ⟨p, y, h1, h2⟩
    rcases hat p y h1 with ⟨rfl, rfl⟩ | ⟨hp, hd, h3⟩
    · simp only [if_true] at h2
      rcases hval b h2 with h4 | ⟨q, z, _, h4, h5⟩
      · omega
      · exact hb2 ⟨q, z, h4, h5⟩
    · simp only [if_neg hp] at h2
      exact hb2 ⟨p, y, h3, h2⟩
  have hlt : ∀ p y b, obAt s.obs p = some y → blk (g p) = some b → b < w.heap.size := by
    intro p y b h1 h2
    have := h.obs p y h1
    cases y with
    | box vs =>
      obtain ⟨b', us, e, h3, h4, _⟩ := this
      rw [h3] at h2
      simp only [blk, Option.some.injEq] at h2
      subst h2
      exact (Array.getElem?_eq_some_iff.1 h4).1
    | row e t =>
      obtain ⟨n, us, sz, h3, _⟩ := this
      rcases h3.2 with ⟨e1, _⟩ | ⟨gg, cap, cur, e1, _, e3, _⟩
      · rw [e1] at h2; cases h2
      · rw [e1] at h2
        simp only [blk, Option.some.injEq] at h2
        subst h2
        exact (Array.getElem?_eq_some_iff.1 e3).1
  refine ⟨fun t => RV.keep H _ _ (fun p hp => hg p (f1 t p hp)) (h.env t), fun p y hp => ?_, fun p p' y y' b h1 h2 hne hb hb' => ?_, fun p y b h1 hb => ?_, ?_, fun o ho => ?_, h.size, h.defers⟩
  · rcases hat p y hp with ⟨rfl, rfl⟩ | ⟨hpi, hd, h3⟩
    · exact hro H
    · refine RO.keep H (fun b hb => hw b (hlt p y b h3 hb) (fun q z hq h4 h5 => ?_)) (fun q hq => hg q ((f2 p y h3).2 q hq)) (hg p hpi) (h.obs p y h3)
      exact h.apart q p z y b h4 h3 (fun e => hd (e ▸ hq)) h5 hb
  · rcases hat p y h1 with ⟨rfl, rfl⟩ | ⟨hpi, hd, h3⟩
    · rcases hat p' y' h2 with ⟨rfl, _⟩ | ⟨hpi', hd', h3'⟩
      · exact hne rfl
      · simp only [if_true] at hb
        simp only [if_neg hpi'] at hb'
        rcases hval b hb with h4 | ⟨q, z, hq, h4, h5⟩
        · have := hlt p' y' b h3' hb'; omega
        · exact h.apart q p' z y' b h4 h3' (fun e => hd' (e ▸ hq)) h5 hb'
    · simp only [if_neg hpi] at hb
      rcases hat p' y' h2 with ⟨rfl, rfl⟩ | ⟨hpi', hd', h3'⟩
      · simp only [if_true] at hb'
        rcases hval b hb' with h4 | ⟨q, z, hq, h4, h5⟩
        · have := hlt p y b h3 hb; omega
        · exact h.apart q p z y b h4 h3 (fun e => hd (e ▸ hq)) h5 hb
      · simp only [if_neg hpi'] at hb'
        exact h.apart p p' y y' b h3 h3' hne hb hb'
  · rcases hat p y h1 with ⟨rfl, rfl⟩ | ⟨hpi, hd, h3⟩
    · simp only [if_true] at hb
      rcases hval b hb with h4 | ⟨q, z, hq, h4, h5⟩
      · exact .inr (Nat.le_trans h.frame.size h4)
      · exact h.own q z b h4 h5
    · simp only [if_neg hpi] at hb
      exact h.own p y b h3 hb
  · refine ⟨hos.trans h.frame.os, htape.trans h.frame.tape, hout.trans h.frame.output, Nat.le_trans h.frame.size hsize, fun b hb hP => ?_⟩
    rw [hw b (Nat.lt_of_lt_of_le hb h.frame.size) (fun q z _ h4 h5 => ?_)]
    · exact h.frame.block b hb hP
    · rcases h.own q z b h4 h5 with h6 | h6
      · exact hP h6
      · omega
  · show (if o = id then val else g o) = C.g0 o
    rw [if_neg (by omega)]
    exact h.low o ho
end
end Go.Proofs.Av
end
