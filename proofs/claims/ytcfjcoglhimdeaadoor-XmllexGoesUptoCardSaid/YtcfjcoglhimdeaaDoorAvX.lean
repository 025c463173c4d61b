/- One operation that is no call. -/
import Derived.Test.YtcfjcoglhimdeaaDoorAvW
set_option linter.unusedSimpArgs false
set_option linter.unusedVariables false
section
namespace Go.Proofs.Av
open Go.RowKit
section
variable {C : Ctx} {w w' : World} {g g' : Nat → Value} {s s' : S} {a : Act} {o : Oper} {d : Option Nat} {out : Out} {call : FuncId → List V → Obs → Option Res}
theorem and_t {x y : Bool} : (x && y) = true ↔ x = true ∧ y = true := by simp
theorem list1 {α : Type} {xs : Array α} {x : α} (h : xs.toList = [x]) : xs = #[x] := by
  apply Array.ext'
  simpa using h
theorem list2 {α : Type} {xs : Array α} {x y : α} (h : xs.toList = [x, y]) : xs = #[x, y] := by
  apply Array.ext'
  simpa using h
theorem sto_ok (h : Inv C w g s a) {t : TypeId} {n : Nat} {x y : Operand} {x' y' : Opd} (hd : ∀ t, d = some t → t < C.nt) (hdd : o.dst = d) (hop : o.op = .store t x y) (hx : okOpd C.P x x' = true) (hy : okOpd C.P y y' = true) (ht : sizeT C.P t = some n)
    (hs : stepO call s d (.sto n x' y') = some (out, s')) : St' C w a o out s' := by
  cases hq : ev s.env x' with
  | rf q c => exact sto_rf_ok h hd hdd hop hx hy ht hq hs
  | re q k agg ls j c => exact sto_re_ok h hd hdd hop hx hy ht hq hs
  | _ =>
    simp only [stepO] at hs
    obtain ⟨_, hs⟩ := bif_some hs
    rw [hq] at hs
    cases hs
theorem slc_all (h : Inv C w g s a) {t : TypeId} {k : SK} {x : Operand} {lo hi : Option Operand} {x' : Opd} {lo' hi' : Option Opd} (hd : ∀ t, d = some t → t < C.nt) (hdd : o.dst = d) (hop : o.op = .slice t x lo hi none) (hk : skT C.P t k = true)
    (hx : okOpd C.P x x' = true) (hl : okOpt C.P lo lo' = true) (hh : okOpt C.P hi hi' = true) (hs : stepO call s d (.slc k x' lo' hi') = some (out, s')) : St' C w a o out s' := by
  cases hq : ev s.env x' with
  | im q => exact (slc_ok h hop hk hx hl hh hq hs).st h hd hdd
  | ow q => exact slc_row_ok h hd hdd hop hk hx hl hh hq hs
  | _ =>
    simp only [stepO] at hs
    split at hs
    · rw [hq] at hs
      cases hs
    · cases hs
def PO.quiet : PO → Bool
  | .call _ _ => false
  | .pan _ => false
  | _ => true
theorem step_ok (h : Inv C w g s a) {op : Op} {x : PO} (hd : ∀ t, d = some t → t < C.nt) (hdd : o.dst = d) (hop : o.op = op) (hk : chkO C.P op x = true) (hq : x.quiet = true) (hs : stepO call s d x = some (out, s')) : St' C w a o out s' := by
  unfold chkO at hk
  split at hk
  · exact (mv_ok h (.inl hop) hk hs).st h hd hdd
  · exact (mv_ok h (.inr hop) hk hs).st h hd hdd
  · simp only [Bool.and_eq_true] at hk
    exact (pick_ok h hop hk.1.1 hk.1.2 hk.2 hs).st h hd hdd
  · simp only [Bool.and_eq_true, beq_iff_eq] at hk
    obtain ⟨⟨⟨⟨rfl, h2⟩, h3⟩, h4⟩, h5⟩ := hk
    exact (ar_ok h hop h2 h4 h5 hs).st h hd hdd
  · simp only [Bool.and_eq_true, beq_iff_eq] at hk
    obtain ⟨⟨⟨rfl, h2⟩, h4⟩, h5⟩ := hk
    exact (cm_ok h hop h4 h5 hs).st h hd hdd
  · simp only [Bool.and_eq_true, beq_iff_eq] at hk
    obtain ⟨⟨⟨rfl, h2⟩, h4⟩, h5⟩ := hk
    exact (sh_ok h hop h4 h5 hs).st h hd hdd
  · simp only [Bool.and_eq_true, beq_iff_eq] at hk
    obtain ⟨⟨⟨rfl, h2⟩, h4⟩, h5⟩ := hk
    exact (st_ok h hop h4 h5 hs).st h hd hdd
  · simp only [Bool.and_eq_true] at hk
    obtain ⟨⟨⟨h1, h2⟩, h4⟩, h5⟩ := hk
    exact (eqb_ok h hop h1 h2 h4 h5 hs).st h hd hdd
  · rw [and_t, and_t] at hk
    obtain ⟨⟨h1, h2⟩, h3⟩ := hk
    exact (eqn_ok h hop h1 h2 h3 hs).st h hd hdd
  · rw [and_t, and_t] at hk
    obtain ⟨⟨h1, h2⟩, h3⟩ := hk
    exact (eqp_ok h hop h1 h2 h3 hs).st h hd hdd
  · simp only [Bool.and_eq_true, Bool.not_eq_true'] at hk
    obtain ⟨⟨⟨⟨⟨h1, h2⟩, h3⟩, h4⟩, h5⟩, h6⟩ := hk
    split at h6
    · rename_i fs hfs
      exact (eqs_ok h hop h1 hfs h4 h5 h6 h2 h3 hs).st h hd hdd
    · cases h6
  · rw [and_t] at hk
    obtain ⟨h1, h2⟩ := hk
    split at h2
    · rename_i f hf
      exact (bld_ok h hop h1 hf h2 hs).st h hd hdd
    · cases h2
  · exact (not_ok h hop hk hs).st h hd hdd
  · exact (neg_ok h hop hk hs).st h hd hdd
  · simp only [Bool.and_eq_true] at hk
    exact (cv_ok h hop hk.1.1 hk.1.2 hk.2 hs).st h hd hdd
  · simp only [Bool.and_eq_true] at hk
    exact (cvs_ok h hop hk.1.1 hk.1.2 hk.2 hs).st h hd hdd
  · simp only [Bool.and_eq_true] at hk
    exact (toS_ok h hop hk.1.1 hk.1.2 hk.2 hs).st h hd hdd
  · simp only [Bool.and_eq_true] at hk
    exact toB_ok h hd hdd hop hk.1.1 hk.1.2 hk.2 hs
  · simp only [Bool.and_eq_true, beq_iff_eq] at hk
    obtain ⟨⟨h1, rfl⟩, h3⟩ := hk
    exact cvb_ok h hd hdd hop h1 h3 hs
  · simp only [Bool.and_eq_true] at hk
    obtain ⟨⟨⟨h1, h2⟩, h3⟩, h4⟩ := hk
    exact slc_all h hd hdd hop h1 h2 h3 h4 hs
  · split at hk
    · rename_i h1 h2
      rw [and_t] at hk
      have e1 := list1 h1
      have e2 := list1 h2
      subst e1 e2
      exact (len_ok h hop hk.2 hk.1 hs).st h hd hdd
    · cases hk
  · rw [and_t] at hk
    obtain ⟨h1, h2⟩ := hk
    split at h2
    · rename_i o2 ft hf
      simp only [Bool.and_eq_true, beq_iff_eq] at h2
      obtain ⟨rfl, h3⟩ := h2
      exact (fld_ok h hop hf h3 h1 hs).st h hd hdd
    · cases h2
  · simp only [Bool.and_eq_true] at hk
    exact (ixs_ok h hop hk.1.1 hk.1.2 hk.2 hs).st h hd hdd
  · exact al_ok h hd hdd hop hk hs
  · exact bx_ok h hd hdd hop hk hs
  · simp only [Bool.and_eq_true] at hk
    exact (ld_ok h hop hk.1 hk.2 hs).st h hd hdd
  · simp only [Bool.and_eq_true, beq_iff_eq] at hk
    exact sto_ok h hd hdd hop hk.1.1 hk.1.2 hk.2 hs
  · exact (nc_ok h hop hk hs).st h hd hdd
  · rw [and_t] at hk
    obtain ⟨h1, h2⟩ := hk
    split at h2
    · rename_i o2 ft hf
      rw [and_t] at h2
      obtain ⟨h3, h4⟩ := h2
      simp only [beq_iff_eq] at h3
      subst h3
      split at h4
      · rename_i n hn
        obtain ⟨i, hi, hin⟩ := Option.map_eq_some_iff.1 hn
        simp only [decide_eq_true_eq] at h4
        exact (fa_ok h hop hf hi (by omega) h1 hs).st h hd hdd
      · cases h4
    · cases h2
  · rename_i t x i k agg ls y j
    rw [and_t, and_t, and_t] at hk
    obtain ⟨⟨⟨h1, h2⟩, h3⟩, h4⟩ := hk
    exact (ia_ok h hop h3 (by cases k <;> exact h4) h1 h2 hs).st h hd hdd
  · rename_i t n parts e isBy agg ls xs
    rw [and_t, and_t, and_t, and_t, and_t, and_t] at hk
    obtain ⟨⟨⟨⟨⟨⟨h1, h2⟩, h3⟩, h4⟩, h5⟩, h6⟩, h7⟩ := hk
    simp only [beq_iff_eq, decide_eq_true_eq] at h1 h2 h3 h6
    split at h4
    · rename_i i hi
      split at h4
      · rename_i z hz
        split at h7
        · rename_i l hl
          exact bsl_ok h hd hdd hop h1 h2 h3 hi hz h5 h6 hl h7 hs
        · cases h7
      · cases h4
    · cases h4
  · simp only [Bool.and_eq_true, beq_iff_eq] at hk
    obtain ⟨h1, rfl⟩ := hk
    exact (ext_ok h hop h1 hs).st h hd hdd
  · rename_i f first caps k ys
    simp only [Bool.and_eq_true, beq_iff_eq, Array.isEmpty_iff] at hk
    obtain ⟨⟨rfl, rfl⟩, h3⟩ := hk
    exact (mkf_ok h hop h3 hs).st h hd hdd
  · split at hk
    · rename_i h1
      simp only [Bool.and_eq_true] at hk
      have e1 := list2 h1
      subst e1
      exact (mn_ok h hop hk.1 hk.2 hs).st h hd hdd
    · cases hk
  · split at hk
    · rename_i h1
      simp only [Bool.and_eq_true] at hk
      have e1 := list2 h1
      subst e1
      exact (mx_ok h hop hk.1 hk.2 hs).st h hd hdd
    · cases hk
  · cases hq
  · split at hk
    · rename_i h1 h2
      simp only [Bool.and_eq_true, beq_iff_eq] at hk
      obtain ⟨⟨⟨⟨⟨k1, k2⟩, k3⟩, rfl⟩, k5⟩, k6⟩ := hk
      have e1 := list2 h1
      have e2 := list2 h2
      subst e1 e2
      exact app_ok h hd hdd hop k1 k2 k3 k5 k6 hs
    · cases hk
  · rw [and_t, and_t] at hk
    obtain ⟨⟨h1, h2⟩, h3⟩ := hk
    split at h3
    · rename_i l e ht
      simp only [Bool.and_eq_true, beq_iff_eq] at h3
      obtain ⟨⟨rfl, h4⟩, h5⟩ := h3
      exact (ixa_ok h hop ht h5 h4 h1 h2 hs).st h hd hdd
    · cases h3
  · cases hk
end
end Go.Proofs.Av
end
section
namespace Go.Proofs.Av
open Go.RowKit

/-! ### Other names for objects -/
section
variable {P : Program} {w : World} {A : Nat → Prop} {g g' : Nat → Value} {f : Nat → Nat}
mutual
theorem RV.ren : ∀ (v : V) (u : Value), (∀ o ∈ v.ids, g' (f o) = g o) → RV P w A g v u → RV P w A g' (v.ren f) u
  | .un, _, _, _ => trivial
  | .im _, _, _, h => h
  | .ip _, _, _, h => h
  | .rf o c, _, hg, h => by
    simp only [RV, V.ren] at h ⊢
    rw [hg o (by simp [V.ids])]
    exact h
  | .ow o, _, hg, h => by
    simp only [RV, V.ren] at h ⊢
    rw [hg o (by simp [V.ids])]
    exact h
  | .re o _ _ _ _ _, _, hg, h => by
    simp only [RV, V.ren] at h ⊢
    rw [hg o (by simp [V.ids])]
    exact h
  | .fn _ vs, _, hg, h => by
    simp only [RV, V.ren] at h ⊢
    obtain ⟨us, h1, h2⟩ := h
    exact ⟨us, h1, RVs.ren vs us.toList (fun o ho => hg o (by simpa [V.ids] using ho)) h2⟩
  | .ag vs, _, hg, h => by
    simp only [RV, V.ren] at h ⊢
    obtain ⟨us, h1, h2⟩ := h
    exact ⟨us, h1, RVs.ren vs us.toList (fun o ho => hg o (by simpa [V.ids] using ho)) h2⟩
  | .tp vs, _, hg, h => by
    simp only [RV, V.ren] at h ⊢
    obtain ⟨us, h1, h2⟩ := h
    exact ⟨us, h1, RVs.ren vs us.toList (fun o ho => hg o (by simpa [V.ids] using ho)) h2⟩
theorem RVs.ren : ∀ (vs : List V) (us : List Value), (∀ o ∈ V.idsL vs, g' (f o) = g o) → RVs P w A g vs us → RVs P w A g' (V.renL f vs) us
  | [], _, _, h => h
  | v :: r, _, hg, h => by
    simp only [RVs, V.renL] at h ⊢
    obtain ⟨u, us', h1, h2, h3⟩ := h
    exact ⟨u, us', h1, RV.ren v u (fun o ho => hg o (by simp [V.idsL, ho])) h2, RVs.ren r us' (fun o ho => hg o (by simp [V.idsL, ho])) h3⟩
end
theorem RO.ren {o : Nat} {x : Ob} (ho : g' (f o) = g o) (hx : ∀ p ∈ x.ids, g' (f p) = g p) (h : RO P w A g o x) : RO P w A g' (f o) (x.ren f) := by
  cases x with
  | box vs =>
    obtain ⟨b, us, e, h1, h2, h3⟩ := h
    exact ⟨b, us, e, by rw [ho, h1], h2, RVs.ren vs us.toList hx h3⟩
  | row e t =>
    obtain ⟨n, us, sz, h1, h2⟩ := h
    exact ⟨n, us, sz, by rw [ho]; exact h1, h2⟩
end
theorem posOf_add : ∀ (R : List Nat) (n o : Nat), o ∈ R → ∃ i, posOf R n o = n + i ∧ R[i]? = some o
  | [], _, _, h => by cases h
  | a :: r, n, o, h => by
    simp only [posOf]
    by_cases ha : a = o
    · subst ha
      exact ⟨0, by simp, rfl⟩
    · rw [beq_false_of_ne ha, cond_false]
      obtain ⟨i, h1, h2⟩ := posOf_add r (n + 1) o (by
        rcases List.mem_cons.1 h with e | e
        · exact absurd e.symm ha
        · exact e)
      exact ⟨i + 1, by omega, by simpa using h2⟩
theorem posOf_get {R : List Nat} {o : Nat} (h : o ∈ R) : R[posOf R 0 o]? = some o := by
  obtain ⟨i, h1, h2⟩ := posOf_add R 0 o h
  rw [h1, Nat.zero_add]
  exact h2
theorem obAt_some_mem {l : Obs} {o : Nat} {x : Ob} (h : obAt l o = some x) : (o, x) ∈ l := obAt_mem h
theorem mapIds_at {f : Nat → Nat} {l : Obs} {i : Nat} {y : Ob} (h : obAt (mapIds f l) i = some y) : ∃ o x, (o, x) ∈ l ∧ f o = i ∧ y = x.ren f := by
  have := obAt_mem h
  simp only [mapIds, List.mem_map, Prod.mk.injEq] at this
  obtain ⟨⟨o, x⟩, h1, h2, h3⟩ := this
  exact ⟨o, x, h1, h2, h3.symm⟩
theorem pick_at {l : Obs} {R : List Nat} {o : Nat} {x : Ob} (h : (o, x) ∈ pickObs l R) : o ∈ R ∧ obAt l o = some x := by
  simp only [pickObs, List.mem_filterMap, Option.map_eq_some_iff, Prod.mk.injEq] at h
  obtain ⟨p, hp, y, hy, rfl, rfl⟩ := h
  exact ⟨hp, hy⟩

/-! ### The contract of a function -/
structure Heap (C : Ctx) (w : World) (g : Nat → Value) (l : Obs) : Prop where
  obs : ∀ o x, obAt l o = some x → RO C.P w (C.Al l g) g o x
  apart : ∀ o o' x x' b, obAt l o = some x → obAt l o' = some x' → o ≠ o' → blk (g o) = some b → blk (g o') ≠ some b
  own : ∀ o x b, obAt l o = some x → blk (g o) = some b → C.Pd b ∨ C.w0.heap.size ≤ b
  frame : Fr C.w0 w C.Pd
theorem Inv.heap {C : Ctx} {w : World} {g : Nat → Value} {s : S} {a : Act} (h : Inv C w g s a) : Heap C w g s.obs := ⟨h.obs, h.apart, h.own, h.frame⟩
theorem Fr.refl (w : World) (Pd : Nat → Prop) : Fr w w Pd := ⟨rfl, rfl, rfl, Nat.le_refl _, fun _ _ _ => rfl⟩
/-- What a function gives back. -/
def retV (P : Program) (w : World) (A : Nat → Prop) (g : Nat → Value) (vs : List V) (u : Value) : Prop :=
  match vs with
  | [v] => RV P w A g v u
  | vs => ∃ us, u = .tuple us ∧ RVs P w A g vs us.toList
def Gives (C : Ctx) (m : Nat) (r : Res) (e : Ending) (w : World) : Prop :=
  ∃ g, (∀ i, i < m → g i = C.g0 i) ∧ match r with
    | .ret vs l => Heap C w g l ∧ ∃ u, e = .returned u ∧ retV C.P w (C.Al l g) g vs u
    | .pan v l => Heap C w g l ∧ ∃ u, e = .panicked [{ v := u, recovered := false }] ∧ RV C.P w (C.Al l g) g v u
def CallsTo (P : Program) (k : FuncId) (us : Array Value) (w : World) (R : Ending → World → Prop) : Prop :=
  match (callFunc k us).run P w with
  | .ok (.enter f args) w' => Calls P f args w' R
  | .ok (.value v) w' => R (.returned v) w'
  | _ => False
/-- What holds of the variables of the program, in every world that a call may leave. -/
def Glob (C : Ctx) (GI : World → Prop) : Prop := ∀ w, Fr C.w0 w C.Pd → GI w
def Sound (P : Program) (GI : World → Prop) (k : FuncId) (args : List V) (l : Obs) (r : Res) : Prop :=
  ∀ (C : Ctx) (us : Array Value), C.P = P → Glob C GI → Heap C C.w0 C.g0 l → RVs P C.w0 (C.Al l C.g0) C.g0 args us.toList → CallsTo P k us C.w0 (Gives C l.length r)
def SoundT (P : Program) (GI : World → Prop) (call : FuncId → List V → Obs → Option Res) : Prop := ∀ k args l r, call k args l = some r → Sound P GI k args l r

section
variable {C : Ctx} {w w' : World} {g g' : Nat → Value} {s s' : S} {a : Act} {o : Oper} {d : Option Nat} {out : Out} {call : FuncId → List V → Obs → Option Res}
/-- The context that a callee stands in. -/
def inner (C : Ctx) (w : World) (g : Nat → Value) (s : S) (held R : List Nat) : Ctx where
  P := C.P
  nt := 0
  w0 := w
  St := C.Al (s.fasts held).obs g
  Pd := fun b => ∃ o x, o ∈ R ∧ obAt s.obs o = some x ∧ blk (g o) = some b
  g0 := fun i => g (R.getD i 0)
theorem inner_g {s : S} {held R : List Nat} {p : Nat} (hp : p ∈ R) : (inner C w g s held R).g0 (posOf R 0 p) = g p := by
  show g (R.getD (posOf R 0 p) 0) = g p
  rw [List.getD, posOf_get hp]
  rfl
theorem inner_Mb {s : S} {held R : List Nat} {b : Nat} (h : Mb (mapIds (posOf R 0) (pickObs s.obs R)) (inner C w g s held R).g0 b) : ∃ o x, o ∈ R ∧ obAt s.obs o = some x ∧ blk (g o) = some b := by
  obtain ⟨i, y, h1, h2⟩ := h
  obtain ⟨o, x, h3, rfl, rfl⟩ := mapIds_at h1
  obtain ⟨h4, h5⟩ := pick_at h3
  rw [inner_g h4] at h2
  exact ⟨o, x, h4, h5, h2⟩
theorem inner_frame (h : Inv C w g s a) {held R : List Nat} (hf : Fr w w' (inner C w g s held R).Pd) : Fr C.w0 w' C.Pd := by
  refine ⟨hf.os.trans h.frame.os, hf.tape.trans h.frame.tape, hf.output.trans h.frame.output, Nat.le_trans h.frame.size hf.size, fun b hb hP => ?_⟩
  rw [hf.block b (Nat.lt_of_lt_of_le hb h.frame.size) ?_]
  · exact h.frame.block b hb hP
  · rintro ⟨p, x, _, h2, h3⟩
    rcases h.own p x b h2 h3 with h4 | h4
    · exact hP h4
    · omega
theorem inner_Al (h : Inv C w g s a) {held R : List Nat} {b : Nat} (hb : C.Al s.obs g b) : (inner C w g s held R).Al (mapIds (posOf R 0) (pickObs s.obs R)) (inner C w g s held R).g0 b := by
  refine ⟨.inl (fasts_Al held b hb), fun hm => ?_⟩
  obtain ⟨o, x, _, h2, h3⟩ := inner_Mb hm
  exact hb.2 ⟨o, x, h2, h3⟩
theorem named_mem {l : Obs} {o : Nat} {x : Ob} (h : (o, x) ∈ l) : ∀ p ∈ x.ids, p ∈ l.named := fun p hp => List.mem_flatMap.2 ⟨(o, x), h, hp⟩
theorem inner_heap (h : Inv C w g s a) {held R : List Nat} (hR : (pickObs s.obs R).named.all (fun o => R.elem o) = true) : Heap (inner C w g s held R) w (inner C w g s held R).g0 (mapIds (posOf R 0) (pickObs s.obs R)) := by
  have hR' : ∀ p ∈ (pickObs s.obs R).named, p ∈ R := fun p hp => by simpa using List.all_eq_true.1 hR p hp
  refine ⟨fun i y hi => ?_, fun i i' y y' b hi hi' hne hb hb' => ?_, fun i y b hi hb => ?_, Fr.refl _ _⟩
  · obtain ⟨p, x, h3, rfl, rfl⟩ := mapIds_at hi
    obtain ⟨h4, h5⟩ := pick_at h3
    have := h.obs p x h5
    refine RO.ren (inner_g h4) (fun q hq => inner_g (hR' q (named_mem h3 q hq))) ?_
    exact RO.keep (fun b hb _ => ⟨rfl, inner_Al h hb⟩) (fun _ _ => rfl) (fun _ _ => rfl) rfl this
  · obtain ⟨p, x, h3, rfl, rfl⟩ := mapIds_at hi
    obtain ⟨p', x', h3', rfl, rfl⟩ := mapIds_at hi'
    obtain ⟨h4, h5⟩ := pick_at h3
    obtain ⟨h4', h5'⟩ := pick_at h3'
    rw [inner_g h4] at hb
    rw [inner_g h4'] at hb'
    exact h.apart p p' x x' b h5 h5' (fun e => hne (by rw [e])) hb hb'
  · obtain ⟨p, x, h3, rfl, rfl⟩ := mapIds_at hi
    obtain ⟨h4, h5⟩ := pick_at h3
    rw [inner_g h4] at hb
    exact .inl ⟨p, x, h4, h5, hb⟩
end
end Go.Proofs.Av
end
section
namespace Go.Proofs.Av
open Go.RowKit
theorem mapIds_first {f : Nat → Nat} : ∀ {l : Obs} {i : Nat} {y : Ob}, obAt (mapIds f l) i = some y → ∃ o x, obAt l o = some x ∧ f o = i ∧ y = x.ren f
  | [], _, _, h => by cases h
  | (o, x) :: r, i, y, h => by
    simp only [mapIds, List.map_cons] at h
    rw [obAt_cons] at h
    by_cases hi : f o = i
    · rw [if_pos hi] at h
      simp only [Option.some.injEq] at h
      exact ⟨o, x, by rw [obAt_cons, if_pos rfl], hi, h.symm⟩
    · rw [if_neg hi] at h
      obtain ⟨p, z, h1, h2, h3⟩ := mapIds_first (l := r) h
      refine ⟨p, z, ?_, h2, h3⟩
      rw [obAt_cons, if_neg (fun e => hi (by rw [e]; exact h2)), h1]
theorem obAt_append (l m : Obs) (i : Nat) : obAt (l ++ m) i = match obAt l i with
    | some x => some x
    | none => obAt m i := by
  induction l with
  | nil => rfl
  | cons y r ih =>
    obtain ⟨o, x⟩ := y
    rw [List.cons_append, obAt_cons, obAt_cons, ih]
    by_cases h : o = i
    · rw [if_pos h, if_pos h]
    · rw [if_neg h, if_neg h]
theorem obAt_filter {R : List Nat} : ∀ {l : Obs} {i : Nat} {x : Ob}, obAt (l.filter fun x => !(R.elem x.1)) i = some x → i ∉ R ∧ obAt l i = some x
  | [], _, _, h => by cases h
  | (o, y) :: r, i, x, h => by
    by_cases ho : R.elem o = true
    · rw [List.filter_cons_of_neg (by simp only [ho]; decide)] at h
      obtain ⟨h1, h2⟩ := obAt_filter (l := r) h
      refine ⟨h1, ?_⟩
      rw [obAt_cons, if_neg (by rintro rfl; exact h1 (by simpa using ho)), h2]
    · rw [Bool.not_eq_true] at ho
      rw [List.filter_cons_of_pos (by simp only [ho]; decide), obAt_cons] at h
      by_cases hi : o = i
      · rw [if_pos hi] at h
        simp only [Option.some.injEq] at h
        refine ⟨fun hm => ?_, by rw [obAt_cons, if_pos hi, h]⟩
        subst hi
        exact elem_false ho o hm rfl
      · rw [if_neg hi] at h
        obtain ⟨h1, h2⟩ := obAt_filter (l := r) h
        exact ⟨h1, by rw [obAt_cons, if_neg hi, h2]⟩
section
variable {C C' : Ctx} {w w' : World} {g g' : Nat → Value} {s s' : S} {a : Act} {d : Option Nat} {R : List Nat} {vs : List V} {l : Obs}
/-- The ghost behind a call. -/
noncomputable def outer (g g' : Nat → Value) (R : List Nat) (base : Nat) (l : Obs) (o : Nat) : Value := by
  classical
  exact if ∃ x ∈ l.keys, R.length ≤ x ∧ base + (x - R.length) = o then g' (R.length + (o - base)) else g o
theorem outer_new {base : Nat} {x : Nat} (hx : x ∈ l.keys) (hl : R.length ≤ x) : outer g g' R base l (base + (x - R.length)) = g' x := by
  unfold outer
  rw [if_pos ⟨x, hx, hl, rfl⟩]
  congr 1
  omega
theorem outer_old {base : Nat} {o : Nat} (h : ∀ x ∈ l.keys, R.length ≤ x → base + (x - R.length) ≠ o) : outer g g' R base l o = g o := by
  unfold outer
  rw [if_neg]
  rintro ⟨x, h1, h2, h3⟩
  exact h x h1 h2 h3
theorem key_of {o : Nat} {x : Ob} (h : obAt l o = some x) : o ∈ l.keys := List.mem_map.2 ⟨(o, x), obAt_mem h, rfl⟩
theorem back_ok (h : Inv C w g s a) (hP : C'.P = C.P) (hw0 : C'.w0 = w) (hSt : ∀ b, C'.St b → C.Al s.obs g b) (hPd : ∀ b, C'.Pd b → ∃ p x, p ∈ R ∧ obAt s.obs p = some x ∧ blk (g p) = some b)
    (hg0 : ∀ i p, R[i]? = some p → C'.g0 i = g p) (hH : Heap C' w' g' l) (hg' : ∀ i, i < R.length → g' i = C'.g0 i) (hb : s.back R d vs l = some s') :
    ∃ g2, Inv C w' g2 s' a ∧ (∀ v u, (∀ o ∈ v.ids, o ∈ V.idsL vs) → RV C.P w' (C'.Al l g') g' v u → RV C.P w' (C.Al s'.obs g2) g2 (v.ren (backId R (nid d))) u) := by
  unfold S.back at hb
  obtain ⟨hk, hb⟩ := bif_some hb
  simp only [Option.some.injEq] at hb
  subst hb
  rw [and_t] at hk
  obtain ⟨hk1, hk2⟩ := hk
  have hfree : ∀ x ∈ l.keys, R.length ≤ x → s.free (nid d + (x - R.length)) = true ∧ nid d + (x - R.length) ∉ R := by
    intro x hx hl
    obtain ⟨⟨y, z⟩, h1, rfl⟩ := List.mem_map.1 hx
    have := List.all_eq_true.1 hk1 _ h1
    simp only [Bool.or_eq_true, decide_eq_true_eq, Bool.and_eq_true, Bool.not_eq_true'] at this
    rcases this with h2 | ⟨h2, h3⟩
    · simp only at hl; omega
    · exact ⟨h2, fun hm => elem_false h3 _ hm rfl⟩
  have hkey : ∀ o, (o ∈ V.idsL vs ∨ o ∈ l.named) → o < R.length ∨ o ∈ l.keys := by
    intro o ho
    have := List.all_eq_true.1 hk2 o (List.mem_append.2 ho)
    simpa using this
  let g2 := outer g g' R (nid d) l
  have old : ∀ o, (∀ x ∈ l.keys, R.length ≤ x → nid d + (x - R.length) ≠ o) → g2 o = g o := fun o ho => outer_old ho
  have oldR : ∀ p ∈ R, g2 p = g p := fun p hp => old p (fun x hx hl e => (hfree x hx hl).2 (e ▸ hp))
  have oldK : ∀ p x, obAt s.obs p = some x → g2 p = g p := fun p x hp => old p (fun y hy hl e => ((free_env (hfree y hy hl).1).2 p x hp).1 e.symm)
  have oldC : ∀ p x, obAt s.obs p = some x → ∀ q ∈ x.ids, g2 q = g q := fun p x hp q hq => old q (fun y hy hl e => ((free_env (hfree y hy hl).1).2 p x hp).2 q hq e.symm)
  have oldE : ∀ t, ∀ q ∈ (get s.env t).ids, g2 q = g q := fun t q hq => old q (fun y hy hl e => (free_env (hfree y hy hl).1).1 t q hq e.symm)
  -- the callee's objects under their new names
  have new : ∀ o, (o < R.length ∨ o ∈ l.keys) → g2 (backId R (nid d) o) = g' o := by
    intro o ho
    unfold backId
    by_cases hl : o < R.length
    · have e : R[o]? = some R[o] := List.getElem?_eq_getElem hl
      rw [List.getD, e, Option.getD_some, oldR _ (List.getElem_mem hl), hg' o hl, hg0 o _ e]
    · rcases ho with ho | ho
      · exact absurd ho hl
      · rw [List.getD, List.getElem?_eq_none (by omega), Option.getD_none]
        exact outer_new ho (by omega)
  have hat : ∀ p z, obAt (mapIds (backId R (nid d)) l ++ s.obs.filter fun x => !(R.elem x.1)) p = some z → (∃ o x, obAt l o = some x ∧ backId R (nid d) o = p ∧ z = x.ren (backId R (nid d))) ∨ (p ∉ R ∧ obAt s.obs p = some z) := by
    intro p z hp
    rw [obAt_append] at hp
    split at hp
    · rename_i y hy
      injection hp with hp
      subst hp
      exact .inl (mapIds_first hy)
    · exact .inr (obAt_filter hp)
  have blkN : ∀ o x b, obAt l o = some x → blk (g' o) = some b → (∃ p y, p ∈ R ∧ obAt s.obs p = some y ∧ blk (g p) = some b) ∨ w.heap.size ≤ b := by
    intro o x b h1 h2
    rcases hH.own o x b h1 h2 with h3 | h3
    · exact .inl (hPd b h3)
    · rw [hw0] at h3; exact .inr h3
  have hfr := hH.frame
  rw [hw0] at hfr
  have hMb : ∀ b, Mb (mapIds (backId R (nid d)) l ++ s.obs.filter fun x => !(R.elem x.1)) g2 b → Mb l g' b ∨ ∃ p y, p ∉ R ∧ obAt s.obs p = some y ∧ blk (g p) = some b := by
    rintro b ⟨p, z, h1, h2⟩
    rcases hat p z h1 with ⟨o, x, h3, rfl, rfl⟩ | ⟨h3, h4⟩
    · rw [new o (.inr (key_of h3))] at h2
      exact .inl ⟨o, x, h3, h2⟩
    · rw [oldK p z h4] at h2
      exact .inr ⟨p, z, h3, h4, h2⟩
  have H : ∀ b, C.Al s.obs g b → b < w.heap.size → w'.heap[b]? = w.heap[b]? ∧ C.Al (mapIds (backId R (nid d)) l ++ s.obs.filter fun x => !(R.elem x.1)) g2 b := by
    rintro b ⟨h1, h2⟩ hlt
    refine ⟨hfr.block b hlt (fun hp => ?_), h1, fun hm => ?_⟩
    · obtain ⟨p, x, _, h3, h4⟩ := hPd b hp
      exact h2 ⟨p, x, h3, h4⟩
    · rcases hMb b hm with ⟨o, x, h3, h4⟩ | ⟨p, y, _, h3, h4⟩
      · rcases blkN o x b h3 h4 with ⟨p, y, _, h5, h6⟩ | h5
        · exact h2 ⟨p, y, h5, h6⟩
        · omega
      · exact h2 ⟨p, y, h3, h4⟩
  have HN : ∀ b, C'.Al l g' b → C.Al (mapIds (backId R (nid d)) l ++ s.obs.filter fun x => !(R.elem x.1)) g2 b := by
    rintro b ⟨h1, h2⟩
    refine ⟨?_, fun hm => ?_⟩
    · rcases h1 with h1 | h1 | h1
      · exact (hSt b h1).1
      · obtain ⟨p, x, _, h3, h4⟩ := hPd b h1
        exact .inr (h.own p x b h3 h4)
      · rw [hw0] at h1
        exact .inr (.inr (Nat.le_trans h.frame.size h1))
    · rcases hMb b hm with h3 | ⟨p, y, hp, h3, h4⟩
      · exact h2 h3
      · rcases h1 with h1 | h1 | h1
        · exact (hSt b h1).2 ⟨p, y, h3, h4⟩
        · obtain ⟨q, x, hq, h5, h6⟩ := hPd b h1
          exact h.apart p q y x b h3 h5 (fun e => hp (e ▸ hq)) h4 h6
        · rw [hw0] at h1
          have := h.lt p y b h3 h4
          omega
  refine ⟨g2, ⟨fun t => RV.keep H _ _ (oldE t) (h.env t), fun p z hp => ?_, fun p p' z z' b hp hp' hne hb hb' => ?_, fun p z b hp hb => ?_, ⟨hfr.os.trans h.frame.os, hfr.tape.trans h.frame.tape, hfr.output.trans h.frame.output, Nat.le_trans h.frame.size hfr.size, fun b hb hPb => ?_⟩, fun o ho => ?_, h.size, h.defers⟩, fun v u hv hr => ?_⟩
  · rcases hat p z hp with ⟨o, x, h3, rfl, rfl⟩ | ⟨h3, h4⟩
    · have := hH.obs o x h3
      rw [hP] at this
      refine RO.ren (new o (.inr (key_of h3))) (fun q hq => new q (hkey q (.inr (named_mem (obAt_mem h3) q hq)))) ?_
      exact RO.keep (fun b hb _ => ⟨rfl, HN b hb⟩) (fun _ _ => rfl) (fun _ _ => rfl) rfl this
    · refine RO.keep H (fun b hb => hfr.block b (h.lt p z b h4 hb) (fun hp => ?_)) (oldC p z h4) (oldK p z h4) (h.obs p z h4)
      obtain ⟨q, x, hq, h5, h6⟩ := hPd b hp
      exact h.apart p q z x b h4 h5 (fun e => h3 (e ▸ hq)) hb h6
  · rcases hat p z hp with ⟨o, x, h3, rfl, rfl⟩ | ⟨h3, h4⟩
    · rw [new o (.inr (key_of h3))] at hb
      rcases hat p' z' hp' with ⟨o', x', h3', rfl, rfl⟩ | ⟨h3', h4'⟩
      · rw [new o' (.inr (key_of h3'))] at hb'
        exact hH.apart o o' x x' b h3 h3' (fun e => hne (by rw [e])) hb hb'
      · rw [oldK p' z' h4'] at hb'
        rcases blkN o x b h3 hb with ⟨q, y, hq, h5, h6⟩ | h5
        · exact h.apart p' q z' y b h4' h5 (fun e => h3' (e ▸ hq)) hb' h6
        · have := h.lt p' z' b h4' hb'
          omega
    · rw [oldK p z h4] at hb
      rcases hat p' z' hp' with ⟨o', x', h3', rfl, rfl⟩ | ⟨h3', h4'⟩
      · rw [new o' (.inr (key_of h3'))] at hb'
        rcases blkN o' x' b h3' hb' with ⟨q, y, hq, h5, h6⟩ | h5
        · exact h.apart p q z y b h4 h5 (fun e => h3 (e ▸ hq)) hb h6
        · have := h.lt p z b h4 hb
          omega
      · rw [oldK p' z' h4'] at hb'
        exact h.apart p p' z z' b h4 h4' hne hb hb'
  · rcases hat p z hp with ⟨o, x, h3, rfl, rfl⟩ | ⟨h3, h4⟩
    · rw [new o (.inr (key_of h3))] at hb
      rcases blkN o x b h3 hb with ⟨q, y, hq, h5, h6⟩ | h5
      · exact h.own q y b h5 h6
      · exact .inr (Nat.le_trans h.frame.size h5)
    · rw [oldK p z h4] at hb
      exact h.own p z b h4 hb
  · rw [hfr.block b (Nat.lt_of_lt_of_le hb h.frame.size) (fun hp => ?_)]
    · exact h.frame.block b hb hPb
    · obtain ⟨q, x, hq, h5, h6⟩ := hPd b hp
      rcases h.own q x b h5 h6 with h7 | h7
      · exact hPb h7
      · omega
  · rw [old o (fun x hx hl e => by have := nid_le d; omega)]
    exact h.low o ho
  · refine RV.ren v u (fun o ho => new o (hkey o (.inl (hv o ho)))) ?_
    exact RV.keep (fun b hb _ => ⟨rfl, HN b hb⟩) v u (fun _ _ => rfl) hr
end
end Go.Proofs.Av
end
