/- A function's end. -/
import Derived.Test.YtcfjcoglhimdeaaDoorAvD
set_option linter.unusedSimpArgs false
set_option linter.unusedVariables false
section
namespace Go.Proofs.Av
open Go.RowKit
section
variable {C : Ctx} {w w' : World} {g g' : Nat → Value} {s s' : S} {a : Act}
theorem zip_get : ∀ (vs : List V) (n q : Nat), get (zipEnv n vs) q = if n ≤ q then (vs[q - n]?).getD .un else .un
  | [], n, q => by simp [zipEnv, get]
  | v :: r, n, q => by
    simp only [zipEnv]
    rw [get_put, zip_get r (n + 1) q]
    by_cases h1 : n = q
    · subst h1; simp
    · rw [if_neg h1]
      by_cases h2 : n ≤ q
      · rw [if_pos h2, if_pos (by omega), show q - n = (q - (n + 1)) + 1 by omega]
        simp
      · rw [if_neg h2, if_neg (by omega)]
/-- The values of a state of their own. -/
theorem Inv.vals (h : Inv C w g s a) {vs : List V} {us : List Value} (hv : RVs C.P w (C.Al s.obs g) g vs us) : Inv { C with nt := us.length } w g ⟨zipEnv 0 vs, s.obs⟩ { tmps := us.toArray, defers := [] } := by
  refine ⟨fun t => ?_, h.obs, h.apart, h.own, h.frame, h.low, by simp, rfl⟩
  show RV C.P w (C.Al s.obs g) g (get (zipEnv 0 vs) t) _
  rw [zip_get, if_pos (Nat.zero_le _), Nat.sub_zero]
  cases hq : vs[t]? with
  | none => exact trivial
  | some v =>
    obtain ⟨u, h1, h2⟩ := hv.at_ hq
    have : (Act.eval { tmps := us.toArray, defers := [] } (.tmp t)) = u := by
      simp [Act.eval, h1]
    rw [this]
    exact h2
/-- A function's results, and how they are read. -/
def resOk (P : Program) (nt : Nat) : List ResultVar → List PRes → Bool
  | [], [] => true
  | .tmp t :: r, .t n :: q => t == n && resOk P nt r q
  | .cell x ty :: r, .c y n :: q => x == y && okN P ty n && resOk P nt r q
  | _, _ => false
theorem res_one (h : Inv C w g s a) {ty : TypeId} {x : Nat} {n : Option Nat} (hn : okN C.P ty n = true) {v : V} (hv : resV s (.c x n) = some v) :
    ∃ u, (do loadVar ty (← asAddr (a.tmps.getD x undef)) : Sem Value).run C.P w = .ok u w ∧ RV C.P w (C.Al s.obs g) g v u := by
  simp only [resV] at hv
  split at hv
  · rename_i o c hq
    split at hv
    · rename_i cs hb
      have ev := h.env x
      rw [hq] at ev
      obtain ⟨b, h1, h2⟩ := ev
      obtain ⟨b', us, h3, h4, h5⟩ := box_rd (h.obs o _ hb)
      rw [h1] at h3
      simp only [Value.pointer.injEq, Option.some.injEq, Addr.mk.injEq, and_true] at h3
      subst h3
      obtain ⟨u, h6, h7⟩ := ld_gen hn h4 h5 hv
      refine ⟨u, ?_, h7⟩
      have h8 : a.tmps.getD x undef = .pointer (some ⟨b, c, none⟩) := h2
      rw [h8]
      rw [add_pl, Nat.zero_add] at h6
      simpa [Instr.loadAt, Instr.sureAddr, asAddr] using h6
    · cases hv
  · cases hv
def resF (a : Act) : ResultVar → Sem Value
  | .tmp t => pure (a.tmps.getD t undef)
  | .cell x t => do loadVar t (← asAddr (a.tmps.getD x undef))
theorem res_ok (h : Inv C w g s a) : ∀ (rs : List ResultVar) (qs : List PRes) (vs : List V), resOk C.P C.nt rs qs = true → resVs s qs = some vs →
    ∃ us, (rs.mapM (resF a)).run C.P w = .ok us w ∧ RVs C.P w (C.Al s.obs g) g vs us
  | [], [], vs, _, hv => by
    simp only [resVs, Option.some.injEq] at hv
    subst hv
    exact ⟨[], by simp, rfl⟩
  | .tmp t :: r, .t n :: q, vs, hk, hv => by
    simp only [resOk, and_t, beq_iff_eq] at hk
    obtain ⟨rfl, hk⟩ := hk
    simp only [resVs, resV, Option.bind_some] at hv
    obtain ⟨ws, h1, rfl⟩ := Option.map_eq_some_iff.1 hv
    obtain ⟨us, h2, h3⟩ := res_ok h r q ws hk h1
    refine ⟨a.eval (.tmp t) :: us, ?_, _, us, rfl, h.env t, h3⟩
    rw [List.mapM_cons]
    simp only [Sem.run_bind, h2, resF, Sem.run_pure, Result.andThen]
    rfl
  | .cell x ty :: r, .c y n :: q, vs, hk, hv => by
    simp only [resOk, and_t, beq_iff_eq] at hk
    obtain ⟨⟨rfl, hn⟩, hk⟩ := hk
    simp only [resVs] at hv
    obtain ⟨v, h0, hv⟩ := Option.bind_eq_some_iff.1 hv
    obtain ⟨ws, h1, rfl⟩ := Option.map_eq_some_iff.1 hv
    obtain ⟨us, h2, h3⟩ := res_ok h r q ws hk h1
    obtain ⟨u, h4, h5⟩ := res_one h hn h0
    refine ⟨u :: us, ?_, _, us, rfl, h5, h3⟩
    rw [List.mapM_cons, Sem.run_bind]
    rw [show (resF a (.cell x ty)).run C.P w = .ok u w from h4]
    simp only [Result.andThen, Sem.run_bind, h2, Sem.run_pure]
  | [], _ :: _, _, hk, _ => by simp [resOk] at hk
  | .tmp _ :: _, [], _, hk, _ => by simp [resOk] at hk
  | .cell _ _ :: _, [], _, hk, _ => by simp [resOk] at hk
  | .tmp _ :: _, .c _ _ :: _, _, hk, _ => by simp [resOk] at hk
  | .cell _ _ :: _, .t _ :: _, _, hk, _ => by simp [resOk] at hk
end
end Go.Proofs.Av
end
section
namespace Go.Proofs.Av
open Go.RowKit
section
variable {C : Ctx} {w w' : World} {g g' : Nat → Value} {s s' : S} {a : Act}
theorem Inv.ren' (h : Inv C w g s a) {f : Nat → Nat} (hi : injOn f s.allIds = true) : Inv { C with g0 := renG g f s.allIds } w (renG g f s.allIds) (s.ren f) a := by
  have hk : ∀ p x, obAt s.obs p = some x → renG g f s.allIds (f p) = g p ∧ ∀ q ∈ x.ids, renG g f s.allIds (f q) = g q := by
    intro p x hp
    have hm := obAt_mem hp
    refine ⟨renG_eq hi ?_, fun q hq => renG_eq hi ?_⟩
    · exact List.mem_append.2 (.inl (List.mem_flatMap.2 ⟨_, hm, by simp⟩))
    · exact List.mem_append.2 (.inl (List.mem_flatMap.2 ⟨_, hm, by simp [hq]⟩))
  have hA : ∀ b, C.Al s.obs g b → ({ C with g0 := renG g f s.allIds } : Ctx).Al (s.ren f).obs (renG g f s.allIds) b := by
    rintro b ⟨h1, h2⟩
    refine ⟨h1, ?_⟩
    rintro ⟨p, y, h3, h4⟩
    obtain ⟨o, x, h5, rfl, rfl⟩ := mapIds_first h3
    rw [(hk o x h5).1] at h4
    exact h2 ⟨o, x, h5, h4⟩
  refine ⟨fun t => ?_, fun p y hp => ?_, fun p p' y y' b hp hp' hne hb hb' => ?_, fun p y b hp hb => ?_, h.frame, fun o ho => rfl, h.size, h.defers⟩
  · show RV _ _ _ _ (get (s.env.map fun x => (x.1, x.2.ren f)) t) _
    rw [get_map (V.ren f) rfl]
    refine RV.ren _ _ (fun o ho => renG_eq hi (List.mem_append.2 (.inr (get_ids s.env t o ho)))) ?_
    exact RV.keep (fun b hb _ => ⟨rfl, hA b hb⟩) _ _ (fun _ _ => rfl) (h.env t)
  · obtain ⟨o, x, h5, rfl, rfl⟩ := mapIds_first hp
    refine RO.ren (hk o x h5).1 (hk o x h5).2 ?_
    exact RO.keep (fun b hb _ => ⟨rfl, hA b hb⟩) (fun _ _ => rfl) (fun _ _ => rfl) rfl (h.obs o x h5)
  · obtain ⟨o, x, h5, rfl, rfl⟩ := mapIds_first hp
    obtain ⟨o', x', h5', rfl, rfl⟩ := mapIds_first hp'
    rw [(hk o x h5).1] at hb
    rw [(hk o' x' h5').1] at hb'
    exact h.apart o o' x x' b h5 h5' (fun e => hne (by rw [e])) hb hb'
  · obtain ⟨o, x, h5, rfl, rfl⟩ := mapIds_first hp
    rw [(hk o x h5).1] at hb
    exact h.own o x b h5 hb
theorem closeF_low {m o : Nat} {Q : List Nat} (h : closeF m Q o < m) : closeF m Q o = o := by
  unfold closeF at *
  by_cases ho : o < m
  · simp [ho]
  · simp only [ho, decide_false, cond_false] at h
    omega
theorem close_ok (h : Inv C w g s a) {m : Nat} (hs : close m s = some s') : ∃ g2, Inv { C with g0 := g2 } w g2 s' a ∧ ∀ o, o < m → g2 o = g o := by
  unfold close at hs
  simp only at hs
  obtain ⟨hc, hs⟩ := bif_some hs
  simp only [Option.some.injEq] at hs
  subst hs
  rw [and_t, and_t] at hc
  refine ⟨_, (h.sub (fun p x hp => (pick_at (obAt_mem hp)).2)).ren' hc.1.1, fun o ho => ?_⟩
  unfold renG
  split
  · rename_i he
    obtain ⟨h1, h2⟩ := Classical.choose_spec he
    have := closeF_low (by rw [h2]; exact ho)
    rw [h2] at this
    rw [← this]
  · rfl
def flatU : List V → List Value → List Value
  | .ag _ :: r, u :: us => u.cells.toList ++ flatU r us
  | _ :: r, u :: us => u :: flatU r us
  | _, _ => []
theorem flatV_cons {v : V} (hv : ∀ ws, v ≠ .ag ws) (r : List V) : flatV (v :: r) = v :: flatV r := by
  cases v <;> first | rfl | exact absurd rfl (hv _)
theorem flatU_cons {v : V} (hv : ∀ ws, v ≠ .ag ws) (r : List V) (u : Value) (us : List Value) : flatU (v :: r) (u :: us) = u :: flatU r us := by
  cases v <;> first | rfl | exact absurd rfl (hv _)
theorem packV_cons {v : V} (hv : ∀ ws, v ≠ .ag ws) (e : Env) (n : Nat) (r : List V) : packV e n (v :: r) = get e n :: packV e (n + 1) r := by
  cases v <;> first | rfl | exact absurd rfl (hv _)
section
variable {P : Program} {A A' : Nat → Prop}
theorem flat_ok : ∀ {vs : List V} {us : List Value}, RVs P w A g vs us → RVs P w A g (flatV vs) (flatU vs us)
  | [], us, h => by simp only [RVs] at h; subst h; rfl
  | v :: r, us, h => by
    obtain ⟨u, us', rfl, h2, h3⟩ := h
    by_cases hv : ∃ ws, v = .ag ws
    · obtain ⟨ws, rfl⟩ := hv
      obtain ⟨cs, rfl, h4⟩ := h2
      simp only [flatV, flatU]
      exact RVs.append h4 (flat_ok h3)
    · rw [flatV_cons (fun ws e => hv ⟨ws, e⟩), flatU_cons (fun ws e => hv ⟨ws, e⟩)]
      exact ⟨u, _, rfl, h2, flat_ok h3⟩
theorem many_ok {e : Env} : ∀ (us : List Value) (n : Nat), (∀ i u, us[i]? = some u → RV P w' A' g' (get e (n + i)) u) → RVs P w' A' g' (getMany e n us.length) us
  | [], _, _ => rfl
  | u :: us, n, H => by
    refine ⟨u, us, rfl, by simpa using H 0 u rfl, many_ok us (n + 1) (fun i u' hu => ?_)⟩
    have := H (i + 1) u' (by simpa using hu)
    rwa [show n + (i + 1) = n + 1 + i by omega] at this
theorem pack_ok {e : Env} : ∀ {vs : List V} {us : List Value} (n : Nat), RVs P w A g vs us → (∀ i u, (flatU vs us)[i]? = some u → RV P w' A' g' (get e (n + i)) u) → RVs P w' A' g' (packV e n vs) us
  | [], us, _, h, _ => h
  | v :: r, us, n, h, H => by
    obtain ⟨u, us', rfl, h2, h3⟩ := h
    by_cases hv : ∃ ws, v = .ag ws
    · obtain ⟨ws, rfl⟩ := hv
      obtain ⟨cs, rfl, h4⟩ := h2
      have hl := RVs.len h4
      simp only [flatU] at H
      have hcl : (Value.agg cs).cells.toList = cs.toList := rfl
      rw [hcl] at H
      simp only [packV]
      refine ⟨.agg cs, us', rfl, ⟨cs, rfl, ?_⟩, pack_ok _ h3 (fun i u hu => ?_)⟩
      · rw [← hl]
        refine many_ok _ n (fun i u hu => H i u ?_)
        rw [List.getElem?_append_left (List.getElem?_eq_some_iff.1 hu).1]
        exact hu
      · have := H (cs.toList.length + i) u (by rw [List.getElem?_append_right (by omega), Nat.add_sub_cancel_left]; exact hu)
        rwa [hl, ← Nat.add_assoc] at this
    · have hv' : ∀ ws, v ≠ .ag ws := fun ws e => hv ⟨ws, e⟩
      rw [flatU_cons hv'] at H
      rw [packV_cons hv']
      refine ⟨u, us', rfl, by simpa using H 0 u rfl, pack_ok _ h3 (fun i u' hu => ?_)⟩
      have := H (i + 1) u' (by simpa using hu)
      rwa [show n + (i + 1) = n + 1 + i by omega] at this
theorem pack_len (e : Env) : ∀ (n : Nat) (vs : List V), (packV e n vs).length = vs.length
  | _, [] => rfl
  | n, v :: r => by
    by_cases hv : ∃ ws, v = .ag ws
    · obtain ⟨ws, rfl⟩ := hv
      simp [packV, pack_len e _ r]
    · rw [packV_cons (fun ws e => hv ⟨ws, e⟩)]
      simp [pack_len e _ r]
end
end
end Go.Proofs.Av
end
section
namespace Go.Proofs.Av
open Go.RowKit
section
variable {C : Ctx} {w w' : World} {g g' : Nat → Value} {s s' : S} {a : Act}
def packU (us : List Value) : Value := match us with
  | [u] => u
  | us => .tuple us.toArray
theorem run_mapM_array {α β : Type} (f : α → Sem β) (P : Program) (w : World) (l : Array α) {us : List β} (h : (l.toList.mapM f).run P w = .ok us w) : (l.mapM f).run P w = .ok us.toArray w := by
  rw [Array.mapM_eq_mapM_toList, map_eq_pure_bind, Sem.run_bind, h]
  rfl
theorem run_results (fn : Func) (a : Act) {us : List Value} {P : Program} (h : (fn.results.toList.mapM (resF a)).run P w = .ok us w) :
    (results fn a.tmps).run P w = .ok (packU us) w := by
  have e := run_mapM_array (resF a) P w fn.results h
  have e2 : ∀ F : ResultVar → Sem Value, (∀ r, F r = resF a r) → fn.results.mapM F = fn.results.mapM (resF a) := fun F hF => by rw [funext hF]
  unfold results
  rw [Sem.run_bind, e2 _ (fun r => by cases r <;> rfl), e]
  simp only [Result.andThen, Sem.run_pure]
  congr 1
  match us with
  | [] => rfl
  | [u] => rfl
  | u :: v :: r => 
    have : ¬ ((u :: v :: r).toArray.size = 1) := by simp
    rw [dif_neg this]
    rfl
theorem retV_pack {P : Program} {A : Nat → Prop} {vs : List V} {us : List Value} (h : RVs P w A g vs us) : retV P w A g vs (packU us) := by
  unfold retV packU
  match vs, us, h with
  | [], us, h =>
    simp only [RVs] at h
    subst h
    exact ⟨#[], rfl, rfl⟩
  | [v], us, h =>
    obtain ⟨u, us', rfl, h2, h3⟩ := h
    simp only [RVs] at h3
    subst h3
    exact h2
  | v :: v2 :: r, us, h =>
    obtain ⟨u, us', rfl, h2, u2, us2, rfl, h3⟩ := h
    exact ⟨_, rfl, u, _, rfl, h2, u2, us2, rfl, h3⟩
theorem finish_ok {pf : PF} {m : Nat} {r : Res} {fn : Func} (h : Inv C w g s a) (hm : m ≤ 1000) (hres : resOk C.P C.nt fn.results.toList pf.res = true)
    (hown : (pf.own.all fun y => !y.2.1 || (isU8 C.P y.2.2 && sizeT C.P y.2.2 == some 1)) = true) (hs : finish pf m s = some r) :
    ∃ u, (results fn a.tmps).run C.P w = .ok u w ∧ Gives C m r (.returned u) w := by
  unfold finish at hs
  obtain ⟨vs, h1, hs⟩ := Option.bind_eq_some_iff.1 hs
  obtain ⟨s1, h2, hs⟩ := Option.bind_eq_some_iff.1 hs
  obtain ⟨s2, h3, hs⟩ := Option.bind_eq_some_iff.1 hs
  simp only [Option.some.injEq] at hs
  subst hs
  obtain ⟨us, e1, e2⟩ := res_ok h _ _ _ hres h1
  have k0 := h.vals (flat_ok e2)
  obtain ⟨g1, k1⟩ := thaw_ok pf.own _ ⟨g, k0⟩ hown h2
  have k2 := k1.fastBut pf.own s1.env s1
  obtain ⟨g2, k3, k4⟩ := close_ok k2 h3
  refine ⟨packU us, run_results fn a e1, g2, fun i hi => ?_, ⟨k3.obs, k3.apart, k3.own, k3.frame⟩, packU us, rfl, ?_⟩
  · rw [k4 i hi]
    exact k1.low i (by omega)
  · refine retV_pack (pack_ok 0 e2 (fun i u hu => ?_))
    have := k3.env i
    rw [Nat.zero_add]
    have e : (Act.eval { tmps := (flatU vs us).toArray, defers := [] } (.tmp i)) = u := by
      simp [Act.eval, hu]
    rw [e] at this
    exact this
theorem pan_ok {m : Nat} {v : V} {u : Value} {q : S} (h : Inv C w g s a) (hm : m ≤ 1000) (hv : RV C.P w (C.Al s.obs g) g v u) (hs : close m ⟨[(0, v)], s.obs⟩ = some q) :
    Gives C m (.pan (get q.env 0) q.obs) (.panicked [{ v := u, recovered := false }]) w := by
  have k0 := h.vals (vs := [v]) (us := [u]) ⟨u, [], rfl, hv, rfl⟩
  obtain ⟨g2, k3, k4⟩ := close_ok (m := m) (s' := q) k0 hs
  refine ⟨g2, fun i hi => ?_, ⟨k3.obs, k3.apart, k3.own, k3.frame⟩, u, rfl, ?_⟩
  · rw [k4 i hi]
    exact h.low i (by omega)
  · have := k3.env 0
    have e : (Act.eval { tmps := [u].toArray, defers := [] } (.tmp 0)) = u := by simp [Act.eval]
    rw [e] at this
    exact this
/-- Small code of a function is the loaded function's. -/
def chkF (P : Program) (k : FuncId) (pf : PF) : Bool := match P.funcs[k]? with
  | some fn => (match fn.body with
    | some c => fn.ntmps == pf.nt && decide (pf.np ≤ pf.nt) && !(fn.name == "runtime.NumGoroutine") && resOk P pf.nt fn.results.toList pf.res &&
        (pf.own.all fun y => !y.2.1 || (isU8 P y.2.2 && sizeT P y.2.2 == some 1)) && chkC P pf.nt c pf.code
    | none => false)
  | none => false
theorem chkF_eq {P : Program} {k : FuncId} {pf : PF} (h : chkF P k pf = true) : ∃ fn c, P.funcs[k]? = some fn ∧ fn.body = some c ∧ fn.ntmps = pf.nt ∧ pf.np ≤ pf.nt ∧ (fn.name == "runtime.NumGoroutine") = false ∧
    resOk P pf.nt fn.results.toList pf.res = true ∧ (pf.own.all fun y => !y.2.1 || (isU8 P y.2.2 && sizeT P y.2.2 == some 1)) = true ∧ chkC P pf.nt c pf.code = true := by
  unfold chkF at h
  split at h
  · rename_i fn h1
    split at h
    · rename_i c h2
      simp only [Bool.and_eq_true, beq_iff_eq, decide_eq_true_eq, Bool.not_eq_true'] at h
      obtain ⟨⟨⟨⟨⟨h3, h4⟩, h5⟩, h6⟩, h7⟩, h8⟩ := h
      exact ⟨fn, c, h1, h2, h3, h4, h5, h6, h7, h8⟩
    · cases h
  · cases h
section
variable {P : Program} {GI : World → Prop} {call : FuncId → List V → Obs → Option Res} {loop : PC → S → Option (Out × S)}
theorem Gives.nt {C : Ctx} {n m : Nat} {r : Res} {e : Ending} {w : World} (h : Gives { C with nt := n } m r e w) : Gives C m r e w := by
  obtain ⟨g, h1, h2⟩ := h
  refine ⟨g, h1, ?_⟩
  cases r with
  | ret vs l => obtain ⟨h3, h4⟩ := h2; exact ⟨⟨h3.obs, h3.apart, h3.own, h3.frame⟩, h4⟩
  | pan v l => obtain ⟨h3, h4⟩ := h2; exact ⟨⟨h3.obs, h3.apart, h3.own, h3.frame⟩, h4⟩
theorem enter_ok {k : FuncId} {pf : PF} (hk : chkF P k pf = true) (hS : SoundT P GI call) (hL : LoopOk P GI loop) {args : List V} {obs : Obs} {r : Res} (he : enter call loop pf args obs = some r) : Sound P GI k args obs r := by
  intro C us hP hG hH hargs
  subst hP
  obtain ⟨fn, c, h1, h2, h3, h4, h5, h6, h7, h8⟩ := chkF_eq hk
  unfold enter at he
  obtain ⟨hc, he⟩ := bif_some he
  simp only [Bool.and_eq_true, beq_iff_eq, decide_eq_true_eq] at hc
  obtain ⟨⟨c1, c2⟩, c3⟩ := hc
  have hlen := RVs.len hargs
  have hsz : us.size = pf.np := by
    have : us.toList.length = us.size := Array.length_toList
    omega
  have hcall : (callFunc k us).run C.P C.w0 = .ok (.enter k us) C.w0 := by
    have hb : fn.body.isNone = false := by rw [h2]; rfl
    have hne : ¬ (fn.name = "runtime.NumGoroutine") := by simpa using h5
    simp [callFunc, h1, h2, hne, go_sem]
  unfold CallsTo
  rw [hcall]
  refine calls_of_wp h1 h2 ?_
  let C1 : Ctx := { C with nt := pf.nt }
  have hi : Inv C1 C.w0 C.g0 ⟨zipEnv 0 args, obs⟩ { tmps := us ++ Array.replicate (fn.ntmps - us.size) undef, defers := [] } := by
    refine ⟨fun t => ?_, hH.obs, hH.apart, hH.own, hH.frame, fun o _ => rfl, ?_, rfl⟩
    · show RV C.P C.w0 (C.Al obs C.g0) C.g0 (get (zipEnv 0 args) t) _
      rw [zip_get, if_pos (Nat.zero_le _), Nat.sub_zero]
      cases hq : args[t]? with
      | none => exact trivial
      | some v =>
        obtain ⟨u, e1, e2⟩ := hargs.at_ hq
        have e3 : us[t]? = some u := by rw [← e1]; simp
        have : (Act.eval { tmps := us ++ Array.replicate (fn.ntmps - us.size) undef, defers := [] } (.tmp t)) = u := by
          have hlt := (Array.getElem?_eq_some_iff.1 e3).1
          simp only [Act.eval, Array.getD_eq_getD_getElem?]
          rw [Array.getElem?_append_left hlt, e3]
          rfl
        rw [this]
        exact e2
    · show (us ++ Array.replicate (fn.ntmps - us.size) undef).size = pf.nt
      simp only [Array.size_append, Array.size_replicate]
      omega
  have hG1 : Glob C1 GI := hG
  obtain ⟨⟨out, s'⟩, hr, hf⟩ := Option.bind_eq_some_iff.1 (show (run call loop pf.code ⟨zipEnv 0 args, obs⟩).bind _ = some r from he)
  refine run_ok (C := C1) hG1 hS hL pf.code c _ _ _ _ out s' (fun c a d v w h => by cases d <;> exact h) h8 ⟨C.g0, hi⟩ hr ⟨fun e a w hi => ?_, fun id e => ?_, fun e a w hi => ?_, fun v e a w g u hi hv => ?_⟩
  · subst e
    obtain ⟨g, hi⟩ := hi
    obtain ⟨u, e1, e2⟩ := finish_ok (C := C1) (fn := fn) hi c2 h6 h7 hf
    exact ⟨hi.defers, u, e1, Gives.nt (n := pf.nt) e2⟩
  · subst e
    cases hf
  · subst e
    obtain ⟨g, hi⟩ := hi
    obtain ⟨u, e1, e2⟩ := finish_ok (C := C1) (fn := fn) hi c2 h6 h7 hf
    exact ⟨hi.defers, u, e1, Gives.nt (n := pf.nt) e2⟩
  · subst e
    obtain ⟨q, e1, e2⟩ := Option.bind_eq_some_iff.1 (show (close obs.length ⟨[(0, v)], s'.obs⟩).bind _ = some r from hf)
    simp only [Option.some.injEq] at e2
    subst e2
    exact ⟨hi.defers, Gives.nt (n := pf.nt) (pan_ok (C := C1) hi c2 hv e1)⟩
end
def TabOk (P : Program) (tab : FuncId → Option PF) : Prop := ∀ k pf, tab k = some pf → chkF P k pf = true
theorem all_ok {P : Program} {GI : World → Prop} {tab : FuncId → Option PF} {lib : FuncId → List V → Obs → Option Res} (hT : TabOk P tab) (hlib : SoundT P GI lib) (n : Nat) : SoundT P GI (callN tab lib n) ∧ LoopOk P GI (loopN tab lib n) := by
  induction n using Nat.strongRecOn with
  | _ n ih =>
    refine ⟨?_, loop_ok (norm_ok P) n ih⟩
    intro k args l r hr
    cases n with
    | zero => simp [callN] at hr
    | succ n =>
      rw [callN] at hr
      split at hr
      · rename_i r' h1
        simp only [Option.some.injEq] at hr
        subst hr
        exact hlib k args l _ h1
      · split at hr
        · rename_i pf h2
          exact enter_ok (hT k pf h2) (ih n (by omega)).1 (ih n (by omega)).2 hr
        · cases hr
end
end Go.Proofs.Av
end
