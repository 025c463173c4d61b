/- A call is sound. -/
import Derived.Test.YtcfjcoglhimdeaaDoorAvX
import Derived.Tactics
import Derived.Orders
set_option linter.unusedSimpArgs false
set_option linter.unusedVariables false
section
namespace Go.Proofs.Av
open Go.RowKit
section
variable {C : Ctx} {w w' : World} {g g' : Nat → Value} {s s' : S} {a : Act} {o : Oper} {d : Option Nat} {out : Out} {call : FuncId → List V → Obs → Option Res} {GI : World → Prop}
/-- An operation's end, whatever follows. -/
def StC (C : Ctx) (w : World) (a : Act) (o : Oper) (out : Out) (s' : S) : Prop := ∀ (next : Act → World → Prop) (Q : Exit → Act → World → Prop),
  (out = .nx → ∀ a' w', InvE C w' s' a' → next a' w') →
  (∀ v, out = .pn v → ∀ w' g u, Inv C w' g s' a → RV C.P w' (C.Al s'.obs g) g v u → Q (.panic [{ v := u, recovered := false }]) a w') →
  (out = .nx ∨ ∃ v, out = .pn v) ∧ o.wp C.P a w next Q
theorem St'.c (k : St' C w a o out s') : StC C w a o out s' := by
  intro next Q hn _
  obtain ⟨rfl, n, w', hr, hq⟩ := k
  refine ⟨.inl rfl, ?_⟩
  unfold Oper.wp
  rw [hr]
  rcases hq with ⟨u, rfl, hi⟩ | ⟨rfl, hi⟩
  · exact hn rfl _ _ hi
  · exact hn rfl _ _ hi
theorem RVs.append {P : Program} {A : Nat → Prop} : ∀ {vs ws : List V} {us xs : List Value}, RVs P w A g vs us → RVs P w A g ws xs → RVs P w A g (vs ++ ws) (us ++ xs)
  | [], _, us, _, h, k => by simp only [RVs] at h; subst h; exact k
  | v :: r, ws, us, xs, h, k => by
    obtain ⟨u, us', rfl, h2, h3⟩ := h
    exact ⟨u, us' ++ xs, rfl, h2, RVs.append h3 k⟩
mutual
theorem RV.snap {P : Program} {A A' : Nat → Prop} {l : Obs} {held : List Nat} (hrow : ∀ q e t, q ∈ held → obAt l q = some (.row e t) → R P w A' t [g q]) (hA : ∀ b, A b → A' b) : ∀ (v : V) (u : Value), (∀ q ∈ owner v, q ∈ held) → RV P w A g v u → RV P w A' g (v.snap l) u
  | .un, _, _, _ => trivial
  | .im t, u, _, h => RV.keep (fun b hb _ => ⟨rfl, hA b hb⟩) (.im t) u (fun _ _ => rfl) h
  | .ip ts, u, _, h => RV.keep (fun b hb _ => ⟨rfl, hA b hb⟩) (.ip ts) u (fun _ _ => rfl) h
  | .rf _ _, _, _, h => h
  | .ow q, u, ho, h => by
    simp only [V.snap]
    split
    · rename_i e t hq
      have := h.1
      subst this
      exact hrow q e t (ho q (by simp [owner])) hq
    · trivial
  | .re _ _ _ _ _ _, _, _, h => h
  | .fn f vs, u, _, h => RV.keep (fun b hb _ => ⟨rfl, hA b hb⟩) (.fn f vs) u (fun _ _ => rfl) h
  | .ag vs, _, ho, h => by
    obtain ⟨us, h1, h2⟩ := h
    exact ⟨us, h1, RVs.snap hrow hA vs us.toList (fun q hq => ho q (by simpa [owner] using hq)) h2⟩
  | .tp vs, u, _, h => RV.keep (fun b hb _ => ⟨rfl, hA b hb⟩) (.tp vs) u (fun _ _ => rfl) h
theorem RVs.snap {P : Program} {A A' : Nat → Prop} {l : Obs} {held : List Nat} (hrow : ∀ q e t, q ∈ held → obAt l q = some (.row e t) → R P w A' t [g q]) (hA : ∀ b, A b → A' b) : ∀ (vs : List V) (us : List Value), (∀ q ∈ ownerL vs, q ∈ held) → RVs P w A g vs us → RVs P w A' g (V.snapL l vs) us
  | [], _, _, h => h
  | v :: r, _, ho, h => by
    obtain ⟨u, us', h1, h2, h3⟩ := h
    exact ⟨u, us', h1, RV.snap hrow hA v u (fun q hq => ho q (by simp [ownerL, hq])) h2, RVs.snap hrow hA r us' (fun q hq => ho q (by simp [ownerL, hq])) h3⟩
end
theorem fast_some (s : S) {o p : Nat} {x : Ob} (hne : p ≠ o) (h : obAt s.obs p = some x) : ∃ y, obAt (s.fast o).obs p = some y := by
  unfold S.fast
  split
  · rename_i e t _
    simp only
    rw [obAt_mapf (obDel s.obs o) (Ob.snap1 o t) p, obAt_del, if_neg hne, h]
    exact ⟨_, rfl⟩
  · exact ⟨x, h⟩
theorem fasts_some : ∀ (l : List Nat) (s : S) {p : Nat} {x : Ob}, p ∉ l → obAt s.obs p = some x → ∃ y, obAt (s.fasts l).obs p = some y
  | [], _, _, x, _, h => ⟨x, h⟩
  | o :: r, s, p, x, hp, h => by
    obtain ⟨y, hy⟩ := fast_some s (o := o) (fun e => hp (e ▸ List.mem_cons_self)) h
    exact fasts_some r (s.fast o) (fun hm => hp (List.mem_cons_of_mem _ hm)) hy
theorem boxes_len {l : Obs} : ∀ {R : List Nat}, boxes l R = true → (pickObs l R).length = R.length
  | [], _ => rfl
  | o :: r, h => by
    simp only [boxes, List.all_cons, and_t] at h
    obtain ⟨h1, h2⟩ := h
    have ih := boxes_len (l := l) (R := r) h2
    split at h1
    · rename_i x hx
      simp only [pickObs, List.filterMap_cons, hx, Option.map] at ih ⊢
      simp [ih]
    · cases h1
theorem RVs.ren_all {P : Program} {A A' : Nat → Prop} {f : Nat → Nat} : ∀ {vs : List V} {us : List Value}, (∀ v u, (∀ o ∈ v.ids, o ∈ V.idsL vs) → RV P w A g v u → RV P w' A' g' (v.ren f) u) → RVs P w A g vs us → RVs P w' A' g' (V.renL f vs) us
  | [], _, _, h => h
  | v :: r, _, H, h => by
    obtain ⟨u, us', h1, h2, h3⟩ := h
    exact ⟨u, us', h1, H v u (fun o ho => by simp [V.idsL, ho]) h2, RVs.ren_all (fun v u hv => H v u (fun o ho => by simp [V.idsL, hv o ho])) h3⟩
theorem retV_ren {P : Program} {A A' : Nat → Prop} {f : Nat → Nat} {vs : List V} {u : Value} (H : ∀ v u, (∀ o ∈ v.ids, o ∈ V.idsL vs) → RV P w A g v u → RV P w' A' g' (v.ren f) u) (h : retV P w A g vs u) : RV P w' A' g' (match V.renL f vs with
    | [v] => v
    | vs => .tp vs) u := by
  match vs, H, h with
  | [], H, h => exact h
  | [v], H, h => exact H v u (fun o ho => by simp [V.idsL, ho]) h
  | v :: v2 :: r, H, h =>
    obtain ⟨us, h1, h2⟩ := h
    exact ⟨us, h1, RVs.ren_all H h2⟩
theorem plain_RV {P : Program} {A A' : Nat → Prop} {v : V} {u : Value} (hp : v.plain = true) (h : RV P w A g v u) : RV P w' A' g' v u := by
  unfold V.plain at hp
  split at hp <;> first | exact h | cases hp
theorem plain_RVs {P : Program} {A A' : Nat → Prop} : ∀ {vs : List V} {us : List Value}, vs.all V.plain = true → RVs P w A g vs us → RVs P w' A' g' vs us
  | [], _, _, h => h
  | v :: r, _, hp, h => by
    obtain ⟨u, us', h1, h2, h3⟩ := h
    simp only [List.all_cons, and_t] at hp
    exact ⟨u, us', h1, plain_RV hp.1 h2, plain_RVs hp.2 h3⟩
theorem plain_ret {P : Program} {A A' : Nat → Prop} {vs : List V} {u : Value} (hp : vs.all V.plain = true) (h : retV P w A g vs u) : retV P w' A' g' vs u := by
  match vs, hp, h with
  | [], _, h => exact h
  | [v], hp, h => exact plain_RV (by simpa using hp) h
  | v :: v2 :: r, hp, h =>
    obtain ⟨us, h1, h2⟩ := h
    exact ⟨us, h1, plain_RVs hp h2⟩
end
end Go.Proofs.Av
end
section
namespace Go.Proofs.Av
open Go.RowKit
section
variable {C : Ctx} {w w' : World} {g g' : Nat → Value} {s s' : S} {a : Act} {o : Oper} {d : Option Nat} {out : Out} {call : FuncId → List V → Obs → Option Res} {GI : World → Prop}
theorem CallsTo.mono {P : Program} {k : FuncId} {us : Array Value} {R R' : Ending → World → Prop} (h : CallsTo P k us w R) (hr : ∀ e w', R e w' → R' e w') : CallsTo P k us w R' := by
  unfold CallsTo at *
  generalize (callFunc k us).run P w = r at *
  split at h
  · exact Calls.mono h hr
  · exact hr _ _ h
  · exact h.elim
theorem inner_args (h : Inv C w g s a) {args : List V} {us : List Value} (hargs : RVs C.P w (C.Al s.obs g) g args us) {R : List Nat} (hheld : ∀ q ∈ ownerL args, q ∉ R) (hids : ∀ p ∈ V.idsL (V.snapL s.obs args), p ∈ R) :
    RVs C.P w ((inner C w g s (ownerL args) R).Al (mapIds (posOf R 0) (pickObs s.obs R)) (inner C w g s (ownerL args) R).g0) (inner C w g s (ownerL args) R).g0 (V.renL (posOf R 0) (V.snapL s.obs args)) us := by
  refine RVs.ren _ _ (fun p hp => inner_g (hids p hp)) ?_
  refine RVs.snap (held := ownerL args) (fun q e t hq ht => ?_) (fun b hb => inner_Al h hb) args us (fun q hq => hq) hargs
  refine row_im (h.obs q _ ht) (fun b hb => ⟨.inl ⟨(h.own q _ b ht hb).elim (fun h1 => .inr (.inl h1)) (fun h1 => .inr (.inr h1)), ?_⟩, ?_⟩) (fun us hu => Rs.keep (fun b hb _ => ⟨rfl, inner_Al h hb⟩) _ _ hu)
  · rintro ⟨p, x, h3, h4⟩
    obtain ⟨⟨y, hy⟩, h5⟩ := fasts_at (ownerL args) s p h3
    by_cases hpq : p = q
    · subst hpq
      exact h5 hq e t ht
    · exact h.apart p q y _ b hy ht hpq h4 hb
  · intro hm
    obtain ⟨p, x, hp, h3, h4⟩ := inner_Mb hm
    exact h.apart p q x _ b h3 ht (fun e => hheld q hq (e ▸ hp)) h4 hb
/-- A function's contract, in its caller. -/
theorem doCall_ok (h : Inv C w g s a) (hG : Glob C GI) (hS : SoundT C.P GI call) {k : FuncId} {args : List V} {us : Array Value} (hargs : RVs C.P w (C.Al s.obs g) g args us.toList) (hs : doCall call s d k args = some (out, s')) :
    (out = .nx ∨ ∃ v, out = .pn v) ∧ CallsTo C.P k us w fun e w' =>
      (∃ u, e = .returned u ∧ out = .nx ∧ ∃ (s2 : S) (v : V) (g2 : Nat → Value), s' = s2.put d v ∧ Inv C w' g2 s2 a ∧ RV C.P w' (C.Al s2.obs g2) g2 v u) ∨
      (∃ u v g2, e = .panicked [{ v := u, recovered := false }] ∧ out = .pn v ∧ Inv C w' g2 s' a ∧ RV C.P w' (C.Al s'.obs g2) g2 v u) := by
  unfold doCall at hs
  simp only at hs
  generalize hR : reachO s.obs 64 (V.idsL (V.snapL s.obs args)) [] = R at hs
  by_cases hc : ((ownerL args).any (fun o => R.elem o) || !((V.idsL (V.snapL s.obs args)).all fun o => R.elem o) || !((pickObs s.obs R).named.all fun o => R.elem o) || !(boxes s.obs R)) = true
  · rw [hc, cond_true] at hs; cases hs
  · rw [Bool.not_eq_true] at hc
    rw [hc, cond_false] at hs
    simp only [Bool.or_eq_false_iff, Bool.not_eq_false'] at hc
    obtain ⟨⟨⟨c1, c2⟩, c3⟩, c4⟩ := hc
    obtain ⟨r, hr, hs⟩ := Option.bind_eq_some_iff.1 hs
    have hheld : ∀ q ∈ ownerL args, q ∉ R := fun q hq hm => by
      have := List.any_eq_false.1 c1 q hq
      exact this (by simpa using hm)
    have hids : ∀ p ∈ V.idsL (V.snapL s.obs args), p ∈ R := fun p hp => by simpa using List.all_eq_true.1 c2 p hp
    have hsound := hS k _ _ r hr (inner C w g s (ownerL args) R) us rfl (fun w2 hw2 => hG w2 (inner_frame h hw2)) (inner_heap h c3) (inner_args h hargs hheld hids)
    have hlen : (mapIds (posOf R 0) (pickObs s.obs R)).length = R.length := by rw [mapIds, List.length_map, boxes_len c4]
    rw [hlen] at hsound
    have h1 := Inv.fasts h (ownerL args) h
    have hPd : ∀ b, (inner C w g s (ownerL args) R).Pd b → ∃ p x, p ∈ R ∧ obAt (s.fasts (ownerL args)).obs p = some x ∧ blk (g p) = some b := by
      rintro b ⟨p, x, h2, h3, h4⟩
      obtain ⟨y, hy⟩ := fasts_some (ownerL args) s (fun hm => hheld p hm h2) h3
      exact ⟨p, y, h2, hy, h4⟩
    have hg0 : ∀ i p, R[i]? = some p → (inner C w g s (ownerL args) R).g0 i = g p := by
      intro i p hp
      show g (R.getD i 0) = g p
      rw [List.getD, hp]
      rfl
    have main : ∀ e w', Gives (inner C w g s (ownerL args) R) R.length r e w' → (out = .nx ∨ ∃ v, out = .pn v) ∧ ((∃ u, e = .returned u ∧ out = .nx ∧ ∃ (s2 : S) (v : V) (g2 : Nat → Value), s' = s2.put d v ∧ Inv C w' g2 s2 a ∧ RV C.P w' (C.Al s2.obs g2) g2 v u) ∨
      (∃ u v g2, e = .panicked [{ v := u, recovered := false }] ∧ out = .pn v ∧ Inv C w' g2 s' a ∧ RV C.P w' (C.Al s'.obs g2) g2 v u)) := by
      rintro e w' ⟨g'', hlow, hres⟩
      cases r with
      | ret vs l =>
        obtain ⟨hH, u, rfl, hu⟩ := hres
        simp only at hs
        obtain ⟨s2, hs2, hs⟩ := Option.bind_eq_some_iff.1 hs
        obtain ⟨rfl, rfl⟩ := go_eq hs
        refine ⟨.inl rfl, .inl ⟨u, rfl, rfl, s2, (match V.renL (backId R (nid d)) vs with
              | [v] => v
              | vs => .tp vs), ?_⟩⟩
        by_cases hp : (vs.all V.plain && R.isEmpty && l.isEmpty) = true
        · rw [hp, cond_true] at hs2
          simp only [Bool.and_eq_true, List.isEmpty_iff] at hp
          obtain ⟨⟨p1, p2⟩, p3⟩ := hp
          subst p2 p3
          obtain ⟨g2, hi, hv⟩ := back_ok (C' := { inner C w g s (ownerL args) [] with St := fun _ => False }) (g' := g'') h rfl rfl (fun _ hb => hb.elim) (fun b ⟨p, x, h2, _⟩ => by cases h2) hg0 ⟨fun o x ho => (by cases ho), fun o o' x x' b ho => (by cases ho), fun o x b ho => (by cases ho), hH.frame⟩ hlow hs2
          have hu' := plain_ret (w' := w') (A' := ({ inner C w g s (ownerL args) [] with St := fun _ => False } : Ctx).Al [] g'') (g' := g'') p1 hu
          exact ⟨g2, rfl, hi, retV_ren hv hu'⟩
        · rw [Bool.not_eq_true] at hp
          rw [hp, cond_false] at hs2
          obtain ⟨g2, hi, hv⟩ := back_ok (C' := inner C w g s (ownerL args) R) h1 rfl rfl (fun _ hb => hb) hPd hg0 hH hlow hs2
          exact ⟨g2, rfl, hi, retV_ren hv hu⟩
      | pan v l =>
        obtain ⟨hH, u, rfl, hu⟩ := hres
        simp only at hs
        obtain ⟨s2, hs2, hs⟩ := Option.bind_eq_some_iff.1 hs
        simp only [Option.some.injEq, Prod.mk.injEq] at hs
        obtain ⟨rfl, rfl⟩ := hs
        obtain ⟨g2, hi, hv⟩ := back_ok (C' := inner C w g s (ownerL args) R) h1 rfl rfl (fun _ hb => hb) hPd hg0 hH hlow hs2
        exact ⟨.inr ⟨_, rfl⟩, .inr ⟨u, _, g2, rfl, rfl, hi, hv v u (fun o ho => by simp [V.idsL, ho]) hu⟩⟩
    refine ⟨?_, ?_⟩
    · cases r with
      | ret vs l =>
        simp only at hs
        obtain ⟨s2, hs2, hs⟩ := Option.bind_eq_some_iff.1 hs
        exact .inl (go_eq hs).1
      | pan v l =>
        simp only at hs
        obtain ⟨s2, hs2, hs⟩ := Option.bind_eq_some_iff.1 hs
        simp only [Option.some.injEq, Prod.mk.injEq] at hs
        exact .inr ⟨_, hs.1.symm⟩
    · exact CallsTo.mono hsound (fun e w' he => (main e w' he).2)
theorem call_ok (h : Inv C w g s a) (hG : Glob C GI) (hS : SoundT C.P GI call) (hd : ∀ t, d = some t → t < C.nt) (hdd : o.dst = d) {f : Operand} {f' : Opd} {xs : Array Operand} {ts : Array TypeId} {ys : List Opd} (hop : o.op = .call { callee := .value f, args := xs, argTypes := ts })
    (hf : okOpd C.P f f' = true) (hxs : okOpds C.P xs.toList ys = true) (hs : stepO call s d (.call f' ys) = some (out, s')) : StC C w a o out s' := by
  simp only [stepO] at hs
  split at hs
  · rename_i k caps hk
    have ef := ev_ok h hf
    rw [hk] at ef
    obtain ⟨us, e1, e2⟩ := ef
    have hargs := RVs.append (evs_ok h hxs) e2
    have hargs' : RVs C.P w (C.Al s.obs g) g (evs s.env ys ++ caps) (xs.map a.eval ++ us).toList := by simpa using hargs
    obtain ⟨h1, h2⟩ := doCall_ok h hG hS hargs' hs
    intro next Q hn hp
    refine ⟨h1, ?_⟩
    have hrun : (execOp a.eval o).run C.P w = (callFunc k (xs.map a.eval ++ us)).run C.P w := by
      simp [execOp, hop, resolve, e1, Deferred.ofValue, invoke]
    unfold Oper.wp
    rw [hrun]
    unfold CallsTo at h2
    have fin : ∀ u w', (∃ u', Ending.returned u = .returned u' ∧ out = .nx ∧ ∃ (s2 : S) (v : V) (g2 : Nat → Value), s' = s2.put d v ∧ Inv C w' g2 s2 a ∧ RV C.P w' (C.Al s2.obs g2) g2 v u') → next (a.put o.dst u) w' := by
      rintro u w' ⟨u', e, h3, s2, v, g2, rfl, h4, h5⟩
      injection e with e
      subst e
      exact hn h3 _ _ ⟨g2, by rw [hdd]; exact h4.put hd h5⟩
    generalize (callFunc k (xs.map a.eval ++ us)).run C.P w = r at h2 ⊢
    split at h2
    · refine Calls.mono h2 (fun e w' he => ?_)
      rcases he with he | ⟨u, v, g2, rfl, h3, h4, h5⟩
      · obtain ⟨u, rfl, hh⟩ := he
        exact fin u w' ⟨u, rfl, hh⟩
      · exact hp v h3 w' g2 u h4 h5
    · rcases h2 with he | ⟨u, v, g2, e, _⟩
      · obtain ⟨u, e, hh⟩ := he
        exact fin _ _ ⟨u, e, hh⟩
      · cases e
    · exact h2.elim
  · cases hs
end
end Go.Proofs.Av
end
section
namespace Go.Proofs.Av
open Go.RowKit
def chkG (all : Array Oper) (nt : Nat) : Option (Nat × Bool) → Option (Nat × Bool) → Bool
  | none, none => true
  | some (j, b), some (t, c) => b == c && (all[j]?).bind (·.dst) == some t && decide (t < nt)
  | _, _ => false
def chkOps (P : Program) (nt : Nat) (all : Array Oper) : List Oper → List POp → Bool
  | [], [] => true
  | o :: os, p :: ps => o.dst == p.d && (match p.d with
    | some d => decide (d < nt)
    | none => true) && chkG all nt o.guard p.g && chkO P o.op p.op && chkOps P nt all os ps
  | _, _ => false
def OT.node : OT → Bool
  | .done => true
  | .one _ _ => true
  | .br _ => true
  | _ => false
def OT.heads : OT → List Nat
  | .alt i _ r => i :: r.heads
  | _ => []
/-- Operations that look at no world. -/
def POp.al (p : POp) : Bool := match p.op with
  | .mv _ => true
  | .ar _ _ _ _ => true
  | .cm _ _ _ => true
  | .nc _ => true
  | .fa _ _ => true
  | .len _ _ => true
  | .ext _ _ => true
  | _ => false
/-- The tree has all orders of a region. -/
def chkT (ops : Array Oper) (ps : List POp) : OT → Nat → Array Bool → Bool
  | .done, _, l => (Region.ready .any ops l).isEmpty
  | .one i t, n + 1, l => Region.free .any ops l i && (Region.ready .any ops l).contains i && (match ps[i]? with
      | some p => p.al && p.g.isNone
      | none => false) && t.node && chkT ops ps t n (l.setIfInBounds i true)
  | .br t, n, l => !(Region.ready .any ops l).isEmpty && (Region.ready .any ops l).all (fun i => t.heads.contains i) && chkT ops ps t n l
  | .alt i t r, n + 1, l => t.node && chkT ops ps t n (l.setIfInBounds i true) && chkT ops ps r (n + 1) l
  | .stop, _, _ => true
  | _, _, _ => false
def chkC (P : Program) (nt : Nat) : Code → PC → Bool
  | .skip, .sk => true
  | .region _ ops false, .rg ps _ => chkOps P nt ops ops.toList ps
  | .region _ ops true, .rd ps t _ => P.follows .mixedOrders && Region.noSelect ops && chkOps P nt ops ops.toList ps && t.node && chkT ops ps t ops.size (Array.replicate ops.size false)
  | .seq a b, .sq x y => chkC P nt a x && chkC P nt b y
  | .cond c a b, .cd d x y => okOpd P c d && chkC P nt a x && chkC P nt b y
  | .block i a, .bk j x => i == j && chkC P nt a x
  | .loop a, .lp _ own x => (own.all fun y => !y.2.1 || (isU8 P y.2.2 && sizeT P y.2.2 == some 1)) && chkC P nt a x
  | .exit i, .ex j => i == j
  | .ret, .rt => true
  | _, _ => false
section
variable {C : Ctx} {w w' : World} {g g' : Nat → Value} {s s' : S} {a : Act} {o : Oper} {d : Option Nat} {out : Out} {call : FuncId → List V → Obs → Option Res} {loop : PC → S → Option (Out × S)} {GI : World → Prop} {Q : Exit → Act → World → Prop}
/-- What an end of the evaluation gives of the machine's. -/
structure Post (C : Ctx) (Q : Exit → Act → World → Prop) (out : Out) (s' : S) : Prop where
  nx : out = .nx → ∀ a w, InvE C w s' a → Q .normal a w
  ex : ∀ id, out = .ex id → ∀ a w, InvE C w s' a → Q (.exit id) a w
  rt : out = .rt → ∀ a w, InvE C w s' a → Q .ret a w
  pn : ∀ v, out = .pn v → ∀ a w g u, Inv C w g s' a → RV C.P w (C.Al s'.obs g) g v u → Q (.panic [{ v := u, recovered := false }]) a w
theorem andThen_eq {r : Option (Out × S)} {k : S → Option (Out × S)} {q : Out × S} (h : andThen r k = some q) : (∃ s1, r = some (.nx, s1) ∧ k s1 = some q) ∨ (r = some q ∧ q.1 ≠ .nx) := by
  unfold andThen at h
  obtain ⟨⟨x, s1⟩, h1, h2⟩ := Option.bind_eq_some_iff.1 h
  cases x with
  | nx => exact .inl ⟨s1, h1, h2⟩
  | ex id => simp only [Option.some.injEq] at h2; subst h2; exact .inr ⟨h1, by simp⟩
  | rt => simp only [Option.some.injEq] at h2; subst h2; exact .inr ⟨h1, by simp⟩
  | pn v => simp only [Option.some.injEq] at h2; subst h2; exact .inr ⟨h1, by simp⟩
theorem chk_call {P : Program} {op : Op} {f : Opd} {ys : List Opd} (h : chkO P op (.call f ys) = true) : ∃ f0 xs ts, op = .call { callee := .value f0, args := xs, argTypes := ts } ∧ okOpd P f0 f = true ∧ okOpds P xs.toList ys = true := by
  cases op with
  | call c =>
    obtain ⟨callee, args, tys⟩ := c
    cases callee with
    | value f0 =>
      simp only [chkO, and_t] at h
      exact ⟨f0, args, tys, rfl, h.1, h.2⟩
    | builtin b => cases b <;> simp [chkO] at h
    | invoke r n => simp [chkO] at h
  | _ => simp [chkO] at h
theorem chk_pan {P : Program} {op : Op} {x : Opd} : chkO P op (.pan x) = false := by
  cases op with
  | call c =>
    obtain ⟨callee, args, tys⟩ := c
    cases callee with
    | value f0 => rfl
    | builtin b => cases b <;> rfl
    | invoke r n => rfl
  | _ => simp [chkO]
theorem one_ok (h : Inv C w g s a) (hG : Glob C GI) (hS : SoundT C.P GI call) {p : POp} (hd : ∀ t, p.d = some t → t < C.nt) (hdd : o.dst = p.d) (hk : chkO C.P o.op p.op = true) (hs : stepO call s p.d p.op = some (out, s')) : StC C w a o out s' := by
  by_cases hq : p.op.quiet = true
  · exact (step_ok h hd hdd rfl hk hq hs).c
  · cases hp : p.op with
    | call f ys =>
      rw [hp] at hk hs
      obtain ⟨f0, xs, ts, hop, h1, h2⟩ := chk_call hk
      exact call_ok h hG hS hd hdd hop h1 h2 hs
    | pan x =>
      rw [hp, chk_pan] at hk
      cases hk
    | _ => rw [hp] at hq; simp [PO.quiet] at hq
/-- A list of operations. -/
theorem runOps_ok {all : Array Oper} (hG : Glob C GI) (hS : SoundT C.P GI call) : ∀ (os : List Oper) (ps : List POp) (s : S) (a : Act) (w : World), chkOps C.P C.nt all os ps = true → InvE C w s a → runOps call ps s = some (out, s') → Post C Q out s' → wpList C.P all Q os a w
  | [], [], s, a, w, _, h, hr, hp => by
    obtain ⟨rfl, rfl⟩ := go_eq hr
    exact hp.nx rfl a w h
  | o :: os, p :: ps, s, a, w, hk, ⟨g, h⟩, hr, hp => by
    simp only [chkOps, and_t, beq_iff_eq] at hk
    obtain ⟨⟨⟨⟨k1, k2⟩, k3⟩, k4⟩, k5⟩ := hk
    have hd : ∀ t, p.d = some t → t < C.nt := by
      intro t ht
      rw [ht] at k2
      simpa using k2
    have step : (∃ q, andThen (stepO call s p.d p.op) (runOps call ps) = some q ∧ q = (out, s')) → o.wp C.P a w (wpList C.P all Q os) Q := by
      rintro ⟨q, hq, rfl⟩
      rcases andThen_eq hq with ⟨s1, h1, h2⟩ | ⟨h1, h2⟩
      · refine (one_ok h hG hS hd k1 k4 h1 (wpList C.P all Q os) Q ?_ ?_).2
        · intro _ a' w' hi
          exact runOps_ok hG hS os ps s1 a' w' k5 hi h2 hp
        · intro v hv; cases hv
      · have := one_ok h hG hS hd k1 k4 h1 (wpList C.P all Q os) Q (fun e => absurd e h2) (fun v hv w' g u hi hr => hp.pn v hv a w' g u hi hr)
        exact this.2
    simp only [runOps] at hr
    simp only [wpList]
    cases hg : o.guard with
    | none =>
      cases hpg : p.g with
      | some x => rw [hg, hpg] at k3; cases k3
      | none =>
        rw [hpg] at hr
        simp only at hr
        rw [if_pos (by simp [Region.wanted, hg])]
        exact .inl (step ⟨_, hr, rfl⟩)
    | some x =>
      obtain ⟨j, b⟩ := x
      cases hpg : p.g with
      | none => rw [hg, hpg] at k3; cases k3
      | some y =>
        obtain ⟨t, c⟩ := y
        rw [hg, hpg] at k3
        simp only [chkG, and_t, beq_iff_eq, decide_eq_true_eq] at k3
        obtain ⟨⟨rfl, k6⟩, k7⟩ := k3
        rw [hpg] at hr
        simp only at hr
        split at hr
        · rename_i x hx
          have ev := h.env t
          rw [hx] at ev
          have e1 := RV_b ev
          have e2 : yielded all a.tmps j = some x := by
            have hlt : t < a.tmps.size := by rw [h.size]; exact k7
            simp only [Act.eval, Array.getD_eq_getD_getElem?, Array.getElem?_eq_getElem hlt, Option.getD_some] at e1
            simp [yielded, k6, Array.getElem?_eq_getElem hlt, e1]
          by_cases hxb : x = b
          · subst hxb
            simp only [beq_self_eq_true, ifB] at hr
            rw [if_pos (by simp [Region.wanted, hg, e2])]
            exact .inl (step ⟨_, hr, rfl⟩)
          · have e3 : (x == b) = false := beq_false_of_ne hxb
            rw [e3] at hr
            simp only [ifB] at hr
            rw [if_neg (by simp [Region.wanted, hg, e2, hxb])]
            refine runOps_ok hG hS os ps (s.put p.d (.tp [])) _ w k5 ⟨g, ?_⟩ hr hp
            rw [k1]
            exact h.put hd ⟨#[], rfl, rfl⟩
        · rename_i hx
          have ev := h.env t
          rw [hx] at ev
          obtain ⟨us, e1, e0⟩ := ev
          have e00 : us = #[] := by
            apply Array.ext'
            simpa [RVs] using e0
          subst e00
          have e2 : yielded all a.tmps j = none := by
            have hlt : t < a.tmps.size := by rw [h.size]; exact k7
            simp only [Act.eval, Array.getD_eq_getD_getElem?, Array.getElem?_eq_getElem hlt, Option.getD_some] at e1
            simp [yielded, k6, Array.getElem?_eq_getElem hlt, e1]
          rw [if_neg (by simp [Region.wanted, hg, e2])]
          refine runOps_ok hG hS os ps (s.put p.d (.tp [])) _ w k5 ⟨g, ?_⟩ hr hp
          rw [k1]
          exact h.put hd ⟨#[], rfl, rfl⟩
        · cases hr
  | [], _ :: _, _, _, _, hk, _, _, _ => by simp [chkOps] at hk
  | _ :: _, [], _, _, _, hk, _, _, _ => by simp [chkOps] at hk
end
end Go.Proofs.Av
end
