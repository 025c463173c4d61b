/- bytes.Buffer, as the evaluator takes it: sound. -/
import Derived.Test.YtcfjcoglhimdeaaDoorXSound
import Derived.Test.YtcfjcoglhimdeaaDoorXBuf2
set_option linter.unusedSimpArgs false
set_option linter.unusedVariables false
namespace Go.Proofs.Av
open Go.RowKit
set_option linter.unusedVariables false
theorem info5 : (Tryd.prog.info? 5).map (·.size) = some 1 := by kernel_rfl
section
variable {C : Ctx}
/-- What Write leaves. -/
theorem write_end {m k b : Nat} {T : TypeId} {l : List UInt8} {v' : Value} {n : Nat} {w' : World} (hP : C.P = Tryd.prog) (hk : m ≤ k) (hk0 : 0 < k) (hm : 0 < m) (hb0 : C.g0 0 = .pointer (some ⟨b, 0, none⟩)) (hown : C.Pd b ∨ C.w0.heap.size ≤ b)
    (hq : w'.heap[b]? = some (.cells #[v', .int .i64 0, .int .i8 0] T (0, 0))) (hr : w'.ownsRow 0 5 1 v' l.length (l.map byteV)) (hv : v'.ownBlock ≠ some b) (hvo : ∀ k, v'.ownBlock = some k → C.Pd k ∨ C.w0.heap.size ≤ k) (hf : Fr C.w0 w' C.Pd) (hn : n ≤ 1048576) :
    Gives C m (.ret [.im (.i .i64 (n : Int)), .un] [(0, .box [.ow k, .im (.i .i64 0), .im (.i .i8 0)]), (k, .row t_uint8 (.by_ false l))]) (.returned (.tuple #[.int .i64 n, .nilIface])) w' := by
  have hbv : blk v' = v'.ownBlock ∧ ∃ a n c, v' = .slice a n c := by
    rcases hr.2 with ⟨rfl, _⟩ | ⟨g, cap, cur, rfl, _⟩
    · exact ⟨rfl, _, _, _, rfl⟩
    · exact ⟨rfl, _, _, _, rfl⟩
  have hkk : (k == 0) = false := by simp; omega
  refine ⟨fun i => if i = k then v' else C.g0 i, fun i hi => if_neg (by omega), ?_, .tuple #[.int .i64 n, .nilIface], rfl, ?_⟩
  · have g0' : (if 0 = k then v' else C.g0 0) = .pointer (some ⟨b, 0, none⟩) := by rw [if_neg (by omega)]; exact hb0
    have obs_cases : ∀ o x, obAt [(0, .box [.ow k, .im (.i .i64 0), .im (.i .i8 0)]), (k, .row t_uint8 (.by_ false l))] o = some x → (o = 0 ∧ x = .box [.ow k, .im (.i .i64 0), .im (.i .i8 0)]) ∨ (o = k ∧ x = .row t_uint8 (.by_ false l)) := by
      intro o x h
      simp only [obAt] at h
      by_cases h0 : o = 0
      · subst h0
        simp only [beq_self_eq_true, cond_true, Option.some.injEq] at h
        exact .inl ⟨rfl, h.symm⟩
      · have e0 : (0 == o) = false := by simp; omega
        rw [e0, cond_false] at h
        by_cases h1 : k = o
        · subst h1
          simp only [beq_self_eq_true, cond_true, Option.some.injEq] at h
          exact .inr ⟨rfl, h.symm⟩
        · have e1 : (k == o) = false := by simpa using h1
          rw [e1, cond_false] at h
          cases h
    refine ⟨fun o x h => ?_, fun o o' x x' bb h h' hne hb => ?_, fun o x bb h hb => ?_, hf⟩
    · rcases obs_cases o x h with ⟨rfl, rfl⟩ | ⟨rfl, rfl⟩
      · refine ⟨b, _, T, g0', hq, ?_⟩
        refine ⟨v', _, rfl, ⟨by simp, hbv.2⟩, _, _, rfl, mk_i (by decide) (by decide), _, _, rfl, mk_i (by decide) (by decide), rfl⟩
      · refine ⟨l.length, l.map byteV, 1, by
          show w'.ownsRow 0 5 1 (if o = o then v' else C.g0 o) l.length (l.map byteV)
          rw [if_pos rfl]
          exact hr, by omega, by rw [hP]; exact info5, rfl, Rs.bytes l, rfl, rfl, by rw [hP]; exact Tryd.underlying5⟩
    · rcases obs_cases o x h with ⟨rfl, rfl⟩ | ⟨rfl, rfl⟩ <;> rcases obs_cases o' x' h' with ⟨rfl, rfl⟩ | ⟨rfl, rfl⟩
      · exact absurd rfl hne
      · simp only [g0', blk, Option.some.injEq] at hb
        subst hb
        simp only [if_true, hbv.1]
        exact hv
      · simp only [if_true, hbv.1] at hb
        intro e
        simp only [g0', blk, Option.some.injEq] at e
        subst e
        exact hv hb
      · exact absurd rfl hne
    · rcases obs_cases o x h with ⟨rfl, rfl⟩ | ⟨rfl, rfl⟩
      · simp only [g0', blk, Option.some.injEq] at hb
        subst hb
        exact hown
      · simp only [if_true, hbv.1] at hb
        exact hvo bb hb
  · exact ret2 (mk_i (by simp only [IntKind.min, IntKind.signed, IntKind.bits, if_true]; omega) (by simp only [IntKind.max, IntKind.signed, IntKind.bits, if_true]; omega)) trivial
theorem box3 {P : Program} {w : World} {A : Nat → Prop} {g : Nat → Value} {v1 v2 v3 : V} {us : Array Value} (h : RVs P w A g [v1, v2, v3] us.toList) : ∃ u1 u2 u3, us = #[u1, u2, u3] ∧ RV P w A g v1 u1 ∧ RV P w A g v2 u2 ∧ RV P w A g v3 u3 := by
  obtain ⟨u1, us1, e, h1, u2, us2, rfl, h2, u3, us3, rfl, h3, h4⟩ := h
  simp only [RVs] at h4
  subst h4
  refine ⟨u1, u2, u3, ?_, h1, h2, h3⟩
  have := congrArg List.toArray e
  simpa using this
/-- Write's call, whatever stands in the buffer. -/
theorem write_call {b : Nat} {T : TypeId} {v : Value} {x l : List UInt8} {a : Option Addr} {c : Nat} {w : World} {A : Nat → Prop} (hbk : w.heap[b]? = some (.cells #[v, .int .i64 0, .int .i8 0] T (0, 0))) (hr : w.ownsRow 0 5 1 v l.length (l.map byteV)) (hv : v.ownBlock ≠ some b)
    (hx : x.length ≤ 1048576) (hl : l.length ≤ 67108864) (hc : Cells w A a (x.map byteV)) (hab : ¬ A b) :
    Calls Tryd.prog 41 #[.pointer (some ⟨b, 0, none⟩), .slice a x.length c] w fun e w' => e = .returned (.tuple #[.int .i64 x.length, .nilIface]) ∧ ∃ v', w'.heap[b]? = some (.cells #[v', .int .i64 0, .int .i8 0] T (0, 0)) ∧ w'.ownsRow 0 5 1 v' (l ++ x).length ((l ++ x).map byteV) ∧ v'.ownBlock ≠ some b ∧
      (∀ k, v'.ownBlock = some k → v.ownBlock = some k ∨ w.heap.size ≤ k) ∧ Lib.But w w' (fun k => k = b ∨ v.ownBlock = some k) := by
  by_cases h0 : x = []
  · subst h0
    obtain ⟨ao, n, cap, rfl, hnc, hcm⟩ : ∃ ao n cap, v = .slice ao n cap ∧ n ≤ cap ∧ cap ≤ Go.maxLen := by
      rcases hr.2 with ⟨rfl, _⟩ | ⟨g, cap, cur, rfl, _, _, h1, h2, _⟩
      · exact ⟨_, _, _, rfl, Nat.le_refl _, by simp⟩
      · exact ⟨_, _, _, rfl, h1, h2⟩
    refine (Any.Write_empty Tryd.laysM180 T b n cap c 0 ao a w hbk hnc hcm).mono ?_
    rintro e w' ⟨rfl, hq, hg⟩
    refine ⟨rfl, .slice ao n cap, hq, ?_, hv, fun k hk => .inl hk, (Lib.But.of_grown hg).mono fun k hk => .inl hk⟩
    rw [List.append_nil]
    exact hr.kept hg (by
      cases ao with
      | none => exact .inl rfl
      | some ad => exact .inr hv)
  · have hlen : 1 ≤ x.length := List.length_pos_iff.2 h0
    rcases hc with hc | ⟨ad, rfl, hA, hcell⟩
    · exact absurd (by simpa using hc) h0
    · have one : ∀ (l : List UInt8), ∀ u ∈ l.map byteV, u.oneCell' = true := by
        intro l u hu
        obtain ⟨y, _, rfl⟩ := List.mem_map.1 hu
        rfl
      have hadb : ad.block ≠ b := fun e => hab (e ▸ hA)
      have hll : (l.map byteV).length = l.length := List.length_map ..
      have := Any.Write_some Tryd.laysM180 T b x.length c 0 v (l.map byteV) (x.map byteV) ad w hbk (by rw [hll]; exact hr) hv (one l) (List.length_map ..) hlen hadb hcell (one x) (by rw [hll]; omega)
      refine this.mono ?_
      rintro e w' ⟨rfl, hbuf, N, cap, hq, hNb, hN, hbut⟩
      obtain ⟨-, v2, lr, hbk2, hown2, -⟩ := hbuf
      unfold Lib.BufAt at hq
      rw [hq] at hbk2
      simp only [Option.some.injEq, Obj.cells.injEq, Array.mk.injEq, List.cons.injEq, and_true] at hbk2
      have e2 := hbk2.1
      subst e2
      refine ⟨rfl, _, hq, ?_, by simpa [Value.ownBlock] using hNb, fun k hk => ?_, hbut⟩
      · rw [List.map_append]
        have e4 : (l ++ x).length = (l.map byteV ++ x.map byteV).length := by simp
        rw [e4]
        exact hown2
      · simp only [Value.ownBlock, Option.some.injEq] at hk
        subst hk
        exact hN
theorem s_Write : SoundL f_bytes_Buffer_Write l_Write := by
  intro args l r h
  unfold l_Write at h
  split at h
  · rename_i z x
    obtain ⟨hs, h⟩ := ifB_some h
    simp only [decide_eq_true_eq] at hs
    simp only [Option.some.injEq] at h
    subst h
    intro C us hP hG hH hargs
    obtain ⟨u, u2, rfl, hu, hu2⟩ := two_args hargs
    obtain ⟨a, c, rfl, h1, h2, h3, h4, h5⟩ := by_in hu2
    obtain ⟨b, ub, T, hg0, hbk, hub⟩ := hH.obs 0 _ rfl
    obtain ⟨v, u2, u3, rfl, e1, e2, e3⟩ := box3 hub
    obtain ⟨rfl, -⟩ := RV_i e2
    obtain ⟨rfl, -⟩ := RV_i e3
    obtain ⟨av, cv, rfl, -, -, hz, -⟩ := RV_by e1
    obtain ⟨rfl, rfl⟩ := hz rfl
    obtain ⟨b', hb', rfl⟩ := hu
    have : b' = b := by rw [hg0] at hb'; simpa using hb'.symm
    subst this
    have hown := hH.own 0 _ b' rfl (by rw [hg0]; rfl)
    have hab : ¬ C.Al [(0, .box [.im (.by_ true []), .im (.i .i64 0), .im (.i .i8 0)])] C.g0 b' := fun hA => hA.2 ⟨0, _, rfl, by rw [hg0]; rfl⟩
    refine callsTo_of (by kernel_rfl) ((write_call (l := []) (c := c) hbk (World.ownsRow_nil _ _ _ _) (by simp [Value.ownBlock]) hs (by simp) h4 hab).mono ?_)
    rintro e w' ⟨rfl, v', hq, hr, hv, hvo, hbut⟩
    refine write_end hP (by simp) (by omega) (by simp) hg0 hown hq (by simpa using hr) hv (fun k hk => ?_) ⟨hbut.os, hbut.tape, hbut.output, hbut.size, fun k hk hn => hbut.block k hk ?_⟩ hs
    · rcases hvo k hk with e | e
      · simp [Value.ownBlock] at e
      · exact .inr e
    · rintro (rfl | e)
      · rcases hown with e | e
        · exact hn e
        · omega
      · simp [Value.ownBlock] at e
  · rename_i z x e l
    obtain ⟨hs, h9⟩ := ifB_some h
    clear h
    simp only [Bool.and_eq_true, decide_eq_true_eq, beq_iff_eq] at hs
    obtain ⟨⟨he, hs⟩, hl⟩ := hs
    subst he
    have h9 := Option.some.inj h9
    subst h9
    intro C us hP hG hH hargs
    obtain ⟨u, u2, rfl, hu, hu2⟩ := two_args hargs
    obtain ⟨a, c, rfl, h1, h2, h3, h4, h5⟩ := by_in hu2
    obtain ⟨b, ub, T, hg0, hbk, hub⟩ := hH.obs 0 _ rfl
    obtain ⟨v, u2, u3, rfl, e1, e2, e3⟩ := box3 hub
    obtain ⟨rfl, -⟩ := RV_i e2
    obtain ⟨rfl, -⟩ := RV_i e3
    obtain ⟨rfl, -⟩ := e1
    obtain ⟨b', hb', rfl⟩ := hu
    have : b' = b := by rw [hg0] at hb'; simpa using hb'.symm
    subst this
    have hown := hH.own 0 _ b' rfl (by rw [hg0]; rfl)
    obtain ⟨n, us, sz, r1, r2, r3, r4, r5, r6, r7, r8⟩ := hH.obs 1 _ rfl
    simp only [tlen, Option.some.injEq] at r4
    subst r4
    have := Rs.bytes_eq r5
    subst this
    subst r7
    have hbv : blk (C.g0 1) = (C.g0 1).ownBlock := by
      rcases r1.2 with ⟨e, _⟩ | ⟨g, cap, cur, e, _⟩ <;> rw [e] <;> rfl
    have hv : (C.g0 1).ownBlock ≠ some b' := by
      rw [← hbv]
      exact hH.apart 0 1 _ _ b' rfl rfl (by omega) (by rw [hg0]; rfl)
    have hown1 : ∀ k, (C.g0 1).ownBlock = some k → C.Pd k ∨ C.w0.heap.size ≤ k := fun k hk => hH.own 1 _ k rfl (by rw [hbv]; exact hk)
    have hab : ¬ C.Al [(0, .box [.ow 1, .im (.i .i64 0), .im (.i .i8 0)]), (1, .row t_uint8 (.by_ false l))] C.g0 b' := fun hA => hA.2 ⟨0, _, rfl, by rw [hg0]; rfl⟩
    refine callsTo_of (by kernel_rfl) ((write_call (c := c) hbk r1 hv hs hl h4 hab).mono ?_)
    rintro e w' ⟨rfl, v', hq, hr, hv', hvo, hbut⟩
    refine write_end hP (by simp) (by omega) (by simp) hg0 hown hq hr hv' (fun k hk => ?_) ⟨hbut.os, hbut.tape, hbut.output, hbut.size, fun k hk hn => hbut.block k hk ?_⟩ hs
    · rcases hvo k hk with e | e
      · exact hown1 k e
      · exact .inr e
    · rintro (rfl | e)
      · rcases hown with e | e
        · exact hn e
        · omega
      · rcases hown1 k e with e | e
        · exact hn e
        · omega
  · cases h
theorem s_String : SoundL f_bytes_Buffer_String l_String := by
  intro args l r h
  unfold l_String at h
  split at h
  · rename_i e l
    obtain ⟨hs, h9⟩ := ifB_some h
    clear h
    simp only [Bool.and_eq_true, decide_eq_true_eq, beq_iff_eq] at hs
    obtain ⟨he, hl⟩ := hs
    subst he
    have h9 := Option.some.inj h9
    subst h9
    intro C us hP hG hH hargs
    obtain ⟨u, rfl, hu⟩ := one_arg hargs
    obtain ⟨b, ub, T, hg0, hbk, hub⟩ := hH.obs 0 _ rfl
    obtain ⟨v, u2, u3, rfl, e1, e2, e3⟩ := box3 hub
    obtain ⟨rfl, -⟩ := RV_i e2
    obtain ⟨rfl, -⟩ := RV_i e3
    obtain ⟨rfl, -⟩ := e1
    obtain ⟨b', hb', rfl⟩ := hu
    have : b' = b := by rw [hg0] at hb'; simpa using hb'.symm
    subst this
    obtain ⟨n, us, sz, r1, r2, r3, r4, r5, r6, r7, r8⟩ := hH.obs 1 _ rfl
    simp only [tlen, Option.some.injEq] at r4
    subst r4
    have := Rs.bytes_eq r5
    subst this
    subst r7
    have hbv : blk (C.g0 1) = (C.g0 1).ownBlock := by
      rcases r1.2 with ⟨e, _⟩ | ⟨g, cap, cur, e, _⟩ <;> rw [e] <;> rfl
    have hv : (C.g0 1).ownBlock ≠ some b' := by
      rw [← hbv]
      exact hH.apart 0 1 _ _ b' rfl rfl (by omega) (by rw [hg0]; rfl)
    have hbuf : LibA.IsBuffer T (fun _ => none) 5 0 b' 0 (Lib.byteCells l) C.w0 := ⟨Nat.zero_le _, C.g0 1, 0, LibA.three_whole hbk, by
      have e : (Lib.byteCells l).length = l.length := Lib.byteCells_length l
      rw [e]
      exact r1, hv⟩
    refine callsTo_of (by kernel_rfl) ((Any.Buffer_String_at Tryd.laysM182 T (fun _ => none) 0 b' 0 l C.w0 hbuf).mono ?_)
    rintro e w' ⟨rfl, q, rfl⟩
    have hbl := drewN_below C.w0 q
    refine ⟨C.g0, fun _ _ => rfl, ⟨fun o x h => ?_, hH.apart, hH.own, fr_below hbl _⟩, _, rfl, ret1 (mk_s (by unfold Go.maxLen; omega))⟩
    exact RO.keep (w := C.w0) (fun b hA _ => ⟨rfl, hA⟩) (fun b _ => rfl) (fun _ _ => rfl) rfl (hH.obs o x h)
  · cases h
end
end Go.Proofs.Av
