/- (*bytes.Buffer).Write: with a whole frame. -/
import Derived.Test.YtcfjcoglhimdeaaDoorXBuf
set_option linter.unusedSimpArgs false
set_option linter.unusedVariables false
namespace Go.Proofs
open Go.Shelf Go.RowKit
variable {P : Program} {ρ : Ren}
/-- Nothing of old turns but the blocks named. -/
structure Lib.But (w w' : World) (A : Nat → Prop) : Prop where
  os : w'.os = w.os
  tape : w'.tape = w.tape
  output : w'.output = w.output
  size : w.heap.size ≤ w'.heap.size
  block : ∀ k, k < w.heap.size → ¬ A k → w'.heap[k]? = w.heap[k]?
theorem Lib.But.of_grown {w w' : World} {b : Nat} (h : w.grownBy w' (some b)) : Lib.But w w' (fun k => k = b) := ⟨h.os, h.tape, h.output, h.size, fun k hk hn => h.block k hk (fun e => hn (Option.some.inj e))⟩
theorem Lib.But.mono {w w' : World} {A B : Nat → Prop} (h : Lib.But w w' A) (hab : ∀ k, A k → B k) : Lib.But w w' B := ⟨h.os, h.tape, h.output, h.size, fun k hk hn => h.block k hk (fun e => hn (hab k e))⟩
theorem Lib.But.setRow {w w' : World} {A : Nat → Prop} (h : Lib.But w w' A) (g : Nat) (cs : Array Value) : Lib.But w (w'.setRow g cs) (fun k => A k ∨ k = g) :=
  ⟨h.os, h.tape, h.output, by simpa [World.setRow] using h.size, fun k hk hn => (setRow_other _ _ _ _ (fun e => hn (.inr e))).trans (h.block k hk (fun e => hn (.inl e)))⟩
/-- What Write leaves at a p of some bytes. -/
structure Lib.Wrote (b : Nat) (T e : TypeId) (v : Value) (bs : List Value) (w w' : World) : Prop where
  buf : Lib.IsBuffer T e 0 b bs w'
  row : ∃ N cap, Lib.BufAt b T 0 (.slice (some ⟨N, 0, none⟩) bs.length cap) w' ∧ N ≠ b ∧ (v.ownBlock = some N ∨ w.heap.size ≤ N) ∧ Lib.But w w' (fun k => k = b ∨ v.ownBlock = some k)
theorem Lib.Wrote.mk' {b N l n cap : Nat} {T e : TypeId} {v : Value} {cur : Array Value} {bs news : List Value} {w W : World} (hbk : W.heap[b]? = some (.cells #[.slice (some ⟨N, 0, none⟩) (l + n) cap, .int .i64 0, .int .i8 0] T (0, 0))) (hN : W.heap[N]? = some (.cells cur e (0, 0)))
    (hn : news.length = n) (hcm : cap ≤ maxLen) (hcs : cur.size = cap) (hNb : N ≠ b) (hcap : l + n ≤ cap) (hl : bs.length = l) (ht : cur.toList.take l = bs) (hv : v.ownBlock = some N ∨ w.heap.size ≤ N) (hg : w.grownBy W (some b)) :
    Lib.Wrote b T e v (bs ++ news) w (W.setRow N (bs ++ news ++ cur.toList.drop (l + n)).toArray) := by
  subst hn
  obtain ⟨r1, -⟩ := Lib.written_end (B := 0) (news := news) (l := l) (Nat.zero_le _) hbk (Nat.zero_le _) hN hcm hcs hNb hcap
  rw [ht] at r1
  refine ⟨r1, N, cap, ?_, hNb, hv, ?_⟩
  · unfold Lib.BufAt
    rw [setRow_other _ _ _ _ (Ne.symm hNb), hbk, List.length_append, hl]
  · refine ⟨hg.os, hg.tape, hg.output, by simpa [World.setRow] using hg.size, fun k hk hk2 => ?_⟩
    have hkb : k ≠ b := fun e => hk2 (.inl e)
    have hkN : k ≠ N := by
      rintro rfl
      rcases hv with hv | hv
      · exact hk2 (.inr hv)
      · omega
    rw [setRow_other _ _ _ _ hkN]
    exact hg.block k hk (fun e => hkb (Option.some.inj e))
set_option maxHeartbeats 6400000
set_option maxRecDepth 100000
theorem Any.Write_empty (L : LaysM.n180 P ρ) (T : TypeId) (b l cap c : Nat) (lr : Int) (ao ap : Option Addr) (w : World) (hbk : w.heap[b]? = some (.cells #[.slice ao l cap, .int .i64 0, .int .i8 lr] T (0, 0))) (hlc : l ≤ cap) (hcm : cap ≤ maxLen) :
    Calls P (ρ.f 180) #[.pointer (some ⟨b, 0, none⟩), .slice ap 0 c] w fun e w' => e = .returned (.tuple #[.int .i64 (0 : Nat), .nilIface]) ∧ Lib.BufAt b T 0 (.slice ao l cap) w' ∧ w.grownBy w' (some b) := by
  have mixed := L.mixed
  have t5 := L.t5; have a5 := L.a5; have z5 := L.z5; have v5 := L.v5; have t130 := L.t130; have a130 := L.a130; have z130 := L.z130; have v130 := L.v130; have t37 := L.t37; have a37 := L.a37; have z37 := L.z37; have v37 := L.v37; have t3 := L.t3; have a3 := L.a3; have z3 := L.z3; have v3 := L.v3; have t75 := L.t75; have a75 := L.a75; have z75 := L.z75; have v75 := L.v75; have t0 := L.t0; have a0 := L.a0; have z0 := L.z0; have v0 := L.v0; have t93 := L.t93; have u93 := run_underlying L.t93; have a93 := L.a93; have z93 := L.z93; have v93 := L.v93; have t91 := L.t91; have a91 := L.a91; have z91 := L.z91; have v91 := L.v91; have t131 := L.t131; have a131 := L.a131; have z131 := L.z131; have v131 := L.v131; have t4 := L.t4; have a4 := L.a4; have z4 := L.z4; have v4 := L.v4
  have e251 : ∀ args w, (callFunc (ρ.f 251) args).run P w = .ok (.enter (ρ.f 251) args) w := enters_of L.f251 (by kernel_rfl) rfl
  have e252 : ∀ args w, (callFunc (ρ.f 252) args).run P w = .ok (.enter (ρ.f 252) args) w := enters_of L.f252 (by kernel_rfl) rfl
  have c2 : w.cell? ⟨b, 2, none⟩ = some (.int .i8 lr) := by rw [Lib.cell_of_heap hbk]; rfl
  have f2 : w.frozen? ⟨b, 2, none⟩ = false := Lib.frozen_of_heap hbk 2
  have hb1 := Lib.heap_setCell_same (i := 2) hbk (.int .i8 0)
  have hb1' : (w.setCell ⟨b, 2, none⟩ (.int .i8 0)).heap[b]? = some (.cells #[.slice ao l cap, .int .i64 0, .int .i8 0] T (0, 0)) := hb1
  have hg0 : w.grownBy (w.setCell ⟨b, 2, none⟩ (.int .i8 0)) (some b) := Lib.grownBy_setCell w b 2 _
  clear hb1
  have hinfo : (P.info? (ρ.t 5)).map (·.size) = some 1 := by
    obtain ⟨i0, hi, -, hz1, -⟩ := info_parts L.i5
    rw [hi]; simp [hz1]
  have hce : ∀ d dLen dCap W, (Builtin.copy_ #[(ρ.t 37), (ρ.t 37)] (ρ.t 3) #[.slice d dLen dCap, .slice ap 0 c]).run P W = .ok (goInt 0) W := fun d dLen dCap W => run_copy_none W (ρ.t 37) (ρ.t 37) (ρ.t 3) (ρ.t 5) d ap dLen dCap 0 c L.t37 hinfo (by simp)
  have hT : ∀ W, W.heap[b]? = some (.cells #[.slice ao l cap, .int .i64 0, .int .i8 0] T (0, 0)) → Calls P (ρ.f 251) #[.pointer (some ⟨b, 0, none⟩), .int .i64 0] W _ := fun W hW => Any.Buffer_tryGrow_room { L with } b ao l cap 0 W (by rw [Lib.cell_of_heap hW]; rfl) (Lib.frozen_of_heap hW 0) hlc hcm (Nat.zero_le _)
  go_enter L.f180, Body.n180_ntmps ρ
  go_wp2_with (go_at_fn (ρ.f 251); refine (hT _ ?_).mono ?_)
  · exact hb1'
  rintro e W1 ⟨rfl, rfl⟩
  clear c2 f2 hT
  have hbk2 := Lib.heap_setCell_same (i := 0) hb1' (.slice ao (l + 0) cap)
  have hg1 := Lib.grownBy_setB hg0 0 (.slice ao (l + 0) cap)
  generalize (w.setCell ⟨b, 2, none⟩ (.int .i8 0)).setCell ⟨b, 0, none⟩ (.slice ao (l + 0) cap) = W1 at hbk2 hg1 ⊢
  have hbk3 : W1.heap[b]? = some (.cells #[.slice ao l cap, .int .i64 0, .int .i8 0] T (0, 0)) := hbk2
  have d0 : W1.cell? ⟨b, 0, none⟩ = some (.slice ao l cap) := by rw [Lib.cell_of_heap hbk3]; rfl
  unfold maxLen at hcm
  go_wp2
  all_goals (
    go_ret2
    refine ⟨by simp, ?_, hg1⟩
    unfold Lib.BufAt
    first
      | exact hbk3
      | (subst_vars; exact hbk3)
      | (rw [hbk3]; simp only [*])
      | trace_state)
theorem Any.Write_some (L : LaysM.n180 P ρ) (T : TypeId) (b n c : Nat) (lr : Int) (v : Value) (bs cs : List Value) (a : Addr) (w : World) (hbk : w.heap[b]? = some (.cells #[v, .int .i64 0, .int .i8 lr] T (0, 0))) (hown : w.ownsRow 0 (ρ.t 5) 1 v bs.length bs) (hvb : v.ownBlock ≠ some b)
    (h1 : ∀ v ∈ bs, v.oneCell' = true) (hn : cs.length = n) (hn0 : 1 ≤ n) (hab : a.block ≠ b) (hsrc : ∀ j v, cs[j]? = some v → w.cell? (a.add j) = some v) (h1c : ∀ v ∈ cs, v.oneCell' = true) (hlim : bs.length + n ≤ 140737488355328) :
    Calls P (ρ.f 180) #[.pointer (some ⟨b, 0, none⟩), .slice (some a) n c] w fun e w' => e = .returned (.tuple #[.int .i64 n, .nilIface]) ∧ Lib.Wrote b T (ρ.t 5) v (bs ++ cs) w w' := by
  have mixed := L.mixed
  have t5 := L.t5; have a5 := L.a5; have z5 := L.z5; have v5 := L.v5; have t130 := L.t130; have a130 := L.a130; have z130 := L.z130; have v130 := L.v130; have t37 := L.t37; have a37 := L.a37; have z37 := L.z37; have v37 := L.v37; have t3 := L.t3; have a3 := L.a3; have z3 := L.z3; have v3 := L.v3; have t75 := L.t75; have a75 := L.a75; have z75 := L.z75; have v75 := L.v75; have t0 := L.t0; have a0 := L.a0; have z0 := L.z0; have v0 := L.v0; have t93 := L.t93; have u93 := run_underlying L.t93; have a93 := L.a93; have z93 := L.z93; have v93 := L.v93; have t91 := L.t91; have a91 := L.a91; have z91 := L.z91; have v91 := L.v91; have t131 := L.t131; have a131 := L.a131; have z131 := L.z131; have v131 := L.v131; have t4 := L.t4; have a4 := L.a4; have z4 := L.z4; have v4 := L.v4
  have e251 : ∀ args w, (callFunc (ρ.f 251) args).run P w = .ok (.enter (ρ.f 251) args) w := enters_of L.f251 (by kernel_rfl) rfl
  have e252 : ∀ args w, (callFunc (ρ.f 252) args).run P w = .ok (.enter (ρ.f 252) args) w := enters_of L.f252 (by kernel_rfl) rfl
  have hinfo : (P.info? (ρ.t 5)).map (·.size) = some 1 := by
    obtain ⟨i0, hi, -, hz1, -⟩ := info_parts L.i5
    rw [hi]; simp [hz1]
  have c2 : w.cell? ⟨b, 2, none⟩ = some (.int .i8 lr) := by rw [Lib.cell_of_heap hbk]; rfl
  have f2 : w.frozen? ⟨b, 2, none⟩ = false := Lib.frozen_of_heap hbk 2
  have hb1 := Lib.heap_setCell_same (i := 2) hbk (.int .i8 0)
  have hb1' : (w.setCell ⟨b, 2, none⟩ (.int .i8 0)).heap[b]? = some (.cells #[v, .int .i64 0, .int .i8 0] T (0, 0)) := hb1
  have hg0 : w.grownBy (w.setCell ⟨b, 2, none⟩ (.int .i8 0)) (some b) := Lib.grownBy_setCell w b 2 _
  have hsz0 : (w.setCell ⟨b, 2, none⟩ (.int .i8 0)).heap.size = w.heap.size := by simp [World.setCell]
  clear hb1
  -- what tryGrowByReslice does, then grow: a world W1 that holds the row with room
  have hgrow : (∃ g cap cur, v = .slice (some ⟨g, 0, none⟩) bs.length cap ∧ n ≤ cap - bs.length ∧ bs.length ≤ cap ∧ cap ≤ maxLen ∧ cur.size = cap ∧ cur.toList.take bs.length = bs ∧ g ≠ b ∧ w.heap[g]? = some (.cells cur (ρ.t 5) (0, 0))) ∨
      ((∀ W, W.heap[b]? = some (.cells #[v, .int .i64 0, .int .i8 0] T (0, 0)) → Calls P (ρ.f 251) #[.pointer (some ⟨b, 0, none⟩), .int .i64 n] W fun e w' => e = .returned (.tuple #[.int .i64 0, .bool false]) ∧ w' = W) ∧
       (∀ W, W.heap[b]? = some (.cells #[v, .int .i64 0, .int .i8 0] T (0, 0)) → (∀ g, v.ownBlock = some g → W.heap[g]? = w.heap[g]?) → Calls P (ρ.f 252) #[.pointer (some ⟨b, 0, none⟩), .int .i64 n] W fun e w' => e = .returned (.int .i64 bs.length) ∧ Lib.Grown b T (ρ.t 5) 0 bs.length n bs W w')) := by
    rcases hown.2 with ⟨rfl, h0⟩ | ⟨g, cap, cur, rfl, -, hg, hnc, hcm, hcs, htk⟩
    · have hbs : bs = [] := List.eq_nil_of_length_eq_zero h0
      subst hbs
      refine .inr ⟨fun W hW => Any.Buffer_tryGrow_none { L with } b none 0 0 n W (by rw [Lib.cell_of_heap hW]; rfl) (Nat.le_refl _) (Nat.zero_le _) (by omega), fun W hW _ => ?_⟩
      by_cases h64 : n ≤ 64
      · exact Any.grow_nil_small { L with } T b n 0 W hW hn0 h64
      · exact Any.grow_nil_big { L with } T b n 0 W hW (by omega) (by simpa using hlim)
    · have hgb : g ≠ b := fun e => hvb (by simp [Value.ownBlock, e])
      rw [Nat.mul_one] at hcs htk
      by_cases hr : n ≤ cap - bs.length
      · exact .inl ⟨g, cap, cur, rfl, hr, hnc, hcm, hcs, htk, hgb, hg⟩
      · refine .inr ⟨fun W hW => Any.Buffer_tryGrow_none { L with } b _ bs.length cap n W (by rw [Lib.cell_of_heap hW]; rfl) hnc hcm (by omega), fun W hW hk => ?_⟩
        have hgW := (hk g rfl).trans hg
        rcases Nat.eq_zero_or_pos bs.length with h0 | h0
        · have := Any.grow_row0 { L with } T b g cap n 0 cur bs W (by rw [h0] at hW; exact hW) h0 hgW (Nat.zero_le _) hcm hcs (by rw [h0] at htk; exact htk) hgb h1 hn0 (by omega) (by omega)
          rw [h0]
          exact this
        · exact Any.grow_row1 { L with } T b g bs.length cap n 0 cur bs W hW rfl hgW hnc hcm hcs htk hgb h1 hn0 (by omega) hlim h0
  rcases hgrow with ⟨g, cap, cur, rfl, hr, hnc, hcm, hcs, htk, hgb, hg⟩ | ⟨hT, hG⟩
  · have hT : ∀ W, W.heap[b]? = some (.cells #[.slice (some ⟨g, 0, none⟩) bs.length cap, .int .i64 0, .int .i8 0] T (0, 0)) → Calls P (ρ.f 251) #[.pointer (some ⟨b, 0, none⟩), .int .i64 n] W _ := fun W hW => Any.Buffer_tryGrow_room { L with } b _ bs.length cap n W (by rw [Lib.cell_of_heap hW]; rfl) (Lib.frozen_of_heap hW 0) hnc hcm hr
    go_enter L.f180, Body.n180_ntmps ρ
    go_wp2_with (go_at_fn (ρ.f 251); refine (hT _ ?_).mono ?_)
    · exact hb1'
    rintro e W1 ⟨rfl, rfl⟩
    have hbk2 := Lib.heap_setCell_same (i := 0) hb1' (.slice (some ⟨g, 0, none⟩) (bs.length + n) cap)
    have hgW := Lib.grownBy_setB hg0 0 (.slice (some ⟨g, 0, none⟩) (bs.length + n) cap)
    have hg2 : ((w.setCell ⟨b, 2, none⟩ (.int .i8 0)).setCell ⟨b, 0, none⟩ (.slice (some ⟨g, 0, none⟩) (bs.length + n) cap)).heap[g]? = some (.cells cur (ρ.t 5) (0, 0)) := by
      rw [Below.heap_setCell _ _ _ _ hgb, Below.heap_setCell _ _ _ _ hgb]
      exact hg
    clear c2 f2 hT hb1'
    generalize (w.setCell ⟨b, 2, none⟩ (.int .i8 0)).setCell ⟨b, 0, none⟩ (.slice (some ⟨g, 0, none⟩) (bs.length + n) cap) = W1 at hbk2 hgW hg2 ⊢
    have hbk3 : W1.heap[b]? = some (.cells #[.slice (some ⟨g, 0, none⟩) (bs.length + n) cap, .int .i64 0, .int .i8 0] T (0, 0)) := hbk2
    have d0 : W1.cell? ⟨b, 0, none⟩ = some (.slice (some ⟨g, 0, none⟩) (bs.length + n) cap) := by rw [Lib.cell_of_heap hbk3]; rfl
    have hne : ¬ cap = bs.length := by omega
    have hsrc1 : ∀ j v, cs[j]? = some v → W1.cell? (a.add j) = some v := fun j v hj => hgW.cell (hsrc j v hj) (by rw [Lib.block_add]; exact fun e => hab (Option.some.inj e))
    have hcp := run_copy_row (P := P) W1 (ρ.t 37) (ρ.t 37) (ρ.t 3) (ρ.t 5) g bs.length n (cap - bs.length) a n c cur (ρ.t 5) cs L.t37 hinfo hg2 (by rw [hn]; exact (Nat.min_self n).symm) hsrc1 (by rw [hn]; omega) h1c
    rw [hn] at hcp
    have hcm' := hcm
    unfold maxLen at hcm'
    go_wp2
    go_ret2
    have q := Lib.Wrote.mk' (v := .slice (some ⟨g, 0, none⟩) bs.length cap) hbk3 hg2 hn hcm hcs hgb (by omega) rfl htk (.inl rfl) hgW
    refine ⟨rfl, ?_⟩
    first
      | exact q
      | (rw [← List.append_assoc]; exact q)
      | (rw [htk, ← List.append_assoc]; exact q)
  · go_enter L.f180, Body.n180_ntmps ρ
    go_wp2_with (go_at_fn (ρ.f 251); refine (hT _ ?_).mono ?_)
    · exact hb1'
    rintro e W1 ⟨rfl, rfl⟩
    go_wp2_with (go_at_fn (ρ.f 252); refine (hG _ ?_ ?_).mono ?_)
    · exact hb1'
    · exact fun g hg => Below.heap_setCell _ _ _ _ (fun e => hvb (hg.trans (congrArg some e)))
    rintro e W1 ⟨rfl, hgr⟩
    obtain ⟨hg1, N, cap, cur, hs, hbk3, hg2, hcs, htk, hnc, hcm⟩ := hgr
    unfold Lib.BufAt at hbk3
    have hgW := Lib.grownBy_trans hg0 hg1
    have hgb : N ≠ b := by
      have := Lib.lt_of_heap hbk
      omega
    clear c2 f2 hT hb1' hg1 hG
    have d0 : W1.cell? ⟨b, 0, none⟩ = some (.slice (some ⟨N, 0, none⟩) (bs.length + n) cap) := by rw [Lib.cell_of_heap hbk3]; rfl
    have hne : ¬ cap = bs.length := by omega
    have hsrc1 : ∀ j v, cs[j]? = some v → W1.cell? (a.add j) = some v := fun j v hj => hgW.cell (hsrc j v hj) (by rw [Lib.block_add]; exact fun e => hab (Option.some.inj e))
    have hcp := run_copy_row (P := P) W1 (ρ.t 37) (ρ.t 37) (ρ.t 3) (ρ.t 5) N bs.length n (cap - bs.length) a n c cur (ρ.t 5) cs L.t37 hinfo hg2 (by rw [hn]; exact (Nat.min_self n).symm) hsrc1 (by rw [hn]; omega) h1c
    rw [hn] at hcp
    have hcm' := hcm
    unfold maxLen at hcm'
    go_wp2
    go_ret2
    have q := Lib.Wrote.mk' (v := v) hbk3 hg2 hn hcm hcs hgb (by omega) rfl htk (.inr (by omega)) hgW
    refine ⟨rfl, ?_⟩
    first
      | exact q
      | (rw [← List.append_assoc]; exact q)
      | (rw [htk, ← List.append_assoc]; exact q)
end Go.Proofs
