/- bytes.ReplaceAll: the walk, over bytes.Count's and bytes.Index's contracts; what it computes. -/
import Derived.Test.YtcfjcoglhimdeaaDoorXSound
import Derived.Shelf.Bytes.SlSplitNil
import Derived.Shelf.Bytes.SlJoin
set_option linter.unusedSimpArgs false
set_option linter.unusedVariables false
section
namespace Go.Proofs
open Go.Shelf
def Tryd.laysC13_ren : Go.Shelf.Ren := ⟨fun | 13 => 57 | 24 => 69 | 25 => 70 | 12 => 17 | 31 => 77 | 19 => 26 | 20 => 16 | 21 => 29 | 22 => 30 | 23 => 31 | 29 => 40 | 30 => 45 | n => n, fun | 22 => 22 | 3 => 3 | 4 => 4 | 0 => 0 | 5 => 5 | 9 => 9 | 33 => 54 | 40 => 73 | 39 => 72 | n => n, fun | 0 => 0 | n => n⟩
theorem Tryd.laysC13 : Go.Proofs.SlLaysC.n13 Tryd.prog Tryd.laysC13_ren := {
  mixed := by kernel_rfl
  f12 := Tryd.func17.trans (congrArg some (by kernel_rfl))
  f13 := Tryd.func57.trans (congrArg some (by kernel_rfl))
  f19 := Tryd.func26.trans (congrArg some (by kernel_rfl))
  f20 := Tryd.func16.trans (congrArg some (by kernel_rfl))
  f21 := Tryd.func29.trans (congrArg some (by kernel_rfl))
  f22 := Tryd.func30.trans (congrArg some (by kernel_rfl))
  f23 := Tryd.func31.trans (congrArg some (by kernel_rfl))
  f25 := Tryd.func70.trans (congrArg some (by kernel_rfl))
  f29 := Tryd.func40.trans (congrArg some (by kernel_rfl))
  f30 := Tryd.func45.trans (congrArg some (by kernel_rfl))
  t0 := Tryd.underlying0
  a0 := Tryd.isAgg0
  z0 := Tryd.sizeOf0
  v0 := Tryd.zeroValue0
  t3 := Tryd.underlying3
  a3 := Tryd.isAgg3
  z3 := Tryd.sizeOf3
  v3 := Tryd.zeroValue3
  t4 := Tryd.underlying4
  a4 := Tryd.isAgg4
  z4 := Tryd.sizeOf4
  v4 := Tryd.zeroValue4
  t5 := Tryd.underlying5
  a5 := Tryd.isAgg5
  z5 := Tryd.sizeOf5
  v5 := Tryd.zeroValue5
  t9 := Tryd.underlying9
  a9 := Tryd.isAgg9
  z9 := Tryd.sizeOf9
  v9 := Tryd.zeroValue9
  t22 := Tryd.underlying22
  a22 := Tryd.isAgg22
  z22 := Tryd.sizeOf22
  v22 := Tryd.zeroValue22
  t33 := Tryd.underlying54
  a33 := Tryd.isAgg54
  z33 := Tryd.sizeOf54
  v33 := Tryd.zeroValue54
  t39 := Tryd.underlying72
  a39 := Tryd.isAgg72
  z39 := Tryd.sizeOf72
  v39 := Tryd.zeroValue72
  t40 := Tryd.underlying73
  a40 := Tryd.isAgg73
  z40 := Tryd.sizeOf73
  v40 := Tryd.zeroValue73
  g0 := by kernel_rfl }
namespace Av
open Go.RowKit
theorem cnt_zero (p q : List UInt8) : ∀ (f : Nat) (r : List UInt8), Lib.countFrom p f r = 0 → replAll p q f r = r
  | 0, r, _ => rfl
  | f + 1, r, h => by
    unfold Lib.countFrom at h
    unfold replAll
    split at h
    · rename_i h1
      have h1 : Lib.index r p = -1 := by simpa using h1
      rw [h1]
      rfl
    · omega
theorem cnt_succ (p q : List UInt8) : ∀ (f : Nat) (r : List UInt8) (c : Nat), Lib.countFrom p f r = c + 1 → ∃ f' j : Nat, f = f' + 1 ∧ Lib.index r p = (j : Int) ∧ j + p.length ≤ r.length ∧ Lib.countFrom p f' (r.drop (j + p.length)) = c ∧ replAll p q f r = r.take j ++ q ++ replAll p q f' (r.drop (j + p.length))
  | 0, r, c, h => by simp [Lib.countFrom] at h
  | f + 1, r, c, h => by
    have hge := Lib.index_ge r p
    unfold Lib.countFrom at h
    split at h
    · omega
    · rename_i h1
      have h1 : Lib.index r p ≠ -1 := by simpa using h1
      have h0 : 0 ≤ Lib.index r p := by omega
      have hroom := Lib.index_room r p h0
      refine ⟨f, (Lib.index r p).toNat, rfl, by omega, by omega, by omega, ?_⟩
      conv => lhs; unfold replAll
      rw [if_pos h0]
theorem cnt_le (p : List UInt8) : ∀ (c f : Nat) (r : List UInt8), Lib.countFrom p f r = c → c * p.length ≤ r.length
  | 0, _, _, _ => by simp
  | c + 1, f, r, h => by
    obtain ⟨f', j, -, -, h2, h3, -⟩ := cnt_succ p p f r c h
    have := cnt_le p c f' _ h3
    rw [List.length_drop] at this
    rw [Nat.succ_mul]
    omega
theorem repl_fuel (p q : List UInt8) (hp : p ≠ []) : ∀ (n : Nat) (l : List UInt8), l.length ≤ n → replAll p q (n + 1) l = replAll p q n l
  | 0, l, h => by
    have : l = [] := List.eq_nil_of_length_eq_zero (by omega)
    subst this
    have : Lib.index [] p = -1 := by
      cases p with
      | nil => exact absurd rfl hp
      | cons => rfl
    unfold replAll
    rw [this]
    rfl
  | n + 1, l, h => by
    have hl := List.length_pos_iff.2 hp
    unfold replAll
    split
    · rename_i h0
      have hroom := Lib.index_room l p h0
      rw [repl_fuel p q hp n _ (by rw [List.length_drop]; omega)]
    · rfl
theorem count_calls (a a' : Option Addr) (c c' : Nat) (x p : List UInt8) (m : Int) (w : World) (h1 : Lib.BytesIn w a (nums x).length (nums x)) (h2 : Lib.BytesIn w a' (nums p).length (nums p)) (h3 : a = none → c = 0) (hc : x.length ≤ c) (hp : p ≠ []) (hs : x.length < 4294967281) (hk : p.length ≤ 9223372036854775807) (hm : w.cell? ⟨0, 0, none⟩ = some (.int .i64 m)) :
    Calls Tryd.prog 57 #[.slice a x.length c, .slice a' p.length c'] w fun e w' => e = .returned (.int .i64 (Lib.count x p)) ∧ ∃ q, w' = w.drewN q := by
  rw [nums_len] at h1 h2
  have hp1 := List.length_pos_iff.2 hp
  obtain ⟨b2, o2, rfl, hc2⟩ := h2.at hp1
  cases a with
  | none =>
    obtain rfl : c = 0 := h3 rfl
    have hx : x = [] := List.eq_nil_of_length_eq_zero (by omega)
    subst hx
    have e0 : Lib.count [] p = 0 := by
      unfold Lib.count Lib.countFrom
      cases p with
      | nil => exact absurd rfl hp
      | cons => rfl
    rw [e0]
    exact (Any.bytes_Count_nil_any Tryd.laysC13 (some ⟨b2, o2, none⟩) p.length c' w hp1 hk (fun e => ⟨b2, o2, _, rfl, by simpa using hc2 0 (by omega)⟩)).mono fun e w' ⟨he, hw⟩ => ⟨he, 0, hw⟩
  | some ad =>
    have hcell : ∀ i, i < x.length → w.cell? (ad.add i) = some (.int .u8 ((nums x).getD i 0)) := by
      intro i hi
      obtain ⟨b, o, e, hc⟩ := h1.at (by omega)
      simp only [Option.some.injEq] at e
      subst e
      rw [add_pl]
      exact hc i hi
    have := Any.bytes_Count_any Tryd.laysC13 ad ⟨b2, o2, none⟩ x.length c p.length c' (nums x) (nums p) m w (nums_len x) (nums_len p) (nums_in x) (nums_in p) hcell (fun i hi => by rw [add_pl]; exact hc2 i hi) hc hs hk hp1 hm
    rw [bytesOf_nums, bytesOf_nums] at this
    exact this
end Av
end Go.Proofs
end
section
namespace Go.Proofs.Av
open Go.RowKit Go.Lib
def subV (a : Option Addr) (c i j : Nat) : Value := .slice (if c = i then a else a.map (fun x => x.add i)) (j - i) (c - i)
theorem run_subV (W : World) (a : Option Addr) (n c i j : Nat) (h : i ≤ j) (hj : j ≤ n) (hn : n ≤ c) :
    (Instr.slice 22 (.slice a n c) (some (.int .i64 (i : Int))) (some (.int .i64 (j : Int))) none).run Tryd.prog W = .ok (subV a c i j) W := by
  have ht : Tryd.prog.underlying 22 = some (.slice (Tryd.prog.elem 22)) := by simp [Program.elem, Tryd.underlying22]
  have he : Tryd.prog.elem 22 = 5 := by simp [Program.elem, Tryd.underlying22]
  rw [run_slice_lh W 22 _ _ _ ht .i64 .i64 _ _ (by omega) (by omega) (by omega), he, Tryd.sizeOf5]
  simp [Result.andThen, sliced, subV]
theorem run_fromV (W : World) (a : Option Addr) (n c i : Nat) (h : i ≤ n) (hn : n ≤ c) :
    (Instr.slice 22 (.slice a n c) (some (.int .i64 (i : Int))) none none).run Tryd.prog W = .ok (fromV a n c i) W := by
  have ht : Tryd.prog.underlying 22 = some (.slice (Tryd.prog.elem 22)) := by simp [Program.elem, Tryd.underlying22]
  have he : Tryd.prog.elem 22 = 5 := by simp [Program.elem, Tryd.underlying22]
  rw [run_slice_l W 22 _ _ _ ht .i64 _ (by omega) (by omega), he, Tryd.sizeOf5]
  simp [Result.andThen, sliced, fromV]
theorem holds_sub {w : World} {a : Option Addr} {c : Nat} {x : List UInt8} (h : HoldsBytes w (.slice a x.length c) x) {i j : Nat} (hij : i ≤ j) (hj : j ≤ x.length) (hc : x.length ≤ c) : HoldsBytes w (subV a c i j) ((x.take j).drop i) := by
  obtain ⟨p, cap, e, hnil, hcell⟩ := h
  simp only [Value.slice.injEq, true_and] at e
  obtain ⟨rfl, rfl⟩ := e
  have hl : ((x.take j).drop i).length = j - i := by rw [List.length_drop, List.length_take, Nat.min_eq_left hj]
  refine ⟨_, _, by rw [hl]; rfl, fun e => ?_, fun ad e k y hk => ?_⟩
  · split at e
    · exact List.eq_nil_of_length_eq_zero (by omega)
    · have : a = none := by simpa using e
      have := hnil this
      subst this
      simp
  · have hk' : x[i + k]? = some y := by
      rw [List.getElem?_drop, List.getElem?_take] at hk
      split at hk
      · exact hk
      · cases hk
    have hlt : k < j - i := by
      have := (List.getElem?_eq_some_iff.1 hk).1
      omega
    split at e
    · omega
    · cases a with
      | none => cases e
      | some ad' =>
        simp only [Option.map_some, Option.some.injEq] at e
        subst e
        have := hcell ad' rfl (i + k) y hk'
        rw [← this, Addr.add_add]
theorem holds_from {w : World} {a : Option Addr} {c : Nat} {x : List UInt8} (h : HoldsBytes w (.slice a x.length c) x) {i : Nat} (hi : i ≤ x.length) (hc : x.length ≤ c) : HoldsBytes w (fromV a x.length c i) (x.drop i) := by
  have := holds_sub h hi (Nat.le_refl _) hc
  rw [List.take_of_length_le (Nat.le_refl _)] at this
  exact this
theorem drewN_heap (w : World) (n : Nat) : (w.drewN n).heap = w.heap := rfl
end Go.Proofs.Av
end
section
namespace Go.Proofs.Av
open Go.RowKit Go.Lib
def BytesOut (w w' : World) (v : Value) (l : List UInt8) : Prop := Below w.heap.size w w' ∧ (FreshBytes w.heap.size w' v l ∨ (l = [] ∧ v = .slice none 0 0))
set_option maxHeartbeats 8000000
set_option maxRecDepth 1000000
theorem replace_none (a ap aq : Option Addr) (c cp cq kp kq : Nat) (x : List UInt8) (w : World) (hH : HoldsBytes w (.slice a x.length c) x) (hn : x.length ≤ 1048576)
    (hcount : Calls Tryd.prog 57 #[.slice a x.length c, .slice ap kp cp] w fun e w' => e = .returned (.int .i64 (0 : Nat)) ∧ ∃ q, w' = w.drewN q) :
    Calls Tryd.prog 48 #[.slice a x.length c, .slice ap kp cp, .slice aq kq cq, .int .i64 (-1)] w fun e w' => ∃ v, e = .returned v ∧ BytesOut w w' v x := by
  have mixed : Tryd.prog.follows .mixedOrders = true := by kernel_rfl
  have t22 := Tryd.underlying22; have a22 := Tryd.isAgg22; have z22 := Tryd.sizeOf22; have v22 := Tryd.zeroValue22
  have t3 := Tryd.underlying3; have a3 := Tryd.isAgg3; have z3 := Tryd.sizeOf3; have v3 := Tryd.zeroValue3
  have t4 := Tryd.underlying4; have a4 := Tryd.isAgg4; have z4 := Tryd.sizeOf4; have v4 := Tryd.zeroValue4
  have t5 := Tryd.underlying5; have a5 := Tryd.isAgg5; have z5 := Tryd.sizeOf5; have v5 := Tryd.zeroValue5
  have e57 : ∀ args w, (callFunc 57 args).run Tryd.prog w = .ok (.enter 57 args) w := enters_of Tryd.func57 (by kernel_rfl) rfl
  have hi5 : (Tryd.prog.info? 5).map (fun i => (i.zero, i.size, i.bytes)) = some (some (Value.int IntKind.u8 0), 1, 1) := by kernel_rfl
  obtain ⟨pa, cap, he, hnil, hcell⟩ := hH
  simp only [Value.slice.injEq, true_and] at he
  obtain ⟨rfl, rfl⟩ := he
  have happ : ∀ W, W.heap = w.heap → W.tape = w.tape → W.os = w.os → W.output = w.output → ∃ v w', (Builtin.append_ #[22, 22] 22 #[.slice none 0 0, .slice a x.length c]).run Tryd.prog W = .ok v w' ∧ BytesOut w w' v x := by
    intro W e1 e2 e3 e4
    by_cases hx : x = []
    · subst hx
      refine ⟨.slice none 0 0, W, ?_, ⟨e3, e2, e4, by rw [e1]; exact Nat.le_refl _, fun k _ => by rw [e1]⟩, .inr ⟨rfl, rfl⟩⟩
      obtain ⟨i, hi, hz⟩ := Option.map_eq_some_iff.1 hi5
      cases a <;> simp [Builtin.append_, run_underlying Tryd.underlying22, sizeOf, typeInfo, hi, storeCells, Builtin.lenOf, Builtin.firstCells, loadCells, loadCellsFrom]
    · cases a with
      | none => exact absurd (hnil rfl) hx
      | some ad =>
        obtain ⟨v', w', hr, hf, hg⟩ := Lib.run_append_onto_nil (P := Tryd.prog) W 22 22 5 hi5 Tryd.underlying22 ad c x (fun i y hy => by
          have := hcell ad rfl i y hy
          rw [← this]
          unfold World.cell?
          rw [e1]) (List.length_pos_iff.2 hx) (by omega)
        rw [show W.heap.size = w.heap.size by rw [e1]] at hf
        exact ⟨v', w', hr, ⟨hg.os.trans e3, hg.tape.trans e2, hg.output.trans e4, by have := hg.size; rw [e1] at this; exact this, fun k hk => (hg.block k (by rw [e1]; exact hk) (by simp)).trans (by rw [e1])⟩, .inl hf⟩
  clear hcell hnil
  go_enter Tryd.func48, Tryd.ntmps48
  go_wp2_with (go_at_fn 57; refine hcount.mono ?_)
  rintro e w' ⟨rfl, q, rfl⟩
  obtain ⟨v, w2, hap, hout⟩ := happ (w.drewN q) rfl rfl rfl rfl
  clear happ hcount
  go_wp2_with (at_builtin; refine Lib.wpList_append_run_sl _ rfl _ _ 22 rfl _ _ rfl rfl hap ?_)
  go_ret
  exact ⟨_, rfl, hout⟩
end Go.Proofs.Av
end
section
namespace Go.Proofs.Av
open Go.RowKit Go.Lib
theorem buf_like {w0 W W' : World} {h N : Nat} {acc : List UInt8} (b : Buf w0 W h N acc) (h1 : W'.heap = W.heap) (h2 : W'.os = W.os) (h3 : W'.tape = W.tape) (h4 : W'.output = W.output) : Buf w0 W' h N acc := by
  have hc : ∀ ad : Addr, W'.cell? ad = W.cell? ad := fun ad => by unfold World.cell?; rw [h1]
  have hf : ∀ ad : Addr, W'.frozen? ad = W.frozen? ad := fun ad => by unfold World.frozen?; rw [h1]
  exact ⟨⟨h2.trans b.below.os, h3.trans b.below.tape, h4.trans b.below.output, by rw [h1]; exact b.below.size, fun k hk => by rw [h1]; exact b.below.block k hk⟩, fun j hj => by rw [hc]; exact b.there j hj, fun j hj => by rw [hf]; exact b.free j hj, fun j x hx => by rw [hc]; exact b.holds j x hx, b.fits⟩
theorem copy_buf {w0 W W0 : World} {T : Nat} {acc l : List UInt8} {v : Value} {ops : Array Oper} {rest : List Oper} {o : Oper} {a : Act} {Q : Exit → Act → World → Prop} (B : Buf w0 W0 w0.heap.size T acc) (h1 : W.heap = W0.heap) (h2 : W.os = W0.os) (h3 : W.tape = W0.tape) (h4 : W.output = W0.output)
    (hv : HoldsBytes w0 v l) (hfit : acc.length + l.length ≤ T) (hgd : o.guard = none) (d s : Operand) (ho : o.op = .call { callee := .builtin .copy, args := #[d, s], argTypes := #[22, 22] }) (hd : a.eval d = tailV w0.heap.size T acc.length) (hs : a.eval s = v)
    (K : ∀ W', Buf w0 W' w0.heap.size T (acc ++ l) → wpList Tryd.prog ops Q rest (a.put o.dst (.int .i64 (l.length : Int))) W') : wpList Tryd.prog ops Q (o :: rest) a W := by
  obtain ⟨W', hr, hB⟩ := Lib.copy_part (P := Tryd.prog) w0 W w0.heap.size T acc l v 22 o.type 5 Tryd.underlying22 (by kernel_rfl) (Nat.le_refl _) (buf_like B h1 h2 h3 h4) hv hfit
  exact Lib.wpList_copy_run W hgd d s 22 22 ho _ _ hd hs hr (K W' hB)
set_option maxHeartbeats 8000000
set_option maxRecDepth 1000000
theorem replace_some (a ap aq : Option Addr) (c cp cq : Nat) (x p q : List UInt8) (m : Int) (C M T : Nat) (w : World) (hH : HoldsBytes w (.slice a x.length c) x) (hQ : HoldsBytes w (.slice aq q.length cq) q) (hn : x.length ≤ 1048576) (hc : x.length ≤ c) (hcm : c ≤ 9223372036854775807) (hp : 1 ≤ p.length) (hqp : q.length ≤ p.length) (hpl : p.length ≤ 1048576)
    (hC : Lib.countFrom p (x.length + 1) x = C) (hC1 : 1 ≤ C) (hM : C * (p.length - q.length) = M) (hT : T + M = x.length)
    (hcount : Calls Tryd.prog 57 #[.slice a x.length c, .slice ap p.length cp] w fun e w' => e = .returned (.int .i64 (C : Nat)) ∧ ∃ q, w' = w.drewN q)
    (hindex : ∀ i W, i ≤ x.length → Below w.heap.size w W → Calls Tryd.prog 17 #[fromV a x.length c i, .slice ap p.length cp] W fun e w' => e = .returned (.int .i64 (Lib.index (x.drop i) p)) ∧ ∃ q, w' = W.drewN q) :
    Calls Tryd.prog 48 #[.slice a x.length c, .slice ap p.length cp, .slice aq q.length cq, .int .i64 (-1)] w fun e w' => ∃ v, e = .returned v ∧ BytesOut w w' v (replAll p q (x.length + 1) x) := by
  have mixed : Tryd.prog.follows .mixedOrders = true := by kernel_rfl
  have t22 := Tryd.underlying22; have a22 := Tryd.isAgg22; have z22 := Tryd.sizeOf22; have v22 := Tryd.zeroValue22
  have t3 := Tryd.underlying3; have a3 := Tryd.isAgg3; have z3 := Tryd.sizeOf3; have v3 := Tryd.zeroValue3
  have t4 := Tryd.underlying4; have a4 := Tryd.isAgg4; have z4 := Tryd.sizeOf4; have v4 := Tryd.zeroValue4
  have t5 := Tryd.underlying5; have a5 := Tryd.isAgg5; have z5 := Tryd.sizeOf5; have v5 := Tryd.zeroValue5
  have e57 : ∀ args w, (callFunc 57 args).run Tryd.prog w = .ok (.enter 57 args) w := enters_of Tryd.func57 (by kernel_rfl) rfl
  have e17 : ∀ args w, (callFunc 17 args).run Tryd.prog w = .ok (.enter 17 args) w := enters_of Tryd.func17 (by kernel_rfl) rfl
  have hi5 : (Tryd.prog.info? 5).map (fun i => (i.zero, i.size, i.bytes)) = some (some (Value.int IntKind.u8 0), 1, 1) := by kernel_rfl
  have hs5 : (Tryd.prog.info? 5).map (·.size) = some 1 := by kernel_rfl
  have cle := cnt_le p C _ x hC
  have hCle : C ≤ x.length := Nat.le_trans (Nat.le_mul_of_pos_right C hp) cle
  have hmul : (C : Int) * ((q.length : Int) - (p.length : Int)) = -(M : Int) := by
    have e1 : (q.length : Int) - (p.length : Int) = -((p.length - q.length : Nat) : Int) := by omega
    rw [e1, Int.mul_neg, ← Int.natCast_mul, hM]
  have hTn : (x.length : Int) + -(M : Int) = (T : Int) := by omega
  have hTn2 : (x.length : Int) - (M : Int) = (T : Int) := by omega
  have hmk : ∀ W : World, (Instr.makeSlice 22 (.int .i64 (T : Int)) (.int .i64 (T : Int))).run Tryd.prog W = .ok (.slice (some ⟨W.heap.size, 0, none⟩) T T) (W.alloc (.cells (madeCells #[.int .u8 0] T) 5)) := fun W => run_make_row' 22 5 (.int .u8 0) 1 t22 hi5 rfl .i64 .i64 T (by omega) (by omega) W
  have hn0 : ¬ ((C : Int) = 0) := by omega
  have hp0 : (0 : Int) < (p.length : Int) := by omega
  generalize hxl : x.length = n at *
  generalize hpl' : p.length = kp at *
  generalize hql : q.length = kq at *
  have fC : ((C : Int) == 0) = false := beq_eq_false_iff_ne.2 hn0
  have fk : decide (0 < kp) = true := decide_eq_true hp
  go_enter Tryd.func48, Tryd.ntmps48
  go_wp2_with (go_at_fn 57; refine hcount.mono ?_)
  rintro e w' ⟨rfl, k0, rfl⟩
  clear hcount
  go_wp2
  have B0 : Buf w ((w.drewN k0).alloc (.cells (madeCells #[.int .u8 0] T) 5)) w.heap.size T [] := buf_like (Buf.start w (madeCells #[.int .u8 0] T) 5 T 0 (by rw [size_madeCells]; simp)) rfl rfl rfl rfl
  have HB0 : Aside (Buf w ((w.drewN k0).alloc (.cells (madeCells #[.int .u8 0] T) 5)) w.heap.size T []) := B0
  have HI : Aside (∀ i W, i ≤ n → Below w.heap.size w W → Calls Tryd.prog 17 #[fromV a n c i, .slice ap kp cp] W fun e w' => e = .returned (.int .i64 (Lib.index (x.drop i) p)) ∧ ∃ q, w' = W.drewN q) := hindex
  have HX : Aside (HoldsBytes w (.slice a n c) x) := hH
  have HQ : Aside (HoldsBytes w (.slice aq kq cq) q) := hQ
  obtain ⟨D, hD⟩ : ∃ D, kp - kq = D := ⟨_, rfl⟩
  have HS : Hid (([] : List UInt8).length + (n - 0) = T + (C - 0) * D) := by
    show _ = _
    rw [← hD, Nat.sub_zero, Nat.sub_zero, hM, List.length_nil]
    omega
  have HC : Hid (countFrom p (n + 1) (x.drop 0) = C - 0) := hC
  have HR : Hid (replAll p q (n + 1) x = [] ++ replAll p q (n + 1) (x.drop 0)) := rfl
  clear B0 hindex hH hQ hC hmk
  go_loopg [11, 12, 49] C (fun g s11 s12 s49 wr => ∃ (i st f : Nat) (acc : List UInt8), i ≤ C ∧ g = C - i ∧ s11 = .int .i64 (acc.length : Int) ∧ s12 = .int .i64 (st : Int) ∧ s49 = .int .i64 (i : Int) ∧ st ≤ n ∧ acc.length ≤ T ∧ Aside (Buf w wr w.heap.size T acc) ∧ Hid (acc.length + (n - st) = T + (C - i) * D) ∧ Hid (countFrom p f (x.drop st) = C - i) ∧ Hid (replAll p q (n + 1) x = acc ++ replAll p q f (x.drop st)))
  case atStart => exact ⟨0, 0, n + 1, [], Nat.zero_le _, by omega, rfl, rfl, rfl, Nat.zero_le _, Nat.zero_le _, HB0, HS, HC, HR⟩
  case round =>
    obtain ⟨i, st, f, acc, hi, rfl, rfl, rfl, rfl, hst, hacc, HB, HS', HC', HR'⟩ := hrel
    clear HB0 HS HC HR
    by_cases hlt : i < C
    · have hz : (i : Int) < (C : Int) := by omega
      obtain ⟨c1, hc1⟩ : ∃ c1, C - i = c1 + 1 := ⟨C - i - 1, by omega⟩
      have hcc := HC'.out
      rw [hc1] at hcc
      obtain ⟨f', j, hf, hj, hjk, hcn, hrr⟩ := cnt_succ p q f (x.drop st) c1 hcc
      have hxn : (x.drop st).length = n - st := by rw [List.length_drop, hxl]
      rw [hxn, hpl'] at hjk
      have hle := cnt_le p c1 f' _ hcn
      rw [List.length_drop, hxn, hpl'] at hle
      have hmm : c1 * D ≤ c1 * kp := Nat.mul_le_mul_left c1 (by omega)
      have hsum := HS'.out
      rw [hc1, Nat.succ_mul] at hsum
      have hfit : acc.length + j + kq ≤ T := by omega
      have hidx := HI.out st wr hst HB.out.below
      rw [hj] at hidx
      have hsl1 : ∀ W, (Instr.slice 22 (.slice a n c) (some (.int .i64 (st : Int))) none none).run Tryd.prog W = .ok (fromV a n c st) W := fun W => run_fromV W a n c st hst hc
      have hsl2 : ∀ W, (Instr.slice 22 (.slice a n c) (some (.int .i64 (st : Int))) (some (.int .i64 ((st : Int) + (j : Int)))) none).run Tryd.prog W = .ok (subV a c st (st + j)) W := fun W => by
        have := run_subV W a n c st (st + j) (by omega) (by omega) hc
        rwa [show ((st + j : Nat) : Int) = (st : Int) + (j : Int) by omega] at this
      have hsl3 : ∀ W, (Instr.slice 22 (.slice (some ⟨w.heap.size, 0, none⟩) T T) (some (.int .i64 (acc.length : Int))) none none).run Tryd.prog W = .ok (tailV w.heap.size T acc.length) W := fun W => run_slice_tailV W 22 5 t22 z5 _ T acc.length hacc
      have hsl4 : ∀ W, (Instr.slice 22 (.slice (some ⟨w.heap.size, 0, none⟩) T T) (some (.int .i64 ((acc.length : Int) + (j : Int)))) none none).run Tryd.prog W = .ok (tailV w.heap.size T (acc.length + j)) W := fun W => by
        have := run_slice_tailV (P := Tryd.prog) W 22 5 t22 z5 w.heap.size T (acc.length + j) (by omega)
        rwa [show ((acc.length + j : Nat) : Int) = (acc.length : Int) + (j : Int) by omega] at this
      have hsub : HoldsBytes w (subV a c st (st + j)) ((x.take (st + j)).drop st) := by
        have := HX.out
        rw [← hxl] at this
        exact holds_sub this (by omega) (by omega) (by omega)
      have hsubl : ((x.take (st + j)).drop st).length = j := by rw [List.length_drop, List.length_take, hxl, Nat.min_eq_left (by omega)]; omega
      have HSub : Aside (HoldsBytes w (subV a c st (st + j)) ((x.take (st + j)).drop st)) := hsub
      have hw1 : IntKind.i64.wrap ((acc.length : Int) + (j : Int)) = (acc.length : Int) + (j : Int) := by rw [IntKind.wrap_i64]; omega
      clear hsub hj hcc hsum hmm hle
      go_wp2_with (go_at_fn 17; refine hidx.mono ?_; rintro e w' ⟨rfl, k1, rfl⟩)
      obtain ⟨w1, hr1, B1⟩ := Lib.copy_part (P := Tryd.prog) w (wr.drewN (k1 + 1)) w.heap.size T acc ((x.take (st + j)).drop st) (subV a c st (st + j)) 22 3 5 t22 hs5 (Nat.le_refl _) (buf_like HB.out rfl rfl rfl rfl) HSub.out (by rw [hsubl]; omega)
      rw [hsubl] at hr1
      have HB1 : Aside (Buf w w1 w.heap.size T (acc ++ (x.take (st + j)).drop st)) := B1
      clear B1
      go_region_o
      all_goals (
        obtain ⟨w2, hr2, B2⟩ := Lib.copy_part (P := Tryd.prog) w w1 w.heap.size T (acc ++ (x.take (st + j)).drop st) q (.slice aq kq cq) 22 3 5 t22 hs5 (Nat.le_refl _) HB1.out HQ.out (by rw [List.length_append, hsubl, hql]; omega)
        rw [List.length_append, hsubl, hql] at hr2
        have HB2 : Aside (Buf w w2 w.heap.size T (acc ++ (x.take (st + j)).drop st ++ q)) := B2
        clear B2
        go_wp2_with (at_builtin; refine Lib.wpList_copy_run _ rfl _ _ 22 22 rfl _ _ rfl rfl hr2 ?_)
        go_roundg (C - (i + 1))
        case measure => omega
        case rel =>
          have hlen3 : (acc ++ (x.take (st + j)).drop st ++ q).length = acc.length + j + kq := by rw [List.length_append, List.length_append, hsubl, hql]
          refine ⟨i + 1, st + j + kp, f', acc ++ (x.take (st + j)).drop st ++ q, by omega, rfl, ?_, ?_, by go_num, by omega, by omega, HB2, (show Hid _ from ?_), (show Hid _ from ?_), (show Hid _ from ?_)⟩
          · rw [hlen3]; first | rfl | (congr 1; push_cast; omega)
          · first | rfl | (congr 1; push_cast; omega) | (congr 1; omega)
          · show (acc ++ (x.take (st + j)).drop st ++ q).length + (n - (st + j + kp)) = T + (C - (i + 1)) * D
            have hsum := HS'.out
            rw [hc1, Nat.succ_mul] at hsum
            rw [hlen3, show C - (i + 1) = c1 by omega]
            omega
          · show countFrom p f' (x.drop (st + j + kp)) = C - (i + 1)
            rw [hpl', List.drop_drop, show st + (j + kp) = st + j + kp by omega] at hcn
            rw [hcn]; omega
          · show replAll p q (n + 1) x = acc ++ (x.take (st + j)).drop st ++ q ++ replAll p q f' (x.drop (st + j + kp))
            rw [HR'.out, hrr, hpl', List.drop_drop, show st + (j + kp) = st + j + kp by omega, List.drop_take, show st + j - st = j by omega]
            simp only [List.append_assoc])
    · obtain rfl : i = C := by omega
      have hz : ¬ ((i : Int) < (i : Int)) := by omega
      have hcc := HC'.out
      rw [Nat.sub_self] at hcc
      have hrr := cnt_zero p q f _ hcc
      have hxn : (x.drop st).length = n - st := by rw [List.length_drop, hxl]
      have hsum := HS'.out
      rw [Nat.sub_self, Nat.zero_mul] at hsum
      have hsl1 : ∀ W, (Instr.slice 22 (.slice a n c) (some (.int .i64 (st : Int))) none none).run Tryd.prog W = .ok (fromV a n c st) W := fun W => run_fromV W a n c st hst hc
      have hsl3 : ∀ W, (Instr.slice 22 (.slice (some ⟨w.heap.size, 0, none⟩) T T) (some (.int .i64 (acc.length : Int))) none none).run Tryd.prog W = .ok (tailV w.heap.size T acc.length) W := fun W => run_slice_tailV W 22 5 t22 z5 _ T acc.length hacc
      have hTl : (acc.length : Int) + ((n - st : Nat) : Int) = (T : Int) := by omega
      have hw1 : IntKind.i64.wrap ((acc.length : Int) + ((n - st : Nat) : Int)) = (T : Int) := by rw [hTl, IntKind.wrap_i64]; omega
      have hfr : HoldsBytes w (fromV a n c st) (x.drop st) := by
        have := HX.out
        rw [← hxl] at this ⊢
        exact holds_from this (by omega) (by omega)
      have HF : Aside (HoldsBytes w (fromV a n c st) (x.drop st)) := hfr
      clear hfr hcc
      obtain ⟨w1, hr1, B1⟩ := Lib.copy_part (P := Tryd.prog) w wr.drew w.heap.size T acc (x.drop st) (fromV a n c st) 22 3 5 t22 hs5 (Nat.le_refl _) (buf_like HB.out rfl rfl rfl rfl) HF.out (by rw [hxn]; omega)
      rw [hxn] at hr1
      have HB1 : Aside (Buf w w1 w.heap.size T (acc ++ x.drop st)) := B1
      clear B1
      go_wp2
      go_region_o
      all_goals (
        go_wp2
        go_ret
        have hfull : (acc ++ x.drop st).length = T := by rw [List.length_append, hxn]; omega
        refine ⟨_, rfl, HB1.out.below, .inl ?_⟩
        rw [HR'.out, hrr]
        have := HB1.out.fresh hfull (by unfold Go.maxLen; omega)
        first
          | exact this
          | simpa using this)
end Go.Proofs.Av
end
