/- bytes.ReplaceAll, as the evaluator takes it: sound; and the whole library. -/
import Derived.Test.YtcfjcoglhimdeaaDoorXSound2
import Derived.Test.YtcfjcoglhimdeaaDoorXRepl
set_option linter.unusedSimpArgs false
set_option linter.unusedVariables false
namespace Go.Proofs.Av
open Go.RowKit Go.Lib
set_option linter.unusedVariables false
theorem replaceAll_calls (v1 v2 v3 : Value) (w : World) (R : Value → World → Prop) (h : Calls Tryd.prog 48 #[v1, v2, v3, .int .i64 (-1)] w fun e w' => ∃ v, e = .returned v ∧ R v w') :
    Calls Tryd.prog 36 #[v1, v2, v3] w fun e w' => ∃ v, e = .returned v ∧ R v w' := by
  have mixed : Tryd.prog.follows .mixedOrders = true := by kernel_rfl
  have t22 := Tryd.underlying22; have a22 := Tryd.isAgg22; have z22 := Tryd.sizeOf22; have v22 := Tryd.zeroValue22
  have t3 := Tryd.underlying3; have a3 := Tryd.isAgg3; have z3 := Tryd.sizeOf3; have v3' := Tryd.zeroValue3
  have e48 : ∀ args w, (callFunc 48 args).run Tryd.prog w = .ok (.enter 48 args) w := enters_of Tryd.func48 (by kernel_rfl) rfl
  go_enter Tryd.func36, Tryd.ntmps36
  go_wp2_with (go_at_fn 48; refine h.mono ?_; rintro e w' ⟨v, rfl, hout⟩)
  go_ret
  exact ⟨_, rfl, hout⟩
theorem holds_of {w : World} {A : Nat → Prop} {a : Option Addr} {c : Nat} {x : List UInt8} (h0 : a = none → c = 0) (hc : x.length ≤ c) (h : Cells w A a (x.map byteV)) : HoldsBytes w (.slice a x.length c) x := by
  refine ⟨a, c, rfl, fun e => ?_, fun ad e i y hy => ?_⟩
  · have := h0 e
    exact List.eq_nil_of_length_eq_zero (by omega)
  · subst e
    rcases h with h | ⟨ad', e, _, h⟩
    · have : x = [] := by simpa using h
      subst this
      simp at hy
    · simp only [Option.some.injEq] at e
      subst e
      exact h i (byteV y) (by rw [List.getElem?_map, hy]; rfl)
theorem three_args {P : Program} {w : World} {A : Nat → Prop} {g : Nat → Value} {v v2 v3 : V} {us : Array Value} (h : RVs P w A g [v, v2, v3] us.toList) : ∃ u u2 u3, us = #[u, u2, u3] ∧ RV P w A g v u ∧ RV P w A g v2 u2 ∧ RV P w A g v3 u3 := box3 h
theorem from_drop {w W : World} {a : Option Addr} {c : Nat} {x : List UInt8} (hc : x.length ≤ c) (h0 : a = none → c = 0) (h : BytesIn w a (nums x).length (nums x)) (hb : Below w.heap.size w W) (i : Nat) (hi : i ≤ x.length) :
    BytesIn W (if c = i then a else a.map (fun ad => ad.add i)) (nums (x.drop i)).length (nums (x.drop i)) := by
  intro hpos
  rw [nums_len, List.length_drop] at hpos
  obtain ⟨b, o, rfl, hcell⟩ := h.at (by rw [nums_len]; omega)
  rw [if_neg (by omega)]
  refine ⟨b, o + i, by rw [Option.map_some, add_pl], fun k hk => ?_⟩
  rw [nums_len, List.length_drop] at hk
  have := hcell (i + k) (by rw [nums_len]; omega)
  have e : (nums (x.drop i)).getD k 0 = (nums x).getD (i + k) 0 := by
    unfold nums
    simp [List.getD, List.getElem?_map, List.getElem?_drop]
  rw [e, show o + i + k = o + (i + k) by omega]
  exact (World.cell?_of_block (hb.block _ (World.block_lt_of_cell? w _ this))).trans this
theorem below_bytes {w W : World} {a : Option Addr} {n : Nat} {xs : List Int} (h : BytesIn w a n xs) (hb : Below w.heap.size w W) : BytesIn W a n xs := by
  intro hpos
  obtain ⟨b, o, rfl, hcell⟩ := h.at hpos
  refine ⟨b, o, rfl, fun k hk => ?_⟩
  have := hcell k hk
  exact (World.cell?_of_block (hb.block _ (World.block_lt_of_cell? w _ this))).trans this
theorem s_ReplaceAll : SoundL f_bytes_ReplaceAll l_ReplaceAll := by
  intro args l r h
  unfold l_ReplaceAll at h
  split at h
  · rename_i z x zp p zq q
    obtain ⟨hs, h9⟩ := ifB_some h
    clear h
    simp only [Bool.and_eq_true, decide_eq_true_eq, Bool.not_eq_true', List.isEmpty_eq_false_iff] at hs
    obtain ⟨⟨hn, hp⟩, hqp⟩ := hs
    have h9 := Option.some.inj h9
    subst h9
    intro C us hP hG hH hargs
    obtain ⟨P, nt, w0, St, Pd, g0⟩ := C
    subst hP
    obtain ⟨u, u2, u3, rfl, hu, hu2, hu3⟩ := three_args hargs
    obtain ⟨a, c, rfl, h1, h2, h3, h4, h5⟩ := by_in hu
    obtain ⟨a', c', rfl, i1, i2, i3, i4, i5⟩ := by_in hu2
    obtain ⟨aq, cq, rfl, j1, j2, j3, j4, j5⟩ := by_in hu3
    obtain ⟨m, hm⟩ := (hG w0 (Fr.refl _ _)).maxLen
    have hX := holds_of h3.2 h1 h4
    have hQ := holds_of j3.2 j1 j4
    have hpp := List.length_pos_iff.2 hp
    have hpm : p.length ≤ 9223372036854775807 := by unfold Go.maxLen at i2; omega
    have hcount := count_calls a a' c c' x p m w0 h5 i5 h3.2 h1 hp (by omega) hpm hm
    have hfuel := repl_fuel p q hp x.length x (Nat.le_refl _)
    have key : Calls Tryd.prog 48 #[.slice a x.length c, .slice a' p.length c', .slice aq q.length cq, .int .i64 (-1)] w0 fun e w' => ∃ v, e = .returned v ∧ BytesOut w0 w' v (replAll p q x.length x) := by
      rw [← hfuel]
      by_cases hC : Lib.countFrom p (x.length + 1) x = 0
      · rw [cnt_zero p q _ _ hC]
        have hcount : Calls Tryd.prog 57 #[.slice a x.length c, .slice a' p.length c'] w0 fun e w' => e = .returned (.int .i64 ((Lib.countFrom p (x.length + 1) x : Nat) : Int)) ∧ ∃ q, w' = w0.drewN q := hcount
        rw [hC] at hcount
        exact replace_none a a' aq c c' cq p.length q.length x w0 hX hn hcount
      · have hC1 : 1 ≤ Lib.countFrom p (x.length + 1) x := by omega
        have cle := cnt_le p _ _ x (rfl : Lib.countFrom p (x.length + 1) x = _)
        have hple : p.length ≤ x.length := Nat.le_trans (Nat.le_mul_of_pos_left _ hC1) cle
        have hmd : Lib.countFrom p (x.length + 1) x * (p.length - q.length) ≤ x.length := Nat.le_trans (Nat.mul_le_mul_left _ (Nat.sub_le _ _)) cle
        refine replace_some a a' aq c c' cq x p q m _ _ (x.length - Lib.countFrom p (x.length + 1) x * (p.length - q.length)) w0 hX hQ hn h1 (by unfold Go.maxLen at h2; omega) hpp hqp (by omega) rfl hC1 rfl (by omega) hcount (fun i W hi hb => ?_)
        have hmW : W.cell? ⟨0, 0, none⟩ = some (.int .i64 m) := (World.cell?_of_block (hb.block _ (World.block_lt_of_cell? w0 _ hm))).trans hm
        have hl : (x.drop i).length = x.length - i := List.length_drop
        have hb1 := from_drop h1 h3.2 h5 hb i hi
        have := index_calls (if c = i then a else a.map (fun ad => ad.add i)) a' (c - i) c' (x.drop i) p m W hb1 (below_bytes i5 hb) (fun e => by
          split at e
          · omega
          · have : a = none := by simpa using e
            have := h3.2 this
            omega) i3.2 (by omega) i1 (by omega) hpm hmW
        rw [hl] at this
        exact this
    refine callsTo_of (by kernel_rfl) ((replaceAll_calls _ _ _ w0 (fun v w' => BytesOut w0 w' v (replAll p q x.length x)) key).mono ?_)
    rintro e w' ⟨v, rfl, hb, hv⟩
    refine gives0 hb (ret1 ?_)
    rcases hv with ⟨g, cap, zs, rfl, f1, f2, f3, f4, f5, f6, f7, f8⟩ | ⟨hnil, rfl⟩
    · refine mk_by rfl f2 f3 ⟨fun e => (by cases e), fun e => (by cases e)⟩ (.inr ⟨_, rfl, ⟨.inr (.inr f1), ?_⟩, fun j u hj => ?_⟩)
      · rintro ⟨o, y, hy, _⟩
        cases hy
      · rw [List.getElem?_map] at hj
        obtain ⟨y, hy, rfl⟩ := Option.map_eq_some_iff.1 hj
        have hlt := (List.getElem?_eq_some_iff.1 hy).1
        rw [add_pl, Nat.zero_add, f7 j (by omega)]
        have hzl : j < zs.length := by omega
        have hz : zs.getD j 0 = zs[j] := by simp [List.getD, hzl]
        have hin := f5 zs[j] (List.getElem_mem _)
        have e1 : (bytesOf (zs.take (replAll p q x.length x).length))[j]? = some (UInt8.ofNat (zs[j]).toNat) := by
          unfold bytesOf
          rw [List.getElem?_map, List.getElem?_take, if_pos hlt, List.getElem?_eq_getElem hzl]
          rfl
        rw [f6, hy] at e1
        simp only [Option.some.injEq] at e1
        subst e1
        rw [hz]
        unfold byteV
        congr 2
        rw [UInt8.toNat_ofNat']
        omega
    · rw [hnil]
      exact mk_by rfl (Nat.le_refl _) (by simp) ⟨fun e => (by cases e), fun _ => rfl⟩ (.inl rfl)
  · cases h
theorem lib_ok : SoundT Tryd.prog GI lib := by
  intro k args l r h
  unfold lib at h
  split at h
  · rename_i x hx
    have hmem := List.mem_of_find?_eq_some hx
    have hk := List.find?_some hx
    simp only [beq_iff_eq] at hk
    subst hk
    simp only [libL, List.mem_cons, List.not_mem_nil, or_false] at hmem
    rcases hmem with rfl | rfl | rfl | rfl | rfl | rfl | rfl | rfl | rfl | rfl | rfl | rfl | rfl | rfl | rfl
    · exact s_DecodeRune _ _ _ h
    · exact s_ValidRune _ _ _ h
    · exact s_AppendRune _ _ _ h
    · exact s_HasPrefix _ _ _ h
    · exact s_CutPrefix _ _ _ h
    · exact s_Cut _ _ _ h
    · exact s_IndexByte _ _ _ h
    · exact s_Index _ _ _ h
    · exact s_Contains _ _ _ h
    · exact s_TrimLeft _ _ _ h
    · exact s_sCutPrefix _ _ _ h
    · exact s_sIndexByte _ _ _ h
    · exact s_ReplaceAll _ _ _ h
    · exact s_Write _ _ _ h
    · exact s_String _ _ _ h
  · cases h
end Go.Proofs.Av
