/- Go's library by the shelf's contracts: soundness of what the evaluator takes for it. -/
import Derived.Test.YtcfjcoglhimdeaaDoorXBase
import Derived.Test.YtcfjcoglhimdeaaDoorXWalk
import Derived.Test.YtcfjcoglhimdeaaDoorXChars
set_option linter.unusedSimpArgs false
set_option linter.unusedVariables false
namespace Go.Proofs.Av
open Go.RowKit
set_option linter.unusedVariables false
theorem callsTo_of {P : Program} {k : FuncId} {us : Array Value} {w : World} {R : Ending → World → Prop} (hb : okBody P k = true) (h : Calls P k us w R) : CallsTo P k us w R := by
  unfold okBody at hb
  split at hb
  · rename_i fn hf
    simp only [Bool.and_eq_true, Bool.not_eq_true'] at hb
    obtain ⟨h1, h2⟩ := hb
    obtain ⟨c, hc⟩ := Option.isSome_iff_exists.1 h1
    have hne : ¬ (fn.name = "runtime.NumGoroutine") := by simpa using h2
    have hcall : (callFunc k us).run P w = .ok (.enter k us) w := by simp [callFunc, hf, hc, hne, go_sem]
    unfold CallsTo
    rw [hcall]
    exact h
  · cases hb
/-- What holds of the library's variables. -/
structure GI (w : World) : Prop where
  maxLen : ∃ m : Int, w.cell? ⟨0, 0, none⟩ = some (.int .i64 m)
  tabs : Lib.Utf8Tabs 2 3 w
theorem fr_below {w w' : World} (h : Below w.heap.size w w') (Pd : Nat → Prop) : Fr w w' Pd := ⟨h.os, h.tape, h.output, h.size, fun b hb _ => h.block b hb⟩
theorem drewN_below (w : World) (n : Nat) : Below w.heap.size w (w.drewN n) := ⟨rfl, rfl, rfl, Nat.le_refl _, fun _ _ => rfl⟩
section
variable {C : Ctx}
theorem gives0 {w' : World} {vs : List V} {u : Value} (hb : Below C.w0.heap.size C.w0 w') (hu : retV C.P w' (C.Al [] C.g0) C.g0 vs u) : Gives C 0 (.ret vs []) (.returned u) w' :=
  ⟨C.g0, fun _ _ => rfl, ⟨fun o x ho => (by cases ho), fun o o' x x' b ho => (by cases ho), fun o x b ho => (by cases ho), fr_below hb _⟩, u, rfl, hu⟩
def nums (l : List UInt8) : List Int := l.map fun x => (x.toNat : Int)
theorem nums_len (l : List UInt8) : (nums l).length = l.length := List.length_map ..
theorem bytesOf_nums (l : List UInt8) : Lib.bytesOf (nums l) = l := by
  unfold Lib.bytesOf nums
  rw [List.map_map]
  have : ((fun n : Int => UInt8.ofNat n.toNat) ∘ fun x : UInt8 => (x.toNat : Int)) = id := by
    funext x
    simp
  rw [this, List.map_id]
theorem nums_in (l : List UInt8) : ∀ x ∈ nums l, 0 ≤ x ∧ x < 256 := by
  intro x hx
  obtain ⟨y, _, rfl⟩ := List.mem_map.1 hx
  have := y.toNat_lt
  omega
theorem nums_cell {w : World} {ad : Addr} {l : List UInt8} (h : ∀ j u, (l.map byteV)[j]? = some u → w.cell? (ad.add j) = some u) : ∀ i, i < l.length → w.cell? (ad.add i) = some (.int .u8 ((nums l).getD i 0)) := by
  intro i hi
  have := h i (byteV l[i]) (by simp [hi])
  rw [this]
  simp [byteV, nums, List.getD, hi]
theorem by_in {P : Program} {w : World} {A : Nat → Prop} {g : Nat → Value} {z : Bool} {l : List UInt8} {u : Value} (h : RV P w A g (.im (.by_ z l)) u) :
    ∃ a c, u = .slice a l.length c ∧ l.length ≤ c ∧ c ≤ Go.maxLen ∧ ((z = true → a = none ∧ c = 0) ∧ (a = none → c = 0)) ∧ Cells w A a (l.map byteV) ∧ Lib.BytesIn w a (nums l).length (nums l) := by
  obtain ⟨a, c, h1, h2, h3, h4, h5⟩ := RV_by' h
  refine ⟨a, c, h1, h2, h3, h4, h5, ?_⟩
  rcases h5 with h5 | ⟨ad, rfl, _, h6⟩
  · have : l = [] := by simpa using h5
    subst this
    exact Lib.BytesIn.nil _ _ _
  · rw [nums_len]
    exact Lib.BytesIn.of_cells (nums_cell h6)
theorem one_arg {P : Program} {w : World} {A : Nat → Prop} {g : Nat → Value} {v : V} {us : Array Value} (h : RVs P w A g [v] us.toList) : ∃ u, us = #[u] ∧ RV P w A g v u := by
  obtain ⟨u, us', e, h1, h2⟩ := h
  simp only [RVs] at h2
  subst h2
  exact ⟨u, list1 e, h1⟩
theorem two_args {P : Program} {w : World} {A : Nat → Prop} {g : Nat → Value} {v v2 : V} {us : Array Value} (h : RVs P w A g [v, v2] us.toList) : ∃ u u2, us = #[u, u2] ∧ RV P w A g v u ∧ RV P w A g v2 u2 := by
  obtain ⟨u, us', e, h1, u2, us2, rfl, h2, h3⟩ := h
  simp only [RVs] at h3
  subst h3
  exact ⟨u, u2, list2 e, h1, h2⟩
theorem below_RV {P : Program} {w w' : World} {A : Nat → Prop} {g : Nat → Value} {v : V} {u : Value} (hb : Below w.heap.size w w') (h : RV P w A g v u) : RV P w' A g v u :=
  RV.keep (fun b hb' hlt => ⟨hb.block b hlt, hb'⟩) v u (fun _ _ => rfl) h
theorem mk_by {P : Program} {w : World} {A : Nat → Prop} {g : Nat → Value} {z : Bool} {l : List UInt8} {a : Option Addr} {n c : Nat} (hn : n = l.length) (h1 : l.length ≤ c) (h2 : c ≤ Go.maxLen) (h3 : (z = true → a = none ∧ c = 0) ∧ (a = none → c = 0)) (h4 : Cells w A a (l.map byteV)) : RV P w A g (.im (.by_ z l)) (.slice a n c) := by
  subst hn
  exact ⟨a, c, rfl, h1, h2, h3, h4⟩
theorem ret1 {P : Program} {w : World} {A : Nat → Prop} {g : Nat → Value} {v : V} {u : Value} (h : RV P w A g v u) : retV P w A g [v] u := h
theorem ret2 {P : Program} {w : World} {A : Nat → Prop} {g : Nat → Value} {v v2 : V} {u u2 : Value} (h : RV P w A g v u) (h2 : RV P w A g v2 u2) : retV P w A g [v, v2] (.tuple #[u, u2]) := ⟨#[u, u2], rfl, u, [u2], rfl, h, u2, [], rfl, h2, rfl⟩
theorem ret3 {P : Program} {w : World} {A : Nat → Prop} {g : Nat → Value} {v v2 v3 : V} {u u2 u3 : Value} (h : RV P w A g v u) (h2 : RV P w A g v2 u2) (h3 : RV P w A g v3 u3) : retV P w A g [v, v2, v3] (.tuple #[u, u2, u3]) := ⟨#[u, u2, u3], rfl, u, [u2, u3], rfl, h, u2, [u3], rfl, h2, u3, [], rfl, h3, rfl⟩
abbrev SoundL (k : FuncId) (f : List V → Obs → Option Res) : Prop := ∀ args l r, f args l = some r → Sound Tryd.prog GI k args l r
theorem Lib.index_in1 (l : List UInt8) (c : UInt8) : Lib.indexByte l c ≤ l.length := by
  induction l with
  | nil => simp [Lib.indexByte]
  | cons b l ih =>
    unfold Lib.indexByte
    simp only [List.length_cons]
    split
    · omega
    · split <;> omega
theorem index_in (l p : List UInt8) (h : l.length ≤ 4294967281) : (IntKind.i64).min ≤ Lib.index l p ∧ Lib.index l p ≤ (IntKind.i64).max := by
  have h1 := Lib.index_ge l p
  have h2 : Lib.index l p ≤ l.length := by
    by_cases h0 : 0 ≤ Lib.index l p
    · have := Lib.index_room l p h0
      omega
    · omega
  simp only [IntKind.min, IntKind.max, IntKind.signed, IntKind.bits, if_true]
  omega
theorem ifB_some {c : Bool} {α : Type} {x : Option α} {y : α} (h : ifB c x none = some y) : c = true ∧ x = some y := by
  cases c with
  | true => exact ⟨rfl, h⟩
  | false => cases h
theorem index_calls (a a' : Option Addr) (c c' : Nat) (x p : List UInt8) (m : Int) (w : World) (h1 : Lib.BytesIn w a (nums x).length (nums x)) (h2 : Lib.BytesIn w a' (nums p).length (nums p)) (h3 : a = none → c = 0) (h3' : a' = none → c' = 0) (hc : x.length ≤ c) (hc' : p.length ≤ c') (hs : x.length < 4294967281) (hk : p.length ≤ 9223372036854775807) (hm : w.cell? ⟨0, 0, none⟩ = some (.int .i64 m)) :
    Calls Tryd.prog 17 #[.slice a x.length c, .slice a' p.length c'] w fun e w' => e = .returned (.int .i64 (Lib.index x p)) ∧ ∃ q, w' = w.drewN q := by
  rw [nums_len] at h1 h2
  by_cases hp : p = []
  · subst hp
    rw [Lib.index_empty]
    exact (Any.bytes_Index_none Tryd.lays185 a a' x.length c c' w).mono fun e w' ⟨he, hw⟩ => ⟨he, 0, hw⟩
  · obtain ⟨b2, o2, rfl, hc2⟩ := h2.at (List.length_pos_iff.2 hp)
    cases a with
    | none =>
      obtain rfl : c = 0 := h3 rfl
      have hx : x = [] := List.eq_nil_of_length_eq_zero (by omega)
      subst hx
      have hne : p.length ≠ 0 := fun e => hp (List.eq_nil_of_length_eq_zero e)
      have e0 : Lib.index [] p = -1 := by
        cases p with
        | nil => exact absurd rfl hp
        | cons => rfl
      refine (Tryd.bytes_Index_nil (some ⟨b2, o2, none⟩) p.length c' w hk (fun e => ⟨b2, o2, _, rfl, by simpa using hc2 0 (by omega)⟩)).mono ?_
      rintro e w' ⟨rfl, hw⟩
      rw [if_neg hne, e0]
      exact ⟨rfl, 0, hw⟩
    | some ad =>
      have hcell : ∀ i, i < x.length → w.cell? (ad.add i) = some (.int .u8 ((nums x).getD i 0)) := by
        intro i hi
        obtain ⟨b, o, e, hc⟩ := h1.at (by omega)
        simp only [Option.some.injEq] at e
        subst e
        rw [add_pl]
        exact hc i hi
      have := Tryd.bytes_Index_at ad ⟨b2, o2, none⟩ x.length c p.length c' (nums x) (nums p) m w (nums_len x) (nums_len p) (nums_in x) (nums_in p) hcell (fun i hi => by rw [add_pl]; exact hc2 i hi) hc hs hk hm
      rw [bytesOf_nums, bytesOf_nums] at this
      exact this
theorem contains_calls (a a' : Option Addr) (c c' : Nat) (x p : List UInt8) (m : Int) (w : World) (h1 : Lib.BytesIn w a (nums x).length (nums x)) (h2 : Lib.BytesIn w a' (nums p).length (nums p)) (h3 : a = none → c = 0) (h3' : a' = none → c' = 0) (hc : x.length ≤ c) (hc' : p.length ≤ c') (hs : x.length < 4294967281) (hk : p.length ≤ 9223372036854775807) (hm : w.cell? ⟨0, 0, none⟩ = some (.int .i64 m)) :
    Calls Tryd.prog 27 #[.slice a x.length c, .slice a' p.length c'] w fun e w' => e = .returned (.bool (Lib.contains x p)) ∧ ∃ q, w' = w.drewN q := by
  rw [nums_len] at h1 h2
  by_cases hp : p = []
  · subst hp
    have e0 : Lib.contains x [] = true := by unfold Lib.contains; rw [Lib.index_empty]; rfl
    rw [e0]
    exact (Any.bytes_Contains_none Tryd.lays186 a a' x.length c c' w).mono fun e w' ⟨he, hw⟩ => ⟨he, 0, hw⟩
  · obtain ⟨b2, o2, rfl, hc2⟩ := h2.at (List.length_pos_iff.2 hp)
    cases a with
    | none =>
      obtain rfl : c = 0 := h3 rfl
      have hx : x = [] := List.eq_nil_of_length_eq_zero (by omega)
      subst hx
      have hne : p.length ≠ 0 := fun e => hp (List.eq_nil_of_length_eq_zero e)
      have e0 : Lib.contains [] p = false := by
        unfold Lib.contains
        cases p with
        | nil => exact absurd rfl hp
        | cons => rfl
      refine (Tryd.bytes_Contains_nil (some ⟨b2, o2, none⟩) p.length c' w hk (fun e => ⟨b2, o2, _, rfl, by simpa using hc2 0 (by omega)⟩)).mono ?_
      rintro e w' ⟨rfl, hw⟩
      rw [decide_eq_false hne, e0]
      exact ⟨rfl, 0, hw⟩
    | some ad =>
      have hcell : ∀ i, i < x.length → w.cell? (ad.add i) = some (.int .u8 ((nums x).getD i 0)) := by
        intro i hi
        obtain ⟨b, o, e, hc⟩ := h1.at (by omega)
        simp only [Option.some.injEq] at e
        subst e
        rw [add_pl]
        exact hc i hi
      have := Tryd.bytes_Contains_at ad ⟨b2, o2, none⟩ x.length c p.length c' (nums x) (nums p) m w (nums_len x) (nums_len p) (nums_in x) (nums_in p) hcell (fun i hi => by rw [add_pl]; exact hc2 i hi) hc hs hk hm
      rw [bytesOf_nums, bytesOf_nums] at this
      exact this
theorem s_ValidRune : SoundL f_unicode_utf8_ValidRune l_ValidRune := by
  intro args l r h
  unfold l_ValidRune at h
  split at h
  · rename_i x
    simp only [Option.some.injEq] at h
    subst h
    intro C us hP hG hH hargs
    obtain ⟨P, nt, w0, St, Pd, g0⟩ := C
    subst hP
    obtain ⟨u, rfl, hu⟩ := one_arg hargs
    obtain ⟨rfl, _⟩ := RV_i hu
    refine callsTo_of (by kernel_rfl) ((Tryd.utf8_ValidRune x w0).mono ?_)
    rintro e w' ⟨rfl, rfl⟩
    exact gives0 (Below.refl _ _) (ret1 (mk_b _))
  · cases h
theorem s_HasPrefix : SoundL f_bytes_HasPrefix l_HasPrefix := by
  intro args l r h
  unfold l_HasPrefix at h
  split at h
  · rename_i z x y p
    simp only [Option.some.injEq] at h
    subst h
    intro C us hP hG hH hargs
    obtain ⟨P, nt, w0, St, Pd, g0⟩ := C
    subst hP
    obtain ⟨u, u2, rfl, hu, hu2⟩ := two_args hargs
    obtain ⟨a, c, rfl, h1, h2, h3, h4, h5⟩ := by_in hu
    obtain ⟨a', c', rfl, i1, i2, i3, i4, i5⟩ := by_in hu2
    have := Tryd.bytes_HasPrefix_all a a' x.length c p.length c' (nums x) (nums p) w0 (nums_len x) (nums_len p) h1 (by rw [← nums_len x]; exact h5) (by rw [← nums_len p]; exact i5)
    rw [bytesOf_nums, bytesOf_nums] at this
    refine callsTo_of (by kernel_rfl) (this.mono ?_)
    rintro e w' ⟨rfl, rfl⟩
    exact gives0 (Below.refl _ _) (ret1 (mk_b _))
  · cases h
theorem s_CutPrefix : SoundL f_bytes_CutPrefix l_CutPrefix := by
  intro args l r h
  unfold l_CutPrefix at h
  split at h
  · rename_i z x y p
    simp only [Option.some.injEq] at h
    subst h
    intro C us hP hG hH hargs
    obtain ⟨P, nt, w0, St, Pd, g0⟩ := C
    subst hP
    obtain ⟨u, u2, rfl, hu, hu2⟩ := two_args hargs
    obtain ⟨a, c, rfl, h1, h2, h3, h4, h5⟩ := by_in hu
    obtain ⟨a', c', rfl, i1, i2, i3, i4, i5⟩ := by_in hu2
    obtain ⟨m, hm⟩ := (hG w0 (Fr.refl _ _)).maxLen
    have := Tryd.bytes_CutPrefix_all a a' x.length c p.length c' (nums x) (nums p) w0 (nums_len x) (nums_len p) h1 (by rw [← nums_len x]; exact h5) (by rw [← nums_len p]; exact i5)
    rw [bytesOf_nums, bytesOf_nums] at this
    refine callsTo_of (by kernel_rfl) (this.mono ?_)
    rintro e w' ⟨rfl, rfl⟩
    refine gives0 (Below.refl _ _) (ret2 ?_ (mk_b _))
    have none_case : RV Tryd.prog w' (Ctx.Al { P := Tryd.prog, nt := nt, w0 := w', St := St, Pd := Pd, g0 := g0 } [] g0) g0 (.im (.by_ z x)) (.slice a x.length c) := mk_by rfl h1 h2 h3 h4
    unfold Lib.trimPrefixV Lib.trimPrefix
    by_cases hp : p = []
    · subst hp
      have : (if Lib.hasPrefix x [] = true then x.drop ([] : List UInt8).length else x) = x := by split <;> rfl
      rw [this]
      split
      · rename_i h; cases h
      · exact none_case
    · by_cases hx : x = []
      · subst hx
        have : (if Lib.hasPrefix [] p = true then ([] : List UInt8).drop p.length else []) = [] := by split <;> simp
        rw [this]
        split
        · rename_i b o s y ys hh
          unfold Lib.bytesTrimPrefix
          rename_i hnp
          rw [bytesOf_nums, bytesOf_nums]
          have : Lib.hasPrefix [] p = false := by
            cases p with
            | nil => exact absurd rfl hp
            | cons => rfl
          rw [this]
          exact none_case
        · exact none_case
      · rcases h4 with h4 | ⟨ad, rfl, hA, hcell⟩
        · exact absurd (by simpa using h4) hx
        · obtain ⟨b, o, e1, e2⟩ := h5 (by rw [nums_len]; exact List.length_pos_iff.2 hx)
          simp only [Option.some.injEq] at e1
          subst e1
          have hz : z = false := by
            cases z with
            | false => rfl
            | true => exact absurd (h3.1 rfl).1 (by simp)
          subst hz
          have hn : nums p ≠ [] := by
            intro e
            exact hp (by simpa [nums] using e)
          obtain ⟨y0, ys, hys⟩ := List.exists_cons_of_ne_nil hn
          rw [hys]
          simp only
          unfold Lib.bytesTrimPrefix
          rw [← hys, bytesOf_nums, bytesOf_nums]
          by_cases hh : Lib.hasPrefix x p = true
          · rw [if_pos hh, if_pos hh]
            unfold Lib.sliceFrom
            rw [nums_len]
            have hle := Lib.hasPrefix_le hh
            have hcc := Cells.cut (w := w') (A := Ctx.Al { P := Tryd.prog, nt := nt, w0 := w', St := St, Pd := Pd, g0 := g0 } [] g0) (a := some ⟨b, o, none⟩) (cs := x.map byteV) (.inr ⟨_, rfl, hA, hcell⟩) p.length x.length c p.length (fun e => by rw [List.drop_eq_nil_iff, List.length_take, List.length_map]; omega)
            rw [List.take_of_length_le (by simp), ← List.map_drop] at hcc
            refine mk_by (by rw [List.length_drop]) (by rw [List.length_drop]; omega) (by omega) ⟨fun e => (by cases e), fun e => (by split at e <;> cases e)⟩ ?_
            have e3 : (if c = p.length then (some ⟨b, o, none⟩ : Option Addr) else (some (⟨b, o, none⟩ : Addr)).map (·.add p.length)) = (if c = p.length then some ⟨b, o, none⟩ else some ⟨b, o + p.length, none⟩) := by
              split
              · rfl
              · rw [Option.map_some, add_pl]
            rw [← e3]
            exact hcc
          · rw [if_neg hh, if_neg hh]
            exact none_case
  · cases h

theorem drewN_RV {P : Program} {w : World} {A : Nat → Prop} {g : Nat → Value} {v : V} {u : Value} (n : Nat) (h : RV P w A g v u) : RV P (w.drewN n) A g v u := below_RV (drewN_below w n) h
/-- A suffix of a slice. -/
theorem from_RV {P : Program} {w : World} {A : Nat → Prop} {g : Nat → Value} {a : Option Addr} {c j : Nat} {x : List UInt8} (hj : j ≤ x.length) (h1 : x.length ≤ c) (h2 : c ≤ Go.maxLen) (h3 : a = none → c = 0) (h4 : Cells w A a (x.map byteV)) {n : Nat} (hn : n = x.length) :
    RV P w A g (.im (.by_ false (x.drop j))) (Lib.fromV a n c j) := by
  subst hn
  unfold Lib.fromV
  have hcc := Cells.cut h4 j x.length c j (fun e => by rw [List.drop_eq_nil_iff, List.length_take, List.length_map]; omega)
  rw [List.take_of_length_le (by simp), ← List.map_drop] at hcc
  refine mk_by (by rw [List.length_drop]) (by rw [List.length_drop]; omega) (by omega) ⟨fun e => (by cases e), fun e => ?_⟩ hcc
  split at e
  · omega
  · have : a = none := by simpa using e
    have := h3 this
    omega
theorem take_RV {P : Program} {w : World} {A : Nat → Prop} {g : Nat → Value} {z : Bool} {a : Option Addr} {c j : Nat} {x : List UInt8} (hj : j ≤ x.length) (h1 : x.length ≤ c) (h2 : c ≤ Go.maxLen) (h3 : (z = true → a = none ∧ c = 0) ∧ (a = none → c = 0)) (h4 : Cells w A a (x.map byteV)) :
    RV P w A g (.im (.by_ z (x.take j))) (.slice a j c) := by
  refine mk_by (by rw [List.length_take]; omega) (by rw [List.length_take]; omega) h2 h3 ?_
  rcases h4 with h4 | ⟨ad, rfl, hA, hc⟩
  · exact .inl (by rw [List.map_take, h4, List.take_nil])
  · refine .inr ⟨ad, rfl, hA, fun k u hk => hc k u ?_⟩
    rw [List.map_take, List.getElem?_take] at hk
    split at hk
    · exact hk
    · cases hk
theorem s_IndexByte : SoundL f_bytes_IndexByte l_IndexByte := by
  intro args l r h
  unfold l_IndexByte at h
  split at h
  · rename_i z x cv
    simp only [Option.some.injEq] at h
    subst h
    intro C us hP hG hH hargs
    obtain ⟨P, nt, w0, St, Pd, g0⟩ := C
    subst hP
    obtain ⟨u, u2, rfl, hu, hu2⟩ := two_args hargs
    obtain ⟨a, c, rfl, h1, h2, h3, h4, h5⟩ := by_in hu
    obtain ⟨rfl, _⟩ := RV_i hu2
    have hr : (IntKind.i64).min ≤ Lib.indexByte x (UInt8.ofNat cv.toNat) ∧ Lib.indexByte x (UInt8.ofNat cv.toNat) ≤ (IntKind.i64).max := by
      have g1 := Lib.indexByte_ge x (UInt8.ofNat cv.toNat)
      have g2 := Lib.index_in1 x (UInt8.ofNat cv.toNat)
      unfold Go.maxLen at h2
      simp only [IntKind.min, IntKind.max, IntKind.signed, IntKind.bits, if_true]
      omega
    cases a with
    | none =>
      obtain rfl : c = 0 := h3.2 rfl
      have hx : x = [] := List.eq_nil_of_length_eq_zero (by omega)
      subst hx
      refine callsTo_of (by kernel_rfl) ((Tryd.bytes_IndexByte_nil cv w0).mono ?_)
      rintro e w' ⟨rfl, rfl⟩
      exact gives0 (Below.refl _ _) (ret1 (mk_i hr.1 hr.2))
    | some ad =>
      have hcell : ∀ i, i < x.length → w0.cell? (ad.add i) = some (.int .u8 ((nums x).getD i 0)) := by
        rcases h4 with h4 | ⟨ad', e, hA, hcell⟩
        · intro i hi
          have : x = [] := by simpa using h4
          subst this
          exact absurd hi (by simp)
        · simp only [Option.some.injEq] at e
          subst e
          exact nums_cell hcell
      have := Tryd.bytes_IndexByte_at ad x.length c (nums x) cv w0 (nums_len x) hcell
      rw [bytesOf_nums] at this
      refine callsTo_of (by kernel_rfl) (this.mono ?_)
      rintro e w' ⟨rfl, rfl⟩
      exact gives0 (Below.refl _ _) (ret1 (mk_i hr.1 hr.2))
  · cases h
theorem s_Cut : SoundL f_bytes_Cut l_Cut := by
  intro args l r h
  unfold l_Cut at h
  split at h
  · rename_i z x y p
    obtain ⟨hs, h⟩ := ifB_some h
    simp only [small, decide_eq_true_eq] at hs
    simp only [Option.some.injEq] at h
    subst h
    intro C us hP hG hH hargs
    obtain ⟨P, nt, w0, St, Pd, g0⟩ := C
    subst hP
    obtain ⟨u, u2, rfl, hu, hu2⟩ := two_args hargs
    obtain ⟨a, c, rfl, h1, h2, h3, h4, h5⟩ := by_in hu
    obtain ⟨a', c', rfl, i1, i2, i3, i4, i5⟩ := by_in hu2
    obtain ⟨m, hm⟩ := (hG w0 (Fr.refl _ _)).maxLen
    have := Tryd.bytes_Cut_all a a' x.length c p.length c' (nums x) (nums p) m w0 (nums_len x) (nums_len p) (nums_in x) (nums_in p) (by rw [← nums_len x]; exact h5) (by rw [← nums_len p]; exact i5) h3.2 h1 hs (by unfold Go.maxLen at i2; omega) hm
    rw [bytesOf_nums, bytesOf_nums] at this
    refine callsTo_of (by kernel_rfl) (this.mono ?_)
    rintro e w' ⟨rfl, q, rfl⟩
    unfold Lib.cutV Lib.cut
    by_cases h0 : 0 ≤ Lib.index x p
    · have hroom := Lib.index_room x p h0
      simp only [if_pos h0]
      refine gives0 (drewN_below _ _) (ret3 ?_ ?_ (mk_b _))
      · exact drewN_RV q (take_RV (by omega) h1 h2 h3 h4)
      · exact drewN_RV q (from_RV (by omega) h1 h2 h3.2 h4 rfl)
    · simp only [if_neg h0]
      refine gives0 (drewN_below _ _) (ret3 ?_ ?_ (mk_b _))
      · exact drewN_RV q (mk_by rfl h1 h2 h3 h4)
      · exact mk_by rfl (Nat.le_refl _) (by simp) ⟨fun _ => ⟨rfl, rfl⟩, fun _ => rfl⟩ (.inl rfl)
  · cases h
theorem s_Index : SoundL f_bytes_Index l_Index := by
  intro args l r h
  unfold l_Index at h
  split at h
  · rename_i z x y p
    obtain ⟨hs, h⟩ := ifB_some h
    simp only [small, decide_eq_true_eq] at hs
    simp only [Option.some.injEq] at h
    subst h
    intro C us hP hG hH hargs
    obtain ⟨P, nt, w0, St, Pd, g0⟩ := C
    subst hP
    obtain ⟨u, u2, rfl, hu, hu2⟩ := two_args hargs
    obtain ⟨a, c, rfl, h1, h2, h3, h4, h5⟩ := by_in hu
    obtain ⟨a', c', rfl, i1, i2, i3, i4, i5⟩ := by_in hu2
    obtain ⟨m, hm⟩ := (hG w0 (Fr.refl _ _)).maxLen
    have hr := index_in x p (by omega)
    refine callsTo_of (by kernel_rfl) ((index_calls a a' c c' x p m w0 h5 i5 h3.2 i3.2 h1 i1 hs (by unfold Go.maxLen at i2; omega) hm).mono ?_)
    rintro e w' ⟨rfl, q, rfl⟩
    exact gives0 (drewN_below _ _) (ret1 (mk_i hr.1 hr.2))
  · cases h
theorem s_Contains : SoundL f_bytes_Contains l_Contains := by
  intro args l r h
  unfold l_Contains at h
  split at h
  · rename_i z x y p
    obtain ⟨hs, h⟩ := ifB_some h
    simp only [small, decide_eq_true_eq] at hs
    simp only [Option.some.injEq] at h
    subst h
    intro C us hP hG hH hargs
    obtain ⟨P, nt, w0, St, Pd, g0⟩ := C
    subst hP
    obtain ⟨u, u2, rfl, hu, hu2⟩ := two_args hargs
    obtain ⟨a, c, rfl, h1, h2, h3, h4, h5⟩ := by_in hu
    obtain ⟨a', c', rfl, i1, i2, i3, i4, i5⟩ := by_in hu2
    obtain ⟨m, hm⟩ := (hG w0 (Fr.refl _ _)).maxLen
    refine callsTo_of (by kernel_rfl) ((contains_calls a a' c c' x p m w0 h5 i5 h3.2 i3.2 h1 i1 hs (by unfold Go.maxLen at i2; omega) hm).mono ?_)
    rintro e w' ⟨rfl, q, rfl⟩
    exact gives0 (drewN_below _ _) (ret1 (mk_b _))
  · cases h
theorem s_TrimLeft : SoundL f_bytes_TrimLeft l_TrimLeft := by
  intro args l r h
  unfold l_TrimLeft at h
  split at h
  · rename_i z x cs
    obtain ⟨hs, h⟩ := ifB_some h
    have hs : cs = [32, 9, 10, 13] := by simpa using hs
    subst hs
    simp only [Option.some.injEq] at h
    subst h
    intro C us hP hG hH hargs
    obtain ⟨P, nt, w0, St, Pd, g0⟩ := C
    subst hP
    obtain ⟨u, u2, rfl, hu, hu2⟩ := two_args hargs
    obtain ⟨a, c, rfl, h1, h2, h3, h4, h5⟩ := by_in hu
    obtain ⟨rfl, _⟩ := RV_s hu2
    have := Any.bytes_TrimLeft_laid Tryd.laysV8 (by kernel_rfl) a x.length c (nums x) ⟨#[32, 9, 10, 13]⟩ w0 (nums_len x) h1 (by unfold Go.maxLen at h2; omega) (by rw [← nums_len x]; exact h5) (nums_in x) (by decide) (fun j b hb => by
      have : b = 32 ∨ b = 9 ∨ b = 10 ∨ b = 13 := by
        have := List.mem_of_getElem? hb
        simpa using this
      rcases this with rfl | rfl | rfl | rfl <;> decide)
    rw [bytesOf_nums] at this
    refine callsTo_of (by kernel_rfl) (this.mono ?_)
    rintro e w' ⟨rfl, hb⟩
    refine gives0 hb (ret1 (below_RV hb ?_))
    have hsuf : ∃ j, j ≤ x.length ∧ Lib.trimLeftS x [32, 9, 10, 13] = x.drop j := by
      obtain ⟨p, hp⟩ := (List.dropWhile_suffix (l := x) (([32, 9, 10, 13] : List UInt8).contains ·))
      refine ⟨p.length, ?_, ?_⟩
      · rw [← hp]; simp
      · unfold Lib.trimLeftS
        conv => rhs; rw [← hp]
        simp
    obtain ⟨j, hj, hjx⟩ := hsuf
    show RV _ _ _ _ _ (Lib.leftV a x.length c (x.length - (Lib.trimLeftS x [32, 9, 10, 13]).length))
    rw [hjx]
    have hl : x.length - (x.drop j).length = j := by rw [List.length_drop]; omega
    rw [hl]
    unfold Lib.leftV
    by_cases hn : j = x.length
    · rw [if_pos hn]
      have : x.drop j = [] := by rw [List.drop_eq_nil_iff]; omega
      rw [this]
      exact mk_by rfl (Nat.le_refl _) (by simp) ⟨fun _ => ⟨rfl, rfl⟩, fun _ => rfl⟩ (.inl rfl)
    · rw [if_neg hn]
      have : (x.drop j).isEmpty = false := by
        rw [List.isEmpty_eq_false_iff]
        intro e
        rw [List.drop_eq_nil_iff] at e
        omega
      rw [this]
      exact from_RV hj h1 h2 h3.2 h4 rfl
  · cases h
theorem s_sCutPrefix : SoundL f_strings_CutPrefix l_sCutPrefix := by
  intro args l r h
  unfold l_sCutPrefix at h
  split at h
  · rename_i x p
    simp only [Option.some.injEq] at h
    subst h
    intro C us hP hG hH hargs
    obtain ⟨P, nt, w0, St, Pd, g0⟩ := C
    subst hP
    obtain ⟨u, u2, rfl, hu, hu2⟩ := two_args hargs
    obtain ⟨rfl, h1⟩ := RV_s hu
    obtain ⟨rfl, h2⟩ := RV_s hu2
    refine callsTo_of (by kernel_rfl) ((Tryd.strings_CutPrefix _ _ w0).mono ?_)
    rintro e w' ⟨rfl, rfl⟩
    refine gives0 (Below.refl _ _) (ret2 (mk_s ?_) (mk_b _))
    unfold Lib.trimPrefix
    split
    · rw [List.length_drop]; omega
    · exact h1
  · cases h
theorem s_sIndexByte : SoundL f_strings_IndexByte l_sIndexByte := by
  intro args l r h
  unfold l_sIndexByte at h
  split at h
  · rename_i x cv
    simp only [Option.some.injEq] at h
    subst h
    intro C us hP hG hH hargs
    obtain ⟨P, nt, w0, St, Pd, g0⟩ := C
    subst hP
    obtain ⟨u, u2, rfl, hu, hu2⟩ := two_args hargs
    obtain ⟨rfl, h2⟩ := RV_s hu
    obtain ⟨rfl, _⟩ := RV_i hu2
    have hr : (IntKind.i64).min ≤ Lib.indexByte x (UInt8.ofNat cv.toNat) ∧ Lib.indexByte x (UInt8.ofNat cv.toNat) ≤ (IntKind.i64).max := by
      have g1 := Lib.indexByte_ge x (UInt8.ofNat cv.toNat)
      have g2 := Lib.index_in1 x (UInt8.ofNat cv.toNat)
      unfold Go.maxLen at h2
      simp only [IntKind.min, IntKind.max, IntKind.signed, IntKind.bits, if_true]
      omega
    refine callsTo_of (by kernel_rfl) ((Tryd.strings_IndexByte _ _ w0).mono ?_)
    rintro e w' ⟨rfl, rfl⟩
    exact gives0 (Below.refl _ _) (ret1 (mk_i hr.1 hr.2))
  · cases h
theorem s_DecodeRune : SoundL f_unicode_utf8_DecodeRune l_DecodeRune := by
  intro args l r h
  unfold l_DecodeRune at h
  split at h
  · rename_i z x
    simp only [Option.some.injEq] at h
    subst h
    intro C us hP hG hH hargs
    obtain ⟨P, nt, w0, St, Pd, g0⟩ := C
    subst hP
    obtain ⟨u, rfl, hu⟩ := one_arg hargs
    obtain ⟨a, c, rfl, h1, h2, h3, h4, h5⟩ := by_in hu
    have hr : (IntKind.i32).min ≤ ((decG x).1 : Int) ∧ ((decG x).1 : Int) ≤ (IntKind.i32).max ∧ (IntKind.i64).min ≤ ((decG x).2 : Int) ∧ ((decG x).2 : Int) ≤ (IntKind.i64).max := by
      have g1 := decG_le x
      have g2 := decG_len x
      unfold Go.maxLen at h2
      simp only [IntKind.min, IntKind.max, IntKind.signed, IntKind.bits, if_true]
      omega
    have key : Calls Tryd.prog 46 #[.slice a x.length c] w0 fun e w' => e = .returned (.tuple #[.int .i32 (decG x).1, .int .i64 (decG x).2]) ∧ Below w0.heap.size w0 w' := by
      by_cases hx : x = []
      · subst hx
        refine (Any7.utf8_DecodeRune_empty Tryd.lays7n32 a c w0).mono ?_
        rintro e w' ⟨rfl, rfl⟩
        exact ⟨rfl, Below.refl _ _⟩
      · obtain ⟨b, o, rfl, hc⟩ := h5.at (by rw [nums_len]; exact List.length_pos_iff.2 hx)
        have := Any7.utf8_DecodeRune Tryd.lays7n32 ⟨x.toArray⟩ b o c w0 (hG w0 (Fr.refl _ _)).tabs (fun j hj => by
          have hj' : j < x.length := by simpa [ByteArray.size] using hj
          rw [hc j (by rw [nums_len]; exact hj')]
          simp [nums, List.getD, hj', ByteArray.get!])
        exact this
    refine callsTo_of (by kernel_rfl) (key.mono ?_)
    rintro e w' ⟨rfl, hb⟩
    exact gives0 hb (ret2 (mk_i hr.1 hr.2.1) (mk_i hr.2.2.1 hr.2.2.2))
  · cases h
theorem s_AppendRune : SoundL f_unicode_utf8_AppendRune l_AppendRune := by
  intro args l r h
  unfold l_AppendRune at h
  split at h
  · rename_i rv
    simp only [Option.some.injEq] at h
    subst h
    intro C us hP hG hH hargs
    obtain ⟨P, nt, w0, St, Pd, g0⟩ := C
    subst hP
    obtain ⟨u, u2, rfl, hu, hu2⟩ := two_args hargs
    obtain ⟨a, c, rfl, h1, h2, h3, h4, h5⟩ := by_in hu
    obtain ⟨rfl, r1, r2⟩ := RV_i hu2
    obtain ⟨rfl, rfl⟩ := h3.1 rfl
    have := Tryd.utf8_AppendRune_plain w0.heap.size (.slice none 0 0) 0 [] rv (by simpa [IntKind.min, IntKind.signed, IntKind.bits] using r1) (by simpa [IntKind.max, IntKind.signed, IntKind.bits] using r2) w0 (World.ownsRow_nil _ _ _ _) (by omega) (Nat.le_refl _)
    refine callsTo_of (by kernel_rfl) (this.mono ?_)
    rintro e w' ⟨v', rfl, hown, o, hg⟩
    have hb : Below w0.heap.size w0 w' := by
      obtain ⟨a1, a2, a3, a4, a5⟩ := hg
      have hsz : (w0.alloc o).heap.size = w0.heap.size + 1 := by simp
      refine ⟨a1, a2, a3, by have : w0.heap.size + 1 ≤ w'.heap.size := hsz ▸ a4; show w0.heap.size ≤ w'.heap.size; omega, fun k hk => ?_⟩
      rw [a5 k (by rw [hsz]; exact Nat.lt_succ_of_lt hk) (by simp [Value.ownBlock])]
      exact heap_alloc_old w0 o hk
    refine gives0 hb (ret1 ?_)
    have hcl := (Lib.runeCells_le rv).1
    have hlen : (Lib.encodeRune rv).length = (Lib.runeCells rv).length := (Lib.runeCells_length rv).symm
    have e8 : Lib.runeCells rv = (Lib.encodeRune rv).map byteV := (Lib.byteCells_encodeRune rv).symm
    rw [Nat.zero_add, List.nil_append] at hown
    rcases hown.2 with ⟨_, h0⟩ | ⟨gg, cap, cur, rfl, i1, i2, i3, i4, i5, i6⟩
    · omega
    · refine mk_by hlen.symm (by omega) i4 ⟨fun e => (by cases e), fun e => (by cases e)⟩ (.inr ⟨_, rfl, ⟨.inr (.inr i1), ?_⟩, ?_⟩)
      · rintro ⟨p, x, hx, _⟩
        cases hx
      · rw [← e8]
        exact hown.cells (g := gg) rfl
  · cases h
end
end Go.Proofs.Av
