/- Contracts of ThreeToTwo and ManySum (chapter 2) of the program; conditions: that the words are valid, and that there are 1 to 12 of them. -/
import Derived.Test.YthbpcgefcnpfmaaW2
import Derived.Test.YthbpcgefcnpfmaaOwn
import Derived.Test.YthbpcgefcnpfmaaMathJ
import Derived.Test.YthbpcgefcnpfmaaQC
import Derived.ArgAppend
import Derived.Laws.IdiomCopy
namespace Go.Proofs.Ythbpcgefcnpfmaa
open Go.RowKit
theorem cell_three0 (w : World) (u v x : Value) (t : TypeId) : (w.alloc (.cells #[u, v, x] t)).cell? ⟨w.heap.size, 0, none⟩ = some u := by
  rw [World.cell?_alloc_at] <;> rfl
theorem cell_three1 (w : World) (u v x : Value) (t : TypeId) : (w.alloc (.cells #[u, v, x] t)).cell? ⟨w.heap.size, 1, none⟩ = some v := by
  rw [World.cell?_alloc_at] <;> rfl
theorem cell_three2 (w : World) (u v x : Value) (t : TypeId) : (w.alloc (.cells #[u, v, x] t)).cell? ⟨w.heap.size, 2, none⟩ = some x := by
  rw [World.cell?_alloc_at] <;> rfl
theorem allValid_three (k a b c : Int) (va : vld k a = true) (vb : vld k b = true) (vc : vld k c = true) (g cap : Nat) (w : World) (ha : w.cell? ⟨g, 0, none⟩ = some (.int .i64 a)) (hb : w.cell? ⟨g, 1, none⟩ = some (.int .i64 b)) (hc : w.cell? ⟨g, 2, none⟩ = some (.int .i64 c)) :
    Calls Try.prog 55 #[.int .i64 k, .slice (some ⟨g, 0, none⟩) 3 cap] w fun e w' => e = .returned (.bool true) ∧ w = w' := by
  have h := allValid_any k [a, b, c] g cap w (by simp) (fun j hj => by
    match j, hj with
    | 0, _ => exact ha
    | 1, _ => exact hb
    | 2, _ => exact hc
    | j + 3, hj => simp at hj; omega)
  obtain ⟨h1, h2, _⟩ := vld_4096 va
  have e : (inB k 1 12 && [a, b, c].all (vld k)) = true := by
    simp only [List.all_cons, List.all_nil, va, vb, vc, Bool.and_true]
    exact inB_mk h1 h2
  rw [e] at h
  exact h
theorem implThreeToTwo_ok (k a b c : Int) (va : vld k a = true) (vb : vld k b = true) (vc : vld k c = true) (w : World) :
    Calls Try.prog 77 #[.int .i64 k, .int .i64 a, .int .i64 b, .int .i64 c] w fun e w' => e = .returned (.tuple #[.int .i64 (x3 a b c), .int .i64 (2 * m3 a b c % pw k), .bool true]) ∧ Below w.heap.size w w' := by
  obtain ⟨h1, h2, a3, a4, h5, h6⟩ := vld_4096 va
  obtain ⟨_, _, b3, b4, _, _⟩ := vld_4096 vb
  obtain ⟨_, _, c3, c4, _, _⟩ := vld_4096 vc
  have p0 := xorZ_nonneg a b
  have p1 := xorZ_lt a b k a3 a4 b3 b4
  have n0 := andZ_nonneg a b
  have n1 := andZ_le a b a3
  have n2 := andZ_nonneg a c
  have n3 := andZ_le a c a3
  have n4 := andZ_nonneg b c
  have n5 := andZ_le b c b3
  have o0 := orZ_nonneg (andZ a b) (andZ a c)
  have o1 := orZ_lt (andZ a b) (andZ a c) k n0 (by omega) n2 (by omega)
  have m0 := orZ_nonneg (orZ (andZ a b) (andZ a c)) (andZ b c)
  have m1 := orZ_lt (orZ (andZ a b) (andZ a c)) (andZ b c) k o0 o1 n4 (by omega)
  have e1 : bits .xor .i64 a b = xorZ a b := i64_xor a b a3 (by omega) b3 (by omega)
  have e2 : bits .xor .i64 (xorZ a b) c = xorZ (xorZ a b) c := i64_xor (xorZ a b) c p0 (by omega) c3 (by omega)
  have e3 : bits .and .i64 a b = andZ a b := i64_and a b a3 (by omega) b3 (by omega)
  have e4 : bits .and .i64 a c = andZ a c := i64_and a c a3 (by omega) c3 (by omega)
  have e5 : bits .and .i64 b c = andZ b c := i64_and b c b3 (by omega) c3 (by omega)
  have e6 : bits .or .i64 (andZ a b) (andZ a c) = orZ (andZ a b) (andZ a c) := i64_or _ _ n0 (by omega) n2 (by omega)
  have e7 : bits .or .i64 (orZ (andZ a b) (andZ a c)) (andZ b c) = orZ (orZ (andZ a b) (andZ a c)) (andZ b c) := i64_or _ _ o0 (by omega) n4 (by omega)
  have HM := hd (show orZ (orZ (andZ a b) (andZ a c)) (andZ b c) * 2 % pw k = 2 * m3 a b c % pw k by rw [Int.mul_comm]; rfl)
  have HM2 := hd (show 2 * orZ (orZ (andZ a b) (andZ a c)) (andZ b c) % pw k = 2 * m3 a b c % pw k from rfl)
  have HV := hd (fun W g cap h0 h1 h2 => allValid_three k a b c va vb vc g cap W h0 h1 h2)
  clear va vb vc
  go_enter Try.func77, Try.ntmps77
  go_wp2_with (first
    | (go_at_call 55; refine (HV.out _ _ _ (cell_three0 _ _ _ _ _) (cell_three1 _ _ _ _ _) (cell_three2 _ _ _ _ _)).mono ?_; rintro e w' ⟨rfl, rfl⟩)
    | (go_at_call 57; refine (cut_any _ _ (by omega) (by omega) _).mono ?_; rintro e w' ⟨rfl, rfl⟩))
  go_ret3
  refine ⟨?_, (Below.refl _ _).alloc (Nat.le_refl _) _⟩
  first
    | (rw [← HM.out]; rfl)
    | (rw [← HM2.out]; rfl)
/-- a slice of the call's own, from whatever place of its row on: what it holds, its spare room -/
def LAt (B : Nat) (w : World) (g off cap : Nat) (M : List Int) : Prop :=
  B ≤ g ∧ g < w.heap.size ∧ M.length ≤ cap ∧ cap ≤ maxLen ∧ (∀ j (hj : j < M.length), w.cell? ⟨g, off + j, none⟩ = some (.int .i64 M[j])) ∧ (∀ j, j < cap → (w.cell? ⟨g, off + j, none⟩).isSome = true) ∧ ∀ j, w.frozen? ⟨g, j, none⟩ = false
theorem LAt.of_row {w : World} {B n : Nat} {v : Value} {M : List Int} (h : w.ownsRow B 3 1 v n (M.map (Value.int .i64))) (hn : 0 < n) : ∃ g cap, v = .slice (some ⟨g, 0, none⟩) n cap ∧ M.length = n ∧ LAt B w g 0 cap M := by
  have hl := own_len h
  rcases h.2 with ⟨_, h0⟩ | ⟨g, cap, cur, hv, hB, hg, h1, h2, h3, h4⟩
  · omega
  · subst hv
    refine ⟨g, cap, rfl, hl.symm, hB, (Array.getElem?_eq_some_iff.1 hg).1, by omega, h2, fun j hj => ?_, fun j hj => ?_, fun j => h.frozenAt j⟩
    · rw [Nat.zero_add, h.cellAt j (by omega), List.getElem?_map, List.getElem?_eq_getElem hj]; rfl
    · rw [Nat.zero_add]
      have : j < cur.size := by omega
      simp [World.cell?, hg, this]
theorem LAt.below {w w' : World} {B B' g off cap : Nat} {M : List Int} (h : LAt B w g off cap M) (hb : Below B' w w') (hB : w.heap.size ≤ B') : LAt B w' g off cap M := by
  obtain ⟨h1, h2, h3, h4, h5, h6, h7⟩ := h
  exact ⟨h1, Nat.lt_of_lt_of_le h2 hb.size, h3, h4, fun j hj => (hb.cell (p := ⟨g, off + j, none⟩) (Nat.lt_of_lt_of_le h2 hB)).trans (h5 j hj), fun j hj => by rw [hb.cell (p := ⟨g, off + j, none⟩) (Nat.lt_of_lt_of_le h2 hB)]; exact h6 j hj,
    fun j => (hb.frozen (p := ⟨g, j, none⟩) (Nat.lt_of_lt_of_le h2 hB)).trans (h7 j)⟩
theorem LAt.drop3 {w : World} {B g off cp : Nat} {a b c : Int} {T : List Int} (h : LAt B w g off (cp + 3) (a :: b :: c :: T)) : LAt B w g (off + 3) cp T := by
  obtain ⟨h1, h2, h3, h4, h5, h6, h7⟩ := h
  refine ⟨h1, h2, by simp at h3; omega, by omega, fun j hj => ?_, fun j hj => ?_, h7⟩
  · have := h5 (j + 3) (by simp; omega)
    rw [show off + 3 + j = off + (j + 3) by omega, this]; rfl
  · rw [show off + 3 + j = off + (j + 3) by omega]; exact h6 (j + 3) (by omega)
theorem LAt.stored {w : World} {B g o : Nat} (hB : B ≤ g) (x y : Value) : Below B w (w.setCells g o [x, y]) :=
  ((Below.refl B w).setCell (p := ⟨g, o, none⟩) hB x).setCell (p := ⟨g, o + 1, none⟩) hB y
theorem LAt.room {w : World} {B g off cap : Nat} {T : List Int} (h : LAt B w g off cap T) (hr : T.length + 2 ≤ cap) (x y : Int) :
    LAt B (w.setCells g (off + T.length * 1) [.int .i64 x, .int .i64 y]) g off cap (T ++ [x, y]) := by
  obtain ⟨h1, h2, h3, h4, h5, h6, h7⟩ := h
  have hs := (LAt.stored (w := w) (o := off + T.length * 1) h1 (.int .i64 x) (.int .i64 y)).size
  have hin := World.cell?_setCells_in g [Value.int .i64 x, .int .i64 y] (off + T.length * 1) w (fun j hj => by
    have := h6 (T.length + j) (by simp at hj; omega)
    rwa [show off + T.length * 1 + j = off + (T.length + j) by omega])
  have hout : ∀ j, (j < T.length ∨ T.length + 2 ≤ j) → (w.setCells g (off + T.length * 1) [.int .i64 x, .int .i64 y]).cell? ⟨g, off + j, none⟩ = w.cell? ⟨g, off + j, none⟩ := fun j hj =>
    World.cell?_setCells_out g _ _ _ _ (fun _ _ => by simp; omega)
  have c0 := hin 0 (by simp)
  have c1 := hin 1 (by simp)
  refine ⟨h1, Nat.lt_of_lt_of_le h2 hs, by simp; omega, h4, fun j hj => ?_, fun j hj => ?_, fun j => by rw [World.frozen?_setCells]; exact h7 j⟩
  · simp at hj
    rcases (show j < T.length ∨ j = T.length ∨ j = T.length + 1 by omega) with hh | hh | hh
    · rw [hout j (.inl hh), h5 j hh, List.getElem_append_left hh]
    · subst hh
      rw [show off + T.length = off + T.length * 1 + 0 by omega, c0]; simp
    · subst hh
      rw [show off + (T.length + 1) = off + T.length * 1 + 1 by omega, c1]; simp
  · rcases (show (j < T.length ∨ T.length + 2 ≤ j) ∨ j = T.length ∨ j = T.length + 1 by omega) with hh | hh | hh
    · rw [hout j hh]; exact h6 j hj
    · subst hh
      rw [show off + T.length = off + T.length * 1 + 0 by omega, c0]; rfl
    · subst hh
      rw [show off + (T.length + 1) = off + T.length * 1 + 1 by omega, c1]; rfl
theorem cells_two_new (w : World) (u v : Value) (t : TypeId) : ∀ (j : Nat) (x : Value), [u, v][j]? = some x → (w.alloc (.cells #[u, v] t)).cell? ((⟨w.heap.size, 0, none⟩ : Addr).add j) = some x := by
  intro j x hx
  rw [Addr.add_lit, Nat.zero_add]
  match j, hx with
  | 0, hx => rw [cell_two0]; simpa using hx
  | 1, hx => rw [cell_two1]; simpa using hx
theorem ownsRow_mono {w : World} {B B' e n : Nat} {v : Value} {xs : List Value} (h : w.ownsRow B' e 1 v n xs) (hB : B ≤ B') : w.ownsRow B e 1 v n xs :=
  ⟨h.1, h.2.imp id fun ⟨g, cap, cur, hv, hb, r⟩ => ⟨g, cap, cur, hv, Nat.le_trans hB hb, r⟩⟩
theorem btj {a b c : World} (h : Below a.heap.size a b) (g : Below b.heap.size b c) : Below a.heap.size a c := h.trans (g.mono h.size)
set_option maxHeartbeats 1600000 in
theorem implManySum_ok (k : Int) (h1 : 1 ≤ k) (h2 : k ≤ 12) (L : List Int) (hn1 : 1 ≤ L.length) (hn2 : L.length ≤ 12) (hv : ∀ y ∈ L, vld k y = true) (A : Option Addr) (c Bw : Nat) (w : World) (hown : Owns w Bw A c L) :
    Calls Try.prog 47 #[.int .i64 k, .slice A L.length c] w fun e w' => e = .returned (.int .i64 (sumL L % pw k)) ∧ Below w.heap.size w w' := by
  obtain ⟨i0, hi, hz0, hz1, hz2⟩ := info_parts info_int
  obtain ⟨p1, p2⟩ := pw_w k h1 h2
  obtain ⟨S, hS⟩ : ∃ S, sumL L % pw k = S := ⟨_, rfl⟩
  rw [hS]
  have HS := hd hS
  clear hS
  obtain ⟨g, rfl, _, hgw, hc, _⟩ := hown.some_ (k := 0) (by omega)
  have HC := hd hc
  clear hc
  have hall : (inB k 1 12 && L.all (vld k)) = true := by rw [inB_mk h1 h2, Bool.true_and, List.all_eq_true]; exact hv
  have HAV := hd (fun W (hW : Cells W g L) => by have := allValid_any k L g c W (by omega) hW; rw [hall] at this; exact this)
  have HV := hd hv
  clear hv hall hown
  have h20 : decide (20 < (L.length : Int)) = false := decide_eq_false (by omega)
  obtain ⟨B, hB⟩ : ∃ B, B = w.heap.size := ⟨_, rfl⟩
  rw [← hB]
  have hB1 : B ≤ w.heap.size := by omega
  clear hB
  go_enter Try.func47, Try.ntmps47
  go_wp2_with (first
    | (go_at_call 55; refine (HAV.out _ HC.out).mono ?_; rintro e w' ⟨rfl, rfl⟩)
    | (at_builtin; refine wpList_append_own _ rfl _ _ 35 rfl B 3 i0 (.int .i64 0) 1 8 Try.underlying35 hi hz0 hz1 hz2 rfl (by decide) _ _ _ rfl (World.ownsRow_nil _ B 3 1) ⟨g, 0, none⟩ L.length c (L.map (Value.int .i64)) rfl ?c1 ?c2 ?c3 ?c4 ?c5 ?c6 ?_))
  case c1 => simp
  case c2 =>
    intro j u hu
    rw [List.getElem?_map] at hu
    obtain ⟨y, hy, rfl⟩ := Option.map_eq_some_iff.1 hu
    obtain ⟨hj, hjy⟩ := List.getElem?_eq_some_iff.1 hy
    rw [Addr.add_lit, Nat.zero_add, HC.out j hj, hjy]
  case c3 => intro u hu; obtain ⟨y, _, rfl⟩ := List.mem_map.1 hu; rfl
  case c4 => unfold maxLen; omega
  case c5 => omega
  case c6 => exact hB1
  intro v' w1 hown' hgrow _
  have hb1 : Below B w w1 := (Below.refl B w).grown hgrow hB1 (by intro k' hk'; cases hk')
  obtain ⟨g0, cp0, rfl, hl0, hlat⟩ := LAt.of_row hown' (by omega)
  clear hgrow hown'
  go_wp2
  go_loopw [5] (fun v wr => ∃ (g off cap : Nat) (M : List Int), v = .slice (some ⟨g, off, none⟩) M.length cap ∧ LAt B wr g off cap M ∧ 1 ≤ M.length ∧ M.length ≤ 12 ∧ (∀ y ∈ M, vld k y = true) ∧ sumL M % pw k = S ∧ Below B w wr) (fun v _ => slLen v)
  case atStart => exact ⟨g0, 0, cp0, L, rfl, hlat, hn1, hn2, HV.out, HS.out, hb1⟩
  case round =>
    obtain ⟨g, off, cap, M, rfl, hlat, m1, m2, hv, hs, hbel⟩ := hrel
    have HS2 := hd hs
    have HV2 := hd hv
    clear hs hv
    by_cases hlt : 2 < M.length
    · obtain ⟨a, b, c, T, rfl⟩ : ∃ a b c T, M = a :: b :: c :: T := by
        match M, hlt with
        | a :: b :: c :: T, _ => exact ⟨a, b, c, T, rfl⟩
      have hT : T.length ≤ 9 := by simp at m2; omega
      obtain ⟨cp, rfl⟩ : ∃ cp, cap = cp + 3 := ⟨cap - 3, by have := hlat.2.2.1; simp at this; omega⟩
      have va := HV2.out a (by simp)
      have vb := HV2.out b (by simp)
      have vc := HV2.out c (by simp)
      have HVT := hd (show ∀ y ∈ T ++ [x3 a b c, 2 * m3 a b c % pw k], vld k y = true by
        intro y hy
        simp only [List.mem_append, List.mem_cons, List.not_mem_nil, or_false] at hy
        rcases hy with hy | rfl | rfl
        · exact HV2.out y (by simp [hy])
        · exact x3_vld k a b c va vb vc
        · exact vld_mod k _ h1 h2)
      have HS3 := hd (show sumL (T ++ [x3 a b c, 2 * m3 a b c % pw k]) % pw k = S by
        rw [three_sum k a b c (vld_4096 va).2.2.1 (vld_4096 vb).2.2.1 (vld_4096 vc).2.2.1]; exact HS2.out)
      have HTT := hd (fun W => implThreeToTwo_ok k a b c va vb vc W)
      have hcap : cp + 3 ≤ 9223372036854775807 := by have := hlat.2.2.2.1; unfold maxLen at this; omega
      have hg1 := hlat.1
      have hgs := hlat.2.1
      have q0 : ∀ q : BW wr, q.w.cell? ⟨g, off, none⟩ = some (.int .i64 a) := fun q => (q.below.cell hgs).trans (hlat.2.2.2.2.1 0 (by simp))
      have q1 : ∀ q : BW wr, q.w.cell? ⟨g, off + 1, none⟩ = some (.int .i64 b) := fun q => (q.below.cell hgs).trans (hlat.2.2.2.2.1 1 (by simp))
      have q2 : ∀ q : BW wr, q.w.cell? ⟨g, off + 2, none⟩ = some (.int .i64 c) := fun q => (q.below.cell hgs).trans (hlat.2.2.2.2.1 2 (by simp))
      have HL := hd hlat.drop3
      clear hlat va vb vc m1 m2 hlt
      go_wp2
      refine wp_region_below (by kernel_rfl) (by kernel_rfl) ?_
      repeat (go_big_quiet_step ((go_at_call 77; exact calls_alive _ (HTT.out _))))
      refine wpQuiet_nil ?_
      rintro _ ⟨nq, rfl⟩
      have HBQ := hd (hbel.trans (nq.below.mono (Nat.le_trans hB1 hbel.size)))
      have HLQ := hd (HL.out.below nq.below (Nat.le_refl _))
      have HBA := hd (HBQ.out.alloc (Nat.le_trans hB1 HBQ.out.size) (.cells #[.int .i64 (x3 a b c), .int .i64 (2 * m3 a b c % pw k)] 3))
      have HLA := hd (HLQ.out.below ((Below.refl nq.w.heap.size nq.w).alloc (Nat.le_refl _) (.cells #[.int .i64 (x3 a b c), .int .i64 (2 * m3 a b c % pw k)] 3)) (Nat.le_refl _))
      clear q0 q1 q2 hbel
      by_cases hcp : cp = 0
      · obtain rfl : T = [] := by have := HLQ.out.2.2.1; exact List.eq_nil_of_length_eq_zero (by omega)
        subst hcp
        go_wp2_with (at_builtin; refine wpList_append_grows _ rfl _ _ 35 rfl 3 i0 (.int .i64 0) 1 8 Try.underlying35 hi hz0 hz1 hz2 rfl (by decide) _ _ _ [] rfl (fun _ => ⟨rfl, rfl⟩) ?e1 ?e2 ⟨nq.w.heap.size, 0, none⟩ 2 2 [.int .i64 (x3 a b c), .int .i64 (2 * m3 a b c % pw k)] rfl rfl ?e3 ?e4 ?e5 ?e6 ?e7 ?_)
        case e1 => rfl
        case e2 => intro _ _ j u hu; simp at hu
        case e3 => exact cells_two_new _ _ _ _
        case e4 => intro u hu; simp at hu; rcases hu with rfl | rfl <;> rfl
        case e5 => omega
        case e6 => unfold maxLen; omega
        case e7 => omega
        intro v' w2 hown2 hgrow2
        have hbel2 : Below B w w2 := HBA.out.grown hgrow2 (Nat.le_trans hB1 HBA.out.size) (by intro k' hk'; cases hk')
        obtain ⟨g2, cap2, rfl, hl2, hlat2⟩ := LAt.of_row (M := [] ++ [x3 a b c, 2 * m3 a b c % pw k]) (ownsRow_mono (by simpa using hown2) (Nat.le_succ_of_le (Nat.le_trans hB1 HBQ.out.size))) (by omega)
        have HL2 := hd hlat2
        have HB2 := hd hbel2
        clear hgrow2 hown2 hlat2 hbel2
        go_wp2
        go_roundw
        case rel => exact ⟨g2, 0, cap2, [] ++ [x3 a b c, 2 * m3 a b c % pw k], by simp, HL2.out, by simp, by simp, HVT.out, HS3.out, HB2.out⟩
        case measure => simp [slLen]
      · go_wp2_with (at_builtin; refine wpList_append_arg _ rfl _ _ 35 rfl 3 i0 (.int .i64 0) 1 8 Try.underlying35 hi hz0 hz1 hz2 rfl (by decide) _ _ _ _ (T.map (Value.int .i64)) rfl ?d1 ?d2 ⟨nq.w.heap.size, 0, none⟩ 2 2 [.int .i64 (x3 a b c), .int .i64 (2 * m3 a b c % pw k)] rfl rfl ?d3 ?d4 ?d5 ?d6 ?d7 ?_ ?_)
        case d1 => simp
        case d2 =>
          intro j u hu
          rw [List.getElem?_map] at hu
          obtain ⟨y, hy, rfl⟩ := Option.map_eq_some_iff.1 hu
          obtain ⟨hj, hjy⟩ := List.getElem?_eq_some_iff.1 hy
          rw [HLA.out.2.2.2.2.1 j hj, hjy]
        case d3 => exact cells_two_new _ _ _ _
        case d4 => intro u hu; simp at hu; rcases hu with rfl | rfl <;> rfl
        case d5 =>
          intro hr j hj
          have hj2 : j < 2 := by simpa using hj
          rw [show off + 3 + T.length * 1 + j = off + 3 + (T.length + j) by omega]
          exact ⟨HLA.out.2.2.2.2.2.1 (T.length + j) (by omega), HLA.out.2.2.2.2.2.2 _⟩
        case d6 => unfold maxLen; omega
        case d7 => omega
        · intro hr
          have HL2 := hd (HLA.out.room hr (x3 a b c) (2 * m3 a b c % pw k))
          rw [Nat.mul_one] at HL2
          have HB2 := hd (HBA.out.trans (LAt.stored (w := nq.w.alloc (.cells #[.int .i64 (x3 a b c), .int .i64 (2 * m3 a b c % pw k)] 3)) (o := off + 3 + T.length) hg1 (.int .i64 (x3 a b c)) (.int .i64 (2 * m3 a b c % pw k))))
          generalize (nq.w.alloc (.cells #[.int .i64 (x3 a b c), .int .i64 (2 * m3 a b c % pw k)] 3)).setCells g (off + 3 + T.length) [.int .i64 (x3 a b c), .int .i64 (2 * m3 a b c % pw k)] = w3 at HL2 HB2 ⊢
          go_wp2
          go_roundw
          case rel => exact ⟨g, off + 3, cp, T ++ [x3 a b c, 2 * m3 a b c % pw k], by simp, HL2.out, by simp, by simp; omega, HVT.out, HS3.out, HB2.out⟩
          case measure => simp [slLen]
        · intro hr
          intro v' w2 hown2 hgrow2
          have hbel2 : Below B w w2 := HBA.out.grown hgrow2 (Nat.le_trans hB1 HBA.out.size) (by intro k' hk'; cases hk')
          obtain ⟨g2, cap2, rfl, hl2, hlat2⟩ := LAt.of_row (M := T ++ [x3 a b c, 2 * m3 a b c % pw k]) (ownsRow_mono (by simpa using hown2) (Nat.le_succ_of_le (Nat.le_trans hB1 HBQ.out.size))) (by omega)
          have HL2 := hd hlat2
          have HB2 := hd hbel2
          clear hgrow2 hown2 hlat2 hbel2
          go_wp2
          go_roundw
          case rel => exact ⟨g2, 0, cap2, T ++ [x3 a b c, 2 * m3 a b c % pw k], by simp, HL2.out, by simp, by simp; omega, HVT.out, HS3.out, HB2.out⟩
          case measure => simp [slLen]
    · have hg1 := hlat.1
      have hgs := hlat.2.1
      have HC2 := hd hlat.2.2.2.2.1
      have HBW := hd hbel
      have hM2 : decide (2 < (M.length : Int)) = false := decide_eq_false (by omega)
      clear hlat hbel
      go_wp2
      obtain ⟨wo, rfl⟩ : ∃ wo : World, wo = wr := ⟨_, rfl⟩
      go_loopw [9, 49] (fun s i wi => ∃ j : Nat, j ≤ M.length ∧ i = .int .i64 j ∧ s = .int .i64 (sumL (M.take j) % pw k) ∧ Below wo.heap.size wo wi) (fun _ i _ => M.length - (intOf i).toNat)
      case atStart => exact ⟨0, by omega, rfl, by simp [sumL], Below.refl _ _⟩
      case round =>
        obtain ⟨j, hj, rfl, rfl, hb⟩ := hrel
        by_cases hlt : j < M.length
        · have hcj : wr.cell? ⟨g, off + j, none⟩ = some (.int .i64 M[j]) := (hb.cell (p := ⟨g, off + j, none⟩) hgs).trans (HC2.out j hlt)
          have hvj := HV2.out _ (List.getElem_mem hlt)
          have HE := hd (show sumL (M.take (j + 1)) % pw k = (sumL (M.take j) % pw k + M[j]) % pw k by
            rw [List.take_succ_eq_append_getElem hlt, sumL_app]
            simp only [sumL, Int.add_zero]
            rw [Int.emod_add_emod])
          have hvs := vld_mod k (sumL (M.take j)) h1 h2
          obtain ⟨y, hy⟩ : ∃ y, M[j] = y := ⟨_, rfl⟩
          rw [hy] at hcj hvj HE
          obtain ⟨z, hz⟩ : ∃ z, sumL (M.take j) % pw k = z := ⟨_, rfl⟩
          rw [hz] at hvs HE ⊢
          have HAD := hd (fun W => implWordAdd_ok k z y (by unfold vld2; rw [hvs, hvj]; rfl) W)
          clear hy hz hvs hvj
          go_wp2_with (go_at_call 36; refine (HAD.out _).mono ?_; rintro e w5 ⟨rfl, b5⟩)
          go_roundw
          case rel => exact ⟨j + 1, by omega, by go_num, by rw [HE.out], hb.trans (b5.mono hb.size)⟩
          case measure => simp [intOf]; omega
        · have HE := hd (show sumL (M.take j) % pw k = S by rw [List.take_of_length_le (by omega)]; exact HS2.out)
          have HBE := hd hb
          clear hb
          go_wp2
          go_ret
          exact ⟨ret_i HE.out, HBW.out.trans (HBE.out.mono (Nat.le_trans hB1 HBW.out.size))⟩
end Go.Proofs.Ythbpcgefcnpfmaa
