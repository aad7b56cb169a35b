/- Contracts of InverseSteps and InverseOf of the program and of the reference; conditions: that the word is valid and odd, or that it is not. -/
import Derived.Test.YtdjggccplaifbaaOwn
import Derived.Test.YtdjggccplaifbaaMathI
namespace Go.Proofs.Ytdjggccplaifbaa
open Go.RowKit
theorem isOdd_any (k x : Int) (w : World) :
    Calls Try.prog 69 #[.int .i64 k, .int .i64 x] w fun e w' => e = .returned (.bool (oddB k x)) ∧ w = w' := by
  rcases hv : vld k x with _ | _
  · have HO := hd (show oddB k x = false by unfold oddB; rw [hv]; rfl)
    go_enter Try.func69, Try.ntmps69
    go_wp2_with (go_at_call 54; refine (implWordValid_any _ _ _).mono ?_; rintro e w' ⟨rfl, rfl⟩)
    go_ret
    exact ⟨ret_b HO.out.symm, rfl⟩
  · obtain ⟨h1, h2, h3, h4, h5, h6⟩ := vld_4096 hv
    have HO := hd (show oddB k x = (x % 2 == 1) by unfold oddB; rw [hv]; rfl)
    go_enter Try.func69, Try.ntmps69
    go_wp2_with (go_at_call 54; refine (implWordValid_any _ _ _).mono ?_; rintro e w' ⟨rfl, rfl⟩)
    go_ret
    exact ⟨ret_b HO.out.symm, rfl⟩
theorem implInverseSteps_bad (k x : Int) (h : oddB k x = false) (w : World) :
    Calls Try.prog 26 #[.int .i64 k, .int .i64 x] w (RetL w.heap.size [] w) := by
  go_enter Try.func26, Try.ntmps26
  go_wp2_with (go_at_call 69; refine (isOdd_any _ _ _).mono ?_; rintro e w' ⟨rfl, rfl⟩)
  go_ret
  exact ⟨none, 0, rfl, World.ownsRow_nil _ _ _ _, Below.refl _ _⟩
theorem specInverseSteps_bad (k x : Int) (h : oddB k x = false) (w : World) :
    Calls Try.prog 25 #[.int .i64 k, .int .i64 x] w (RetL w.heap.size [] w) := by
  rcases hv : vld k x with _ | _
  · clear h
    go_enter Try.func25, Try.ntmps25
    go_wp2_with (go_at_call 61; refine (specWordValid_any _ _ _).mono ?_; rintro e w' ⟨rfl, rfl⟩)
    go_ret
    exact ⟨_, 0, rfl, World.ownsRow_lit w #[] 0 (Nat.le_refl _) (by unfold maxLen; omega) rfl, (Below.refl _ _).alloc (Nat.le_refl _) _⟩
  · have h2 : ¬ x % 2 = 1 := by simpa [oddB, hv] using h
    obtain ⟨h1, _, h3, h4, h5, h6⟩ := vld_4096 hv
    have h2' : x % 2 = 0 := by omega
    clear h h2
    go_enter Try.func25, Try.ntmps25
    go_wp2_with (go_at_call 61; refine (specWordValid_any _ _ _).mono ?_; rintro e w' ⟨rfl, rfl⟩)
    go_ret
    exact ⟨_, 0, rfl, World.ownsRow_lit w #[] 0 (Nat.le_refl _) (by unfold maxLen; omega) rfl, (Below.refl _ _).alloc (Nat.le_refl _) _⟩
theorem implInverseSteps_ok (k x : Int) (h : oddB k x = true) (w : World) :
    Calls Try.prog 26 #[.int .i64 k, .int .i64 x] w (RetL w.heap.size (ivS k x) w) := by
  obtain ⟨i0, hi, hz0, hz1, hz2⟩ := info_parts info_int
  obtain ⟨hv, ho⟩ := oddB_true h
  obtain ⟨h1, h2, h3, h4, h5, h6⟩ := vld_4096 hv
  have HK := hd (iv_ok k x h)
  obtain ⟨L, hL⟩ : ∃ L, ivS k x = L := ⟨_, rfl⟩
  rw [hL]
  have HL := hd hL
  clear hL
  obtain ⟨B, hB⟩ : ∃ B, B = w.heap.size := ⟨_, rfl⟩
  have HB := hd hB
  rw [← hB]
  have hB1 : B ≤ w.heap.size := by omega
  clear hB
  go_enter Try.func26, Try.ntmps26
  go_wp2_with (go_at_call 69; refine (isOdd_any _ _ _).mono ?_; rintro e w' ⟨rfl, rfl⟩)
  go_loopw [5, 6] (fun t v wr => ∃ (f : Nat) (l : Int) (A : Option Addr) (c : Nat) (D : List Int), f ≤ 2 ∧ D.length + f = 2 ∧ 0 ≤ l ∧ l < pw k ∧ t = .int .i64 l ∧ v = .slice A (D.length + 1) c ∧ Owns wr B A c (D ++ [l]) ∧ D ++ ivF f k x l = L ∧ ivOk f k x l = true ∧ Below B w wr)
    (fun _ v _ => 3 - slLen v)
  case atStart => exact ⟨2, x, _, 1, [], by omega, rfl, by omega, by omega, rfl, rfl, World.ownsRow_lit w #[.int .i64 x] 1 hB1 (by unfold maxLen; omega) rfl, HL.out, HK.out, (Below.refl _ _).alloc hB1 _⟩
  case round =>
    obtain ⟨f, l, A, c, D, hf, hDf, hl0, hl1, rfl, rfl, hown, hD, hok, hbel⟩ := hrel
    have HD := hd hD
    have HO := hd hok
    have hlen : D.length ≤ 2 := by omega
    have hown2 : wr.ownsRow B 3 1 (.slice A (D.length + 1) c) (D.length + 1) ((D ++ [l]).map (Value.int .i64)) := by have h0 := hown; rw [Owns, List.length_append] at h0; exact h0
    clear hD hok
    have hBr : B ≤ wr.heap.size := Nat.le_trans hB1 hbel.size
    obtain ⟨m1, m2⟩ := mul_bd (x := x) (y := l) (X := 4096) (Y := 4096) (by omega) (by omega) (by omega) (by omega)
    obtain ⟨p1, p2⟩ := mod_bd (2 - x * l) k h1 h2
    obtain ⟨q1, q2⟩ := mul_bd (x := l) (y := (2 - x * l) % pw k) (X := 4096) (Y := 4096) (by omega) (by omega) (by omega) (by omega)
    by_cases hg : x * l % pw k = 1
    · have HE := hd (show D ++ [l] = L by have := HD.out; rwa [ivF_good hg] at this)
      have hg' : (x * l % pw k != 1) = false := by simpa using hg
      clear hg
      go_wp2_with (go_at_call 68; refine (cut_any _ _ (by omega) (by omega) _).mono ?_; rintro e w' ⟨rfl, rfl⟩)
      go_ret
      obtain rfl := HE.out
      exact ⟨A, c, by rw [List.length_append]; rfl, hown, hbel⟩
    · obtain ⟨f', rfl, hok', hF⟩ := ivOk_step hg HO.out
      have HN := hd (show D ++ [l] ++ ivF f' k x (ivN k x l) = L by rw [← HD.out, hF, List.append_assoc]; rfl)
      have HO' := hd hok'
      have hb2 := ivN_bd k x l h1 h2
      have HQ := hd (show ivN k x l = l * ((2 - x * l) % pw k) % pw k from rfl)
      have hg' : (x * l % pw k != 1) = true := by simpa using hg
      clear hg hok' hF HO HD
      go_wp2_with (first
        | (go_at_call 68; refine (cut_any _ _ (by omega) (by omega) _).mono ?_; rintro e w' ⟨rfl, rfl⟩)
        | (at_builtin; refine wpList_append_own _ rfl _ _ 26 rfl B 3 i0 (.int .i64 0) 1 8 Try.underlying26 hi hz0 hz1 hz2 rfl (by decide) _ _ _ rfl (hown2.alloc _) ⟨wr.heap.size, 0, none⟩ 1 1 [.int .i64 (l * ((2 - x * l) % pw k) % pw k)] rfl rfl ?c1 ?c2 ?c3 ?c4 ?c5 ?_))
      case c1 => exact (cell_one_new _ _ _)
      case c2 => intro u hu; simp at hu; subst hu; rfl
      case c3 => unfold maxLen; omega
      case c4 => omega
      case c5 => simp; omega
      · intro v' w1 hown' hgrow _
        have hb1 := app_below hbel hBr hown2 hown' hgrow
        obtain ⟨A', c', rfl⟩ := own_shape hown'
        clear hgrow hown hown2 hbel
        go_wp2
        go_roundw
        case rel => exact ⟨f', ivN k x l, A', c', D ++ [l], by omega, by simp; omega, hb2.1, hb2.2, rfl, by simp, by simpa [Owns, ivN] using hown', HN.out, HO'.out, hb1⟩
        case measure => simp [slLen]; omega
theorem specInverseSteps_ok (k x : Int) (h : oddB k x = true) (w : World) :
    Calls Try.prog 25 #[.int .i64 k, .int .i64 x] w (RetL w.heap.size (ivS k x) w) := by
  obtain ⟨i0, hi, hz0, hz1, hz2⟩ := info_parts info_int
  obtain ⟨hv, ho⟩ := oddB_true h
  obtain ⟨h1, h2, h3, h4, h5, h6⟩ := vld_4096 hv
  have HK := hd (iv_ok k x h)
  obtain ⟨L, hL⟩ : ∃ L, ivS k x = L := ⟨_, rfl⟩
  rw [hL]
  have HL := hd hL
  clear hL
  obtain ⟨B, hB⟩ : ∃ B, B = w.heap.size := ⟨_, rfl⟩
  have HB := hd hB
  rw [← hB]
  have hB1 : B ≤ w.heap.size := by omega
  clear hB
  have hbel0 : Below B w (w.alloc (.cells #[] 3)) := (Below.refl _ _).alloc hB1 _
  have hown0 : (w.alloc (.cells #[] 3)).ownsRow B 3 1 (.slice (some ⟨w.heap.size, 0, none⟩) 0 0) 0 [] := World.ownsRow_lit w #[] 0 hB1 (by unfold maxLen; omega) rfl
  go_enter Try.func25, Try.ntmps25
  go_wp2_with (first
    | (go_at_call 61; refine (specWordValid_any _ _ _).mono ?_; rintro e w' ⟨rfl, rfl⟩)
    | (at_builtin; refine wpList_append_own _ rfl _ _ 26 rfl B 3 i0 (.int .i64 0) 1 8 Try.underlying26 hi hz0 hz1 hz2 rfl (by decide) _ _ _ rfl (hown0.alloc _) ⟨w.heap.size + 1, 0, none⟩ 1 1 [.int .i64 x] rfl rfl ?a1 ?a2 ?a3 ?a4 ?a5 ?_))
  case a1 => have hn := cell_one_new (w.alloc (.cells #[] 3)) (.int .i64 x) 3; simpa using hn
  case a2 => intro u hu; simp at hu; subst hu; rfl
  case a3 => unfold maxLen; omega
  case a4 => omega
  case a5 => simp; omega
  intro v0 w2 hown1 hgrow0 _
  have hbel1 := app_below hbel0 (by simp; omega) hown0 hown1 hgrow0
  obtain ⟨A0, c0, rfl⟩ := own_shape hown1
  clear hgrow0 hown0 hbel0
  go_wp2
  go_loopw [5] (fun v wr => ∃ (f : Nat) (l : Int) (A : Option Addr) (c : Nat) (D : List Int), f ≤ 2 ∧ D.length + f = 2 ∧ 0 ≤ l ∧ l < pw k ∧ v = .slice A (D.length + 1) c ∧ Owns wr B A c (D ++ [l]) ∧ D ++ ivF f k x l = L ∧ ivOk f k x l = true ∧ Below B w wr)
    (fun v _ => 3 - slLen v)
  case atStart => exact ⟨2, x, A0, c0, [], by omega, rfl, by omega, by omega, rfl, by simpa [Owns] using hown1, HL.out, HK.out, hbel1⟩
  case round =>
    obtain ⟨f, l, A, c, D, hf, hDf, hl0, hl1, rfl, hown, hD, hok, hbel⟩ := hrel
    have HD := hd hD
    have HO := hd hok
    have hlen : D.length ≤ 2 := by omega
    have hown2 : wr.ownsRow B 3 1 (.slice A (D.length + 1) c) (D.length + 1) ((D ++ [l]).map (Value.int .i64)) := by have h0 := hown; rw [Owns, List.length_append] at h0; exact h0
    obtain ⟨g, rfl, _, _, hc, _⟩ := hown.some_ (k := D.length) (by simp)
    have hcl : wr.cell? ⟨g, D.length, none⟩ = some (.int .i64 l) := by have := hc D.length (by simp); simpa using this
    clear hD hok hc
    have hBr : B ≤ wr.heap.size := Nat.le_trans hB1 hbel.size
    have hm1 : (1 : Int) % pw k = 1 := Int.emod_eq_of_lt (by omega) (by omega)
    obtain ⟨m1, m2⟩ := mul_bd (x := x) (y := l) (X := 4096) (Y := 4096) (by omega) (by omega) (by omega) (by omega)
    obtain ⟨p1, p2⟩ := mod_bd (2 - x * l) k h1 h2
    obtain ⟨q1, q2⟩ := mul_bd (x := l) (y := (2 - x * l) % pw k) (X := 4096) (Y := 4096) (by omega) (by omega) (by omega) (by omega)
    by_cases hg : x * l % pw k = 1
    · have HE := hd (show D ++ [l] = L by have := HD.out; rwa [ivF_good hg] at this)
      have hg' : (x * l % pw k != 1) = false := by simpa using hg
      clear hg
      go_wp2_with (go_at_call 64; refine (l1Mod_any _ _ (by omega) (by omega) _).mono ?_; rintro e w' ⟨rfl, rfl⟩)
      go_ret
      obtain rfl := HE.out
      exact ⟨some ⟨g, 0, none⟩, c, by rw [List.length_append]; rfl, hown, hbel⟩
    · obtain ⟨f', rfl, hok', hF⟩ := ivOk_step hg HO.out
      have HN := hd (show D ++ [l] ++ ivF f' k x (ivN k x l) = L by rw [← HD.out, hF, List.append_assoc]; rfl)
      have HO' := hd hok'
      have hb2 := ivN_bd k x l h1 h2
      have hg' : (x * l % pw k != 1) = true := by simpa using hg
      clear hg hok' hF HO HD
      go_wp2_with (first
        | (go_at_call 64; refine (l1Mod_any _ _ (by omega) (by omega) _).mono ?_; rintro e w' ⟨rfl, rfl⟩)
        | (at_builtin; refine wpList_append_own _ rfl _ _ 26 rfl B 3 i0 (.int .i64 0) 1 8 Try.underlying26 hi hz0 hz1 hz2 rfl (by decide) _ _ _ rfl (hown2.alloc _) ⟨wr.heap.size, 0, none⟩ 1 1 [.int .i64 (l * ((2 - x * l) % pw k) % pw k)] rfl rfl ?c1 ?c2 ?c3 ?c4 ?c5 ?_))
      case c1 => exact (cell_one_new _ _ _)
      case c2 => intro u hu; simp at hu; subst hu; rfl
      case c3 => unfold maxLen; omega
      case c4 => omega
      case c5 => simp; omega
      · intro v' w1 hown' hgrow _
        have hb1 := app_below hbel hBr hown2 hown' hgrow
        obtain ⟨A', c', rfl⟩ := own_shape hown'
        clear hgrow hown hown2 hbel
        go_wp2
        go_roundw
        case rel => exact ⟨f', ivN k x l, A', c', D ++ [l], by omega, by simp; omega, hb2.1, hb2.2, by simp, by simpa [Owns, ivN] using hown', HN.out, HO'.out, hb1⟩
        case measure => simp [slLen]; omega
theorem implInverseOf_bad (k x : Int) (h : oddB k x = false) (w : World) :
    Calls Try.prog 52 #[.int .i64 k, .int .i64 x] w fun e w' => e = .returned (.int .i64 (-1)) ∧ Below w.heap.size w w' := by
  have HR := hd (implInverseSteps_bad k x h w)
  go_enter Try.func52, Try.ntmps52
  go_wp2_with (go_at_call 26; refine (HR.out).mono ?_; rintro e w1 ⟨A, c, rfl, hown, hbel⟩)
  go_ret
  exact ⟨rfl, hbel⟩
theorem implInverseOf_ok (k x : Int) (h : oddB k x = true) (w : World) :
    Calls Try.prog 52 #[.int .i64 k, .int .i64 x] w fun e w' => e = .returned (.int .i64 (ivZ k x)) ∧ Below w.heap.size w w' := by
  have HR := hd (implInverseSteps_ok k x h w)
  obtain ⟨D, l, hD, hl⟩ := ivS_last k x
  rw [hD] at HR
  have HL := hd hl
  clear hD hl h
  go_enter Try.func52, Try.ntmps52
  go_wp2_with (go_at_call 26; refine (HR.out).mono ?_; rintro e w1 ⟨A, c, rfl, hown, hbel⟩; obtain ⟨g, rfl, _, _, hc, _⟩ := hown.some_ (k := D.length) (by simp); have hcl : w1.cell? ⟨g, D.length, none⟩ = some (.int .i64 l) := (by have := hc D.length (by simp); simpa using this); have hmx := hown.max; rw [List.length_append] at hmx; simp only [List.length_cons, List.length_nil] at hmx; clear hc)
  go_ret
  exact ⟨ret_i HL.out, hbel⟩
theorem specInverseOf_bad (k x : Int) (h : oddB k x = false) (w : World) :
    Calls Try.prog 53 #[.int .i64 k, .int .i64 x] w fun e w' => e = .returned (.int .i64 (-1)) ∧ Below w.heap.size w w' := by
  have HR := hd (specInverseSteps_bad k x h w)
  go_enter Try.func53, Try.ntmps53
  go_wp2_with (go_at_call 25; refine (HR.out).mono ?_; rintro e w1 ⟨A, c, rfl, hown, hbel⟩)
  go_ret
  exact ⟨rfl, hbel⟩
theorem specInverseOf_ok (k x : Int) (h : oddB k x = true) (w : World) :
    Calls Try.prog 53 #[.int .i64 k, .int .i64 x] w fun e w' => e = .returned (.int .i64 (ivZ k x)) ∧ Below w.heap.size w w' := by
  have HR := hd (specInverseSteps_ok k x h w)
  obtain ⟨D, l, hD, hl⟩ := ivS_last k x
  rw [hD] at HR
  have HL := hd hl
  clear hD hl h
  go_enter Try.func53, Try.ntmps53
  go_wp2_with (go_at_call 25; refine (HR.out).mono ?_; rintro e w1 ⟨A, c, rfl, hown, hbel⟩; obtain ⟨g, rfl, _, _, hc, _⟩ := hown.some_ (k := D.length) (by simp); have hcl : w1.cell? ⟨g, D.length, none⟩ = some (.int .i64 l) := (by have := hc D.length (by simp); simpa using this); have hmx := hown.max; rw [List.length_append] at hmx; simp only [List.length_cons, List.length_nil] at hmx; clear hc)
  go_ret
  exact ⟨ret_i HL.out, hbel⟩
end Go.Proofs.Ytdjggccplaifbaa
