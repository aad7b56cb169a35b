/- The walks of the laws of MagicOk and MagicSure (chapter 4); no condition but that the code is a slice of bytes that can be read. -/
import Derived.Test.YtdjggccplaifbaaW4
import Derived.Test.YtdjggccplaifbaaDX
import Derived.Test.YtdjggccplaifbaaMathK
import Derived.Test.YtdjggccplaifbaaQC
namespace Go.Proofs.Ytdjggccplaifbaa
open Go.RowKit
theorem btm {a b c : World} (h : Below a.heap.size a b) (g : Below b.heap.size b c) : Below a.heap.size a c := h.trans (g.mono h.size)
set_option maxHeartbeats 800000 in
theorem FnMagicSure_walk (a0 : Option Addr) (len0 cap0 : Nat) (w : World) (h0 : Code8 w a0 len0 cap0) :
    Calls Try.prog 9 #[.slice a0 len0 cap0] w fun e w' => e = .returned (.bool true) ∧ Below w.heap.size w w' := by
  have hm := h0.2.1
  have hlc := h0.1
  unfold maxLen at hm
  by_cases hbig : 1048576 < len0
  · clear h0
    go_enter Try.func9, Try.ntmps9
    go_wp2
    go_ret
    exact ⟨rfl, Below.refl _ _⟩
  have H0 := hd h0
  clear h0
  go_enter Try.func9, Try.ntmps9
  go_wp2_with fail
  refine (DrawMagicSure_any a0 len0 cap0 w H0.out).mono ?_
  rintro e w1 ⟨k, d, m, s, rfl, ⟨⟨k1, k2⟩, _, _, _⟩, b1⟩
  rcases hv : msuB k d m s with _ | _
  · go_wp2_with fail
    refine (implMagicSure_any k d m s w1).mono ?_
    rintro e w2 ⟨rfl, rfl⟩
    go_wp2_with fail
    refine (specMagicSure_any k d m s w1).mono ?_
    rintro e w3 ⟨rfl, n3, rfl⟩
    go_wp2_with (go_at_call 35; refine (alive_any _).mono ?_; rintro e w' ⟨rfl, b9⟩)
    go_ret
    exact ⟨rfl, btm (below_drewN b1 n3) b9⟩
  · have hok := sure_ok k d m s hv
    go_wp2_with fail
    refine (implMagicSure_any k d m s w1).mono ?_
    rintro e w2 ⟨rfl, rfl⟩
    go_wp2_with fail
    refine (specMagicSure_any k d m s w1).mono ?_
    rintro e w3 ⟨rfl, n3, rfl⟩
    go_wp2_with (first | (go_at_call 33; refine (implMagicOk_any _ _ _ _ _).mono ?_; rintro e w' ⟨rfl, n4, rfl⟩) | (go_at_call 35; refine (alive_any _).mono ?_; rintro e w' ⟨rfl, b9⟩))
    go_ret
    exact ⟨rfl, btm (below_drewN b1 _) b9⟩
set_option maxHeartbeats 800000 in
theorem FnMagicOk_walk (a0 : Option Addr) (len0 cap0 : Nat) (w : World) (h0 : Code8 w a0 len0 cap0) :
    Calls Try.prog 8 #[.slice a0 len0 cap0] w fun e w' => e = .returned (.bool true) ∧ Below w.heap.size w w' := by
  have hm := h0.2.1
  have hlc := h0.1
  unfold maxLen at hm
  by_cases hbig : 1048576 < len0
  · clear h0
    go_enter Try.func8, Try.ntmps8
    go_wp2
    go_ret
    exact ⟨rfl, Below.refl _ _⟩
  have H0 := hd h0
  clear h0
  go_enter Try.func8, Try.ntmps8
  go_wp2_with fail
  refine (DrawMagicOk_any a0 len0 cap0 w H0.out).mono ?_
  rintro e w1 ⟨k, d, m, s, rfl, ⟨⟨k1, k2⟩, ⟨d1, d2⟩, _, ⟨s1, s2⟩⟩, b1⟩
  rcases hv : mokB k d m s with _ | _
  · go_wp2_with fail
    refine (implMagicOk_any k d m s w1).mono ?_
    rintro e w2 ⟨rfl, n2, rfl⟩
    go_wp2_with fail
    refine (specMagicOk_any k d m s _).mono ?_
    rintro e w3 ⟨rfl, n3, rfl⟩
    go_wp2
    refine wp_region_below (by kernel_rfl) (by kernel_rfl) ?_
    repeat (go_big_quiet_step ((go_at_call 35; exact calls_alive _ (alive_any _))))
    refine wpQuiet_nil ?_
    rintro _ ⟨nq, rfl⟩
    all_goals
      go_wp2
      go_ret
      exact ⟨rfl, btm (below_drewN b1 _) nq.below⟩
  · have hone := mok_one hv
    obtain ⟨c1, c2, c3, c4, c5, c6, c7, c8⟩ := magB_true.1 (mokB_true.1 hv).1
    have q1 := pw_pos s
    have es := shl_pw s
    go_wp2_with fail
    refine (implMagicOk_any k d m s w1).mono ?_
    rintro e w2 ⟨rfl, n2, rfl⟩
    go_wp2_with fail
    refine (specMagicOk_any k d m s _).mono ?_
    rintro e w3 ⟨rfl, n3, rfl⟩
    by_cases hk : k = 1
    · subst hk
      go_wp2
      refine wp_region_below (by kernel_rfl) (by kernel_rfl) ?_
      repeat (go_big_quiet_step ((go_at_call 35; exact calls_alive _ (alive_any _))))
      refine wpQuiet_nil ?_
      rintro _ ⟨nq, rfl⟩
      all_goals
        go_wp2
        go_ret
        exact ⟨rfl, btm (below_drewN b1 _) nq.below⟩
    · have hl := mok_less hv hk
      have HM := hd (show ∀ W, Calls Try.prog 33 #[.int .i64 (k - 1), .int .i64 d, .int .i64 m, .int .i64 s] W (fun e w' => e = .returned (.bool true) ∧ ∃ n, w' = W.drewN n) from fun W => by have h := implMagicOk_any (k - 1) d m s W; rw [hl] at h; exact h)
      have hk' : (k == 1) = false := by simpa using hk
      go_wp2
      refine wp_region_below (by kernel_rfl) (by kernel_rfl) ?_
      repeat (go_big_quiet_step ((first | (go_at_call 35; exact calls_alive _ (alive_any _)) | (go_at_call 33; exact calls_drew _ (HM.out _)))))
      refine wpQuiet_nil ?_
      rintro _ ⟨nq, rfl⟩
      all_goals
        go_wp2
        go_ret
        exact ⟨rfl, btm (below_drewN b1 _) nq.below⟩
end Go.Proofs.Ytdjggccplaifbaa
