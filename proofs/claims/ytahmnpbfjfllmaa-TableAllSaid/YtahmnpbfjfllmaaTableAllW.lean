/- The law's walk: TableAll. -/
import Derived.Test.YtahmnpbfjfllmaaPlayed
import Derived.Test.YtahmnpbfjfllmaaWalk
namespace Go.Proofs.Ytahmnpbfjfllmaa
open Go Go.RowKit

set_option maxHeartbeats 2000000 in
theorem tableAll_walk (a : Option Addr) (cap : Nat) (l0 : List Call) (stop : Int) (w : World) (hd : Dos w a cap l0) (_hs : -9223372036854775808 ≤ stop ∧ stop ≤ 9223372036854775807) :
    Calls Try.prog 7 #[.slice a l0.length cap, .int .i64 stop] w fun e w' => e = .returned (.bool true) ∧ Below w.heap.size w w' := by
  have PL := played_any a cap l0 100 (by decide) w hd
  clear hd
  go_enter Try.func7, Try.ntmps7
  go_wp2_with fail
  refine PL.mono ?_
  rintro e w1 ⟨h, b, c, S, n, g, rfl, t1, _, hn, hh, hb, hb1⟩
  have WA := callsIn_wide.1 (walk_in 6 (Nat.le_refl _) t1 stop)
  clear PL
  go_wp2_with fail
  refine WA.mono ?_
  rintro e w2 ⟨⟨m, rfl, hm⟩, hb2⟩
  have t2 := t1.below hb2
  have HB2 := Lib.hid (hb1.trans (hb2.mono hb1.size))
  have WB := callsIn_wide.1 (walk_in 6 (Nat.le_refl _) t2 0)
  clear WA t1 hb1 hb2
  go_wp2_with fail
  refine WB.mono ?_
  rintro e w3 ⟨⟨m2, rfl, hm2⟩, hb3⟩
  obtain rfl : m2 = n := by rcases hm2 with e | ⟨e, e2⟩; exact e; omega
  have t3 := t2.below hb3
  have HB3 := Lib.hid (HB2.out.trans (hb3.mono HB2.out.size))
  have LE := len_any t3
  clear WB t2 t3 hb3 hm2
  by_cases he : m = m2
  · subst he
    clear hm
    go_wp2_with fail
    refine LE.mono ?_
    rintro e w' ⟨rfl, rfl⟩
    go_wp2_with fail
    refine LE.mono ?_
    rintro e w' ⟨rfl, rfl⟩
    go_wp2_with fail
    refine (lives_any w3).mono ?_
    rintro e w4 ⟨rfl, hb4⟩
    go_wp2
    go_ret
    exact ⟨rfl, HB3.out.trans (hb4.mono HB3.out.size)⟩
  · have hb1 : ((m : Int) == (m2 : Int)) = false := by rw [beq_eq_false_iff_ne]; omega
    obtain ⟨h1, h2⟩ := hm.resolve_left he
    subst h1
    clear he
    go_wp2_with fail
    refine LE.mono ?_
    rintro e w' ⟨rfl, rfl⟩
    go_wp2_with fail
    refine LE.mono ?_
    rintro e w' ⟨rfl, rfl⟩
    go_wp2_with fail
    refine (lives_any w3).mono ?_
    rintro e w4 ⟨rfl, hb4⟩
    go_wp2
    go_ret
    exact ⟨rfl, HB3.out.trans (hb4.mono HB3.out.size)⟩
end Go.Proofs.Ytahmnpbfjfllmaa
