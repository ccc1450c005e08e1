/- covers.Choose and covers.Fit. -/
import Derived.Test.YtmmgidhaakkaoaaSr7
namespace Go.Proofs.Ytmmgidhaakkaoaa
open Go Go.RowKit

noncomputable def chL (ex : Bool) (L : List Int) : List (Int × Int) := if mdB L = true then (sRes ex L).getD [] else []
noncomputable def chE (ex : Bool) (L : List Int) : Int := if mdB L = true then (if (sRes ex L).isSome = true then 0 else 4) else 2
theorem cch_any (A : Option Addr) (l c : Nat) (L : List Int) (ex : Bool) (w : World) (h : IRow w w.heap.size A l L) (hlc : l ≤ c) (hc : c ≤ 9223372036854775807) :
    Calls Try.prog 59 #[.slice A l c, .bool ex] w (GivesPE w (chL ex L) (chE ex L)) := by
  unfold chL chE
  cases hm : mdB L with
  | true => exact cchoose_yes A l c L ex w h hlc hc hm
  | false =>
    refine (cchoose_no A l c L ex w h (by omega) hm).mono ?_
    rintro e w' ⟨rfl, hb⟩
    exact ⟨none, 0, 0, rfl, row_nil, fun _ => rfl, hb⟩
theorem Choose_any (A : Option Addr) (l c : Nat) (L : List Int) (w : World) (h : IRow w w.heap.size A l L) (hlc : l ≤ c) (hc : c ≤ 9223372036854775807) :
    Calls Try.prog 40 #[.slice A l c] w (GivesPE w (chL false L) (chE false L)) := by
  have HC := Lib.hid (cch_any A l c L false w h hlc hc)
  obtain ⟨D, hD⟩ : ∃ D, chL false L = D := ⟨_, rfl⟩
  obtain ⟨E, hE⟩ : ∃ E, chE false L = E := ⟨_, rfl⟩
  rw [hD, hE] at HC ⊢
  clear h hD hE
  go_enter Try.func40, Try.ntmps40
  go_wp2_with fail
  refine HC.out.mono ?_; rintro e w1 ⟨A1, n1, c1, rfl, hr, hn, hb⟩
  have HR := Lib.hid hr
  have HN := Lib.hid hn
  have HB := Lib.hid hb
  clear hr hn hb
  go_wp2_with fail
  go_ret2
  exact ⟨A1, n1, c1, rfl, HR.out, HN.out, HB.out⟩
theorem Fit_any (A : Option Addr) (l c : Nat) (L : List Int) (w : World) (h : IRow w w.heap.size A l L) (hlc : l ≤ c) (hc : c ≤ 9223372036854775807) :
    Calls Try.prog 41 #[.slice A l c] w (GivesPE w (chL true L) (chE true L)) := by
  have HC := Lib.hid (cch_any A l c L true w h hlc hc)
  obtain ⟨D, hD⟩ : ∃ D, chL true L = D := ⟨_, rfl⟩
  obtain ⟨E, hE⟩ : ∃ E, chE true L = E := ⟨_, rfl⟩
  rw [hD, hE] at HC ⊢
  clear h hD hE
  go_enter Try.func41, Try.ntmps41
  go_wp2_with fail
  refine HC.out.mono ?_; rintro e w1 ⟨A1, n1, c1, rfl, hr, hn, hb⟩
  have HR := Lib.hid hr
  have HN := Lib.hid hn
  have HB := Lib.hid hb
  clear hr hn hb
  go_wp2_with fail
  go_ret2
  exact ⟨A1, n1, c1, rfl, HR.out, HN.out, HB.out⟩
end Go.Proofs.Ytmmgidhaakkaoaa
