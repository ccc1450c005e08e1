/- Systems of congruences in memory: slices of pairs; the walks of gcd, of a pair, of count and whole. -/
import Derived.WalkKit
import Derived.Lib.Hide
import Derived.IntWalk
import Derived.BigQuiet
import Derived.Deep.QuietTactic
import Derived.Test.YtmmgidhaakkaoaaProg
namespace Go.Proofs.Ytmmgidhaakkaoaa
open Go Go.RowKit

theorem bt {a b c : World} (h : Below a.heap.size a b) (k : Below b.heap.size b c) : Below a.heap.size a c := h.trans (k.mono h.size)

theorem bdN {B : Nat} {a w : World} (h : Below B a w) (n : Nat) : Below B a (w.drewN n) := ⟨h.os, h.tape, h.output, h.size, h.block⟩
theorem w64n (n : Nat) (h : n ≤ 9223372036854775807) : wrap64 (n : Int) = (n : Int) := by unfold wrap64; omega
theorem w64 (x : Int) (h1 : -9223372036854775808 ≤ x) (h2 : x ≤ 9223372036854775807) : wrap64 x = x := by unfold wrap64; omega

/-- a slice of pairs that reads as L, below block B -/
def Row (w : World) (B : Nat) (A : Option Addr) (n : Nat) (L : List (Int × Int)) : Prop :=
  n = L.length ∧ (0 < n → ∃ b off, A = some ⟨b, off, none⟩ ∧ b < B ∧ ∀ k p, L[k]? = some p →
    w.cell? ⟨b, off + k * 2, none⟩ = some (.int .i64 p.1) ∧ w.cell? ⟨b, off + k * 2 + 1, none⟩ = some (.int .i64 p.2))

theorem Row.keep {w w' : World} {B : Nat} {A : Option Addr} {n : Nat} {L : List (Int × Int)} (h : Row w B A n L) (hk : ∀ b o, b < B → w'.cell? ⟨b, o, none⟩ = w.cell? ⟨b, o, none⟩) : Row w' B A n L :=
  ⟨h.1, fun hn => by
    obtain ⟨b, off, e, hb, hc⟩ := h.2 hn
    exact ⟨b, off, e, hb, fun k p hp => ⟨(hk _ _ hb).trans (hc k p hp).1, (hk _ _ hb).trans (hc k p hp).2⟩⟩⟩
theorem Row.below {w w' : World} {B : Nat} {A : Option Addr} {n : Nat} {L : List (Int × Int)} (h : Row w B A n L) (hb : Below B w w') : Row w' B A n L :=
  h.keep fun b o hB => hb.cell (p := ⟨b, o, none⟩) hB
theorem Row.more {w : World} {B B' : Nat} {A : Option Addr} {n : Nat} {L : List (Int × Int)} (h : Row w B A n L) (hB : B ≤ B') : Row w B' A n L :=
  ⟨h.1, fun hn => by
    obtain ⟨b, off, e, hb, hc⟩ := h.2 hn
    exact ⟨b, off, e, by omega, hc⟩⟩
theorem Row.at_ {w : World} {B : Nat} {A : Option Addr} {n : Nat} {L : List (Int × Int)} (h : Row w B A n L) {k : Nat} (hk : k < n) :
    ∃ b off x m, L[k]? = some (x, m) ∧ A = some ⟨b, off, none⟩ ∧ b < B ∧ w.cell? ⟨b, off + k * 2, none⟩ = some (.int .i64 x) ∧ w.cell? ⟨b, off + k * 2 + 1, none⟩ = some (.int .i64 m) := by
  obtain ⟨b, off, e, hb, hc⟩ := h.2 (by omega)
  have hl : k < L.length := by have := h.1; omega
  obtain ⟨⟨x, m⟩, hx⟩ : ∃ p, L[k]? = some p := ⟨_, List.getElem?_eq_getElem hl⟩
  have := hc k _ hx
  exact ⟨b, off, x, m, hx, e, hb, this.1, this.2⟩

theorem cgcd_any (a b : Nat) (w : World) (ha : a ≤ 4000000000000000000) (hb : b ≤ 4000000000000000000) :
    Calls Try.prog 54 #[.int .i64 (a : Int), .int .i64 (b : Int)] w fun e w' => e = .returned (.int .i64 ((Nat.gcd a b : Nat) : Int)) ∧ ∃ k, w' = w.drewN k := by
  go_enter Try.func54, Try.ntmps54
  go_wp2
  go_loopw [0, 1] (fun x y wr => ∃ c d : Nat, c ≤ 4000000000000000000 ∧ d ≤ 4000000000000000000 ∧ Hid (Nat.gcd c d = Nat.gcd a b) ∧ x = .int .i64 (c : Int) ∧ y = .int .i64 (d : Int) ∧ ∃ k, wr = w.drewN k) (fun _ y _ => (intOf y).toNat)
  case atStart => exact ⟨a, b, ha, hb, rfl, rfl, rfl, 0, rfl⟩
  case round =>
    obtain ⟨c, d, hc, hd, hg, rfl, rfl, nk, rfl⟩ := hrel
    by_cases h0 : d = 0
    · subst h0
      have HG : Hid (c = Nat.gcd a b) := Lib.hid (by have := hg.out; rwa [Nat.gcd_zero_right] at this)
      go_wp2
      all_goals
        go_ret
        refine ⟨?_, nk, rfl⟩
        rw [← HG.out]
        try rfl
    · have h1 : ((d : Int) == 0) = false := by simp; omega
      have h2 : (c : Int) % (d : Int) = ((c % d : Nat) : Int) := by omega
      have h3 : c % d < d := Nat.mod_lt _ (by omega)
      have H2 := Lib.hid h2
      clear h2
      go_wp2
      go_region
      go_wp2
      go_roundw
      case rel => exact ⟨d, c % d, hd, by omega, Lib.hid (by rw [← hg.out, Nat.gcd_comm d, ← Nat.gcd_rec, Nat.gcd_comm]), rfl, by rw [H2.out], nk + 1, rfl⟩
      case measure => have := H2.out; simp [intOf]; omega

/-- whether a pair covers n -/
def cov (p : Int × Int) (n : Int) : Bool := (n - p.1) % p.2 == 0

theorem tmod_zero (x m : Int) : (x.tmod m == 0) = (x % m == 0) := by
  rw [Bool.eq_iff_iff]
  simp only [beq_iff_eq]
  rw [← Int.dvd_iff_emod_eq_zero, Int.dvd_iff_tmod_eq_zero]

theorem covers_any (x m n : Int) (w : World) (hm : 1 ≤ m) (hx : -1000000000 ≤ x) (hx2 : x ≤ 1000000000) (hn : -1000000000 ≤ n) (hn2 : n ≤ 1000000000) (hm2 : m ≤ 1000000000) :
    Calls Try.prog 65 #[.agg #[.int .i64 x, .int .i64 m], .int .i64 n] w fun e w' => e = .returned (.bool (cov (x, m) n)) ∧ Below w.heap.size w w' := by
  have HT := Lib.hid (tmod_zero (n - x) m)
  go_enter Try.func65, Try.ntmps65
  go_wp2
  rw [HT.out]
  go_ret
  exact ⟨rfl, (Below.refl _ _).alloc (Nat.le_refl _) _⟩

/-- by how many pairs n is covered -/
def cnt (L : List (Int × Int)) (n : Int) : Nat := (L.filter (fun p => cov p n)).length
theorem take_at {L : List (Int × Int)} {k : Nat} {p : Int × Int} (h : L[k]? = some p) : L.take (k + 1) = L.take k ++ [p] := by
  obtain ⟨hk, e⟩ := List.getElem?_eq_some_iff.1 h
  rw [List.take_succ_eq_append_getElem hk, e]
theorem cnt_take {L : List (Int × Int)} {k : Nat} {p : Int × Int} (h : L[k]? = some p) (n : Int) : cnt (L.take (k + 1)) n = cnt (L.take k) n + if cov p n then 1 else 0 := by
  unfold cnt
  rw [take_at h, List.filter_append, List.length_append]
  cases hc : cov p n <;> simp [hc]
theorem cnt_le (L : List (Int × Int)) (n : Int) : cnt L n ≤ L.length := List.length_filter_le _ _

/-- numbers that fit: moduli from 1 on, all within 10^9 -/
def Fits (L : List (Int × Int)) : Prop := ∀ p ∈ L, 1 ≤ p.2 ∧ p.2 ≤ 1000000000 ∧ -1000000000 ≤ p.1 ∧ p.1 ≤ 1000000000
theorem Fits.at_ {L : List (Int × Int)} (h : Fits L) {k : Nat} {x m : Int} (hk : L[k]? = some (x, m)) : 1 ≤ m ∧ m ≤ 1000000000 ∧ -1000000000 ≤ x ∧ x ≤ 1000000000 :=
  h (x, m) (List.mem_of_getElem? hk)

set_option maxHeartbeats 400000 in
theorem count_any (A : Option Addr) (l c : Nat) (L : List (Int × Int)) (n : Int) (w : World) (h : Row w w.heap.size A l L) (hf : Fits L) (hl : l ≤ 1000000) (hn : -1000000000 ≤ n) (hn2 : n ≤ 1000000000) :
    Calls Try.prog 53 #[.slice A l c, .int .i64 n] w fun e w' => e = .returned (.int .i64 ((cnt L n : Nat) : Int)) ∧ Below w.heap.size w w' := by
  have HR := Lib.hid h
  have HF := Lib.hid hf
  have HL := Lib.hid h.1
  clear h hf
  go_enter Try.func53, Try.ntmps53
  go_wp2_with fail
  go_loopw [5, 10] (fun o x wr => ∃ k : Nat, k ≤ l ∧ o = .int .i64 ((cnt (L.take k) n : Nat) : Int) ∧ x = .int .i64 (k : Int) ∧ Below w.heap.size w wr) (fun _ x _ => l - (intOf x).toNat)
  case atStart => exact ⟨0, by omega, rfl, rfl, Below.refl _ _⟩
  case round =>
    obtain ⟨k, hk, rfl, rfl, hb⟩ := hrel
    have hcl : cnt (L.take k) n ≤ k := Nat.le_trans (cnt_le _ _) (List.length_take_le _ _)
    by_cases hlt : k < l
    · obtain ⟨b, off, x, m, hx, rfl, hB, c1, c2⟩ := (HR.out.below hb).at_ hlt
      obtain ⟨f1, f2, f3, f4⟩ := HF.out.at_ hx
      have HS := Lib.hid (cnt_take hx n)
      clear hx
      cases hc : cov (x, m) n with
      | true =>
        have HC := Lib.hid hc
        clear hc
        go_wp2_with fail
        refine (covers_any x m n _ f1 f3 f4 hn hn2 f2).mono ?_; rw [HC.out]; rintro e w1 ⟨rfl, hb1⟩
        go_wp2_with fail
        go_roundw
        case rel => exact ⟨k + 1, by omega, by rw [HS.out, HC.out]; go_num, by go_num, bt (bt hb ((Below.refl _ _).alloc (Nat.le_refl _) _)) hb1⟩
        case measure => simp [intOf]; omega
      | false =>
        have HC := Lib.hid hc
        clear hc
        go_wp2_with fail
        refine (covers_any x m n _ f1 f3 f4 hn hn2 f2).mono ?_; rw [HC.out]; rintro e w1 ⟨rfl, hb1⟩
        go_wp2_with fail
        go_roundw
        case rel => exact ⟨k + 1, by omega, by rw [HS.out, HC.out]; rfl, by go_num, bt (bt hb ((Below.refl _ _).alloc (Nat.le_refl _) _)) hb1⟩
        case measure => simp [intOf]; omega
    · have HE : Hid (L.take k = L) := Lib.hid (List.take_of_length_le (by rw [← HL.out]; omega))
      go_wp2_with fail
      go_ret
      exact ⟨by rw [HE.out]; rfl, hb⟩
end Go.Proofs.Ytmmgidhaakkaoaa
