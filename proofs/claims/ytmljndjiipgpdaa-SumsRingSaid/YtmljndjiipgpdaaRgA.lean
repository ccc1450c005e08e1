/- SumsRing: the values of Times, Add and Turn as the program has them, and their laws. -/
import Derived.Test.YtmljndjiipgpdaaNu
import Derived.Test.YtmljndjiipgpdaaPoF
namespace Go.Proofs.Ytmljndjiipgpdaa
open Go Go.RowKit GhP

def tmV (n : Int) (L M : List Int) : List Int := if (okN n 1000 L && okN n 1000 M) = true then wl (timesZ (cyc n.toNat) L M) else []
def tmE (n : Int) (L M : List Int) : Int := if (okN n 1000 L && okN n 1000 M) = true then 0 else 2
def adV (n : Int) (L M : List Int) : List Int := if (okN n 1000 L && okN n 1000 M) = true then wl (addZ L M) else []
def tuV (n t : Int) (L : List Int) : List Int := if (okN n 1000 L && turnB n t) = true then wl (turnZ (cyc n.toNat) n.toNat t.toNat L) else []
def tuE (n t : Int) (L : List Int) : Int := if (okN n 1000 L && turnB n t) = true then 0 else 2

theorem times_c (n : Int) (A B : Option Addr) (la ca lb cb : Nat) (L M : List Int) (w : World) (h : IRow w w.heap.size A la L) (k : IRow w w.heap.size B lb M) (hw : wl L = L) (kw : wl M = M) (hl : L.length ≤ 1000) (kl : M.length ≤ 1000) :
    Calls Try.prog 23 #[.int .i64 n, .slice A la ca, .slice B lb cb] w (GivesIE w (tmV n L M) (tmE n L M)) :=
  Times_one n A B la ca lb cb L M w h k hw kw (by have := h.1; omega) (by have := k.1; omega)
theorem add_c (n : Int) (A B : Option Addr) (la ca lb cb : Nat) (L M : List Int) (w : World) (h : IRow w w.heap.size A la L) (k : IRow w w.heap.size B lb M) (hw : wl L = L) (kw : wl M = M) (hl : L.length ≤ 1000) (kl : M.length ≤ 1000) :
    Calls Try.prog 25 #[.int .i64 n, .slice A la ca, .slice B lb cb] w (GivesIE w (adV n L M) (tmE n L M)) :=
  Add_one n A B la ca lb cb L M w h k hw kw (by have := h.1; omega) (by have := k.1; omega)
theorem turn_c (n t : Int) (A : Option Addr) (la ca : Nat) (L : List Int) (w : World) (h : IRow w w.heap.size A la L) (hw : wl L = L) (hl : L.length ≤ 1000) :
    Calls Try.prog 26 #[.int .i64 n, .slice A la ca, .int .i64 t] w (GivesIE w (tuV n t L) (tuE n t L)) :=
  Turn_one n t A la ca L w h hw (by have := h.1; omega)

theorem wl_nil : wl [] = [] := rfl
theorem tm_wl (n : Int) (L M : List Int) : wl (tmV n L M) = tmV n L M := by unfold tmV; split <;> simp [wl_wl, wl_nil]
theorem ad_wl (n : Int) (L M : List Int) : wl (adV n L M) = adV n L M := by unfold adV; split <;> simp [wl_wl, wl_nil]
theorem tu_wl (n t : Int) (L : List Int) : wl (tuV n t L) = tuV n t L := by unfold tuV; split <;> simp [wl_wl, wl_nil]
theorem cyc_len {n : Int} {m : Int} {L : List Int} (h : okN n m L = true) : (cyc n.toNat).length ≤ 16 ∧ 1 ≤ n.toNat ∧ n.toNat < 16 := by
  obtain ⟨h1, h2, _⟩ := okN_yes h
  have h3 := (ord_len (n := n.toNat) (by omega) (by omega)).2.1
  have h4 : phi n.toNat ≤ n.toNat := phiK_le _ _
  omega
theorem tm_len (n : Int) (L M : List Int) : (tmV n L M).length ≤ 1000 := by
  unfold tmV
  split
  · next h =>
    rw [Bool.and_eq_true] at h
    have := cyc_len h.1
    rw [wl_len, times_len]; omega
  · simp
theorem tu_len (n t : Int) (L : List Int) : (tuV n t L).length ≤ 1000 := by
  unfold tuV
  split
  · next h =>
    rw [Bool.and_eq_true] at h
    have := cyc_len h.1
    rw [wl_len, turn_len]; omega
  · simp
theorem ok_len {n m : Int} {L : List Int} (h : okN n m L = true) : L.length = phi n.toNat := (okN_yes h).2.2.1
theorem ad_len (n : Int) (L M : List Int) : (adV n L M).length ≤ 1000 := by
  unfold adV
  split
  · next h =>
    rw [Bool.and_eq_true] at h
    obtain ⟨h1, h2, _⟩ := okN_yes h.1
    have := ok_len h.1
    have := ok_len h.2
    have h4 : phi n.toNat ≤ n.toNat := phiK_le _ _
    rw [wl_len, addZ_len (by omega)]; omega
  · simp

theorem tmE_cases (n : Int) (L M : List Int) : tmE n L M = 0 ∨ tmE n L M = 2 := by unfold tmE; split <;> simp
theorem tuE_cases (n t : Int) (L : List Int) : tuE n t L = 0 ∨ tuE n t L = 2 := by unfold tuE; split <;> simp
theorem tmE_zero {n : Int} {L M : List Int} (h : tmE n L M = 0) : okN n 1000 L = true ∧ okN n 1000 M = true := by
  unfold tmE at h
  split at h
  · next h5 => rwa [Bool.and_eq_true] at h5
  · cases h
theorem tmE_ok {n : Int} {L M : List Int} (h : okN n 1000 L = true) (k : okN n 1000 M = true) : tmE n L M = 0 := by unfold tmE; rw [h, k]; rfl
theorem tuE_zero {n t : Int} {L : List Int} (h : tuE n t L = 0) : okN n 1000 L = true ∧ turnB n t = true := by
  unfold tuE at h
  split at h
  · next h5 => rwa [Bool.and_eq_true] at h5
  · cases h
theorem tuE_ok {n t : Int} {L : List Int} (h : okN n 1000 L = true) (k : turnB n t = true) : tuE n t L = 0 := by unfold tuE; rw [h, k]; rfl
theorem tuE_no {n t : Int} {L : List Int} (k : turnB n t = false) : tuE n t L = 2 := by unfold tuE; rw [k, Bool.and_false]; rfl
theorem tmV_ok {n : Int} {L M : List Int} (h : tmE n L M = 0) : tmV n L M = wl (timesZ (cyc n.toNat) L M) := by
  obtain ⟨h1, h2⟩ := tmE_zero h
  unfold tmV; rw [h1, h2]; rfl
theorem adV_ok {n : Int} {L M : List Int} (h : tmE n L M = 0) : adV n L M = wl (addZ L M) := by
  obtain ⟨h1, h2⟩ := tmE_zero h
  unfold adV; rw [h1, h2]; rfl
theorem tuV_ok {n t : Int} {L : List Int} (h : tuE n t L = 0) : tuV n t L = wl (turnZ (cyc n.toNat) n.toNat t.toNat L) := by
  obtain ⟨h1, h2⟩ := tuE_zero h
  unfold tuV; rw [h1, h2]; rfl
theorem ok_ord {n m : Int} {L : List Int} (h : okN n m L = true) : Ord n.toNat (cyc n.toNat).dropLast := by
  obtain ⟨h1, h2, _⟩ := okN_yes h
  exact ord_of (by omega) (by omega)

/-- both orders -/
theorem tm_comm (n : Int) (a b : List Int) : tmE n b a = tmE n a b ∧ tmV n b a = tmV n a b := by
  unfold tmE tmV
  rw [Bool.and_comm]
  refine ⟨rfl, ?_⟩
  split
  · next h =>
    rw [Bool.and_eq_true] at h
    rw [times_comm (ok_ord h.1).split]
  · rfl
/-- brackets -/
theorem tm_assoc {n : Int} {a b c : List Int} (h1 : tmE n a b = 0) (h2 : tmE n (tmV n a b) c = 0) (h3 : tmE n b c = 0) (h4 : tmE n a (tmV n b c) = 0) :
    tmV n (tmV n a b) c = tmV n a (tmV n b c) := by
  have O := ok_ord (tmE_zero h1).1
  rw [tmV_ok h2, tmV_ok h4, tmV_ok h1, tmV_ok h3, wl_times O.split (wl_wl _) rfl, times_assoc O.split]
  exact wl_times O.split rfl (wl_wl _).symm
theorem turn_mem {n t : Int} (h : turnB n t = true) : t.toNat ∈ units n.toNat := by
  unfold turnB at h
  have h2 := of_decide_eq_true h
  exact mem_units.2 ⟨by omega, by omega, h2.2.2⟩
/-- a sum, turned -/
theorem tu_add {n t : Int} {a b : List Int} (h1 : tuE n t a = 0) (h2 : tuE n t b = 0) (h3 : tmE n a b = 0) (h4 : tuE n t (adV n a b) = 0) (h5 : tmE n (tuV n t a) (tuV n t b) = 0) :
    tuV n t (adV n a b) = adV n (tuV n t a) (tuV n t b) := by
  obtain ⟨ok, ht⟩ := tuE_zero h1
  have O := ok_ord ok
  have G := O.good _ (turn_mem ht)
  have hl : a.length = b.length := by rw [ok_len ok, ok_len (tuE_zero h2).1]
  rw [tuV_ok h4, adV_ok h3, adV_ok h5, tuV_ok h1, tuV_ok h2, wl_turn O.split G.pos (wl_wl _), turn_add O.split G _ _ hl]
  exact wl_add (wl_wl _).symm (wl_wl _).symm
/-- a product, turned -/
theorem tu_times {n t : Int} {a b : List Int} (h1 : tuE n t a = 0) (h2 : tuE n t b = 0) (h3 : tmE n a b = 0) (h4 : tuE n t (tmV n a b) = 0) (h5 : tmE n (tuV n t a) (tuV n t b) = 0) :
    tuV n t (tmV n a b) = tmV n (tuV n t a) (tuV n t b) := by
  obtain ⟨ok, ht⟩ := tuE_zero h1
  have O := ok_ord ok
  have G := O.good _ (turn_mem ht)
  rw [tuV_ok h4, tmV_ok h3, tmV_ok h5, tuV_ok h1, tuV_ok h2, wl_turn O.split G.pos (wl_wl _), turn_times O.split G]
  exact wl_times O.split (wl_wl _).symm (wl_wl _).symm
end Go.Proofs.Ytmljndjiipgpdaa
