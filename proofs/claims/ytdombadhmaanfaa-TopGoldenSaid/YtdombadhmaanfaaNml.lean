/- numeral: Fibonacci numbers, the numeral of a number, the value of one index. -/
import Derived.Test.YtdombadhmaanfaaGd
import Derived.Test.YtdombadhmaanfaaIh
namespace Go.Proofs.Ytdombadhmaanfaa
open Go Go.RowKit GhN

theorem fib_bd : ∀ k, fib k ≤ 2 ^ k
  | 0 => by decide
  | 1 => by decide
  | k + 2 => by
    have h1 := fib_bd k
    have h2 := fib_bd (k + 1)
    rw [fib_two, Nat.pow_succ, Nat.pow_succ]
    rw [Nat.pow_succ] at h2
    omega
theorem fib_big {k : Nat} (h : k ≤ 61) : fib k ≤ 2305843009213693952 := Nat.le_trans (fib_bd k) (Nat.pow_le_pow_right (by decide) h)

set_option maxHeartbeats 400000 in
theorem fibonacci_any (k : Nat) (w : World) (hk : k ≤ 60) :
    Calls Try.prog 86 #[.int .i64 (k : Int)] w fun e w' => e = .returned (.int .i64 (fib k : Nat)) ∧ w = w' := by
  go_enter Try.func86, Try.ntmps86
  go_wp2_with fail
  go_loop [3, 4, 6] (fun a b i => ∃ j x y : Nat, j ≤ k ∧ Hid (fib j = x) ∧ Hid (fib (j + 1) = y) ∧ a = .int .i64 (x : Int) ∧ b = .int .i64 (y : Int) ∧ i = .int .i64 (j : Int)) (fun _ _ i => k - (intOf i).toNat)
  case atStart => exact ⟨0, 0, 1, by omega, Lib.hid rfl, Lib.hid rfl, rfl, rfl, rfl⟩
  case round =>
    obtain ⟨j, x, y, hj, hx, hy, rfl, rfl, rfl⟩ := hrel
    have b1 : x ≤ 2305843009213693952 := by rw [← hx.out]; exact fib_big (by omega)
    have b2 : y ≤ 2305843009213693952 := by rw [← hy.out]; exact fib_big (by omega)
    by_cases hlt : j < k
    · have HN : Hid (fib (j + 1 + 1) = x + y) := Lib.hid (by rw [show j + 1 + 1 = j + 2 from rfl, fib_two, hx.out, hy.out])
      have hlti : (j : Int) < (k : Int) := by omega
      go_wp2_with fail
      go_round
      case rel => exact ⟨j + 1, y, x + y, by omega, hy, HN, rfl, by go_num, by go_num⟩
      case measure => simp [intOf]; omega
    · have e : j = k := by omega
      subst e
      have HX := hx.out
      go_wp2_with fail
      go_ret
      exact ⟨by first | (rw [HX]; rfl) | rfl, rfl⟩

theorem fib20 : 5000 < fib 20 := by decide
def GivesN (w : World) (L : List Int) (e : Ending) (w' : World) : Prop :=
  ∃ A n c, e = .returned (.slice A n c) ∧ IRow w' w'.heap.size A n L ∧ Below w.heap.size w w'
theorem enc_step {k r : Nat} (hr : 1 ≤ r) (hlt : r < fib (k + 1)) : ∃ j, k = j + 1 ∧ encF k r = (if fib k ≤ r then ((k : Nat) : Int) :: encF j (r - fib k) else encF j r) ∧ (fib k ≤ r → r - fib k < fib (j + 1)) ∧ (¬ fib k ≤ r → r < fib (j + 1)) := by
  cases k with
  | zero => simp [fib] at hlt; omega
  | succ j =>
    refine ⟨j, rfl, ?_, ?_, fun h => by omega⟩
    · rw [encF, if_neg (by omega)]
    · intro h
      rw [show j + 1 + 1 = j + 2 from rfl, fib_two] at hlt
      have := fib_mono1 j
      omega

set_option maxRecDepth 100000 in
set_option maxHeartbeats 1000000 in
theorem encode_any (n : Nat) (w : World) (hn : n ≤ 5000) :
    Calls Try.prog 79 #[.int .i64 (n : Int)] w (GivesN w (encF 60 n)) := by
  have hlt0 : n < fib 61 := Nat.lt_of_le_of_lt hn (Nat.lt_of_lt_of_le fib20 (fib_mono (by decide)))
  have HLT0 := Lib.hid hlt0
  obtain ⟨R, hR⟩ : ∃ R, encF 60 n = R := ⟨_, rfl⟩
  rw [hR]
  have HR := Lib.hid hR
  clear hlt0 hR
  obtain ⟨i0, hi, hz0, hz1, hz2⟩ := info_parts infoI
  go_enter Try.func79, Try.ntmps79
  go_wp2_with fail
  go_loopw [0, 3, 4] (fun x v kk wr => ∃ (r k m : Nat) (O : List Int), r ≤ n ∧ k ≤ 60 ∧ x = .int .i64 (r : Int) ∧ kk = .int .i64 (k : Int) ∧ Hid (r < fib (k + 1)) ∧ Hid (O ++ encF k r = R) ∧ m + k = 60 ∧ Hid (O.length ≤ m) ∧ Hid (wr.ownsRow w.heap.size 3 1 v O.length (ints O)) ∧ Hid (Below w.heap.size w wr)) (fun _ _ kk _ => (intOf kk).toNat)
  case atStart =>
    refine ⟨n, 60, 0, [], Nat.le_refl _, by omega, rfl, rfl, HLT0, HR, by omega, Lib.hid (by simp), Lib.hid ?_, Lib.hid ((Below.refl _ _).alloc (Nat.le_refl _) _)⟩
    exact ⟨rfl, .inr ⟨w.heap.size, 0, #[], rfl, Nat.le_refl _, (by show (w.heap.push _)[w.heap.size]? = _; simp), Nat.le_refl _, by decide, rfl, rfl⟩⟩
  case round =>
    obtain ⟨r, k, m, O, hrn, hk, rfl, rfl, hlt, hO, hmk, hOl, how, hbw⟩ := hrel
    by_cases h0 : 1 ≤ r
    · obtain ⟨j, hj, he, hy, hz⟩ := enc_step h0 hlt.out
      have hr0 : (0 : Int) < (r : Int) := by omega
      obtain ⟨F, hF⟩ : ∃ F, fib k = F := ⟨_, rfl⟩
      have HFI : Hid (∀ w', Calls Try.prog 86 #[.int .i64 (k : Int)] w' fun e w'' => e = .returned (.int .i64 (F : Int)) ∧ w' = w'') := Lib.hid (fun w' => by rw [← hF]; exact fibonacci_any k w' hk)
      rw [hF] at he hy hz
      have hki : (k : Int) - 1 = (j : Int) := by omega
      have hj60 : j + 1 ≤ 60 := by omega
      have HKJ := Lib.hid hj
      have HKI := Lib.hid hki
      have hk1 : 1 ≤ k := by omega
      clear hF hj hki
      by_cases hc : F ≤ r
      · have HO2 : Hid ((O ++ [(k : Int)]) ++ encF j (r - F) = R) := Lib.hid (by
          rw [← hO.out, he, if_pos hc, List.append_assoc]; rfl)
        have HL2 : Hid (r - F < fib (j + 1)) := Lib.hid (hy hc)
        have hci : (F : Int) ≤ (r : Int) := by omega
        have erf : (r : Int) - (F : Int) = ((r - F : Nat) : Int) := by omega
        have ERF := Lib.hid erf
        have hown : (wr.alloc (Obj.cells #[.int .i64 (k : Int)] 3)).ownsRow w.heap.size 3 1 u3 O.length (ints O) := how.out.alloc _
        have HOW := Lib.hid hown
        have HNE : Hid (∀ j' u, ([Value.int .i64 (k : Int)] : List Value)[j']? = some u → (wr.alloc (Obj.cells #[.int .i64 (k : Int)] 3)).cell? ((⟨wr.heap.size, 0, none⟩ : Addr).add j') = some u) := Lib.hid (by
          intro j' u hu
          rw [iadd]
          rcases j' with _ | j'
          · simp at hu; subst hu; simp
          · simp at hu)
        have H1 : Hid (∀ u ∈ ([Value.int .i64 (k : Int)] : List Value), u.oneCell' = true) := Lib.hid (by intro u hu; simp at hu; subst hu; simp [Value.oneCell'])
        have H3 : Hid (O.length + 1 ≤ maxLen) := Lib.hid (by have := hOl.out; unfold maxLen; omega)
        have H4 : Hid ((O.length + 1) * 8 ≤ 140737488355328) := Lib.hid (by have := hOl.out; omega)
        have H5 : Hid (w.heap.size ≤ (wr.alloc (Obj.cells #[.int .i64 (k : Int)] 3)).heap.size) := Lib.hid (by have := hbw.out.size; simp; omega)
        clear hown he hy hz erf
        go_wp2_with (first
          | (go_at_call 86; refine (HFI.out _).mono ?_; rintro e w1 ⟨rfl, rfl⟩)
          | (at_builtin; refine wpList_append_own _ rfl _ _ 85 rfl w.heap.size 3 i0 (.int .i64 0) 1 8 Try.underlying85 hi hz0 hz1 hz2 rfl (by decide) _ O.length (ints O) rfl HOW.out ⟨wr.heap.size, 0, none⟩ 1 1 [.int .i64 (k : Int)] rfl rfl HNE.out H1.out H3.out H4.out H5.out ?_; intro v' w2 hown' hgrow _))
        have HN : Hid (w2.ownsRow w.heap.size 3 1 v' (O ++ [(k : Int)]).length (ints (O ++ [(k : Int)]))) := Lib.hid (by
          rw [List.length_append, ints_app]; exact hown')
        have HB2 : Hid (Below w.heap.size w w2) := Lib.hid (iown_below (how.out.alloc _) hgrow (hbw.out.alloc hbw.out.size _) (Nat.le_refl _) H5.out)
        have HLN : Hid ((O ++ [(k : Int)]).length ≤ m + 1) := Lib.hid (by rw [List.length_append]; have := hOl.out; simp; omega)
        clear hown' hgrow
        go_wp2_with fail
        go_roundw
        case rel => exact ⟨r - F, j, m + 1, O ++ [(k : Int)], by omega, by omega, by rw [ERF.out], by rw [HKI.out], HL2, HO2, by have := HKJ.out; omega, HLN, HN, HB2⟩
        case measure => simp [intOf]; omega
      · have HO2 : Hid (O ++ encF j r = R) := Lib.hid (by rw [← hO.out, he, if_neg hc])
        have HL2 : Hid (r < fib (j + 1)) := Lib.hid (hz hc)
        have hci : (r : Int) < (F : Int) := by omega
        have HLN : Hid (O.length ≤ m + 1) := Lib.hid (by have := hOl.out; omega)
        clear he hy hz hc
        go_wp2_with fail
        refine (HFI.out _).mono ?_; rintro e w1 ⟨rfl, rfl⟩
        go_wp2_with fail
        go_roundw
        case rel => exact ⟨r, j, m + 1, O, hrn, by omega, rfl, by rw [HKI.out], HL2, HO2, by have := HKJ.out; omega, HLN, how, hbw⟩
        case measure => simp [intOf]; omega
    · have hr0 : r = 0 := by omega
      subst hr0
      have HE : Hid (O = R) := Lib.hid (by have := hO.out; rwa [encF_zero, List.append_nil] at this)
      obtain ⟨A', c', rfl, hA'⟩ := iown_sl how.out
      clear hA'
      go_wp2_with fail
      go_ret
      exact ⟨A', _, c', rfl, by rw [← HE.out]; exact IRow.of_own how.out, hbw.out⟩

theorem isNumber_yes (n : Nat) (w : World) (hn : n ≤ 5000) : Calls Try.prog 78 #[.int .i64 (n : Int)] w fun e w' => e = .returned (.bool true) ∧ w = w' := by
  have h1 : (0 : Int) ≤ (n : Int) := by omega
  have h2 : (n : Int) ≤ 1000000000000 := by omega
  go_enter Try.func78, Try.ntmps78
  go_wp2_with fail
  go_ret
  exact ⟨rfl, rfl⟩
def GivesNE (w : World) (L : List Int) (E : Int) (e : Ending) (w' : World) : Prop :=
  ∃ A n c, e = .returned (.tuple #[.slice A n c, .int .i64 E]) ∧ IRow w' w'.heap.size A n L ∧ Below w.heap.size w w'
theorem Encode_any (n : Nat) (w : World) (hn : n ≤ 5000) :
    Calls Try.prog 50 #[.int .i64 (n : Int)] w (GivesNE w (encF 60 n) 0) := by
  have HIS : Hid (∀ w', Calls Try.prog 78 #[.int .i64 (n : Int)] w' fun e w'' => e = .returned (.bool true) ∧ w' = w'') := Lib.hid (fun w' => isNumber_yes n w' hn)
  have HEN : Hid (∀ w', Calls Try.prog 79 #[.int .i64 (n : Int)] w' (GivesN w' (encF 60 n))) := Lib.hid (fun w' => encode_any n w' hn)
  go_enter Try.func50, Try.ntmps50
  go_wp2_with fail
  refine (HIS.out _).mono ?_; rintro e w1 ⟨rfl, rfl⟩
  go_wp2_with fail
  refine (HEN.out _).mono ?_; rintro e w2 ⟨A2, n2, c2, rfl, hr2, hb2⟩
  have HR2 := Lib.hid hr2
  have HB2 := Lib.hid hb2
  clear hr2 hb2
  go_wp2_with fail
  go_ret2
  exact ⟨A2, n2, c2, rfl, HR2.out, HB2.out⟩

/-- the numeral of one index -/
theorem nvalid_one (K : Nat) (A : Option Addr) (c : Nat) (w : World) (h : IRow w w.heap.size A 1 [(K : Int)]) (h2 : 2 ≤ K) (h60 : K ≤ 60) :
    Calls Try.prog 67 #[.slice A 1 c] w fun e w' => e = .returned (.bool true) ∧ w = w' := by
  obtain ⟨b, off, x, hx, rfl, hB, g1⟩ := h.at_ (k := 0) (by omega)
  obtain rfl : x = (K : Int) := by simp at hx; exact hx.symm
  rw [Nat.add_zero] at g1
  have a1 : (2 : Int) ≤ (K : Int) := by omega
  have a2 : (K : Int) ≤ 60 := by omega
  clear hx h
  go_enter Try.func67, Try.ntmps67
  go_wp2_with fail
  go_loop [7] (fun z => z = .int .i64 0 ∨ z = .int .i64 1) (fun z => 1 - (intOf z).toNat)
  case atStart => exact .inl rfl
  case round =>
    rcases hrel with rfl | rfl
    · go_wp2_with fail
      go_round
      case rel => exact .inr rfl
      case measure => simp [intOf]
    · go_wp2_with fail
      go_ret
      exact ⟨rfl, rfl⟩
theorem nvalue_one (K : Nat) (A : Option Addr) (c : Nat) (w : World) (h : IRow w w.heap.size A 1 [(K : Int)]) (h60 : K ≤ 60) :
    Calls Try.prog 69 #[.slice A 1 c, .int .i64 0] w fun e w' => e = .returned (.int .i64 (fib K : Nat)) ∧ w = w' := by
  obtain ⟨b, off, x, hx, rfl, hB, g1⟩ := h.at_ (k := 0) (by omega)
  obtain rfl : x = (K : Int) := by simp at hx; exact hx.symm
  rw [Nat.add_zero] at g1
  have hF := fib_big (k := K) (by omega)
  obtain ⟨F, hFF⟩ : ∃ F, fib K = F := ⟨_, rfl⟩
  have HFI : Hid (∀ w', Calls Try.prog 86 #[.int .i64 (K : Int)] w' fun e w'' => e = .returned (.int .i64 (F : Int)) ∧ w' = w'') := Lib.hid (fun w' => by rw [← hFF]; exact fibonacci_any K w' h60)
  rw [hFF] at hF ⊢
  have a2 : (K : Int) ≤ 60 := by omega
  clear hx h hFF
  go_enter Try.func69, Try.ntmps69
  go_wp2_with fail
  go_loop [5, 10] (fun s z => (z = .int .i64 0 ∧ s = .int .i64 0) ∨ (z = .int .i64 1 ∧ s = .int .i64 (F : Int))) (fun _ z => 1 - (intOf z).toNat)
  case atStart => exact .inl ⟨rfl, rfl⟩
  case round =>
    rcases hrel with ⟨rfl, rfl⟩ | ⟨rfl, rfl⟩
    · go_wp2_with fail
      refine (HFI.out _).mono ?_; rintro e w1 ⟨rfl, rfl⟩
      go_wp2_with fail
      go_round
      case rel => exact .inr ⟨rfl, rfl⟩
      case measure => simp [intOf]
    · go_wp2_with fail
      go_ret
      exact ⟨rfl, rfl⟩
theorem Value_one (K : Nat) (A : Option Addr) (c : Nat) (w : World) (h : IRow w w.heap.size A 1 [(K : Int)]) (h2 : 2 ≤ K) (h60 : K ≤ 60) (hF : fib K ≤ 1000000000000) :
    Calls Try.prog 44 #[.slice A 1 c] w fun e w' => e = .returned (.tuple #[.int .i64 (fib K : Nat), .int .i64 0]) ∧ w = w' := by
  have HVA : Hid (Calls Try.prog 67 #[.slice A 1 c] w fun e w' => e = .returned (.bool true) ∧ w = w') := Lib.hid (nvalid_one K A c w h h2 h60)
  have HVL : Hid (Calls Try.prog 69 #[.slice A 1 c, .int .i64 0] w fun e w' => e = .returned (.int .i64 (fib K : Nat)) ∧ w = w') := Lib.hid (nvalue_one K A c w h h60)
  obtain ⟨F, hFF⟩ : ∃ F, fib K = F := ⟨_, rfl⟩
  rw [hFF] at HVL hF ⊢
  have hFi : (F : Int) ≤ 1000000000000 := by omega
  have HSZ : Hid (∀ w', Calls Try.prog 68 #[.int .i64 (F : Int)] w' fun e w'' => e = .returned (.tuple #[.int .i64 (F : Int), .int .i64 0]) ∧ w' = w'') := Lib.hid (fun w' => by
    go_enter Try.func68, Try.ntmps68
    go_wp2_with fail
    go_ret2
    exact ⟨rfl, rfl⟩)
  clear h hFF
  go_enter Try.func44, Try.ntmps44
  go_wp2_with fail
  refine HVA.out.mono ?_; rintro e w1 ⟨rfl, rfl⟩
  go_wp2_with fail
  refine HVL.out.mono ?_; rintro e w1 ⟨rfl, rfl⟩
  go_wp2_with fail
  refine (HSZ.out _).mono ?_; rintro e w1 ⟨rfl, rfl⟩
  go_wp2_with fail
  go_ret2
  exact ⟨rfl, rfl⟩
end Go.Proofs.Ytdombadhmaanfaa
