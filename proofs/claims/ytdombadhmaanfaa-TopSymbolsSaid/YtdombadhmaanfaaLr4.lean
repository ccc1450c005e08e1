/- lift: the roots of a polynomial modulo a power of a prime. -/
import Derived.Test.YtdombadhmaanfaaLr2
import Derived.Test.YtdombadhmaanfaaLr3
namespace Go.Proofs.Ytdombadhmaanfaa
open Go Go.RowKit

def rw1 (L : List Int) (m m2 r : Nat) : Nat → List Nat
  | 0 => []
  | d + 1 => rw1 L m m2 r d ++ (if pev ((r + d * m : Nat) : Int) m2 L = 0 then [r + d * m] else [])
def stp (L : List Int) (p m : Nat) (R : List Nat) : List Nat := R.flatMap fun r => rw1 L m (m * p) r p
/-- the roots modulo a power -/
def rts (L : List Int) (p : Nat) : Nat → List Nat
  | 0 => [0]
  | j + 1 => stp L p (p ^ j) (rts L p j)
theorem rw1_len (L : List Int) (m m2 r : Nat) : ∀ d, (rw1 L m m2 r d).length ≤ d
  | 0 => Nat.le_refl _
  | d + 1 => by
    have := rw1_len L m m2 r d
    rw [rw1, List.length_append]
    split <;> simp <;> omega
theorem rw1_bd (L : List Int) {m : Nat} (m2 : Nat) {r : Nat} (hr : r < m) : ∀ d, ∀ x ∈ rw1 L m m2 r d, x < m * d
  | 0 => by simp [rw1]
  | d + 1 => by
    intro x hx
    rw [rw1, List.mem_append] at hx
    rw [Nat.mul_succ]
    rcases hx with h | h
    · have := rw1_bd L m2 hr d x h; omega
    · split at h
      · rw [List.mem_singleton] at h
        rw [h, Nat.mul_comm d m]; omega
      · cases h
theorem nflat_len {f : Nat → List Nat} {p : Nat} (h : ∀ r, (f r).length ≤ p) : ∀ R : List Nat, (R.flatMap f).length ≤ p * R.length
  | [] => by simp
  | r :: R => by
    have := h r
    have := nflat_len h R
    rw [List.flatMap_cons, List.length_append, List.length_cons, Nat.mul_succ]
    omega
theorem rts_bd (L : List Int) (p : Nat) : ∀ j, (rts L p j).length ≤ p ^ j ∧ ∀ x ∈ rts L p j, x < p ^ j
  | 0 => by simp [rts]
  | j + 1 => by
    obtain ⟨h1, h2⟩ := rts_bd L p j
    refine ⟨?_, fun x hx => ?_⟩
    · rw [rts, stp, Nat.pow_succ, Nat.mul_comm]
      exact Nat.le_trans (nflat_len (fun r => rw1_len L _ _ r p) _) (Nat.mul_le_mul_left _ h1)
    · rw [rts, stp, List.mem_flatMap] at hx
      obtain ⟨r, hr, hx⟩ := hx
      rw [Nat.pow_succ]
      exact rw1_bd L _ (h2 r hr) p x hx
def cst (R : List Nat) : List Int := R.map fun x : Nat => (x : Int)
theorem cst_at {R : List Nat} {k : Nat} {x : Int} (h : (cst R)[k]? = some x) : ∃ r : Nat, R[k]? = some r ∧ x = r := by
  unfold cst at h
  rw [List.getElem?_map, Option.map_eq_some_iff] at h
  obtain ⟨r, h1, h2⟩ := h
  exact ⟨r, h1, h2.symm⟩
theorem cst_app (R S : List Nat) : cst (R ++ S) = cst R ++ cst S := List.map_append
theorem cst_len (R : List Nat) : (cst R).length = R.length := List.length_map _
theorem take_flat {R : List Nat} {k : Nat} {r : Nat} (f : Nat → List Nat) (h : R[k]? = some r) : (R.take (k + 1)).flatMap f = (R.take k).flatMap f ++ f r := by
  obtain ⟨hk, e⟩ := List.getElem?_eq_some_iff.1 h
  rw [List.take_succ_eq_append_getElem hk, e, List.flatMap_append, List.flatMap_singleton]

/-- a slice of ints that the call owns, in a world that has grown -/
def IRel (w : World) (D : List Int) (v : Value) (wr : World) : Prop := wr.ownsRow w.heap.size 3 1 v D.length (ints D) ∧ Below w.heap.size w wr
theorem IRel.below {w wr w2 : World} {D : List Int} {v : Value} (h : IRel w D v wr) (h2 : Below wr.heap.size wr w2) : IRel w D v w2 :=
  ⟨h.1.kept (row := none) ⟨h2.os, h2.tape, h2.output, h2.size, fun k hk _ => h2.block k hk⟩ (by cases v.ownBlock <;> simp), ibt h.2 h2⟩
theorem IRel.next {w wr w2 w1 : World} {D : List Int} {v v' : Value} {x : Int} (h : IRel w D v wr) (h2 : Below wr.heap.size wr w2)
    (hown : w1.ownsRow w.heap.size 3 1 v' (D.length + 1) (ints D ++ [.int .i64 x])) (hg : w2.grownBy w1 v.ownBlock) : IRel w (D ++ [x]) v' w1 := by
  obtain ⟨h1, hb⟩ := h
  refine ⟨by rw [List.length_append, ints_app]; exact hown, ?_⟩
  refine (ibt hb h2).grown hg (by have := hb.size; have := h2.size; omega) (fun g e => ?_)
  rcases h1.2 with ⟨rfl, _⟩ | ⟨g', cap, cur, rfl, hb, _⟩
  · cases e
  · injection e with e; subst e; exact hb
theorem IRel.form {w wr : World} {D : List Int} {v : Value} (h : IRel w D v wr) : ∃ A c, v = .slice A D.length c ∧ Own wr w.heap.size A D.length c D ∧ (A = none → D.length = 0) := by
  rcases h.1.2 with ⟨rfl, h0⟩ | ⟨g, cap, cur, rfl, _⟩
  · have e : (Value.slice none 0 0) = .slice none D.length 0 := by rw [h0]
    exact ⟨none, 0, e, (by show wr.ownsRow w.heap.size _ 1 (.slice none D.length 0) _ _; rw [← e]; exact h.1), fun _ => h0⟩
  · exact ⟨_, cap, rfl, h.1, fun e => by cases e⟩
theorem int_news {w w0 : World} {x : Int} {g : Nat} (hg : w0.heap.size = g) (hw : w = w0.alloc (Obj.cells #[.int .i64 x] 3)) : ∀ j u, ([Value.int .i64 x] : List Value)[j]? = some u → w.cell? ((⟨g, 0, none⟩ : Addr).add j) = some u := by
  intro j u hu
  rw [iadd, hw, ← hg]
  rcases j with _ | j
  · simp at hu; subst hu; simp
  · simp at hu
theorem int_one {x : Int} : ∀ u ∈ ([Value.int .i64 x] : List Value), u.oneCell' = true := by
  intro u hu; simp at hu; rw [hu]; simp [Value.oneCell']

set_option maxRecDepth 100000 in
set_option maxHeartbeats 2000000 in
theorem roots_any (A : Option Addr) (l c : Nat) (L : List Int) (p K : Nat) (w : World) (h : IRow w w.heap.size A l L) (hl : l ≤ 1000000) (hc : ∀ y ∈ L, -1000000 ≤ y ∧ y ≤ 1000000) (hp1 : 2 ≤ p) (hp2 : p ≤ 13) (hK : K ≤ 15) (hpK : p ^ K ≤ 20000) :
    Calls Try.prog 75 #[.slice A l c, .int .i64 (p : Int), .int .i64 (K : Int)] w (GivesI w (srt (cst (rts L p K)))) := by
  have HR := Lib.hid h
  have HAT : Hid (∀ x m w', Below w.heap.size w w' → 1 ≤ m → m ≤ 20000 → x ≤ 20000 → Calls Try.prog 88 #[.slice A l c, .int .i64 ((x : Nat) : Int), .int .i64 ((m : Nat) : Int)] w' fun e w'' => e = .returned (.int .i64 (pev x m L)) ∧ Below w'.heap.size w' w'') := Lib.hid (fun x m w' hb h1 h2 h3 => at_any A l c L x m w' (h.next hb) hl hc h1 h2 h3)
  have HUP : Hid (∀ j, j ≤ K → p ^ j ≤ 20000) := Lib.hid (fun j hj => Nat.le_trans (Nat.pow_le_pow_right (by omega) hj) hpK)
  have HPOS : Hid (∀ j, 1 ≤ p ^ j) := Lib.hid (fun j => Nat.pow_pos (by omega))
  have HS : Hid (∀ j, p ^ (j + 1) = p ^ j * p) := Lib.hid (fun j => Nat.pow_succ p j)
  have HBD := Lib.hid (rts_bd L p)
  have HST : Hid (∀ j, rts L p (j + 1) = stp L p (p ^ j) (rts L p j)) := Lib.hid (fun j => rfl)
  clear h hc hpK
  obtain ⟨i0, hi, hz0, hz1, hz2⟩ := info_parts infoI
  go_enter Try.func75, Try.ntmps75
  go_wp2_with fail
  have HO0 : Hid (IRel w (cst (rts L p 0)) (.slice (some ⟨w.heap.size, 0, none⟩) 1 1) (w.alloc (Obj.cells #[Value.int .i64 0] 3))) := Lib.hid ⟨(own_lit (w := w) [0] (Nat.le_refl _) (by decide) : Own (w.alloc (Obj.cells #[Value.int .i64 0] 3)) w.heap.size (some ⟨w.heap.size, 0, none⟩) 1 1 [0]), (Below.refl _ _).alloc (Nat.le_refl _) _⟩
  go_loopw [7, 8, 16] (fun o m x wr => ∃ j M : Nat, j ≤ K ∧ M ≤ 20000 ∧ 1 ≤ M ∧ Hid (p ^ j = M) ∧ Hid (IRel w (cst (rts L p j)) o wr) ∧ m = .int .i64 (M : Int) ∧ x = .int .i64 (j : Int)) (fun _ _ x _ => K - (intOf x).toNat)
  case atStart => exact ⟨0, 1, by omega, by omega, by omega, Lib.hid (Nat.pow_zero p), HO0, rfl, rfl⟩
  case round =>
    obtain ⟨j, M, hj, hM, hM1, hpw, hrl, rfl, rfl⟩ := hrel
    obtain ⟨R, hR⟩ : ∃ R, rts L p j = R := ⟨_, rfl⟩
    rw [hR] at hrl
    have HRE := Lib.hid hR
    obtain ⟨Ao, co, rfl, hown, hnil⟩ := hrl.out.form
    have HOW := Lib.hid hown
    have HBW := Lib.hid hrl.out.2
    have HNIL := Lib.hid hnil
    clear hR hown hnil hrl
    by_cases hlt : j < K
    · have hlti : (j : Int) < (K : Int) := by omega
      obtain ⟨WR0, hWR0⟩ : ∃ WR0, WR0 = wr := ⟨_, rfl⟩
      subst hWR0
      have HIR := Lib.hid (IRow.of_own HOW.out)
      have hlen : R.length ≤ 20000 := by
        rw [← HRE.out]
        have := (HBD.out j).1
        rw [hpw.out] at this
        omega
      have HRB : Hid (∀ x ∈ R, x < M) := Lib.hid (by rw [← HRE.out, ← hpw.out]; exact (HBD.out j).2)
      obtain ⟨Z, hZ⟩ : ∃ Z, M * p = Z := ⟨_, rfl⟩
      have hZ2 : Z ≤ 20000 := by rw [← hZ, ← hpw.out, ← HS.out]; exact HUP.out (j + 1) (by omega)
      have hZ1 : 1 ≤ Z := by rw [← hZ]; exact Nat.mul_pos hM1 (by omega)
      have hZi : (M : Int) * (p : Int) = (Z : Int) := by rw [← hZ, Int.natCast_mul]
      have HZI := Lib.hid hZi
      have HPN : Hid (p ^ (j + 1) = Z) := Lib.hid (by rw [HS.out, hpw.out, hZ])
      have HNX : Hid (rts L p (j + 1) = R.flatMap fun r => rw1 L M Z r p) := Lib.hid (by rw [HST.out, hpw.out, HRE.out, stp, hZ])
      have HDM : Hid (∀ d r, d < p → r < M → r + d * M < Z) := Lib.hid (fun d r h1 h2 => by
        have := Nat.mul_le_mul_right M (show d + 1 ≤ p by omega)
        rw [Nat.succ_mul, Nat.mul_comm p M, hZ] at this
        omega)
      have HFL : Hid (∀ i : Nat, ((R.take i).flatMap fun r => rw1 L M Z r p).length ≤ 260000) := Lib.hid (fun i => by
        have h1 := nflat_len (f := fun r => rw1 L M Z r p) (p := p) (fun r => rw1_len L M Z r p) (R.take i)
        have h2 : (R.take i).length ≤ 20000 := by rw [List.length_take]; omega
        have h3 := Nat.mul_le_mul hp2 h2
        omega)
      have HRL := Lib.hid (fun r d => rw1_len L M Z r d)
      have HFM : Hid (∀ r d, rw1 L M Z r (d + 1) = rw1 L M Z r d ++ (if pev ((r + d * M : Nat) : Int) Z L = 0 then [r + d * M] else [])) := Lib.hid (fun r d => rfl)
      have h1Z : (1 : Int) ≤ (M : Int) * (p : Int) := by omega
      have h2Z : (M : Int) * (p : Int) ≤ 20000 := by omega
      obtain ⟨n0, hn0⟩ : ∃ n0, (cst R).length = n0 := ⟨_, rfl⟩
      have HN0 : Hid (R.length = n0) := Lib.hid (by rw [← hn0, cst_len])
      have hn0b : n0 ≤ 20000 := by rw [← HN0.out]; exact hlen
      rw [hn0] at HIR HOW ⊢
      clear hZ hZi hn0 hlen
      have hni : (n0 : Int) ≤ 20000 := by omega
      go_wp2_with fail
      go_loopw [9, 20] (fun v x wr2 => ∃ i : Nat, i ≤ n0 ∧ Hid (IRel WR0 (cst ((R.take i).flatMap fun r => rw1 L M Z r p)) v wr2) ∧ x = .int .i64 (i : Int)) (fun _ x _ => n0 - (intOf x).toNat)
      case atStart => exact ⟨0, by omega, Lib.hid ⟨World.ownsRow_nil _ _ _ _, Below.refl _ _⟩, rfl⟩
      case round =>
        obtain ⟨i, hi2, hrl, rfl⟩ := hrel
        by_cases hlt2 : i < n0
        · have hlti2 : (i : Int) < (n0 : Int) := by omega
          obtain ⟨b, off, x, hx, hA, hB, g1⟩ := (HIR.out.below hrl.out.2).at_ hlt2
          subst hA
          obtain ⟨r, hr, rfl⟩ := cst_at hx
          have hrM := HRB.out r (List.mem_of_getElem? hr)
          have HTF := Lib.hid (take_flat (fun r => rw1 L M Z r p) hr)
          have HR0 : Hid (rw1 L M Z r 0 = []) := Lib.hid rfl
          have hrMi : (r : Int) ≤ 20000 := by omega
          clear hx hr
          go_wp2_with fail
          go_loopw [9, 25] (fun v x wr3 => ∃ d : Nat, d ≤ p ∧ Hid (IRel WR0 (cst (((R.take i).flatMap fun r => rw1 L M Z r p) ++ rw1 L M Z r d)) v wr3) ∧ x = .int .i64 (d : Int)) (fun _ x _ => p - (intOf x).toNat)
          case atStart => exact ⟨0, by omega, by rw [HR0.out, List.append_nil]; exact hrl, rfl⟩
          case round =>
            obtain ⟨d, hd, hrl2, rfl⟩ := hrel
            by_cases hlt3 : d < p
            · have hlti3 : (d : Int) < (p : Int) := by omega
              have hX := HDM.out d r hlt3 hrM
              obtain ⟨X, hXe⟩ : ∃ X, r + d * M = X := ⟨_, rfl⟩
              have hXi : (r : Int) + (d : Int) * (M : Int) = (X : Int) := by rw [← hXe, Int.natCast_add, Int.natCast_mul]
              have hFM := HFM.out r d
              rw [hXe] at hX hFM
              have hdm0 : 0 ≤ (d : Int) * (M : Int) := Int.mul_nonneg (by omega) (by omega)
              have hdm1 : (d : Int) * (M : Int) ≤ 20000 := by omega
              have hx0 : 0 ≤ (r : Int) + (d : Int) * (M : Int) := by omega
              have hx1 : (r : Int) + (d : Int) * (M : Int) ≤ 20000 := by omega
              have HXI := Lib.hid hXi
              have HCALL := Lib.hid (HAT.out X Z wr (HBW.out.trans (hrl2.out.2.mono HBW.out.size)) hZ1 hZ2 (by omega))
              rw [← HXI.out, ← HZI.out] at HCALL
              obtain ⟨q, hq⟩ : ∃ q, pev ((r : Int) + (d : Int) * (M : Int)) Z L = q := ⟨_, rfl⟩
              rw [hq] at HCALL
              rw [← hXi, hq] at hFM
              have HLN : Hid ((((R.take i).flatMap fun r => rw1 L M Z r p) ++ rw1 L M Z r d).length ≤ 300000) := Lib.hid (by
                have h1 := HFL.out i
                have h2 := HRL.out r d
                rw [List.length_append]; omega)
              obtain ⟨D, hD⟩ : ∃ D, ((R.take i).flatMap fun r => rw1 L M Z r p) ++ rw1 L M Z r d = D := ⟨_, rfl⟩
              rw [hD] at hrl2 HLN
              by_cases hq0 : q = 0
              · have tq : (q == 0) = true := by rw [hq0]; rfl
                have HNW : Hid (cst (((R.take i).flatMap fun r => rw1 L M Z r p) ++ rw1 L M Z r (d + 1)) = cst D ++ [(r : Int) + (d : Int) * (M : Int)]) := Lib.hid (by
                  rw [hFM, if_pos hq0, ← List.append_assoc, hD, cst_app, hXi]; rfl)
                clear hXe hXi hFM hq hD hq0
                go_wp2_with fail
                refine HCALL.out.mono ?_; rintro e w3 ⟨rfl, hb3⟩
                have HB3 := Lib.hid hb3
                have hr3 := hrl2.out.below hb3
                have HR3 := Lib.hid hr3
                clear hb3
                obtain ⟨dn, hdn⟩ : ∃ dn, (cst D).length = dn := ⟨_, rfl⟩
                have hown3 : (w3.alloc (Obj.cells #[.int .i64 ((r : Int) + (d : Int) * (M : Int))] 3)).ownsRow WR0.heap.size 3 1 u9 dn (ints (cst D)) := by rw [← hdn]; exact hr3.1.alloc _
                have HOWA := Lib.hid hown3
                have HNE := Lib.hid (int_news (w := w3.alloc (Obj.cells #[.int .i64 ((r : Int) + (d : Int) * (M : Int))] 3)) (w0 := w3) (x := (r : Int) + (d : Int) * (M : Int)) (g := w3.heap.size) rfl rfl)
                have H1 := Lib.hid (int_one (x := (r : Int) + (d : Int) * (M : Int)))
                have hdl : dn ≤ 300000 := by rw [← hdn, cst_len]; exact HLN.out
                have H3 : Hid (dn + 1 ≤ maxLen) := Lib.hid (by unfold maxLen; omega)
                have H4 : Hid ((dn + 1) * 8 ≤ 140737488355328) := Lib.hid (by omega)
                have H5 : Hid (WR0.heap.size ≤ (w3.alloc (Obj.cells #[.int .i64 ((r : Int) + (d : Int) * (M : Int))] 3)).heap.size) := Lib.hid (by have := hr3.2.size; simp; omega)
                have HDN := Lib.hid hdn
                clear hown3 hr3 hdn hdl
                go_wp2_with (at_builtin; refine wpList_append_own _ rfl _ _ 61 rfl WR0.heap.size 3 i0 (.int .i64 0) 1 8 Try.underlying61 hi hz0 hz1 hz2 rfl (by decide) _ dn (ints (cst D)) rfl HOWA.out ⟨w3.heap.size, 0, none⟩ 1 1 [.int .i64 ((r : Int) + (d : Int) * (M : Int))] rfl rfl HNE.out H1.out H3.out H4.out H5.out ?_; intro v' w4 hown' hgrow _)
                have HQ : Hid (IRel WR0 (cst (((R.take i).flatMap fun r => rw1 L M Z r p) ++ rw1 L M Z r (d + 1))) v' w4) := Lib.hid (by
                  rw [HNW.out]
                  exact HR3.out.next ((Below.refl _ _).alloc (Nat.le_refl _) _) (by rw [HDN.out]; exact hown') hgrow)
                clear hown' hgrow
                go_wp2_with fail
                go_roundw
                case rel => exact ⟨d + 1, by omega, HQ, by go_num⟩
                case measure => simp [intOf]; omega
              · have tq : (q == 0) = false := by rw [beq_eq_false_iff_ne]; exact hq0
                have HNW : Hid (((R.take i).flatMap fun r => rw1 L M Z r p) ++ rw1 L M Z r (d + 1) = D) := Lib.hid (by
                  rw [hFM, if_neg hq0, List.append_nil, hD])
                clear hXe hXi hFM hq hD hq0
                go_wp2_with fail
                refine HCALL.out.mono ?_; rintro e w3 ⟨rfl, hb3⟩
                have HQ : Hid (IRel WR0 (cst (((R.take i).flatMap fun r => rw1 L M Z r p) ++ rw1 L M Z r (d + 1))) u9 w3) := Lib.hid (by
                  rw [HNW.out]; exact hrl2.out.below hb3)
                clear hb3
                go_wp2_with fail
                go_roundw
                case rel => exact ⟨d + 1, by omega, HQ, by go_num⟩
                case measure => simp [intOf]; omega
            · have hdp : d = p := by omega
              have HQ : Hid (IRel WR0 (cst ((R.take (i + 1)).flatMap fun r => rw1 L M Z r p)) u9 wr) := Lib.hid (by
                have h5 := hrl2.out
                rw [hdp] at h5
                rw [HTF.out]; exact h5)
              go_wp2_with fail
              go_roundw
              case rel => exact ⟨i + 1, by omega, HQ, by go_num⟩
              case measure => simp [intOf]; omega
        · have hin : i = n0 := by omega
          obtain ⟨A9, c9, rfl, hown9, _⟩ := hrl.out.form
          have HB9 := Lib.hid (HBW.out.trans (hrl.out.2.mono HBW.out.size))
          have HQ : Hid (IRel w (cst (rts L p (j + 1))) (.slice A9 (cst ((R.take i).flatMap fun r => rw1 L M Z r p)).length c9) wr) := Lib.hid (by
            have hT : R.take i = R := List.take_of_length_le (by rw [HN0.out, hin]; exact Nat.le_refl _)
            rw [hT] at hown9 ⊢
            rw [HNX.out]
            exact ⟨Own.low hown9 HBW.out.size, HB9.out⟩)
          clear hown9
          go_wp2_with fail
          go_roundw
          case rel => exact ⟨j + 1, Z, by omega, hZ2, hZ1, HPN, HQ, by rw [← HZI.out], by go_num⟩
          case measure => simp [intOf]; omega
    · have hjK : j = K := by omega
      subst hjK
      have hlen : (cst R).length ≤ 1000000 := by
        rw [cst_len, ← HRE.out]
        have := (HBD.out j).1
        have := HUP.out j (Nat.le_refl _)
        omega
      have HSO := Lib.hid (sort_own Ao (cst R).length co w.heap.size (cst R) _ HOW.out hlen)
      obtain ⟨nn, hnn⟩ : ∃ nn, (cst R).length = nn := ⟨_, rfl⟩
      have HN2 : Hid (Ao = none → nn = 0) := Lib.hid (fun e => by rw [← hnn]; exact HNIL.out e)
      rw [hnn] at HSO ⊢
      clear hnn
      go_wp2_with fail
      refine HSO.out.mono ?_; rintro e w2 ⟨rfl, ho2, hb2, hs2⟩
      have HO2 := Lib.hid ho2
      have HB2 := Lib.hid (HBW.out.trans hb2)
      clear ho2 hb2 hs2
      go_wp2_with fail
      go_ret
      rw [HRE.out]
      exact ⟨Ao, nn, co, rfl, HO2.out, HN2.out, HB2.out⟩
end Go.Proofs.Ytdombadhmaanfaa
