/-
  Contracts: slices.SortFunc by the closure of PathsOrder, at few elements; the program's PathsOrder.
-/
import Derived.Test.YtjppkcfbhhjniaaPathSr
namespace Go.Proofs.Ytjppkcfbhhjniaa
open Go.RowKit Go.Deep
set_option linter.unusedVariables false

section
variable {w : World} {g T m i q p : Nat} {F : Nat → Int}
theorem row_swap1 (h : w.rowIs g T m (fun t => .int .i64 ((mid F i (q + 1) t : Nat) : Int))) (hq : q < i) (hp : ordAt F i q = p) :
    ((w.setCell ⟨g, q + 1, none⟩ (.int .i64 (p : Int))).setCell ⟨g, q, none⟩ (.int .i64 (i : Int))).rowIs g T m (fun t => .int .i64 ((mid F i q t : Nat) : Int)) :=
  ((h.set (q + 1) _).set q _).congr fun t _ => by
    rw [← mid_swap hq t, hp]
    by_cases h1 : t = q
    · simp [h1]
    · by_cases h2 : t = q + 1
      · simp [h2]
      · simp [h1, h2]
theorem row_swap2 (h : w.rowIs g T m (fun t => .int .i64 ((mid F i (q + 1) t : Nat) : Int))) (hq : q < i) (hp : ordAt F i q = p) :
    ((w.setCell ⟨g, q, none⟩ (.int .i64 (i : Int))).setCell ⟨g, q + 1, none⟩ (.int .i64 (p : Int))).rowIs g T m (fun t => .int .i64 ((mid F i q t : Nat) : Int)) :=
  ((h.set q _).set (q + 1) _).congr fun t _ => by
    rw [← mid_swap hq t, hp]
    by_cases h1 : t = q
    · simp [h1]
    · by_cases h2 : t = q + 1
      · simp [h2]
      · simp [h1, h2]
end
/-- Between two rounds. -/
def SrR (w : World) (g T m B : Nat) (A : Option Addr) (c : Nat) (D : Nat → PD) (k x y : Nat) (F : Nat → Nat) (wr : World) : Prop :=
  OrB B A m c D k x y wr ∧ wr.rowIs g T m (fun t => .int .i64 ((F t : Nat) : Int)) ∧ w.grownBy wr (some g)
theorem SrR.drewN {w : World} {g T m B : Nat} {A : Option Addr} {c : Nat} {D : Nat → PD} {k x y : Nat} {F : Nat → Nat} {wr : World} (h : SrR w g T m B A c D k x y F wr) (q : Nat) : SrR w g T m B A c D k x y F (wr.drewN q) :=
  ⟨h.1.drewN q, h.2.1, gb_drewN h.2.2 q⟩
theorem SrR.congr {w : World} {g T m B : Nat} {A : Option Addr} {c : Nat} {D : Nat → PD} {k x y : Nat} {F G : Nat → Nat} {wr : World} (h : SrR w g T m B A c D k x y F wr) (e : ∀ t, F t = G t) : SrR w g T m B A c D k x y G wr :=
  ⟨h.1, h.2.1.congr (fun t _ => by rw [e t]), h.2.2⟩
set_option maxHeartbeats 4000000 in
theorem iInsSort (B : Nat) (A : Option Addr) (m c : Nat) (D : Nat → PD) (n : Int) (k : Nat) (x y g cap : Nat) (w : World) (hv : hasS n D m k = true) (hB : B ≤ g) (hx : x ≠ g) (hy : y ≠ g) (hcap : m ≤ cap)
    (h : SrR w g 3 m B A c D k x y (fun t => t) w) :
    Calls Try.prog 77 #[.slice (some ⟨g, 0, none⟩) m cap, .int .i64 0, .int .i64 (m : Int), .func (.func 53) #[] #[.pointer (some ⟨x, 0, none⟩), .pointer (some ⟨y, 0, none⟩)]] w fun e w' => e = .returned (.tuple #[]) ∧ SrR w g 3 m B A c D k x y (srt (fun i => (D i).f1 k) m) w' := by
  obtain ⟨hpv, h0, hkn⟩ := hasS_iff.1 hv
  have hm8 : m ≤ 8 := (pathsV_iff.1 hpv).2.2.1
  have hne := (sec_of hpv hkn).ne
  have VV := Lib.hid hv
  generalize hF : (fun i => (D i).f1 k) = F at *
  have NE : Hid (∀ a b, a < m → b < m → a ≠ b → F a ≠ F b) := by rw [← hF]; exact hne
  clear hne
  have HF := Lib.hid hF
  have h1 := Lib.hid (h.congr (G := srt F 1) (fun t => (srt_one F t).symm))
  clear hv hpv h hF
  go_enter Try.func77, Try.ntmps77
  go_wp2
  go_loopw [8] (fun s wr => ∃ i : Nat, 1 ≤ i ∧ (i ≤ m ∨ i ≤ 1) ∧ s = .int .i64 i ∧ SrR w g 3 m B A c D k x y (srt F i) wr) (fun s _ => m - (intOf s).toNat)
  case atStart => exact ⟨1, Nat.le_refl _, by omega, rfl, h1.out⟩
  case round =>
    clear h1
    obtain ⟨i, hi1, hi2, rfl, hS⟩ := hrel
    by_cases hlt : i < m
    · obtain ⟨wo, rfl⟩ : ∃ wo : World, wo = wr := ⟨_, rfl⟩
      have hS0 := Lib.hid (hS.congr (fun t => (mid_start F i t).symm))
      clear hS
      go_wp2
      go_loopw [9] (fun s wr => ∃ j : Nat, j ≤ i ∧ s = .int .i64 j ∧ Hid (∀ q, j ≤ q → q < i → F i < F (ordAt F i q)) ∧ SrR w g 3 m B A c D k x y (mid F i j) wr) (fun s _ => (intOf s).toNat)
      case atStart => exact ⟨i, Nat.le_refl _, rfl, (fun q h1 h2 => absurd h2 (by omega)), hS0.out⟩
      case round =>
        clear hS0
        obtain ⟨j, hji, rfl, H2, hS⟩ := hrel
        by_cases hj0 : j = 0
        · subst hj0
          have H1 := Lib.hid (show ∀ q, q + 1 = 0 → ¬ F i < F (ordAt F i q) from fun q h => by omega)
          have z0 : decide ((0 : Int) < ((0 : Nat) : Int)) = false := rfl
          have z1 : decide ((0 : Int) < (0 : Int)) = false := rfl
          have hE := Lib.hid (hS.congr (mid_end' NE.out hlt hji H1.out H2.out))
          clear H1 H2 hS z0 z1
          go_wp2
          go_quiet (fail)
          have hE := Lib.hid (hE.out.drewN nq)
          go_wp2
          go_roundw
          case rel => exact ⟨i + 1, by omega, by omega, by go_num, hE.out⟩
          case measure => simp [intOf]; omega
        · obtain ⟨q, rfl⟩ : ∃ q, j = q + 1 := ⟨j - 1, by omega⟩
          have z0 : decide ((0 : Int) < (q : Int) + 1) = true := decide_eq_true (by omega)
          obtain ⟨p, hp⟩ : ∃ p, ordAt F i q = p := ⟨_, rfl⟩
          have hpm : p < m := by have := ordAt_lt (f := F) (i := i) (t := q) (by omega); omega
          have y0 := hS.2.1.cell (i := q) (by omega)
          have y1 := hS.2.1.cell (i := q + 1) (by omega)
          have yf := hS.2.1.frozen
          have z1 : IntKind.i64.wrap ((q : Int) + 1 - 1) = (q : Int) := by rw [show (q : Int) + 1 - 1 = q by omega]; exact IntWalk.i64_in _ (by omega)
          have z2 : IntKind.i64.wrap (q : Int) = (q : Int) := IntWalk.i64_in _ (by omega)
          rw [mid_left, hp] at y0
          rw [mid_at] at y1
          have q0 : (0 : Int) ≤ (q : Int) := by omega
          have q1 : (q : Int) < (m : Int) := by omega
          have q2 : (0 : Int) ≤ (q : Int) + 1 := by omega
          have q3 : (q : Int) + 1 < (m : Int) := by omega
          have q4 : q + 1 < m := by omega
          have PP := Lib.hid hp
          have YF := Lib.hid yf
          clear hp yf
          have hcall : ∀ nn, Calls Try.prog 53 #[.int .i64 (i : Int), .int .i64 (p : Int), .pointer (some ⟨x, 0, none⟩), .pointer (some ⟨y, 0, none⟩)] (wr.drewN nn) (CmpPost (wr.drewN nn) (cmpI (F i) (F p))) := fun nn => by
            have := iCmpAt B A m c D n k x y i p (wr.drewN nn) (hS.1.drewN nn) VV.out hlt hpm
            rw [← HF.out]; exact this
          have HC := Lib.hid hcall
          clear hcall
          by_cases hc : F i < F p
          · have d1 := cmpI_neg hc
            have H3 : Hid (∀ t, q ≤ t → t < i → F i < F (ordAt F i t)) := fun t h1 h2 => by
              by_cases e : t = q
              · subst e; rw [PP.out]; exact hc
              · exact H2.out t (by omega) h2
            clear hc H2
            generalize cmpI (F i) (F p) = cv at *
            have HS := Lib.hid hS
            clear hS
            go_wp2
            go_quiet ((go_at_call 53; exact Calls.quiet_of (HC.out _)))
            clear HC d1 z1 z2
            have f0 := YF.out q
            have f1 := YF.out (q + 1)
            go_wp2
            go_region
            all_goals
              go_wp2
              go_roundw
              case rel => first | exact ⟨q, by omega, by go_num, H3, ((HS.out.drewN _).1.store (by simp; omega) (by simp; omega) (by simp; omega) _).store (by simp; omega) (by simp; omega) (by simp; omega) _, row_swap1 (HS.out.drewN _).2.1 (by omega) PP.out, gb_setCell (gb_setCell (HS.out.drewN _).2.2 (.inl rfl) _) (.inl rfl) _⟩ | exact ⟨q, by omega, by go_num, H3, ((HS.out.drewN _).1.store (by simp; omega) (by simp; omega) (by simp; omega) _).store (by simp; omega) (by simp; omega) (by simp; omega) _, row_swap2 (HS.out.drewN _).2.1 (by omega) PP.out, gb_setCell (gb_setCell (HS.out.drewN _).2.2 (.inl rfl) _) (.inl rfl) _⟩
              case measure => simp [intOf]
          · have d1 := cmpI_non hc
            have H1 := Lib.hid (show ∀ t, t + 1 = q + 1 → ¬ F i < F (ordAt F i t) from fun t h => by (obtain rfl : t = q := (by omega)); rw [PP.out]; exact hc)
            have hE := Lib.hid (hS.congr (mid_end' NE.out hlt hji H1.out H2.out))
            clear H1 H2 hS hc
            generalize cmpI (F i) (F p) = cv at *
            go_wp2
            go_quiet ((go_at_call 53; exact Calls.quiet_of (HC.out _)))
            clear HC d1 z1 z2
            go_wp2
            go_roundw
            case rel => exact ⟨i + 1, by omega, by omega, by go_num, hE.out.drewN _⟩
            case measure => simp [intOf]; omega
    · have hE := Lib.hid hS
      clear hS
      have HX : SrR w g 3 m B A c D k x y (srt F m) wr := by
        by_cases e : i = m
        · subst e; exact hE.out
        · obtain rfl : m = 0 := by omega
          exact ⟨hE.out.1, hE.out.2.1.congr (fun t ht => absurd ht (by omega)), hE.out.2.2⟩
      have HX := Lib.hid HX
      clear hE
      go_wp2
      go_end0
      exact ⟨rfl, HX.out⟩
set_option maxRecDepth 100000 in
theorem cLen (n : Nat) (w : World) (hn : n ≤ 8) : Calls Try.prog 74 #[.int .u64 (n : Int)] w fun e w' => (∃ l : Int, e = .returned (.int .i64 l)) ∧ w = w' := by
  have h64 : Calls Try.prog 86 #[.int .u64 (n : Int)] w fun e w' => (∃ l : Int, e = .returned (.int .i64 l)) ∧ w = w' := by
    have d1 : decide ((4294967296 : Int) ≤ (n : Int)) = false := decide_eq_false (by omega)
    have d2 : decide ((65536 : Int) ≤ (n : Int)) = false := decide_eq_false (by omega)
    have d3 : decide ((256 : Int) ≤ (n : Int)) = false := decide_eq_false (by omega)
    go_enter Try.func86, Try.ntmps86
    go_wp2
    go_ret
    exact ⟨⟨_, rfl⟩, rfl⟩
  have H := Lib.hid h64
  clear h64
  go_enter Try.func74, Try.ntmps74
  go_wp2_with fail
  refine H.out.mono ?_
  rintro e w1 ⟨⟨l, rfl⟩, rfl⟩
  go_wp2
  go_ret
  exact ⟨⟨l, rfl⟩, rfl⟩
set_option maxHeartbeats 1000000 in
set_option maxRecDepth 100000 in
theorem iSort (B : Nat) (A : Option Addr) (m c : Nat) (D : Nat → PD) (n : Int) (k : Nat) (x y g cap : Nat) (w : World) (hv : hasS n D m k = true) (hB : B ≤ g) (hx : x ≠ g) (hy : y ≠ g) (hcap : m ≤ cap)
    (h : SrR w g 3 m B A c D k x y (fun t => t) w) :
    Calls Try.prog 52 #[.slice (some ⟨g, 0, none⟩) m cap, .func (.func 53) #[] #[.pointer (some ⟨x, 0, none⟩), .pointer (some ⟨y, 0, none⟩)]] w fun e w' => e = .returned (.tuple #[]) ∧ SrR w g 3 m B A c D k x y (srt (fun i => (D i).f1 k) m) w' := by
  have hm8 : m ≤ 8 := (pathsV_iff.1 (hasS_iff.1 hv).1).2.2.1
  have hi := iInsSort B A m c D n k x y g cap w hv hB hx hy hcap h
  have HI := Lib.hid hi
  have hp : ∀ lim : Int, Calls Try.prog 73 #[.slice (some ⟨g, 0, none⟩) m cap, .int .i64 0, .int .i64 (m : Int), .int .i64 lim, .func (.func 53) #[] #[.pointer (some ⟨x, 0, none⟩), .pointer (some ⟨y, 0, none⟩)]] w fun e w' => e = .returned (.tuple #[]) ∧ SrR w g 3 m B A c D k x y (srt (fun i => (D i).f1 k) m) w' := by
    intro lim
    clear hi h hv
    have hd : decide ((m : Int) ≤ 12) = true := decide_eq_true (by omega)
    go_enter Try.func73, Try.ntmps73
    go_wp2
    refine wp_loop_rounds 1 ?_
    rw [rounds_succ]
    go_wp2_with fail
    refine HI.out.mono ?_
    rintro e w' ⟨rfl, hS⟩
    have HS := Lib.hid hS
    clear hS
    go_wp2
    (try simp only [Exit.inBlock, Exit.then])
    refine bodyPost_ret (results_none rfl _ _ _) rfl ?_
    exact ⟨rfl, HS.out⟩
  have HP := Lib.hid hp
  clear hp hi h hv
  go_enter Try.func52, Try.ntmps52
  go_wp2_with fail
  refine (cLen m _ hm8).mono ?_
  rintro e w1 ⟨⟨l, rfl⟩, rfl⟩
  go_wp2_with fail
  refine (HP.out _).mono ?_
  rintro e w1 ⟨rfl, hS⟩
  have HS := Lib.hid hS
  clear hS
  go_wp2
  go_end0
  exact ⟨rfl, HS.out⟩
end Go.Proofs.Ytjppkcfbhhjniaa
