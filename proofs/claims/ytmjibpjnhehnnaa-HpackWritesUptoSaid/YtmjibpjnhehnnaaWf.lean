/- HpackWrites, walked: whatever fields are written, the blocks are the reference's. -/
import Derived.Test.YtmjibpjnhehnnaaWm
import Derived.Test.YtmjibpjnhehnnaaDd
namespace Go.Proofs.Ytmjibpjnhehnnaa
open Go.RowKit
attribute [local go_sem ↓] Go.wp_at_zero Go.wp_at_succ

/-- Between two deeds. -/
def WMid (w : World) (be e bb r : Nat) (wx : World) : Prop := ∃ (was least m : Nat) (l : List Tk.Fd), was ≤ 65536 ∧ least ≤ 65536 ∧ m ≤ 65536 ∧ Tk.sum l ≤ m ∧ EX w be e bb r was least m l was least m l [] wx
theorem deed_cells_of {w : World} {x : Addr} {i : Nat} {s : Bool} {n : Int} {v : Value} (h : ∀ wx, Below w.heap.size w wx → DCells wx x i s n v) {be e bb r was least m was2 least2 m2 : Nat} {l l2 : List Tk.Fd} {bx : List (Nat × Obj)} {wx : World} (hE : EX w be e bb r was least m l was2 least2 m2 l2 bx wx) :
    wx.cell? (x.add (i * 4)) = some (.bool s) ∧ wx.cell? { x.add (i * 4) with off := (x.add (i * 4)).off + 1, spot := none } = some (.int .i64 n) ∧ wx.cell? { x.add (i * 4) with off := (x.add (i * 4)).off + 3, spot := none } = some v := h wx hE.old
set_option maxRecDepth 100000 in
set_option maxHeartbeats 8000000 in
theorem writes_true (w : World) (a : Option Addr) (len cap : Nat) (hlen : len ≤ 1048576) (hc : ∀ i, i < len → DeedOn w a i) : Calls Try.prog 5 #[.slice a len cap] w fun e w' => e = .returned (.bool true) ∧ Below w.heap.size w w' := by
  have HC := Lib.hid hc
  clear hc
  go_enter Try.func5, Try.ntmps5
  go_wp2_with fail
  refine (newEnc_any w).mono ?_
  rintro en w1 ⟨e, rfl, he1, hT1, hE1, hb1⟩
  go_wp2_with fail
  refine (rnewenc_any w1).mono ?_
  rintro en w2 ⟨r, rfl, hr2, hU2, hR2, hb2⟩
  have hEX := EX.new hT1 hE1 he1 hb1 hU2 hR2 hr2 hb2
  clear hT1 hE1 he1 hb1 hU2 hR2 hr2 hb2
  generalize w.heap.size + 1 = be at *
  generalize w1.heap.size = bb at *
  go_wp2
  go_loopw [5] (fun i5 wr => ∃ k : Nat, k ≤ len ∧ i5 = .int .i64 (k : Int) ∧ WMid w be e bb r wr) (fun i5 _ => len - (intOf i5).toNat)
  case atStart => exact ⟨0, Nat.zero_le _, rfl, 4096, 4096, 4096, [], by omega, by omega, by omega, Nat.zero_le _, hEX⟩
  case round =>
    clear hEX
    obtain ⟨k, hk, rfl, was, least, m, l, hwas, hle, hm, hs, hEX⟩ := hrel
    by_cases hlt : k < len
    · obtain ⟨x0, rfl, hxb, s, lim, t, A, n, c, fs, hx0, hx1, hx2, hx3, hfr, hnil, hsm⟩ := HC.out k hlt
      obtain ⟨hn, hsum, hhs, hsh⟩ := hsm (by omega)
      have HDC := Lib.hid (deed_cells hxb hx0 hx1 hx3)
      have hnn := hfr.1
      subst hnn
      have HSH := Lib.hid hsh
      have HNIL := Lib.hid hnil
      have HFR := Lib.hid hfr
      clear hx0 hx1 hx2 hx3 hsh hnil hsm hxb hfr
      have hkI : (k : Int) < (len : Int) := by omega
      have hk0 : (0 : Int) ≤ (k : Int) := by omega
      have hsucc : IntKind.i64.wrap ((k : Int) + 1) = ((k + 1 : Nat) : Int) := by rw [IntWalk.i64_in _ (by omega)]; omega
      have HSUCC := Lib.hid hsucc
      clear hsucc
      have HS := Lib.hid hs
      have hs6 : Tk.sum l ≤ 65536 := by omega
      clear hs
      go_upto_region 8 with fail
      go_cut [38] (fun s38 wx => s38 = .bool false ∧ WMid w be e bb r wx)
      case first =>
        cases s
        · obtain ⟨r0, r1, r3⟩ := deed_cells_of HDC.out hEX
          go_quiet (fail)
          go_wp2
          go_meet
          exact ⟨rfl, was, least, m, l, hwas, hle, hm, HS.out, hEX.below ⟨rfl, rfl, rfl, Nat.le_refl _, fun _ _ => rfl⟩⟩
        · by_cases hbad : lim < 0 ∨ 4294967295 < lim
          · obtain ⟨r0, r1, r3⟩ := deed_cells_of HDC.out hEX
            go_region_held3 (fun w' => w'.cell? (x0.add (k * 4)) = some (.bool true) ∧ w'.cell? { x0.add (k * 4) with off := (x0.add (k * 4)).off + 1, spot := none } = some (.int .i64 lim) ∧ w'.cell? { x0.add (k * 4) with off := (x0.add (k * 4)).off + 3, spot := none } = some (.slice A fs.length c)) (first | exact ⟨r0, r1, r3⟩) (first | (go_at_call 17; refine (elimit_bad _ e lim hbad).mono ?_; rintro en wq ⟨rfl, rfl⟩) | (go_at_call 18; refine (rlimit_bad _ r lim hbad).mono ?_; rintro en wq ⟨rfl, rfl⟩))
            all_goals
              go_wp2
              go_meet
              exact ⟨rfl, was, least, m, l, hwas, hle, hm, HS.out, hEX.below ⟨rfl, rfl, rfl, Nat.le_refl _, fun _ _ => rfl⟩⟩
          · obtain ⟨x, rfl⟩ := Int.eq_ofNat_of_zero_le (show 0 ≤ lim by omega)
            have hx : x ≤ 4294967295 := by omega
            clear hbad
            obtain ⟨r0, r1, r3⟩ := deed_cells_of HDC.out hEX
            have hEXd := hEX.drew
            go_region_held3 (fun w' => w'.cell? (x0.add (k * 4)) = some (.bool true) ∧ w'.cell? { x0.add (k * 4) with off := (x0.add (k * 4)).off + 1, spot := none } = some (.int .i64 (x : Int)) ∧ w'.cell? { x0.add (k * 4) with off := (x0.add (k * 4)).off + 3, spot := none } = some (.slice A fs.length c)) (first | exact ⟨r0, r1, r3⟩ | exact deed_cells_of HDC.out hEX3 | exact deed_cells_of HDC.out hEX4) (first | (go_at_call 17; refine (ex_elimit hEXd x _ hs6 hx rfl).mono ?_; rintro en w3 ⟨rfl, hEX3⟩) | (go_at_call 18; refine (ex_rlimit hEX3 x _ hs6 hx rfl).mono ?_; rintro en w4 ⟨rfl, hEX4⟩))
            all_goals
              go_wp2
              go_meet
              exact ⟨rfl, was, min least (min x 4096), min x 4096, Tk.shr (min x 4096) l, hwas, by omega, by omega, Tk.shr_sum _ _, hEX4⟩
      case rest =>
        clear hEX HS hwas hle hm hs6
        obtain ⟨rfl, was, least, m, l, hwas, hle, hm, hs, hEX⟩ := hcut
        obtain ⟨r0, r1, r3⟩ := deed_cells_of HDC.out hEX
        have HLE := Lib.hid (lent_any wc A fs.length c fs (HFR.out.keep hEX.old) HNIL.out (by omega))
        go_wp2_with fail
        refine HLE.out.mono ?_
        rintro en w3 ⟨g, cap3, rfl, hL3, hb3⟩
        clear HLE r0 r1 r3
        obtain ⟨ob3, hEX3⟩ := hEX.lent hL3 hb3
        clear hEX hb3
        generalize wc.heap.size = B3 at *
        have HL3 := Lib.hid hL3
        have HW := Lib.hid (ex_write hEX3.drew (some ⟨g, 0, none⟩) cap3 fs (own_zero (hL3.of_heap (w' := w3.drew) rfl).own) (fun k hk => ⟨ob3, by have : g = k := (by simpa [Value.ownBlock] using hk); subst this; exact List.mem_cons_self ..⟩) hs (by omega) hwas hle HSH.out (by omega) (by omega))
        have HRW := Lib.hid (fun w4 (h : EX w be e bb r m m m (Hk.write m was least fs l).2 was least m l [(g, ob3)] w4) => ex_rwrite h A c fs (HFR.out.keep h.old) (fun x hx h0 => by obtain ⟨x', e1, e2, _⟩ := HFR.out.2 0 h0; rw [hx] at e1; injection e1 with e1; subst e1; exact e2) hs (by omega) hle HSH.out (by omega) (by omega))
        clear hL3
        have hWS : Tk.sum (Hk.write m was least fs l).2 ≤ m := Hk.ones_sum fs hs
        have HG3 := Lib.hid hEX3.get
        generalize Hk.write m was least fs l = R at *
        obtain ⟨out, l'⟩ := R
        simp only at hWS HW HRW
        generalize strN out = txt at *
        have hs6' : Tk.sum l' ≤ 65536 := by omega
        have HKP := Lib.hid (fun w6 (h : EX w be e bb r m m m l' m m m l' [(g, ob3)] w6) => kept_true w6 B3 g cap3 A fs.length c fs (HFR.out.keep h.old) (HL3.out.of_heap (h.get.trans HG3.out.symm)) (by omega))
        obtain ⟨r0, r1, r3⟩ := deed_cells_of HDC.out hEX3
        go_upto_region 11 with fail
        go_region_held3 (fun w' => w'.cell? (x0.add (k * 4)) = some (.bool s) ∧ w'.cell? { x0.add (k * 4) with off := (x0.add (k * 4)).off + 1, spot := none } = some (.int .i64 lim) ∧ w'.cell? { x0.add (k * 4) with off := (x0.add (k * 4)).off + 3, spot := none } = some (.slice A fs.length c)) (first | exact ⟨r0, r1, r3⟩ | exact deed_cells_of HDC.out hEX4 | exact deed_cells_of HDC.out hEX5 | exact deed_cells_of HDC.out hEX6 | exact deed_cells_of HDC.out hEX7) (first | (go_at_call 14; refine HW.out.mono ?_; rintro en w4 ⟨rfl, hEX4⟩) | (go_at_call 19; refine (HRW.out _ hEX4).mono ?_; rintro en w5 ⟨rfl, hEX5⟩) | (go_at_call 20; refine (ex_esize hEX5).mono ?_; rintro en wq ⟨rfl, rfl⟩) | (go_at_call 21; refine (ex_rsize hEX5 hs6').mono ?_; rintro en w6 ⟨rfl, hEX6⟩) | (go_at_call 22; refine (HKP.out _ hEX6).mono ?_; rintro en w7 ⟨rfl, hb7⟩; have hEX7 := hEX6.below hb7))
        all_goals
          have hsucc := HSUCC.out
          clear r0 r1 r3
          go_wp2
          go_roundw
          case rel => exact ⟨k + 1, by omega, by go_num, m, m, m, l', by omega, by omega, hm, hWS, hEX7.drop⟩
          case measure => simp [intOf] <;> omega
    · obtain rfl : k = len := by omega
      go_wp2_with fail
      refine (awake_true wr).mono ?_
      rintro en w3 ⟨rfl, hb3⟩
      go_wp2
      go_ret
      exact ⟨rfl, (hEX.below hb3).old⟩
end Go.Proofs.Ytmjibpjnhehnnaa
