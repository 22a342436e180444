/- HpackBack, walked: what an encoder writes, block by block, a decoder reads as the same. -/
import Derived.Test.YtmjibpjnhehnnaaNi
import Derived.Test.YtmjibpjnhehnnaaLe
import Derived.Test.YtmjibpjnhehnnaaOd
namespace Go.Proofs.Ytmjibpjnhehnnaa
open Go.RowKit
attribute [local go_sem ↓] Go.wp_at_zero Go.wp_at_succ

/-- What is lent stands apart. -/
theorem ED.lent {w0 w w' : World} {be e bd d was least me lst lim br md g cap : Nat} {le ld fs : List Tk.Fd} {bx : List (Nat × Obj)} (h : ED w0 be e bd d was least me le lst lim br md ld bx w) (hL : Lent w' w.heap.size g cap fs) (hb : Below w.heap.size w w') :
    ∃ ob, ED w0 be e bd d was least me le lst lim br md ld ((g, ob) :: bx) w' := by
  obtain ⟨_, cs, hcs⟩ := own_type hL g rfl
  have hgl := hL.cap.1
  obtain ⟨ge, gd, hT, he, hU, hd, hne, hgg, hz, hge, hgd, hB, hx⟩ := h
  have l1 := hT.lt
  have l2 := hU.lt
  have l3 := heap_lt he
  have l4 := heap_lt hd
  refine ⟨.cells cs 57 (0, 0), ge, gd, hT.below hb, (hb.block e l3).trans he, hU.below hb, (hb.block d l4).trans hd, hne, hgg, hz, hge, hgd, hB.trans (hb.mono hB.size), ?_⟩
  intro p hp
  rcases List.mem_cons.1 hp with rfl | hp
  · refine ⟨hcs, by simp only; omega, by simp only; omega, by simp only; omega, by simp only; omega, ?_, ?_⟩
    · intro h; have := (l1.2 _ h).1; simp only at this; omega
    · intro h; have := (l2.2 _ h).1; simp only at this; omega
  · exact ⟨(hb.block _ (heap_lt (hx p hp).1)).trans (hx p hp).1, (hx p hp).2⟩
/-- The cells of a deed, in a later world. -/
def DCells (wx : World) (x : Addr) (i : Nat) (s : Bool) (n : Int) (v : Value) : Prop := wx.cell? (x.add (i * 4)) = some (.bool s) ∧ wx.cell? { x.add (i * 4) with off := (x.add (i * 4)).off + 1, spot := none } = some (.int .i64 n) ∧ wx.cell? { x.add (i * 4) with off := (x.add (i * 4)).off + 3, spot := none } = some v
theorem deed_cells {w : World} {x : Addr} {i : Nat} {s : Bool} {n : Int} {v : Value} (hx : x.block < w.heap.size) (h0 : w.cell? (x.add (i * 4)) = some (.bool s)) (h1 : w.cell? (x.add (i * 4 + 1)) = some (.int .i64 n)) (h3 : w.cell? (x.add (i * 4 + 3)) = some v) (wx : World) (hB : Below w.heap.size w wx) : DCells wx x i s n v := by
  have r0 := (hB.cell (p := x.add (i * 4)) (by rw [add_block]; exact hx)).trans h0
  have r1 := (hB.cell (p := x.add (i * 4 + 1)) (by rw [add_block]; exact hx)).trans h1
  have r3 := (hB.cell (p := x.add (i * 4 + 3)) (by rw [add_block]; exact hx)).trans h3
  rw [← Go.Deep.add_add x (i * 4) 1, add_litk _ 1 (by decide)] at r1
  rw [← Go.Deep.add_add x (i * 4) 3, add_litk _ 3 (by decide)] at r3
  exact ⟨r0, r1, r3⟩
/-- Behind the limits. -/
def BMid (w : World) (be e bd d m : Nat) (l : List Tk.Fd) (lst : Nat) (wx : World) : Prop := ∃ x, x ≤ 4096 ∧ ED w be e bd d m (min m x) x (Tk.shr x l) lst x 0 m l [] wx
def AllBack (w : World) (e : Ending) (w' : World) : Prop := e = .returned (.bool true) ∧ Below w.heap.size w w'
set_option maxRecDepth 100000 in
set_option maxHeartbeats 8000000 in
theorem back_bad (w : World) (n : Int) (a : Option Addr) (len cap : Nat) (hn : n < 1) : Calls Try.prog 6 #[.int .i64 n, .slice a len cap] w (AllBack w) := by
  go_enter Try.func6, Try.ntmps6
  go_wp2_with fail
  refine (newDec_bad w n hn).mono ?_
  rintro en wq ⟨rfl, rfl⟩
  go_wp2_with fail
  refine (newEnc_any w).mono ?_
  rintro en w2 ⟨e, rfl, he1, hT1, hE1, hb2⟩
  clear hT1 hE1 he1
  go_wp2_with fail
  refine (awake_true w2).mono ?_
  rintro en w3 ⟨rfl, hb3⟩
  go_wp2
  go_ret
  exact ⟨rfl, hb2.trans (hb3.mono hb2.size)⟩
set_option maxRecDepth 100000 in
set_option maxHeartbeats 8000000 in
theorem back_good (w : World) (lst : Nat) (hl1 : 1 ≤ lst) (a : Option Addr) (len cap : Nat) (hlen : len ≤ 1048576) (hc : ∀ i, i < len → DeedOn w a i) : Calls Try.prog 6 #[.int .i64 (lst : Int), .slice a len cap] w (AllBack w) := by
  have HC := Lib.hid hc
  clear hc
  go_enter Try.func6, Try.ntmps6
  go_wp2_with fail
  refine (newDec_good w lst hl1).mono ?_
  rintro en w1 ⟨d, rfl, hd1, hU1, hD1, hb1⟩
  go_wp2_with fail
  refine (newEnc_any w1).mono ?_
  rintro en w2 ⟨e, rfl, he2, hT2, hE2, hb2⟩
  have hED := ED.new2 hU1 hD1 hd1 hb1 hT2 hE2 he2 hb2
  clear hU1 hD1 hd1 hb1 hT2 hE2 he2 hb2
  generalize w.heap.size + 1 = bd at *
  generalize w1.heap.size + 1 = be at *
  go_wp2
  go_loopw [8] (fun i8 wr => ∃ (k m : Nat) (l : List Tk.Fd), k ≤ len ∧ i8 = .int .i64 (k : Int) ∧ m ≤ 4096 ∧ Tk.sum l ≤ m ∧ ED w be e bd d m m m l lst m 0 m l [] wr) (fun i8 _ => len - (intOf i8).toNat)
  case atStart => exact ⟨0, 4096, [], Nat.zero_le _, rfl, by omega, Nat.zero_le _, hED⟩
  case round =>
    clear hED
    obtain ⟨k, m, l, hk, rfl, hm, hs, hED⟩ := hrel
    by_cases hlt : k < len
    · obtain ⟨x0, rfl, hxb, s, lim, t, A, n, c, fs, hx0, hx1, hx2, hx3, hfr, hnil, hsm⟩ := HC.out k hlt
      obtain ⟨hn, hsum, hhs, hsh⟩ := hsm (by omega)
      have HDC := Lib.hid (deed_cells hxb hx0 hx1 hx3)
      have hnn := hfr.1
      subst hnn
      have HSH := Lib.hid hsh
      have HNIL := Lib.hid hnil
      have HFR := Lib.hid hfr
      clear hx0 hx1 hx2 hx3 hsh hnil hsm hxb hfr
      have hkI : (k : Int) < (len : Int) := by omega
      have hk0 : (0 : Int) ≤ (k : Int) := by omega
      have hsucc : IntKind.i64.wrap ((k : Int) + 1) = ((k + 1 : Nat) : Int) := by rw [IntWalk.i64_in _ (by omega)]; omega
      have HSUCC := Lib.hid hsucc
      clear hsucc
      have HS := Lib.hid hs
      clear hs
      obtain ⟨q, hq⟩ : ∃ q : Bool, q = (s && (decide (0 ≤ lim) && decide (lim ≤ 4096))) := ⟨_, rfl⟩
      have HQ := Lib.hid hq
      clear hq
      obtain ⟨r0, r1, r3⟩ := HDC.out wr hED.size.2
      clear r3
      go_upto_region 8 with fail
      go_cut [66] (fun s66 wx => s66 = .bool q ∧ wr = wx)
      case first =>
        have hq := HQ.out
        cases s
        · subst hq
          go_wp2
          go_meet
          exact ⟨rfl, rfl⟩
        · by_cases h0 : 0 ≤ lim
          · by_cases h1 : lim ≤ 4096
            · have hq' : q = true := by rw [hq, decide_eq_true h0, decide_eq_true h1]; rfl
              clear hq HQ
              subst hq'
              go_wp2
              go_meet
              exact ⟨rfl, rfl⟩
            · have hq' : q = false := by rw [hq, decide_eq_true h0, decide_eq_false h1]; rfl
              clear hq HQ
              subst hq'
              go_wp2
              go_meet
              exact ⟨rfl, rfl⟩
          · have hq' : q = false := by rw [hq, decide_eq_false h0]; rfl
            clear hq HQ
            subst hq'
            go_wp2
            go_meet
            exact ⟨rfl, rfl⟩
      case rest =>
        obtain ⟨rfl, rfl⟩ := hcut
        clear r0 r1
        go_upto_if 66 with fail
        go_cut [] (fun wx => BMid w be e bd d m l lst wx)
        case first =>
          cases q
          · go_wp2
            go_meet
            exact ⟨m, hm, by rw [Nat.min_self, Tk.shr_le HS.out]; exact hED⟩
          · have hq := HQ.out
            have h0 : 0 ≤ lim ∧ lim ≤ 4096 := by
              cases s
              · cases hq
              · simpa using hq.symm
            clear hq HQ
            obtain ⟨h0, h1⟩ := h0
            obtain ⟨x, rfl⟩ := Int.eq_ofNat_of_zero_le h0
            have hx : x ≤ 4096 := by omega
            clear h0 h1
            obtain ⟨_, r1, _⟩ := HDC.out wr hED.size.2
            have HE := Lib.hid (ed_elimit hED x x (by have := HS.out; omega) (by omega) (by omega))
            clear hED
            go_wp2_with fail
            refine HE.out.mono ?_
            rintro en w3 ⟨rfl, hED3⟩
            obtain ⟨_, r2, _⟩ := HDC.out w3 hED3.size.2
            have HD := Lib.hid (ed_dlimit hED3 x (by omega))
            clear hED3 HE r1
            go_wp2_with fail
            refine HD.out.mono ?_
            rintro en w4 ⟨rfl, hED4⟩
            clear HD r2
            go_wp2
            go_meet
            exact ⟨x, hx, hED4⟩
        case rest =>
          clear hED HQ
          obtain ⟨x, hx, hED⟩ := hcut
          obtain ⟨_, _, r3⟩ := HDC.out wc hED.size.2
          have HLE := Lib.hid (lent_any wc A fs.length c fs (HFR.out.keep hED.size.2) HNIL.out (by omega))
          go_wp2_with fail
          refine HLE.out.mono ?_
          rintro en w3 ⟨g, cap3, rfl, hL3, hb3⟩
          clear HLE r3
          obtain ⟨ob3, hED3⟩ := hED.lent hL3 hb3
          clear hED hb3
          have hsx : Tk.sum (Tk.shr x l) ≤ x := Tk.shr_sum _ _
          have HW := Lib.hid (ed_write hED3 (some ⟨g, 0, none⟩) cap3 fs (own_zero hL3.own) (fun k hk => ⟨ob3, by have : g = k := (by simpa [Value.ownBlock] using hk); subst this; exact List.mem_cons_self ..⟩) hsx (by omega) (by omega) (by omega) HSH.out (by omega) (by omega))
          clear hED3 hL3
          have hWL : (Hk.write x m (min m x) fs (Tk.shr x l)).1.length ≤ 16777216 + 12 := by
            have h1 := Hk.ones_len x fs (Tk.shr x l) hsx (by omega) HSH.out
            have h2 := Hk.head_len x m (min m x) (by omega) (by omega)
            unfold Hk.write
            rw [List.length_append]
            omega
          have hWB : Hf.Byte (Hk.write x m (min m x) fs (Tk.shr x l)).1 := Hk.byte_append (Hk.head_byte x m (min m x)) (Hk.ones_byte x fs (Tk.shr x l))
          have hWS : Tk.sum (Hk.write x m (min m x) fs (Tk.shr x l)).2 ≤ x := Hk.ones_sum fs hsx
          have hDB := Hk.dec_block lst x m l fs HS.out (by omega) (by omega) HSH.out
          generalize Hk.write x m (min m x) fs (Tk.shr x l) = R at *
          obtain ⟨out, l'⟩ := R
          simp only at hWL hWB hWS hDB HW
          have hnt : nats (strN out) = out := nats_strN _ hWB
          have hsz : (strN out).size ≤ 268435456 := by rw [strN_size]; omega
          rw [← hnt] at hDB
          have HDB := Lib.hid hDB
          have HSZ := Lib.hid hsz
          have HSX := Lib.hid hsx
          clear hDB hsz hnt hWL hWB hsx
          generalize strN out = txt at *
          go_wp2_with fail
          refine HW.out.mono ?_
          rintro en w4 ⟨rfl, hED4⟩
          clear HW
          have hED4 := hED4.drop
          by_cases hle : Tk.sum fs ≤ lst
          · have hDB := HDB.out
            rw [if_pos hle, if_pos hle] at hDB
            have HRD := Lib.hid (ed_read hED4 txt HS.out (by omega) (by omega) HSZ.out fs 0 0 l' x hDB)
            clear hED4 hDB HDB
            go_wp2_with fail
            refine HRD.out.mono ?_
            rintro en w5 ⟨A5, c5, rfl, hr5, hED5, _⟩
            clear HRD
            have HES := Lib.hid (ed_esize hED5)
            have HDS := Lib.hid (ed_dsize hED5)
            have hI1 : ¬ (4096 : Int) < (Tk.sum l' : Int) := by omega
            go_wp2_with fail
            refine HES.out.mono ?_
            rintro en wq ⟨rfl, rfl⟩
            go_wp2_with fail
            refine HDS.out.mono ?_
            rintro en wq ⟨rfl, rfl⟩
            clear HDS
            go_wp2_with fail
            refine HES.out.mono ?_
            rintro en wq ⟨rfl, rfl⟩
            clear HES
            obtain ⟨_, _, r3⟩ := HDC.out w5 hED5.size.2
            have HWT := Lib.hid (lweight_any w5 A fs.length c fs (HFR.out.keep hED5.size.2) (by omega))
            go_wp2_with fail
            refine HWT.out.mono ?_
            rintro en w6 ⟨rfl, hb6⟩
            clear HWT r3 hI1
            have hED6 := hED5.below hb6
            have hr6 := (FRow.own hr5).keep hb6
            clear hED5 hb6 hr5
            obtain ⟨_, _, r3⟩ := HDC.out w6 hED6.size.2
            have HSM := Lib.hid (same_true w6 A5 A fs.length c5 c fs hr6 (HFR.out.keep hED6.size.2) (by omega))
            have hI2 : ¬ (lst : Int) < (Tk.sum fs : Int) := by omega
            clear hr6
            go_wp2_with fail
            refine HSM.out.mono ?_
            rintro en w7 ⟨rfl, hb7⟩
            clear HSM r3
            have hED7 := hED6.below hb7
            clear hED6 hb7
            have hsucc := HSUCC.out
            go_wp2
            go_roundw
            case rel => exact ⟨k + 1, x, l', by omega, by go_num, hx, hWS, hED7⟩
            case measure => simp [intOf] <;> omega
          · have hDB := HDB.out
            rw [if_neg hle, if_neg hle] at hDB
            have HRD := Lib.hid (ed_read hED4 txt HS.out (by omega) (by omega) HSZ.out [] 61 0 l' x hDB)
            clear hED4 hDB HDB
            go_wp2_with fail
            refine HRD.out.mono ?_
            rintro en w5 ⟨A5, c5, rfl, hr5, hED5, _⟩
            clear HRD hr5
            have HES := Lib.hid (ed_esize hED5)
            have HDS := Lib.hid (ed_dsize hED5)
            have hI1 : ¬ (4096 : Int) < (Tk.sum l' : Int) := by omega
            go_wp2_with fail
            refine HES.out.mono ?_
            rintro en wq ⟨rfl, rfl⟩
            go_wp2_with fail
            refine HDS.out.mono ?_
            rintro en wq ⟨rfl, rfl⟩
            clear HDS
            go_wp2_with fail
            refine HES.out.mono ?_
            rintro en wq ⟨rfl, rfl⟩
            clear HES
            obtain ⟨_, _, r3⟩ := HDC.out w5 hED5.size.2
            have HWT := Lib.hid (lweight_any w5 A fs.length c fs (HFR.out.keep hED5.size.2) (by omega))
            go_wp2_with fail
            refine HWT.out.mono ?_
            rintro en w6 ⟨rfl, hb6⟩
            clear HWT r3 hI1
            have hED6 := hED5.below hb6
            clear hED5 hb6
            have hI2 : (lst : Int) < (Tk.sum fs : Int) := by omega
            have hsucc := HSUCC.out
            go_wp2
            go_roundw
            case rel => exact ⟨k + 1, x, l', by omega, by go_num, hx, hWS, hED6⟩
            case measure => simp [intOf] <;> omega
    · obtain rfl : k = len := by omega
      go_wp2_with fail
      refine (awake_true wr).mono ?_
      rintro en w3 ⟨rfl, hb3⟩
      go_wp2
      go_ret
      exact ⟨rfl, (hED.below hb3).size.2⟩
theorem back_true (w : World) (n : Int) (_wf : (Lit.int .i64 n).wf = true) (a : Option Addr) (len cap : Nat) (hlen : len ≤ 1048576) (hc : ∀ i, i < len → DeedOn w a i) :
    Calls Try.prog 6 #[.int .i64 n, .slice a len cap] w fun e w' => e = .returned (.bool true) ∧ Below w.heap.size w w' := by
  by_cases hn : n < 1
  · exact back_bad w n a len cap hn
  · obtain ⟨lst, rfl⟩ := Int.eq_ofNat_of_zero_le (show 0 ≤ n by omega)
    exact back_good w lst (by omega) a len cap hlen hc
end Go.Proofs.Ytmjibpjnhehnnaa
