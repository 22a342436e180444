/- hpack's Encoder.Write, walked whole. -/
import Derived.Test.YtmjibpjnhehnnaaKn
import Derived.Test.YtmjibpjnhehnnaaKo
namespace Go.Proofs.Ytmjibpjnhehnnaa
open Go.RowKit
attribute [local go_sem ↓] Go.wp_at_zero Go.wp_at_succ

theorem eb0 (b was least : Nat) : (EB b was least)[0]? = some (.pointer (some ⟨b, 0, none⟩)) := rfl
set_option maxRecDepth 100000 in
set_option maxHeartbeats 8000000 in
theorem write_any (w : World) (b e : Nat) (g : Option Nat) (was least m : Nat) (l : List Tk.Fd) (A : Option Addr) (c : Nat) (fs : List Tk.Fd) (hT : Tab w b g l (Tk.sum l) m) (he : w.heap[e]? = some (.cells (EB b was least) 65 (0, 0)))
    (hr : w.ownsRow 0 57 2 (.slice A fs.length c) fs.length (fcells fs)) (hv : ∀ k, (Value.slice A fs.length c).ownBlock = some k → g ≠ some k) (hs : Tk.sum l ≤ m) (hm : m ≤ 65536) (_hwas : was ≤ 65536) (hle : least ≤ 65536)
    (hsh : ∀ f ∈ fs, Hk.Short f) (hn : fs.length ≤ 1099511627776) (hlen : Hk.size fs + 12 ≤ 140737488355328) :
    Calls Try.prog 14 #[.pointer (some ⟨e, 0, none⟩), .slice A fs.length c] w fun en w' => en = .returned (.string (strN (Hk.write m was least fs l).1)) ∧ EOut w b e g m m m (Hk.write m was least fs l).2 w' := by
  have hol := Hk.ones_len m fs l hs hm hsh
  have hhl := Hk.head_len m was least hm hle
  have hhb := Hk.head_byte m was least
  have hwr : Hk.write m was least fs l = (Hk.head m was least ++ (Hk.ones m fs l).1, (Hk.ones m fs l).2) := rfl
  rw [hwr]
  clear hwr
  have hW1 : WRel w b e g was least m w.heap.size A c fs.length fs l [] (w.alloc (.cells #[.pointer none, .slice none 0 0] 69)) := by
    have hb : Below w.heap.size w (w.alloc (.cells #[.pointer none, .slice none 0 0] 69)) := (Below.refl _ _).alloc (Nat.le_refl _) _
    have hk : Only (fun _ => False) w (w.alloc (.cells #[.pointer none, .slice none 0 0] 69)) := Only.of_below _ hb
    exact ⟨g, .slice none 0 0, hT.below hb, hk.block' he id, ⟨Nat.le_refl _, ⟨_, .inl rfl, heap_alloc_new w _⟩, World.ownsRow_nil _ _ _ _⟩, own_only hr hk (fun _ _ h => h), hv, hk.mono (fun _ _ h => h.elim), .inl rfl⟩
  clear hT he hr hv
  go_enter Try.func14, Try.ntmps14
  go_upto_region 4 with fail
  generalize w.alloc (.cells #[.pointer none, .slice none 0 0] 69) = w1 at *
  obtain ⟨bb, hbb⟩ : ∃ bb, w.heap.size = bb := ⟨_, rfl⟩
  rw [hbb] at hW1 ⊢
  have HBB := Lib.hid hbb
  clear hbb
  go_wp2_with fail
  refine hW1.room.mono ?_
  rintro en w2 ⟨rfl, rfl⟩
  go_upto_region 5 with fail
  have hc2 : w1.cell? ⟨e, 2, none⟩ = some (.int .i64 (least : Int)) := bcell_of hW1.cells 2 _ rfl
  obtain ⟨H1, hH1⟩ : ∃ H1, H1 = if least < m then Pr.int 32 32 least else [] := ⟨_, rfl⟩
  have HH1 := Lib.hid hH1
  clear hH1
  go_upto_if 20 with fail
  go_cut [] (fun wx => WRel w b e g was least m bb A c fs.length fs l H1 wx)
  case first =>
    by_cases hlm : least < m
    · have hI : (least : Int) < (m : Int) := by omega
      have hh : H1 = Pr.int 32 32 least := by rw [HH1.out, if_pos hlm]
      have HH := Lib.hid hh
      have hil := Pr.int_len 32 32 least (by omega)
      clear hlm hh
      go_wp2_with fail
      refine (numw_any 32 5 32 least (by omega) (by omega) (by omega) (by omega) rfl rfl w1).mono ?_
      rintro en w3 ⟨rfl, hb3⟩
      have hW3 := hW1.below hb3
      clear hW1 hb3 hc2
      go_wp2_with fail
      refine (hW3.wstr (Pr.int 32 32 least) (Hk.head1_byte least) (by simp only [List.length_nil]; omega)).mono ?_
      rintro en w4 ⟨rfl, hW4⟩
      go_wp2
      go_meet
      rw [HH.out]
      exact hW4
    · have hI : ¬ (least : Int) < (m : Int) := by omega
      have hh : H1 = [] := by rw [HH1.out, if_neg hlm]
      have HH := Lib.hid hh
      clear hlm hh
      go_wp2
      go_meet
      rw [HH.out]
      exact hW1
  case rest =>
    have hW2 := hcut
    clear hW1 hc2 hcut
    obtain ⟨q, hq⟩ : ∃ q : Bool, q = decide (least < m ∨ m ≠ was) := ⟨_, rfl⟩
    have hc2 : wc.cell? ⟨e, 2, none⟩ = some (.int .i64 (least : Int)) := bcell_of hW2.cells 2 _ rfl
    have hc1 : wc.cell? ⟨e, 1, none⟩ = some (.int .i64 (was : Int)) := bcell_of hW2.cells 1 _ rfl
    have HQ := Lib.hid hq
    clear hq
    go_upto_region 7 with fail
    go_cut [40] (fun s40 wx => s40 = .bool q ∧ wc = wx)
    case first =>
      by_cases hlm : least < m
      · have hI : (least : Int) < (m : Int) := by omega
        have hq : q = true := by rw [HQ.out]; exact decide_eq_true (.inl hlm)
        subst hq
        clear hlm
        go_wp2
        go_meet
        exact ⟨rfl, rfl⟩
      · have hI : ¬ (least : Int) < (m : Int) := by omega
        by_cases hmw : m = was
        · have hq : q = false := by rw [HQ.out]; exact decide_eq_false (fun h => h.elim hlm (fun h => h hmw))
          have hI2 : ((m : Int) != (was : Int)) = false := by rw [bne_eq_false_iff_eq]; omega
          have hI3 : ((m : Int) == (was : Int)) = true := by rw [beq_iff_eq]; omega
          subst hq
          clear hlm hmw
          go_wp2
          go_meet
          exact ⟨rfl, rfl⟩
        · have hq : q = true := by rw [HQ.out]; exact decide_eq_true (.inr hmw)
          have hI2 : ((m : Int) != (was : Int)) = true := by rw [bne_iff_ne]; omega
          have hI3 : ((m : Int) == (was : Int)) = false := by rw [beq_eq_false_iff_ne]; omega
          subst hq
          clear hlm hmw
          go_wp2
          go_meet
          exact ⟨rfl, rfl⟩
    case rest =>
      obtain ⟨rfl, rfl⟩ := hcut
      clear hc1 hc2
      go_upto_if 40 with fail
      go_cut [] (fun wx => WRel w b e g was least m bb A c fs.length fs l (Hk.head m was least) wx)
      case first =>
        cases q with
        | true =>
          have hil := Pr.int_len 32 32 m (by omega)
          have hil2 : H1.length ≤ 6 := by
            have := Pr.int_len 32 32 least (by omega)
            rw [HH1.out]
            split <;> (try simp only [List.length_nil]) <;> omega
          have hhd : Hk.head m was least = H1 ++ Pr.int 32 32 m := by
            unfold Hk.head
            rw [HH1.out, if_pos (c := least < m ∨ m ≠ was) (of_decide_eq_true HQ.out.symm)]
          have HHD := Lib.hid hhd
          clear hhd
          go_wp2_with fail
          refine (numw_any 32 5 32 m (by omega) (by omega) (by omega) (by omega) rfl rfl wc).mono ?_
          rintro en w3 ⟨rfl, hb3⟩
          have hW3 := hW2.below hb3
          clear hW2 hb3
          go_wp2_with fail
          refine (hW3.wstr (Pr.int 32 32 m) (Hk.head1_byte m) (by omega)).mono ?_
          rintro en w4 ⟨rfl, hW4⟩
          go_wp2
          go_meet
          rw [HHD.out]
          exact hW4
        | false =>
          have hhd : Hk.head m was least = H1 := by
            unfold Hk.head
            rw [HH1.out, if_neg (c := least < m ∨ m ≠ was) (of_decide_eq_false HQ.out.symm), List.append_nil]
          have HHD := Lib.hid hhd
          clear hhd
          go_wp2
          go_meet
          rw [HHD.out]
          exact hW2
      case rest =>
        have hW3 := hcut
        clear hW2 hcut HQ
        clear HH1
        generalize hHH : Hk.head m was least = H at *
        have HHH := Lib.hid hHH
        clear hHH
        have hc1 : wc.cell? ⟨e, 1, none⟩ = some (.int .i64 (was : Int)) := bcell_of hW3.cells 1 _ rfl
        have hc2 : wc.cell? ⟨e, 2, none⟩ = some (.int .i64 (least : Int)) := bcell_of hW3.cells 2 _ rfl
        have hf1 : wc.frozen? ⟨e, 1, none⟩ = false := frozen_of_row wc e 1 _ _ hW3.cells
        have hf2 : wc.frozen? ⟨e, 2, none⟩ = false := frozen_of_row wc e 2 _ _ hW3.cells
        have hW4 : WRel w b e g m least m bb A c fs.length fs l H (wc.setCell ⟨e, 1, none⟩ (.int .i64 (m : Int))) := hW3.set (i := 1) rfl
        have hW5 : WRel w b e g m m m bb A c fs.length fs l H ((wc.setCell ⟨e, 1, none⟩ (.int .i64 (m : Int))).setCell ⟨e, 2, none⟩ (.int .i64 (m : Int))) := hW4.set (i := 2) rfl
        clear hW3 hW4
        go_upto_region 10 with fail
        clear hc1 hc2 hf1 hf2
        generalize (wc.setCell ⟨e, 1, none⟩ (.int .i64 (m : Int))).setCell ⟨e, 2, none⟩ (.int .i64 (m : Int)) = w5 at *
        have hnI : (fs.length : Int) ≤ 1099511627776 := by omega
        go_wp2
        go_loopw [54] (fun i54 wr => ∃ k : Nat, k ≤ fs.length ∧ i54 = .int .i64 (k : Int) ∧ WRel w b e g m m m bb A c fs.length fs (Hk.ones m (fs.take k) l).2 (H ++ (Hk.ones m (fs.take k) l).1) wr) (fun i54 _ => fs.length - (intOf i54).toNat)
        case atStart => exact ⟨0, Nat.zero_le _, rfl, by rw [List.take_zero]; simpa [Hk.ones] using hW5⟩
        case round =>
          clear hW5
          obtain ⟨k, hk, rfl, hW⟩ := hrel
          by_cases hlt : k < fs.length
          · have hstep := Hk.ones_take_succ m k fs l hlt
            have hstl := Hk.ones_take_len m (k + 1) fs l
            have hsum := Hk.ones_sum (fs.take k) hs
            have hby := Hk.one_byte m (Hk.ones m (fs.take k) l).2 (fs.getD k Tk.nil)
            have hshk : Hk.Short (fs.getD k Tk.nil) := by
              refine hsh _ ?_
              rw [List.getD_eq_getElem?_getD, List.getElem?_eq_getElem hlt]
              exact List.getElem_mem hlt
            rw [hstep, List.length_append] at hstl
            have HST := Lib.hid hstep
            obtain ⟨g1, hA, _, _, hcs⟩ : ∃ g1, A = some ⟨g1, 0, none⟩ ∧ 0 ≤ g1 ∧ g1 < wr.heap.size ∧ ∀ k, k < fs.length → wr.cell? ⟨g1, k * 2, none⟩ = some (.string (fs.getD k Tk.nil).1) ∧ wr.cell? ⟨g1, k * 2 + 1, none⟩ = some (.string (fs.getD k Tk.nil).2) := by
              obtain ⟨_, _, _, _, _, hr, _⟩ := hW
              exact own_fields hr (by omega)
            subst hA
            obtain ⟨hx0, hx1⟩ := hcs k hlt
            clear hcs hstep
            generalize (Hk.ones m (fs.take k) l).2 = l1 at *
            generalize (Hk.ones m (fs.take k) l).1 = o1 at *
            generalize fs.getD k Tk.nil = f at *
            obtain ⟨x, y⟩ := f
            simp only at hx0 hx1
            have hkI : (k : Int) < (fs.length : Int) := by omega
            have hk0 : (0 : Int) ≤ (k : Int) := by omega
            go_upto_region 13 with fail
            have hW2 := hW.below (w' := wr.alloc (.cells #[.string x, .string y] 57)) ((Below.refl _ _).alloc (Nat.le_refl _) _)
            have hbox := heap_alloc_new wr (.cells #[.string x, .string y] 57)
            generalize wr.alloc (.cells #[.string x, .string y] 57) = w2 at *
            generalize wr.heap.size = B2 at *
            have hb0 : w2.cell? ⟨B2, 0, none⟩ = some (.string x) := bcell_of hbox 0 _ rfl
            have hb1 : w2.cell? ⟨B2, 1, none⟩ = some (.string y) := bcell_of hbox 1 _ rfl
            clear hW hbox hx0 hx1
            go_wp2_with fail
            refine (hW2.enf x y hsum hm hshk).mono ?_
            rintro en w3 ⟨rfl, hW3⟩
            clear hW2 hb0 hb1
            go_wp2_with fail
            refine (hW3.wstr (Hk.one m l1 (x, y)).1 hby (by rw [List.length_append]; omega)).mono ?_
            rintro en w4 ⟨rfl, hW4⟩
            clear hW3
            have hsucc : IntKind.i64.wrap ((k : Int) + 1) = ((k + 1 : Nat) : Int) := by rw [IntWalk.i64_in _ (by omega)]; omega
            go_wp2
            go_roundw
            case rel => exact ⟨k + 1, by omega, by go_num, by rw [HST.out, ← List.append_assoc]; exact hW4⟩
            case measure => simp [intOf] <;> omega
          · obtain rfl : k = fs.length := by omega
            rw [List.take_length] at hW
            obtain ⟨g1, v, hT, he, hB, hr, hv, hO, hg⟩ := hW
            have HB := Lib.hid (bstr_any wr _ bb v _ hB (Hk.byte_append hhb (Hk.ones_byte m fs l)))
            have hsz := hO.size
            obtain ⟨_, ⟨p, _, hbb⟩, _⟩ := hB
            obtain ⟨csb, hb⟩ := hT.blkT
            have hse : ∀ {k cs T}, wr.heap[k]? = some (.cells cs T (0, 0)) → T ≠ 69 → T ≠ 5 → ¬ SS wr w.heap.size bb k := by
              rintro k cs T hk h1 h2 (h | ⟨_, c', fz, h⟩)
              · exact blk_type_ne hk hbb h1 h
              · exact blk_type_ne hk h h2 rfl
            have hgT : ∀ k, g1 = some k → ¬ SS wr w.heap.size bb k := fun k hk => by obtain ⟨cs, hc⟩ := hT.rowT k hk; exact hse hc (by decide) (by decide)
            have HE := Lib.hid he
            have hbT : ¬ SS wr w.heap.size bb b := hse hb (by decide) (by decide)
            have heT : ¬ SS wr w.heap.size bb e := hse he (by decide) (by decide)
            clear hbb hb hr hv he hse
            go_wp2_with fail
            refine HB.out.mono ?_
            rintro en w6 ⟨rfl, hO6⟩
            go_wp2
            go_ret
            rw [HHH.out]
            refine ⟨rfl, g1, hT.only hO6 hbT hgT, hO6.block' HE.out heT, hO.then hO6 (fun _ _ h => h) ?_, hg⟩
            rintro i hi (h | ⟨h, _⟩)
            · have := HBB.out; omega
            · omega
end Go.Proofs.Ytmjibpjnhehnnaa
