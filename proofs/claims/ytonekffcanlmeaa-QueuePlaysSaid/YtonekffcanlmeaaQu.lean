/- Whatever is put, taken and drained, a queue is as the document says: the walk of QueuePlays. -/
import Derived.Test.YtonekffcanlmeaaQr
import Derived.Deep.Slices
namespace Go.Proofs.Ytonekffcanlmeaa
open Go.Conc Go.RowKit
attribute [local go_sem ↓] Go.wp_at_zero Go.wp_at_succ

/-- What holds at each round: both queues hold one list. -/
structure Plays (w0 : World) (size : Nat) (l : List Int) (wr : World) : Prop where
  qa : QAt wr 60 (w0.heap.size + 1) w0.heap.size size (l.map (Value.int .i64))
  rq : RQ wr (w0.heap.size + 3) (w0.heap.size + 2) size l
  fits : l.length ≤ size
  below : Below w0.heap.size w0 wr
theorem Plays.waits {w0 wr : World} {size : Nat} {l : List Int} (h : Plays w0 size l wr) : ∃ A c, wr.cell? ⟨w0.heap.size + 2, 1, none⟩ = some (.slice A l.length c) := by
  obtain ⟨_, _, v, hv, hr⟩ := h.rq
  obtain ⟨A, c, rfl⟩ := hr.slice_
  rw [List.length_map] at hv
  exact ⟨A, c, (cell_of_row wr _ 1 _ _ _ hv).trans rfl⟩

theorem Plays.box {w0 wr : World} {size : Nat} {l : List Int} (h : Plays w0 size l wr) (ob : Obj) : Plays w0 size l (wr.alloc ob) := by
  have ho : Only (fun _ => False) wr (wr.alloc ob) := (Only.refl _ _).alloc ob
  exact ⟨h.qa.only ho id id, h.rq.only ho (fun _ hk => hk.elim), h.fits, h.below.alloc h.below.size ob⟩
theorem Plays.step {w0 w1 w2 w3 : World} {size : Nat} {l l' : List Int} (h : Plays w0 size l w1) (ho : Only (· = w0.heap.size) w1 w2) (hq : QAt w2 60 (w0.heap.size + 1) w0.heap.size size (l'.map (Value.int .i64)))
    (ho3 : Only (fun k => w0.heap.size + 2 ≤ k) w2 w3) (hr : RQ w3 (w0.heap.size + 3) (w0.heap.size + 2) size l') (hf : l'.length ≤ size) : Plays w0 size l' w3 := by
  have hB2 : Below w0.heap.size w0 w2 := h.below.trans (ho.below (fun k hk => by omega) h.below.size)
  exact ⟨hq.only ho3 (by omega) (by omega), hr, hf, hB2.trans (ho3.below (fun k hk => by omega) hB2.size)⟩
theorem Only.undrew {S : Nat → Prop} {w w' : World} {n : Nat} (h : Only S (w.drewN n) w') : Only S w w' := ⟨h.os, h.tape, h.output, h.size, h.block⟩
theorem Only.undrew1 {S : Nat → Prop} {w w' : World} (h : Only S w.drew w') : Only S w w' := ⟨h.os, h.tape, h.output, h.size, h.block⟩
theorem rq_drewN {w : World} {base bx size : Nat} {l : List Int} (h : RQ w base bx size l) (n : Nat) : RQ (w.drewN n) base bx size l := h
theorem roomi_as (T b c cap : Nat) (l : List Value) (n : Int) (hn : (l.length : Int) = n) (hl : l.length ≤ cap) (hcap : cap ≤ 65536) (w : World) (hq : QAt w T b c cap l) :
    Calls Try.prog 18 #[.pointer (some ⟨b, 0, none⟩)] w fun e w' => e = .returned (.int .i64 ((cap : Int) - n)) ∧ ∃ k, w' = w.drewN k := by subst hn; exact roomi T b c cap l w hq hl hcap
theorem Only.block' {S : Nat → Prop} {w w' : World} (h : Only S w w') {p : Nat} {ob : Obj} (hc : w.heap[p]? = some ob) (hp : ¬ S p) : w'.heap[p]? = some ob := (h.block _ (heap_lt hc) hp).trans hc
theorem not_int {w : World} {p : Nat} {cs : Array Value} {t e : Nat} (h : w.heap[p]? = some (.cells cs t (0, 0))) (hne : t ≠ e) : ∀ cur, w.heap[p]? ≠ some (.cells cur e (0, 0)) := by
  intro cur he
  rw [h] at he
  injection he with he
  injection he with _ ht
  exact hne ht
theorem Addr.add_lit' (y : Addr) : y.add 1 = ⟨y.block, y.off + 1, none⟩ := by simp [Addr.add]

/-- One element of the script. -/
def CallAt (w : World) (a : Option Addr) (i : Nat) : Prop :=
  ∃ x : Addr, a = some x ∧ x.block < w.heap.size ∧ ∃ wh xx : Int, 0 ≤ wh ∧ wh ≤ 255 ∧ w.cell? (x.add (i * 2)) = some (.int .u8 wh) ∧ w.cell? (x.add (i * 2 + 1)) = some (.int .i64 xx)

set_option maxRecDepth 100000 in
theorem queuePlays_bad (size : Int) (hs : size < 1 ∨ 65536 < size) (a : Option Addr) (len cap : Nat) (w : World) :
    Calls Try.prog 3 #[.int .i64 size, .slice a len cap] w fun e w' => e = .returned (.bool true) ∧ Below w.heap.size w w' := by
  go_enter Try.func3, Try.ntmps3
  go_wp2_with fail
  refine (newi_bad _ hs _).mono ?_
  rintro e w1 ⟨rfl, rfl⟩
  go_wp2_with fail
  refine (rnew_bad _ hs _).mono ?_
  rintro e w1 ⟨rfl, rfl⟩
  go_wp2_with fail
  refine (awake_true _).mono ?_
  rintro e w1 ⟨rfl, hb⟩
  go_wp2
  go_ret
  exact ⟨rfl, hb⟩

set_option maxRecDepth 100000 in
set_option maxHeartbeats 4000000 in
theorem queuePlays_good (size : Nat) (hs1 : 1 ≤ size) (hs2 : size ≤ 65536) (a : Option Addr) (len cap : Nat) (w : World) (hlen : len * 16 ≤ 140737488351232) (hc : ∀ i, i < len → CallAt w a i) :
    Calls Try.prog 3 #[.int .i64 (size : Int), .slice a len cap] w fun e w' => e = .returned (.bool true) ∧ Below w.heap.size w w' := by
  go_enter Try.func3, Try.ntmps3
  go_wp2_with fail
  refine (newi_good size hs1 hs2 _).mono ?_
  rintro e w1 ⟨rfl, hb1, hz1, hq1⟩
  go_wp2_with fail
  refine (rnew_good size hs1 hs2 _).mono ?_
  rintro e w2 ⟨rfl, hb2, hz2, hr2⟩
  simp only [hz1] at hz2 hr2 ⊢
  have hP : Plays w size [] w2 := ⟨hq1.only (Only.of_below (fun _ => False) hb2) id id, hr2, Nat.zero_le _, hb1.trans (hb2.mono (by omega))⟩
  clear hb1 hz1 hq1 hb2 hz2 hr2
  go_wp2
  go_loopw [9] (fun i wr => ∃ (k : Nat) (l : List Int), k ≤ len ∧ i = .int .i64 k ∧ Plays w size l wr) (fun i _ => len - (intOf i).toNat)
  case atStart => exact ⟨0, [], Nat.zero_le _, rfl, hP⟩
  case round =>
    clear hP
    obtain ⟨k, l, hk, rfl, hP⟩ := hrel
    by_cases hlt : k < len
    · obtain ⟨x, rfl, hxb, wh, xx, hw0, hw1, hcA, hcB⟩ := hc k hlt
      have hcA' := (hP.below.cell (p := x.add (k * 2)) (by rw [add_block]; exact hxb)).trans hcA
      have hcB' := (hP.below.cell (p := x.add (k * 2 + 1)) (by rw [add_block]; exact hxb)).trans hcB
      have hcB2 : wr.cell? ⟨(x.add (k * 2)).block, (x.add (k * 2)).off + 1, none⟩ = some (.int .i64 xx) := by
        rw [show (⟨(x.add (k * 2)).block, (x.add (k * 2)).off + 1, none⟩ : Addr) = x.add (k * 2 + 1) from (Addr.add_lit' (x.add (k * 2))).symm.trans (Go.Deep.add_add x (k * 2) 1)]
        exact hcB'
      have HC := Lib.hid hc
      clear hc hcA hcB hcB'
      have hkc : (0 : Int) ≤ (k : Int) := by omega
      have hP0 := hP.box (.cells #[.int .u8 wh, .int .i64 xx] 32)
      have hS0 : (wr.alloc (.cells #[.int .u8 wh, .int .i64 xx] 32)).cell? ⟨wr.heap.size, 1, none⟩ = some (.int .i64 xx) := (cell_of_row _ _ 1 _ _ _ (heap_alloc_new wr _)).trans rfl
      have hB0 := heap_alloc_new wr (.cells #[.int .u8 wh, .int .i64 xx] 32)
      have HB0 := Lib.hid hB0
      clear hB0
      have hNb : w.heap.size + 3 ≤ wr.heap.size := hP.rq.2.1
      have hm : wh % 4 = 0 ∨ wh % 4 = 1 ∨ wh % 4 = 2 ∨ wh % 4 = 3 := by omega
      rcases hm with hm | hm | hm | hm
      · have HW := Lib.hid hw0
        by_cases hroom : l.length < size
        · go_wp2_with fail
          go_region_held3 (fun w' => w'.cell? ⟨wr.heap.size, 1, none⟩ = some (.int .i64 xx)) (first | exact hS0 | exact hS3 | exact hS4) (first | (go_at_call 10; refine (puti_yes _ _ _ _ _ _ _ (by exact hP0.qa) (by rw [List.length_map]; exact hroom)).mono ?_; rintro e w3 ⟨rfl, hq3, ho3d⟩; have ho3 := ho3d.undrew1; have hS3 : w3.cell? ⟨wr.heap.size, 1, none⟩ = some (.int .i64 xx) := ho3.cell' hS0 (by show ¬ wr.heap.size = w.heap.size; omega); have hL3 : wr.heap.size < w3.heap.size := World.block_lt_of_cell? w3 _ hS3; have hT3 := not_int (e := 3) (ho3.block' HB0.out (by show ¬ wr.heap.size = w.heap.size; omega)) (by decide); have hr3 : RQ w3 (w.heap.size + 3) (w.heap.size + 2) size l := RQ.only hP0.rq ho3 (fun k hk => by omega)) | (go_at_call 11; refine (rput_yes _ _ _ _ _ _ (by exact hr3) hroom hs2 wr.heap.size (by omega) hT3 hL3).mono ?_; rintro e w4 ⟨rfl, hr4, ho4, hp4⟩; have hS4 : w4.cell? ⟨wr.heap.size, 1, none⟩ = some (.int .i64 xx) := (World.cell?_of_block (a := ⟨wr.heap.size, 1, none⟩) hp4).trans hS3; have hP9 := hP0.step ho3 (by rw [List.map_append]; exact hq3) ho4 hr4 (by simp; omega); clear hq3 ho3d ho3 hL3 hT3 hr3 hr4 ho4 hp4))
          clear hP0 hP hcA' hcB2
          go_wp2
          obtain ⟨A9, c9, hA9⟩ := hP9.waits
          have hf9 := hP9.fits
          have hwr : IntKind.i64.wrap ((size : Int) - ((l.length : Int) + 1)) = (size : Int) - ((l.length : Int) + 1) := IntWalk.i64_in _ (by first | omega | (simp at hf9; omega))
          go_region_held3 (fun w' => w'.cell? ⟨w.heap.size + 2, 1, none⟩ = some (.slice A9 (l ++ [xx]).length c9)) (first | exact hA9) (first | (go_at_call 17; go_must (refine (leni_as _ _ _ _ ((l ++ [xx]).map (Value.int .i64)) ((l ++ [xx]).length : Int) (by rw [List.length_map]) _ (by exact hP9.qa)).mono ?_; rintro e w' ⟨rfl, rfl⟩)) | (go_at_call 18; refine (roomi_as _ _ _ _ ((l ++ [xx]).map (Value.int .i64)) ((l ++ [xx]).length : Int) (by rw [List.length_map]) (by rw [List.length_map]; exact hf9) hs2 _ (by exact hP9.qa)).mono ?_; rintro e w' ⟨rfl, n9, rfl⟩))
          go_wp2
          refine ⟨⟨k + 1, l ++ [xx], by omega, by go_num, ⟨hP9.qa, hP9.rq, hP9.fits, ⟨hP9.below.os, hP9.below.tape, hP9.below.output, hP9.below.size, hP9.below.block⟩⟩⟩, ?_⟩
          simp [intOf]
          omega
        · go_wp2_with fail
          go_region_held3 (fun w' => w'.cell? ⟨wr.heap.size, 1, none⟩ = some (.int .i64 xx)) (first | exact hS0 | exact hS3 | exact hS4) (first | (go_at_call 10; refine (puti_no _ _ _ _ _ _ _ (by exact hP0.qa) (by rw [List.length_map]; omega)).mono ?_; rintro e w3 ⟨rfl, hq3, ho3d⟩; have ho3 := ho3d.undrew1; have hS3 : w3.cell? ⟨wr.heap.size, 1, none⟩ = some (.int .i64 xx) := ho3.cell' hS0 (by show ¬ wr.heap.size = w.heap.size; omega); have hr3 : RQ w3 (w.heap.size + 3) (w.heap.size + 2) size l := RQ.only hP0.rq ho3 (fun k hk => by omega)) | (go_at_call 11; refine (rput_no _ _ _ _ _ _ (by exact hr3) (by omega)).mono ?_; rintro e w4 ⟨rfl, n4, rfl⟩; have hS4 : (w3.drewN n4).cell? ⟨wr.heap.size, 1, none⟩ = some (.int .i64 xx) := hS3; have hP9 := hP0.step ho3 hq3 ((Only.refl _ _).drewN n4) (rq_drewN hr3 n4) hP0.fits; clear hq3 ho3d ho3 hr3))
          clear hP0 hP hcA' hcB2
          go_wp2
          obtain ⟨A9, c9, hA9⟩ := hP9.waits
          have hf9 := hP9.fits
          have hwr : IntKind.i64.wrap ((size : Int) - (l.length : Int)) = (size : Int) - (l.length : Int) := IntWalk.i64_in _ (by first | omega | (simp at hf9; omega))
          go_region_held3 (fun w' => w'.cell? ⟨w.heap.size + 2, 1, none⟩ = some (.slice A9 (l).length c9)) (first | exact hA9) (first | (go_at_call 17; go_must (refine (leni_as _ _ _ _ ((l).map (Value.int .i64)) ((l).length : Int) (by rw [List.length_map]) _ (by exact hP9.qa)).mono ?_; rintro e w' ⟨rfl, rfl⟩)) | (go_at_call 18; refine (roomi_as _ _ _ _ ((l).map (Value.int .i64)) ((l).length : Int) (by rw [List.length_map]) (by rw [List.length_map]; exact hf9) hs2 _ (by exact hP9.qa)).mono ?_; rintro e w' ⟨rfl, n9, rfl⟩))
          go_wp2
          refine ⟨⟨k + 1, l, by omega, by go_num, ⟨hP9.qa, hP9.rq, hP9.fits, ⟨hP9.below.os, hP9.below.tape, hP9.below.output, hP9.below.size, hP9.below.block⟩⟩⟩, ?_⟩
          simp [intOf]
          omega
      · have HW := Lib.hid hw0
        by_cases hroom : l.length < size
        · go_wp2_with fail
          go_region_held3 (fun w' => w'.cell? ⟨wr.heap.size, 1, none⟩ = some (.int .i64 xx)) (first | exact hS0 | exact hS3 | exact hS4) (first | (go_at_call 10; refine (puti_yes _ _ _ _ _ _ _ (by exact hP0.qa) (by rw [List.length_map]; exact hroom)).mono ?_; rintro e w3 ⟨rfl, hq3, ho3d⟩; have ho3 := ho3d.undrew1; have hS3 : w3.cell? ⟨wr.heap.size, 1, none⟩ = some (.int .i64 xx) := ho3.cell' hS0 (by show ¬ wr.heap.size = w.heap.size; omega); have hL3 : wr.heap.size < w3.heap.size := World.block_lt_of_cell? w3 _ hS3; have hT3 := not_int (e := 3) (ho3.block' HB0.out (by show ¬ wr.heap.size = w.heap.size; omega)) (by decide); have hr3 : RQ w3 (w.heap.size + 3) (w.heap.size + 2) size l := RQ.only hP0.rq ho3 (fun k hk => by omega)) | (go_at_call 11; refine (rput_yes _ _ _ _ _ _ (by exact hr3) hroom hs2 wr.heap.size (by omega) hT3 hL3).mono ?_; rintro e w4 ⟨rfl, hr4, ho4, hp4⟩; have hS4 : w4.cell? ⟨wr.heap.size, 1, none⟩ = some (.int .i64 xx) := (World.cell?_of_block (a := ⟨wr.heap.size, 1, none⟩) hp4).trans hS3; have hP9 := hP0.step ho3 (by rw [List.map_append]; exact hq3) ho4 hr4 (by simp; omega); clear hq3 ho3d ho3 hL3 hT3 hr3 hr4 ho4 hp4))
          clear hP0 hP hcA' hcB2
          go_wp2
          obtain ⟨A9, c9, hA9⟩ := hP9.waits
          have hf9 := hP9.fits
          have hwr : IntKind.i64.wrap ((size : Int) - ((l.length : Int) + 1)) = (size : Int) - ((l.length : Int) + 1) := IntWalk.i64_in _ (by first | omega | (simp at hf9; omega))
          go_region_held3 (fun w' => w'.cell? ⟨w.heap.size + 2, 1, none⟩ = some (.slice A9 (l ++ [xx]).length c9)) (first | exact hA9) (first | (go_at_call 17; go_must (refine (leni_as _ _ _ _ ((l ++ [xx]).map (Value.int .i64)) ((l ++ [xx]).length : Int) (by rw [List.length_map]) _ (by exact hP9.qa)).mono ?_; rintro e w' ⟨rfl, rfl⟩)) | (go_at_call 18; refine (roomi_as _ _ _ _ ((l ++ [xx]).map (Value.int .i64)) ((l ++ [xx]).length : Int) (by rw [List.length_map]) (by rw [List.length_map]; exact hf9) hs2 _ (by exact hP9.qa)).mono ?_; rintro e w' ⟨rfl, n9, rfl⟩))
          go_wp2
          refine ⟨⟨k + 1, l ++ [xx], by omega, by go_num, ⟨hP9.qa, hP9.rq, hP9.fits, ⟨hP9.below.os, hP9.below.tape, hP9.below.output, hP9.below.size, hP9.below.block⟩⟩⟩, ?_⟩
          simp [intOf]
          omega
        · go_wp2_with fail
          go_region_held3 (fun w' => w'.cell? ⟨wr.heap.size, 1, none⟩ = some (.int .i64 xx)) (first | exact hS0 | exact hS3 | exact hS4) (first | (go_at_call 10; refine (puti_no _ _ _ _ _ _ _ (by exact hP0.qa) (by rw [List.length_map]; omega)).mono ?_; rintro e w3 ⟨rfl, hq3, ho3d⟩; have ho3 := ho3d.undrew1; have hS3 : w3.cell? ⟨wr.heap.size, 1, none⟩ = some (.int .i64 xx) := ho3.cell' hS0 (by show ¬ wr.heap.size = w.heap.size; omega); have hr3 : RQ w3 (w.heap.size + 3) (w.heap.size + 2) size l := RQ.only hP0.rq ho3 (fun k hk => by omega)) | (go_at_call 11; refine (rput_no _ _ _ _ _ _ (by exact hr3) (by omega)).mono ?_; rintro e w4 ⟨rfl, n4, rfl⟩; have hS4 : (w3.drewN n4).cell? ⟨wr.heap.size, 1, none⟩ = some (.int .i64 xx) := hS3; have hP9 := hP0.step ho3 hq3 ((Only.refl _ _).drewN n4) (rq_drewN hr3 n4) hP0.fits; clear hq3 ho3d ho3 hr3))
          clear hP0 hP hcA' hcB2
          go_wp2
          obtain ⟨A9, c9, hA9⟩ := hP9.waits
          have hf9 := hP9.fits
          have hwr : IntKind.i64.wrap ((size : Int) - (l.length : Int)) = (size : Int) - (l.length : Int) := IntWalk.i64_in _ (by first | omega | (simp at hf9; omega))
          go_region_held3 (fun w' => w'.cell? ⟨w.heap.size + 2, 1, none⟩ = some (.slice A9 (l).length c9)) (first | exact hA9) (first | (go_at_call 17; go_must (refine (leni_as _ _ _ _ ((l).map (Value.int .i64)) ((l).length : Int) (by rw [List.length_map]) _ (by exact hP9.qa)).mono ?_; rintro e w' ⟨rfl, rfl⟩)) | (go_at_call 18; refine (roomi_as _ _ _ _ ((l).map (Value.int .i64)) ((l).length : Int) (by rw [List.length_map]) (by rw [List.length_map]; exact hf9) hs2 _ (by exact hP9.qa)).mono ?_; rintro e w' ⟨rfl, n9, rfl⟩))
          go_wp2
          refine ⟨⟨k + 1, l, by omega, by go_num, ⟨hP9.qa, hP9.rq, hP9.fits, ⟨hP9.below.os, hP9.below.tape, hP9.below.output, hP9.below.size, hP9.below.block⟩⟩⟩, ?_⟩
          simp [intOf]
          omega
      · have HW := Lib.hid hw0
        rcases l with _ | ⟨y, l⟩
        · go_wp2_with fail
          refine (takei _ _ _ _ _ _ (by exact hP0.qa)).mono ?_
          rintro e w3 ⟨rfl, hq3, ho3⟩
          simp only [List.map_nil, List.headD_nil, List.isEmpty_nil, Bool.not_true, List.tail_nil] at hq3 ⊢
          have hr3 : RQ w3 (w.heap.size + 3) (w.heap.size + 2) size [] := RQ.only hP0.rq ho3 (fun k hk => by omega)
          have hP9 := hP0.step ho3 (l' := []) hq3 (Only.refl _ _) hr3 (Nat.zero_le _)
          clear hP0 hP hcA' hcB2 hq3 ho3
          go_wp2_with fail
          refine (rtake_none _ _ _ _ hr3).mono ?_
          rintro e w' ⟨rfl, rfl⟩
          clear hr3
          go_wp2
          obtain ⟨A9, c9, hA9⟩ := hP9.waits
          have hf9 := hP9.fits
          have hwr : IntKind.i64.wrap ((size : Int)) = (size : Int) := IntWalk.i64_in _ (by first | omega | (simp at hf9; omega))
          go_region_held3 (fun w' => w'.cell? ⟨w.heap.size + 2, 1, none⟩ = some (.slice A9 (([] : List Int)).length c9)) (first | exact hA9) (first | (go_at_call 17; go_must (refine (leni_as _ _ _ _ ((([] : List Int)).map (Value.int .i64)) ((([] : List Int)).length : Int) (by rw [List.length_map]) _ (by exact hP9.qa)).mono ?_; rintro e w' ⟨rfl, rfl⟩)) | (go_at_call 18; refine (roomi_as _ _ _ _ ((([] : List Int)).map (Value.int .i64)) ((([] : List Int)).length : Int) (by rw [List.length_map]) (by rw [List.length_map]; exact hf9) hs2 _ (by exact hP9.qa)).mono ?_; rintro e w' ⟨rfl, n9, rfl⟩))
          go_wp2
          refine ⟨⟨k + 1, ([] : List Int), by omega, by go_num, ⟨hP9.qa, hP9.rq, hP9.fits, ⟨hP9.below.os, hP9.below.tape, hP9.below.output, hP9.below.size, hP9.below.block⟩⟩⟩, ?_⟩
          simp [intOf]
          omega
        · go_wp2_with fail
          refine (takei _ _ _ _ _ _ (by exact hP0.qa)).mono ?_
          rintro e w3 ⟨rfl, hq3, ho3⟩
          simp only [List.map_cons, List.headD_cons, List.isEmpty_cons, Bool.not_false, List.tail_cons] at hq3 ⊢
          have hr3 : RQ w3 (w.heap.size + 3) (w.heap.size + 2) size (y :: l) := RQ.only hP0.rq ho3 (fun k hk => by omega)
          go_wp2_with fail
          refine (rtake_some _ _ _ _ _ _ hr3).mono ?_
          rintro e w4 ⟨rfl, hr4, ho4⟩
          have hP9 := hP0.step ho3 (l' := l) hq3 ho4 hr4 (by have := hP0.fits; simp at this; omega)
          clear hP0 hP hcA' hcB2 hq3 ho3 hr3 hr4 ho4
          go_wp2
          obtain ⟨A9, c9, hA9⟩ := hP9.waits
          have hf9 := hP9.fits
          have hwr : IntKind.i64.wrap ((size : Int) - (l.length : Int)) = (size : Int) - (l.length : Int) := IntWalk.i64_in _ (by first | omega | (simp at hf9; omega))
          go_region_held3 (fun w' => w'.cell? ⟨w.heap.size + 2, 1, none⟩ = some (.slice A9 (l).length c9)) (first | exact hA9) (first | (go_at_call 17; go_must (refine (leni_as _ _ _ _ ((l).map (Value.int .i64)) ((l).length : Int) (by rw [List.length_map]) _ (by exact hP9.qa)).mono ?_; rintro e w' ⟨rfl, rfl⟩)) | (go_at_call 18; refine (roomi_as _ _ _ _ ((l).map (Value.int .i64)) ((l).length : Int) (by rw [List.length_map]) (by rw [List.length_map]; exact hf9) hs2 _ (by exact hP9.qa)).mono ?_; rintro e w' ⟨rfl, n9, rfl⟩))
          go_wp2
          refine ⟨⟨k + 1, l, by omega, by go_num, ⟨hP9.qa, hP9.rq, hP9.fits, ⟨hP9.below.os, hP9.below.tape, hP9.below.output, hP9.below.size, hP9.below.block⟩⟩⟩, ?_⟩
          simp [intOf]
          omega
      · have hll : l.length ≤ 65536 := by have := hP.fits; omega
        go_wp2_with fail
        refine (draini 60 _ _ _ _ _ (by decide) (by exact hP0.qa) (by rw [List.length_map]; exact hll) (ints_all l)).mono ?_
        rintro e w3 ⟨v, rfl, hown, hq3, ho3⟩
        rw [List.length_map] at hown
        obtain ⟨A3, c3, rfl⟩ := own_slice hown
        have hr3 : RQ w3 (w.heap.size + 3) (w.heap.size + 2) size l := RQ.only hP0.rq ho3 (fun k hk => by omega)
        go_wp2_with fail
        refine (rdrain _ _ _ _ _ hr3).mono ?_
        rintro e w4 ⟨A4, c4, rfl, hrow, hr4, ho4⟩
        have hP9 := hP0.step ho3 (l' := []) hq3 (ho4.mono (fun k _ hk => by omega)) hr4 (Nat.zero_le _)
        have hown4 := hown.kept (ho4.grownBy (w.heap.size + 2) (fun k h => h)) (.inr (by intro he; have := own_some hown he; have := hr3.2.1; have h9 := hP0.qa.ltc; have := hP0.rq.2.1; omega))
        clear hP0 hP hcA' hcB2 hq3 ho3 hr3 hr4 ho4 hown
        go_wp2_with fail
        refine (same_ints _ _ _ _ _ l _ (by unfold maxLen; omega) (RowAt.of_own hown4) hrow.rowAt).mono ?_
        rintro e w' ⟨rfl, n4, rfl⟩
        have hP9' : Plays w size [] (w4.drewN n4) := ⟨hP9.qa.drewN n4, rq_drewN hP9.rq n4, hP9.fits, below_drewN' hP9.below n4⟩
        clear hP9 hown4 hrow
        have hP9 := hP9'
        clear hP9'
        go_wp2
        obtain ⟨A9, c9, hA9⟩ := hP9.waits
        have hf9 := hP9.fits
        have hwr : IntKind.i64.wrap ((size : Int)) = (size : Int) := IntWalk.i64_in _ (by first | omega | (simp at hf9; omega))
        go_region_held3 (fun w' => w'.cell? ⟨w.heap.size + 2, 1, none⟩ = some (.slice A9 (([] : List Int)).length c9)) (first | exact hA9) (first | (go_at_call 17; go_must (refine (leni_as _ _ _ _ ((([] : List Int)).map (Value.int .i64)) ((([] : List Int)).length : Int) (by rw [List.length_map]) _ (by exact hP9.qa)).mono ?_; rintro e w' ⟨rfl, rfl⟩)) | (go_at_call 18; refine (roomi_as _ _ _ _ ((([] : List Int)).map (Value.int .i64)) ((([] : List Int)).length : Int) (by rw [List.length_map]) (by rw [List.length_map]; exact hf9) hs2 _ (by exact hP9.qa)).mono ?_; rintro e w' ⟨rfl, n9, rfl⟩))
        go_wp2
        refine ⟨⟨k + 1, ([] : List Int), by omega, by go_num, ⟨hP9.qa, hP9.rq, hP9.fits, ⟨hP9.below.os, hP9.below.tape, hP9.below.output, hP9.below.size, hP9.below.block⟩⟩⟩, ?_⟩
        simp [intOf]
        omega
    · obtain rfl : k = len := by omega
      clear hc
      have hB := hP.below
      clear hP
      go_wp2_with fail
      refine (awake_true _).mono ?_
      rintro e w5 ⟨rfl, hb5⟩
      go_wp2
      go_ret
      exact ⟨rfl, hB.trans (hb5.mono hB.size)⟩
end Go.Proofs.Ytonekffcanlmeaa
