/- The queue: what every program answers that is one. -/
import Derived.Test.YtcahedlgmljhkaaQH
namespace Go.Proofs.Ytcahedlgmljhkaa.QK
open Go Go.RowKit Go.Maps Go.Proofs.Ytcahedlgmljhkaa.Mem Go.Proofs.Ytcahedlgmljhkaa.Plain Go.Proofs.Ytcahedlgmljhkaa.IMap Go.Proofs.Ytcahedlgmljhkaa.RowAt Go.Proofs.Ytcahedlgmljhkaa.QP Go.Proofs.Ytcahedlgmljhkaa.QG Go.Proofs.Ytcahedlgmljhkaa.QA Go.Proofs.Ytcahedlgmljhkaa.QB Go.Proofs.Ytcahedlgmljhkaa.QC Go.Proofs.Ytcahedlgmljhkaa.QR Go.Proofs.Ytcahedlgmljhkaa.QD Go.Proofs.Ytcahedlgmljhkaa.QE Go.Proofs.Ytcahedlgmljhkaa.QF Go.Proofs.Ytcahedlgmljhkaa.QT Go.Proofs.Ytcahedlgmljhkaa.QH

def aw0 : QS := QS.new 2 false
def aw1 : QS := aw0.add 3
def aw2 : QS := aw1.add 1
def aw3 : QS := aw2.sub ⟨#[97, 98, 99]⟩
def aw4 : QS := aw3.take 3
def aw5 : QS := aw4.take 1
def aw6 : QS := aw5.take 1
def aw7 : QS := aw6.take 9
def aw8 : QS := aw7.drain 1
def aw9 : QS := aw8.drop 1
theorem n1 : aw0.addNum 3 = 0 := by decide +kernel
theorem n2 : aw1.addNum 1 = 0 := by decide +kernel
theorem n3 : aw2.subNum ⟨#[97, 98, 99]⟩ = 0 := by decide +kernel
theorem n4 : aw3.takeNum 3 = 0 := by decide +kernel
theorem n5 : aw4.takeNum 1 = 0 := by decide +kernel
theorem n6 : aw5.takeNum 1 = 2003 := by decide +kernel
theorem n7 : aw6.takeNum 9 = 2002 := by decide +kernel
theorem n8 : aw7.drainNum 1 = 0 := by decide +kernel
theorem n9 : aw8.dropNum 1 = 0 := by decide +kernel
theorem nl : aw9.len = 0 := by decide +kernel
theorem fr_eq {f : Fr} {b e : Bool} {q : Int} {d : ByteArray} (h1 : f.b = b) (h2 : f.e = e) (h3 : f.q = q) (h4 : f.d = d) : f = ⟨b, e, q, d⟩ := by cases f; simp_all
theorem t4 : aw3.took 3 = ⟨true, false, 0, ⟨#[97, 98]⟩⟩ := fr_eq (by decide +kernel) (by decide +kernel) (by decide +kernel) (by decide +kernel)
theorem t5 : aw4.took 1 = ⟨false, true, 1, ⟨#[99]⟩⟩ := fr_eq (by decide +kernel) (by decide +kernel) (by decide +kernel) (by decide +kernel)
theorem g0 : QG.Good aw0 0 := new_good 2 false (by omega) (by omega)
theorem g1 : QG.Good aw1 0 := add_good g0 (by decide)
theorem g2 : QG.Good aw2 0 := add_good g1 (by decide)
theorem g3 : QG.Good aw3 0 := sub_good g2 _
theorem g4 : QG.Good aw4 1 := take_good g3
theorem g5 : QG.Good aw5 2 := take_good g4
theorem g6 : QG.Good aw6 3 := take_good g5
theorem g7 : QG.Good aw7 4 := take_good g6
theorem g8 : QG.Good aw8 4 := drain_good g7
theorem g9 : QG.Good aw9 4 := drop_good g8

theorem blk_same {w w' : World} {g : Nat} {cs : Array Value} {t : TypeId} (h : w'.heap[g]? = w.heap[g]?) (hb : Blk w g cs t) : Blk w' g cs t := h.trans hb
theorem blk_left {q B : Nat} {w0 w w' : World} {s' : QS} {F : List Nat} {v : Value} {e : Ending} {g : Nat} {cs : Array Value} {t : TypeId} (h : Lft q B w0 w s' F v e w') (hb : Blk w g cs t) (hg : g ∈ F) : Blk w' g cs t := (h.2.2.1 g hg).trans hb

set_option maxHeartbeats 2000000 in
set_option maxRecDepth 100000 in
theorem awake_calls (w : World) : Calls Try.prog 7 #[] w fun e w' => e = .returned (.bool true) ∧ Below w.heap.size w w' := by
  go_enter Try.func7, Try.ntmps7
  go_wp2_with fail
  refine (new_at 2 false w (by omega) (by omega)).mono ?_
  rintro e w1 ⟨q, rfl, h1⟩
  have HX1 := Lib.hid h1
  clear h1
  go_wp2_with fail
  refine (num_calls _ _).mono ?_
  rintro e w' ⟨rfl, rfl⟩
  go_wp2_with fail
  refine (add_at (x := 3) HX1.out g0.kn (by decide)).mono ?_
  rintro e w2 ⟨rfl, h2, _, _⟩
  have HX2 : Hid (At q w.heap.size w w2 aw1 []) := Lib.hid h2
  clear h2
  rw [show (QS.new 2 false).addNum 3 = 0 from n1]
  go_wp2_with fail
  refine (add_at (x := 1) HX2.out g1.kn (by decide)).mono ?_
  rintro e w3 ⟨rfl, h3, _, _⟩
  have HX3 : Hid (At q w.heap.size w w3 aw2 []) := Lib.hid h3
  clear h3
  go_wp2_with fail
  refine (sub_at HX3.out g2 _).mono ?_
  rintro e w4 ⟨rfl, h4, _, _⟩
  have HX4 : Hid (At q w.heap.size w w4 aw3 []) := Lib.hid h4
  clear h4
  rw [n3]
  go_wp2_with fail
  refine (take_at (x := 3) HX4.out g3 (by omega) (by decide)).mono ?_
  rintro e w5 ⟨rfl, h5, _, _⟩
  rw [t4, n4]
  have HX5 : Hid (At q w.heap.size w (w5.alloc (.cells #[.bool true, .bool false, .int .i64 0, .string ⟨#[97, 98]⟩] 32)) aw4 [w5.heap.size]) := Lib.hid (h5.alloc _)
  have HB5 := Lib.hid (Blk.new w5 #[.bool true, .bool false, .int .i64 0, .string ⟨#[97, 98]⟩] 32)
  clear h5
  unfold Fr.val
  go_wp2_with fail
  refine (take_at (x := 1) HX5.out g4 (by omega) (by decide)).mono ?_
  rintro e w6 ⟨rfl, h6, k6, _⟩
  rw [t5, n5]
  have HX6 : Hid (At q w.heap.size w (w6.alloc (.cells #[.bool false, .bool true, .int .i64 1, .string ⟨#[99]⟩] 32)) aw5 [w6.heap.size, w5.heap.size]) := Lib.hid (h6.alloc _)
  have HB6 := Lib.hid ((blk_same (k6 _ (by simp)) HB5.out).alloc (.cells #[.bool false, .bool true, .int .i64 1, .string ⟨#[99]⟩] 32))
  have HC6 := Lib.hid (Blk.new w6 #[.bool false, .bool true, .int .i64 1, .string ⟨#[99]⟩] 32)
  clear h6 k6
  unfold Fr.val
  go_wp2_with fail
  refine (take_at (x := 1) HX6.out g5 (by omega) (by decide)).mono ?_
  rintro e w7 ⟨rfl, h7, k7, _⟩
  rw [show aw5.took 1 = Fr.none from by unfold QS.took; rw [n6]; rfl, n6]
  unfold Fr.val Fr.none
  have HX7 : Hid (At q w.heap.size w (w7.alloc (.cells #[.bool false, .bool false, .int .i64 0, .string ⟨#[]⟩] 32)) aw6 [w6.heap.size, w5.heap.size]) := Lib.hid ((h7.alloc _).sub (by simp))
  have HB7 := Lib.hid ((blk_same (k7 _ (by simp)) HB6.out).alloc (.cells #[.bool false, .bool false, .int .i64 0, .string ⟨#[]⟩] 32))
  have HC7 := Lib.hid ((blk_same (k7 _ (by simp)) HC6.out).alloc (.cells #[.bool false, .bool false, .int .i64 0, .string ⟨#[]⟩] 32))
  clear h7 k7
  go_wp2_with fail
  refine (take_at (x := 9) HX7.out g6 (by omega) (by decide)).mono ?_
  rintro e w8 ⟨rfl, h8, k8, _⟩
  rw [show aw6.took 9 = Fr.none from by unfold QS.took; rw [n7]; rfl, n7]
  unfold Fr.val Fr.none
  have HX8 : Hid (At q w.heap.size w (w8.alloc (.cells #[.bool false, .bool false, .int .i64 0, .string ⟨#[]⟩] 32)) aw7 [w6.heap.size, w5.heap.size]) := Lib.hid ((h8.alloc _).sub (by simp))
  have HB8 := Lib.hid ((blk_same (k8 _ (by simp)) HB7.out).alloc (.cells #[.bool false, .bool false, .int .i64 0, .string ⟨#[]⟩] 32))
  have HC8 := Lib.hid ((blk_same (k8 _ (by simp)) HC7.out).alloc (.cells #[.bool false, .bool false, .int .i64 0, .string ⟨#[]⟩] 32))
  clear h8 k8
  go_wp2_with fail
  refine (drain_at (x := 1) HX8.out (by decide)).mono ?_
  rintro e w9 ⟨rfl, h9, k9, _⟩
  rw [n8]
  have HX9 : Hid (At q w.heap.size w w9 aw8 [w6.heap.size, w5.heap.size]) := Lib.hid h9
  have HB9 : Hid (Blk w9 w5.heap.size _ _) := Lib.hid (blk_same (k9 _ (by simp)) HB8.out)
  have HC9 : Hid (Blk w9 w6.heap.size _ _) := Lib.hid (blk_same (k9 _ (by simp)) HC8.out)
  clear h9 k9
  go_wp2_with fail
  refine (drop_at (x := 1) HX9.out (by decide)).mono ?_
  rintro e w10 ⟨rfl, h10, k10, _⟩
  rw [n9]
  have HX10 : Hid (At q w.heap.size w w10 aw9 [w6.heap.size, w5.heap.size]) := Lib.hid h10
  have hb10 : Blk w10 w5.heap.size #[.bool true, .bool false, .int .i64 0, .string ⟨#[97, 98]⟩] 32 := blk_same (k10 _ (by simp)) HB9.out
  have hc10 : Blk w10 w6.heap.size #[.bool false, .bool true, .int .i64 1, .string ⟨#[99]⟩] 32 := blk_same (k10 _ (by simp)) HC9.out
  have b0 : w10.cell? ⟨w5.heap.size, 0, none⟩ = some (.bool true) := hb10.cell 0
  have b1 : w10.cell? ⟨w5.heap.size, 1, none⟩ = some (.bool false) := hb10.cell 1
  have b2 : w10.cell? ⟨w5.heap.size, 2, none⟩ = some (.int .i64 0) := hb10.cell 2
  have b3 : w10.cell? ⟨w5.heap.size, 3, none⟩ = some (.string ⟨#[97, 98]⟩) := hb10.cell 3
  have c0 : w10.cell? ⟨w6.heap.size, 0, none⟩ = some (.bool false) := hc10.cell 0
  have c1 : w10.cell? ⟨w6.heap.size, 1, none⟩ = some (.bool true) := hc10.cell 1
  have c2 : w10.cell? ⟨w6.heap.size, 2, none⟩ = some (.int .i64 1) := hc10.cell 2
  have c3 : w10.cell? ⟨w6.heap.size, 3, none⟩ = some (.string ⟨#[99]⟩) := hc10.cell 3
  clear h10 k10 hb10 hc10
  go_wp2_with (first
    | (go_at_call 9; ((with_reducible refine (num_calls _ _).mono ?_); rintro e w' ⟨rfl, rfl⟩))
    | (go_at_call 16; first | (refine (len_at HX10.out (by rw [nl]; omega)).mono ?_; rintro e w' ⟨rfl, k, rfl⟩; rw [nl]) | (refine (len_at (HX10.out.drewN _) (by rw [nl]; omega)).mono ?_; rintro e w' ⟨rfl, k, rfl⟩; rw [nl])))
  go_ret
  exact ⟨rfl, by first | exact (HX10.out.drewN _).below | exact ((HX10.out.drewN _).drewN _).below⟩

end Go.Proofs.Ytcahedlgmljhkaa.QK
