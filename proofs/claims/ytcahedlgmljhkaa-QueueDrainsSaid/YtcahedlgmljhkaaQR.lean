/- The queue: the walk of row. -/
import Derived.Test.YtcahedlgmljhkaaQC
import Derived.Test.YtcahedlgmljhkaaQSort
namespace Go.Proofs.Ytcahedlgmljhkaa.QR
open Go Go.RowKit Go.Maps Go.Proofs.Ytcahedlgmljhkaa.Mem Go.Proofs.Ytcahedlgmljhkaa.Plain Go.Proofs.Ytcahedlgmljhkaa.IMap Go.Proofs.Ytcahedlgmljhkaa.RowAt Go.Proofs.Ytcahedlgmljhkaa.QP Go.Proofs.Ytcahedlgmljhkaa.QG Go.Proofs.Ytcahedlgmljhkaa.QA Go.Proofs.Ytcahedlgmljhkaa.QB Go.Proofs.Ytcahedlgmljhkaa.QC
open Go.Proofs.Ytcahedlgmljhkaa.QSort (num sort_calls num_get)

variable {w wr : World} {m : QM} {s : QS} {n : Nat} {x : Int}

/-- What row's first loop has found. -/
structure RInv (m : QM) (s : QS) (x : Int) (w wr : World) (todo : List Int) (va vb : Value) (A B : List Int) : Prop where
  rg : IRange Try.prog 3 wr m.bm w.heap.size (lanePairs m s) todo
  bel : Below w.heap.size w wr
  ra : RowAt wr (w.heap.size + 1) 3 1 va A.length (A.map num)
  rb : RowAt wr (w.heap.size + 1) 3 1 vb B.length (B.map num)
  ab : ∀ b, va.ownBlock = some b → vb.ownBlock ≠ some b
  ma : ∀ k, k ∈ A ↔ k ∈ s.keys ∧ k ∉ todo ∧ s.drains k = false ∧ k < x
  mb : ∀ k, k ∈ B ↔ k ∈ s.keys ∧ k ∉ todo ∧ s.drains k = false ∧ ¬ k < x
  na : A.Nodup
  nb : B.Nodup

theorem RInv.perm_a {todo : List Int} {va vb : Value} {A B : List Int} (h : RInv m s x w wr todo va vb A B) (hn : s.keys.Nodup) (ht : todo = []) : A.Perm (s.keys.filter fun k => !s.drains k && decide (k < x)) := by
  refine (List.perm_ext_iff_of_nodup h.na (hn.filter _)).2 (fun k => ?_)
  rw [h.ma, List.mem_filter, ht]
  simp
theorem RInv.perm_b {todo : List Int} {va vb : Value} {A B : List Int} (h : RInv m s x w wr todo va vb A B) (hn : s.keys.Nodup) (ht : todo = []) : B.Perm (s.keys.filter fun k => !s.drains k && !decide (k < x)) := by
  refine (List.perm_ext_iff_of_nodup h.nb (hn.filter _)).2 (fun k => ?_)
  rw [h.mb, List.mem_filter, ht]
  simp
theorem RInv.len_a {todo : List Int} {va vb : Value} {A B : List Int} (h : RInv m s x w wr todo va vb A B) (hn : s.keys.Nodup) : A.length ≤ s.keys.length := by
  have : A.Perm (s.keys.filter fun k => decide (k ∈ A)) := (List.perm_ext_iff_of_nodup h.na (hn.filter _)).2 (fun k => by
    rw [List.mem_filter]
    constructor
    · intro hk; exact ⟨((h.ma k).1 hk).1, by simpa using hk⟩
    · intro hk; simpa using hk.2)
  rw [this.length_eq]
  exact List.length_filter_le _ _
theorem RInv.len_b {todo : List Int} {va vb : Value} {A B : List Int} (h : RInv m s x w wr todo va vb A B) (hn : s.keys.Nodup) : B.length ≤ s.keys.length := by
  have : B.Perm (s.keys.filter fun k => decide (k ∈ B)) := (List.perm_ext_iff_of_nodup h.nb (hn.filter _)).2 (fun k => by
    rw [List.mem_filter]
    constructor
    · intro hk; exact ⟨((h.mb k).1 hk).1, by simpa using hk⟩
    · intro hk; simpa using hk.2)
  rw [this.length_eq]
  exact List.length_filter_le _ _

theorem left_same {W W' : World} {b r : Nat} (h1 : W'.heap[b]? = W.heap[b]?) (h2 : W'.heap[r]? = W.heap[r]?) : W'.rangeLeft b r = W.rangeLeft b r := by
  unfold World.rangeLeft
  rw [h1, h2]

theorem todo_not {todo : List Int} {y k : Int} : k ∉ todo.filter (· != y) ↔ k ∉ todo ∨ k = y := by
  rw [List.mem_filter]
  simp
  constructor
  · intro h1
    by_cases hk : k ∈ todo
    · exact .inr (h1 hk)
    · exact .inl hk
  · rintro (h1 | h1) h2
    · exact absurd h2 h1
    · exact h1

variable {todo A B : List Int} {va vb v7 : Value} {w1 w7 : World} {y : Int}

/-- What an append to one of the two leaves of the rest. -/
theorem app_rest (hbm : m.bm < w.heap.size) (hrg : IRange Try.prog 3 w1 m.bm w.heap.size (lanePairs m s) todo) (hbel : Below w.heap.size w w1) (ra : RowAt w1 (w.heap.size + 1) 3 1 va A.length (A.map num)) (rb : RowAt w1 (w.heap.size + 1) 3 1 vb B.length (B.map num)) (ab : ∀ b, va.ownBlock = some b → vb.ownBlock ≠ some b) (o : Obj)
    (hgrow7 : (w1.alloc o).grownBy w7 va.ownBlock) (hown : v7.ownBlock = va.ownBlock ∨ v7.ownBlock = some (w1.alloc o).heap.size) :
    IRange Try.prog 3 w7 m.bm w.heap.size (lanePairs m s) todo ∧ Below w.heap.size w w7 ∧ RowAt w7 (w.heap.size + 1) 3 1 vb B.length (B.map num) ∧ (∀ b, v7.ownBlock = some b → vb.ownBlock ≠ some b) ∧ w7.rangeLeft m.bm w.heap.size = w1.rangeLeft m.bm w.heap.size := by
  have hlow : ∀ b, va.ownBlock = some b → w.heap.size + 1 ≤ b := fun b hb => (ra.lt b hb).1
  have n1 : some m.bm ≠ va.ownBlock := fun e => by have := hlow _ e.symm; omega
  have n2 : some w.heap.size ≠ va.ownBlock := fun e => by have := hlow _ e.symm; omega
  have hr := hrg.lt
  have hb := hrg.map.lt
  have hsz := hbel.size
  have ga := grown_alloc (grown_refl w1 none) o
  refine ⟨(hrg.kept ga (by simp) (by simp)).kept hgrow7 n1 n2, (hbel.alloc hsz o).grown hgrow7 (by simp; omega) (fun b hb => by have := hlow b hb; omega), (rb.alloc o).kept hgrow7 (fun b hb e => ab b e.symm hb), fun b hb => ?_, left_same ?_ ?_⟩
  · rcases hown with h | h
    · exact ab b (h.symm.trans hb)
    · intro e
      rw [h] at hb
      have h1 := (rb.lt b e).2
      have h2 := Option.some.inj hb
      simp at h2
      omega
  · rw [hgrow7.block _ (by simp; omega) n1, ga.block _ hb (by simp)]
  · rw [hgrow7.block _ (by simp; omega) n2, ga.block _ hr (by simp)]

theorem RInv.more_a (h : RInv m s x w wr todo va vb A B) (hbm : m.bm < w.heap.size) (hg1 : wr.grownBy w1 (some w.heap.size)) (hrg : IRange Try.prog 3 w1 m.bm w.heap.size (lanePairs m s) (todo.filter (· != y))) (hy : y ∈ s.keys) (hm : y ∈ todo) (hd : s.drains y = false) (hlx : y < x) (o : Obj)
    (hrow7 : RowAt w7 (w.heap.size + 1) 3 1 v7 (A.length + 1) (A.map num ++ [.int .i64 y])) (hgrow7 : (w1.alloc o).grownBy w7 va.ownBlock) (hown : v7.ownBlock = va.ownBlock ∨ v7.ownBlock = some (w1.alloc o).heap.size) :
    RInv m s x w w7 (todo.filter (· != y)) v7 vb (A ++ [y]) B ∧ w7.rangeLeft m.bm w.heap.size = w1.rangeLeft m.bm w.heap.size := by
  have hB1 : Below w.heap.size w w1 := h.bel.grown hg1 h.bel.size (fun k hk => by cases hk; exact Nat.le_refl _)
  have ra1 := h.ra.kept hg1 (fun b hb => by have := (h.ra.lt b hb).1; simp; omega)
  have rb1 := h.rb.kept hg1 (fun b hb => by have := (h.rb.lt b hb).1; simp; omega)
  obtain ⟨a1, a2, a3, a4, a5⟩ := app_rest hbm hrg hB1 ra1 rb1 h.ab o hgrow7 hown
  refine ⟨⟨a1, a2, ?_, a3, a4, fun k => ?_, fun k => ?_, ?_, h.nb⟩, a5⟩
  · rw [List.length_append, List.map_append]
    exact hrow7
  · rw [List.mem_append, h.ma, todo_not, List.mem_singleton]
    constructor
    · rintro (⟨h1, h2, h3, h4⟩ | rfl)
      · exact ⟨h1, .inl h2, h3, h4⟩
      · exact ⟨hy, .inr rfl, hd, hlx⟩
    · rintro ⟨h1, h2 | rfl, h3, h4⟩
      · exact .inl ⟨h1, h2, h3, h4⟩
      · exact .inr rfl
  · rw [h.mb, todo_not]
    constructor
    · rintro ⟨h1, h2, h3, h4⟩; exact ⟨h1, .inl h2, h3, h4⟩
    · rintro ⟨h1, h2 | rfl, h3, h4⟩
      · exact ⟨h1, h2, h3, h4⟩
      · exact absurd hlx h4
  · exact List.nodup_append.2 ⟨h.na, by simp, fun a ha b hb => by simp at hb; subst hb; exact fun e => ((h.ma a).1 ha).2.1 (e ▸ hm)⟩

theorem RInv.more_b (h : RInv m s x w wr todo va vb A B) (hbm : m.bm < w.heap.size) (hg1 : wr.grownBy w1 (some w.heap.size)) (hrg : IRange Try.prog 3 w1 m.bm w.heap.size (lanePairs m s) (todo.filter (· != y))) (hy : y ∈ s.keys) (hm : y ∈ todo) (hd : s.drains y = false) (hlx : ¬ y < x) (o : Obj)
    (hrow7 : RowAt w7 (w.heap.size + 1) 3 1 v7 (B.length + 1) (B.map num ++ [.int .i64 y])) (hgrow7 : (w1.alloc o).grownBy w7 vb.ownBlock) (hown : v7.ownBlock = vb.ownBlock ∨ v7.ownBlock = some (w1.alloc o).heap.size) :
    RInv m s x w w7 (todo.filter (· != y)) va v7 A (B ++ [y]) ∧ w7.rangeLeft m.bm w.heap.size = w1.rangeLeft m.bm w.heap.size := by
  have hB1 : Below w.heap.size w w1 := h.bel.grown hg1 h.bel.size (fun k hk => by cases hk; exact Nat.le_refl _)
  have ra1 := h.ra.kept hg1 (fun b hb => by have := (h.ra.lt b hb).1; simp; omega)
  have rb1 := h.rb.kept hg1 (fun b hb => by have := (h.rb.lt b hb).1; simp; omega)
  obtain ⟨a1, a2, a3, a4, a5⟩ := app_rest hbm hrg hB1 rb1 ra1 (fun b hb e => h.ab b e hb) o hgrow7 hown
  refine ⟨⟨a1, a2, a3, ?_, fun b hb e => a4 b e hb, fun k => ?_, fun k => ?_, h.na, ?_⟩, a5⟩
  · rw [List.length_append, List.map_append]
    exact hrow7
  · rw [h.ma, todo_not]
    constructor
    · rintro ⟨h1, h2, h3, h4⟩; exact ⟨h1, .inl h2, h3, h4⟩
    · rintro ⟨h1, h2 | rfl, h3, h4⟩
      · exact ⟨h1, h2, h3, h4⟩
      · exact absurd h4 hlx
  · rw [List.mem_append, h.mb, todo_not, List.mem_singleton]
    constructor
    · rintro (⟨h1, h2, h3, h4⟩ | rfl)
      · exact ⟨h1, .inl h2, h3, h4⟩
      · exact ⟨hy, .inr rfl, hd, hlx⟩
    · rintro ⟨h1, h2 | rfl, h3, h4⟩
      · exact .inl ⟨h1, h2, h3, h4⟩
      · exact .inr rfl
  · exact List.nodup_append.2 ⟨h.nb, by simp, fun a ha b hb => by simp at hb; subst hb; exact fun e => ((h.mb a).1 ha).2.1 (e ▸ hm)⟩

theorem row_apart2 {W : World} {B' n' sz sz' n B : Nat} {e e' : TypeId} {v v' : Value} {xs xs' : List Value} (h : RowAt W B e sz v n xs) (h' : RowAt W B' e' sz' v' n' xs') (hne : e ≠ e') : ∀ k, v.ownBlock = some k → some k ≠ v'.ownBlock := by
  intro k hk hk'
  obtain ⟨c, hc⟩ := row_ty h hk
  obtain ⟨c', hc'⟩ := row_ty h' hk'.symm
  exact ne_of_ty hc hc' hne rfl

theorem row_some {W : World} {n B c sz : Nat} {e : TypeId} {Ad : Option Addr} {xs : List Value} (h : RowAt W B e sz (.slice Ad n c) n xs) (hn : 0 < n) : ∃ g off, Ad = some ⟨g, off, none⟩ := by
  rcases h.2 with ⟨h0, h1⟩ | ⟨g, off, cap, cur, h0, _⟩
  · omega
  · injection h0 with h0 _ _
    exact ⟨g, off, h0⟩

theorem info49 : (Try.prog.info? 49).map (fun i => (i.zero, i.size, i.bytes)) = some (some (.pointer none), 1, 8) := by kernel_rfl
theorem info3 : (Try.prog.info? 3).map (fun i => (i.zero, i.size, i.bytes)) = some (some (.int .i64 0), 1, 8) := by kernel_rfl

set_option maxHeartbeats 2000000 in
set_option maxRecDepth 100000 in
theorem row_calls (h : QRep w m s) (G : QG.Good s n) : Calls Try.prog 21 #[.pointer (some ⟨m.q, 0, none⟩), .int .i64 x] w fun e w' => ∃ v, e = .returned v ∧ RowAt w' w.heap.size 49 1 v (s.row x).length ((s.row x).map (lane m)) ∧ Below w.heap.size w w' := by
  have c6 : w.cell? ⟨m.q, 6, none⟩ = some (.map (some m.bm)) := h.blk.cell 6
  have hq := h.blk.lt
  have hkn := G.kn
  have hbm := h.ln.lt
  have HN := Lib.hid G.nodup
  have H := Lib.hid h
  have HG := Lib.hid G
  clear h G
  go_enter Try.func21, Try.ntmps21
  go_wp2_with (first
    | (at_range; refine wpList_irange H.out.ln rfl _ 46 49 rfl law3 Try.underlying46 rfl ?_; intro w0 hrg hg0 hs0)
    | go_in)
  go_frame
  go_loopw [5, 6] (fun a b wr => ∃ (todo A B : List Int), RInv m s x w wr todo a b A B) (fun _ _ wr => wr.rangeLeft m.bm w.heap.size)
  case atStart =>
    refine ⟨_, [], [], hrg, (Below.refl _ _).grown hg0 (Nat.le_refl _) (fun k hk => by cases hk), RowAt.nil _ _ _ _, RowAt.nil _ _ _ _, fun b hb => by simp [Value.ownBlock] at hb, fun k => ?_, fun k => ?_, List.nodup_nil, List.nodup_nil⟩
    · simp [lanePairs]
      intro hk hn
      exact absurd hk hn
    · simp [lanePairs]
      intro hk hn
      exact absurd hk hn
  case round =>
    obtain ⟨todo, A, B, hI⟩ := hrel
    obtain ⟨Aa, ca, rfl⟩ := hI.ra.form
    obtain ⟨Ab, cb, rfl⟩ := hI.rb.form
    have HI := Lib.hid hI
    clear hI
    go_wp2_with (first
      | (at_next; refine wpList_inext HI.out.rg rfl _ rfl law3 Try.underlying3 rfl ?_ ?_)
      | go_in)
    · intro htodo
      subst htodo
      have hla := HI.out.len_a HN.out
      have hlb := HI.out.len_b HN.out
      have HPA := Lib.hid (HI.out.perm_a HN.out rfl)
      have HPB := Lib.hid (HI.out.perm_b HN.out rfl)
      obtain ⟨i3, hi3, hz30, hz31, hz32⟩ := info_parts info3
      go_wp2_with fail
      refine (sort_calls A.length _ A (by omega) _ HI.out.ra).mono ?_
      rintro e w1 ⟨ya, rfl, hpa, hsa, hra, hga⟩
      have HYA := Lib.hid (isort_of (hpa.trans HPA.out) hsa)
      have HLA := Lib.hid hpa.length_eq
      have HRA := Lib.hid hra
      have HB1 := Lib.hid (HI.out.bel.grown hga HI.out.bel.size (fun b hb => by have := (HI.out.ra.lt b hb).1; omega))
      have HRB := Lib.hid (HI.out.rb.kept hga (fun b hb e => HI.out.ab b e.symm hb))
      have hsz1 := hga.size
      clear hpa hsa hra hga
      go_wp2_with fail
      refine (sort_calls B.length _ B (by omega) _ HRB.out).mono ?_
      rintro e w2 ⟨yb, rfl, hpb, hsb, hrb, hgb⟩
      have HYB := Lib.hid (isort_of (hpb.trans HPB.out) hsb)
      have HLB := Lib.hid hpb.length_eq
      have HRB2 := Lib.hid hrb
      have HB2 := Lib.hid (HB1.out.grown hgb HB1.out.size (fun b hb => by have := (HRB.out.lt b hb).1; omega))
      have HRA2 := Lib.hid (HRA.out.kept hgb (fun b hb e => HI.out.ab b hb e.symm))
      have hsz2 := hgb.size
      clear hpb hsb hrb hgb
      have hs12 : w.heap.size + 1 ≤ w2.heap.size := by
        have h1 := HI.out.rg.lt
        omega
      go_wp2_with (first
        | (at_builtin; refine wpList_append_at rfl (.tmp 43) (.tmp 44) 42 42 rfl i3 (.int .i64 0) 8 Try.underlying42 hi3 hz30 hz31 hz32 rfl HRB2.out rfl _ rfl _ _ (src_row (P := Try.prog) Try.underlying42 HRA2.out (fun u hu => by obtain ⟨j, _, rfl⟩ := List.mem_map.1 hu; rfl)) (by unfold maxLen; omega) (by omega) hs12 ?_; intro v3 w3 hrow3 hgrow3 hnil3 hown3; obtain ⟨A3, c3, rfl⟩ := RowAt.form hrow3; generalize hN : B.length + A.length = N at hrow3 ⊢))
      have hL : yb ++ ya = s.row x := by unfold QS.row; rw [← HYA.out, ← HYB.out]
      have hlen : (s.row x).length = N := by rw [← hL, List.length_append, HLA.out, HLB.out, hN]
      have hN16 : N ≤ 16 := by omega
      rw [← List.map_append, hL] at hrow3
      have HR3 := Lib.hid hrow3
      have HB3 := Lib.hid (HB2.out.grown hgrow3 HB2.out.size (fun b hb => by have := (HRB2.out.lt b hb).1; omega))
      have HLEN := Lib.hid hlen
      have HWF : Hid (∀ k ∈ s.row x, k ∈ s.keys ∧ (Lit.int .i64 k).wf = true) := Lib.hid (fun k hk => ⟨(row_mem.1 hk).1, wf_i64_iff.2 (by have := HG.out.keys k (row_mem.1 hk).1; omega)⟩)
      obtain ⟨L, hLL⟩ : ∃ L, s.row x = L := ⟨_, rfl⟩
      rw [hLL] at HR3 HLEN HWF
      have HLL := Lib.hid hLL
      have hs3 : w.heap.size + 1 ≤ w3.heap.size := by have := hgrow3.size; omega
      obtain ⟨i49, hi49, hy0, hy1, hy2⟩ := info_parts info49
      clear hL hlen hN hrow3 hgrow3 hnil3 hown3 HYA HYB HLA HLB HRA HRB HRB2 HRA2 HB1 HB2 HPA HPB hLL
      go_loopw [9, 47] (fun v i wx => ∃ k : Nat, i = .int .i64 k ∧ k ≤ N ∧ RowAt wx w.heap.size 49 1 v k ((L.take k).map (lane m)) ∧ RowAt wx (w.heap.size + 1) 3 1 (.slice A3 N c3) N (L.map num) ∧ Below w.heap.size w wx) (fun _ i _ => N - (intOf i).toNat)
      case atStart => exact ⟨0, rfl, Nat.zero_le _, RowAt.nil _ _ _ _, HR3.out, HB3.out⟩
      case round =>
        obtain ⟨k, rfl, hk, hv, hr, hb⟩ := hrel
        obtain ⟨Av, cv, rfl⟩ := RowAt.form hv
        have HV := Lib.hid hv
        have HR := Lib.hid hr
        have HB := Lib.hid hb
        clear hv hr hb HR3 HB3
        by_cases hlt : k < N
        · have hltI : (k : Int) < (N : Int) := by omega
          have hk0 : (0 : Int) ≤ (k : Int) := by omega
          obtain ⟨g3, o3, rfl⟩ := row_some HR.out (by omega)
          obtain ⟨y, hy⟩ : ∃ y, L[k]? = some y := ⟨_, List.getElem?_eq_getElem (by have := HLEN.out; omega)⟩
          have hc : wr.cell? ⟨g3, o3 + k, none⟩ = some (.int .i64 y) := (HR.out.cell k (by omega)).trans (num_get hy)
          obtain ⟨hyk, hyw⟩ := HWF.out y (List.mem_of_getElem? hy)
          have hq0 := H.out.below HB.out
          have hlk := run_lane_in hq0 hyk hyw
          have d6 : wr.cell? ⟨m.q, 6, none⟩ = some (.map (some m.bm)) := hq0.blk.cell 6
          have HV2 := Lib.hid (HV.out.alloc (.cells #[.pointer (some ⟨m.lp y, 0, none⟩)] 49))
          have HS2 := Lib.hid (Blk.new wr #[.pointer (some ⟨m.lp y, 0, none⟩)] 49)
          have hsz3 := HB.out.size
          have HY := Lib.hid hy
          clear hq0 hy
          go_wp2_with (first
            | (at_builtin; refine wpList_append_at rfl (.tmp 51) (.tmp 58) 57 57 rfl i49 (.pointer none) 8 Try.underlying57 hi49 hy0 hy1 hy2 rfl HV2.out rfl _ rfl 1 [.pointer (some ⟨m.lp y, 0, none⟩)] (src_one (size := 1) (P := Try.prog) (cs := #[.pointer (some ⟨m.lp y, 0, none⟩)]) Try.underlying57 (te := 49) HS2.out rfl (by simp [Value.oneCell']) 1) (by unfold maxLen; omega) (by omega) (by simp; omega) ?_; intro v7 w7 hrow7 hgrow7 hnil7 hown7))
          refine ⟨⟨k + 1, by go_num, by omega, ?_, (HR.out.alloc _).kept hgrow7 (row_apart2 HR.out HV.out (by decide)), (HB.out.alloc hsz3 _).grown hgrow7 (by simp; omega) (fun b hb => (HV.out.lt b hb).1)⟩, ?_⟩
          · rw [List.take_add_one, HY.out, List.map_append]
            exact hrow7
          · simp [intOf]
            omega
        · obtain rfl : k = N := by omega
          go_wp2_with fail
          go_ret
          refine ⟨_, rfl, ?_, HB.out⟩
          have := HV.out
          rw [List.take_of_length_le (by rw [HLEN.out]; exact Nat.le_refl _)] at this
          rw [HLL.out, HLEN.out]
          exact this
    · intro y v w1 hwx hmem hlook hrg1 hlt hg1 hs1 hen
      obtain ⟨hy, rfl⟩ : y ∈ s.keys ∧ v = lane m y := by
        rw [look_lanes] at hlook
        split at hlook
        · rename_i hh
          exact ⟨has_spec.1 hh, (Option.some.inj hlook).symm⟩
        · cases hlook
      have hB1 : Below w.heap.size w w1 := HI.out.bel.grown hg1 HI.out.bel.size (fun k hk => by cases hk; exact Nat.le_refl _)
      have HW1 := Lib.hid (H.out.below hB1)
      have l1 : w1.cell? ⟨m.lp y, 1, none⟩ = some (.bool (s.drains y)) := (HW1.out.lane y hy).cell 1
      have HE := Lib.hid (show HI.out = HI.out from rfl)
      have ra1 := HI.out.ra.kept hg1 (fun b hb => by have := (HI.out.ra.lt b hb).1; simp; omega)
      have rb1 := HI.out.rb.kept hg1 (fun b hb => by have := (HI.out.rb.lt b hb).1; simp; omega)
      have RA1 := Lib.hid ra1
      have RB1 := Lib.hid rb1
      have HRG := Lib.hid hrg1
      have HBE := Lib.hid hB1
      have ltodo : ∀ k, k ∉ todo.filter (· != y) ↔ k ∉ todo ∨ k = y := fun k => by
        rw [List.mem_filter]
        simp
        constructor
        · intro h1
          by_cases hk : k ∈ todo
          · exact .inr (h1 hk)
          · exact .inl hk
        · rintro (h1 | h1) h2
          · exact absurd h2 h1
          · exact h1
      have HLT := Lib.hid ltodo
      have HMEM := Lib.hid hmem
      have HS1 := Lib.hid hs1
      have HG1 := Lib.hid hg1
      clear hlook ra1 rb1 hrg1 hB1 HE ltodo hmem hs1 hg1
      unfold lane at hen
      by_cases hdr : s.drains y = true
      · rw [hdr] at l1
        have HDR := Lib.hid hdr
        clear hdr
        go_wp2_with fail
        refine ⟨⟨todo.filter (· != y), A, B, HRG.out, HBE.out, RA1.out, RB1.out, HI.out.ab, fun k => ?_, fun k => ?_, HI.out.na, HI.out.nb⟩, hlt⟩
        · rw [HI.out.ma, HLT.out]
          have := HDR.out
          constructor
          · rintro ⟨h1, h2, h3, h4⟩; exact ⟨h1, .inl h2, h3, h4⟩
          · rintro ⟨h1, h2 | rfl, h3, h4⟩
            · exact ⟨h1, h2, h3, h4⟩
            · rw [this] at h3; cases h3
        · rw [HI.out.mb, HLT.out]
          have := HDR.out
          constructor
          · rintro ⟨h1, h2, h3, h4⟩; exact ⟨h1, .inl h2, h3, h4⟩
          · rintro ⟨h1, h2 | rfl, h3, h4⟩
            · exact ⟨h1, h2, h3, h4⟩
            · rw [this] at h3; cases h3
      · have hdr' : s.drains y = false := by simpa using hdr
        rw [hdr'] at l1
        have HDR := Lib.hid hdr'
        clear hdr hdr'
        by_cases hlx : y < x
        · have hd : decide (y < x) = true := decide_eq_true hlx
          have hla := HI.out.len_a HN.out
          have ra2 := RA1.out.alloc (.cells #[.int .i64 y] 3)
          have hb2 := Blk.new w1 #[.int .i64 y] 3
          have hBS := HBE.out.size
          have hwlt : w.heap.size < w1.heap.size := HRG.out.lt
          obtain ⟨i3, hi3, hz30, hz31, hz32⟩ := info_parts info3
          have HA2 := Lib.hid ra2
          have HB2 := Lib.hid hb2
          clear ra2 hb2
          go_wp2_with (first
            | (at_builtin; refine wpList_append_at rfl (.tmp 35) (.tmp 37) 42 42 rfl i3 (.int .i64 0) 8 Try.underlying42 hi3 hz30 hz31 hz32 rfl HA2.out rfl _ rfl 1 [.int .i64 y] (src_one (size := 1) (P := Try.prog) (cs := #[.int .i64 y]) Try.underlying42 (te := 3) HB2.out rfl (by simp [Value.oneCell']) 1) (by unfold maxLen; omega) (by omega) (by simp; omega) ?_; intro v7 w7 hrow7 hgrow7 hnil7 hown7))
          obtain ⟨e1, e2⟩ := HI.out.more_a hbm HG1.out HRG.out hy HMEM.out HDR.out hlx _ hrow7 hgrow7 hown7
          refine ⟨⟨_, _, _, e1⟩, ?_⟩
          rw [e2]
          exact hlt
        · have hd : decide (y < x) = false := decide_eq_false hlx
          have hla := HI.out.len_b HN.out
          have ra2 := RB1.out.alloc (.cells #[.int .i64 y] 3)
          have hb2 := Blk.new w1 #[.int .i64 y] 3
          have hBS := HBE.out.size
          have hwlt : w.heap.size < w1.heap.size := HRG.out.lt
          obtain ⟨i3, hi3, hz30, hz31, hz32⟩ := info_parts info3
          have HA2 := Lib.hid ra2
          have HB2 := Lib.hid hb2
          clear ra2 hb2
          go_wp2_with (first
            | (at_builtin; refine wpList_append_at rfl (.tmp 22) (.tmp 24) 42 42 rfl i3 (.int .i64 0) 8 Try.underlying42 hi3 hz30 hz31 hz32 rfl HA2.out rfl _ rfl 1 [.int .i64 y] (src_one (size := 1) (P := Try.prog) (cs := #[.int .i64 y]) Try.underlying42 (te := 3) HB2.out rfl (by simp [Value.oneCell']) 1) (by unfold maxLen; omega) (by omega) (by simp; omega) ?_; intro v7 w7 hrow7 hgrow7 hnil7 hown7))
          obtain ⟨e1, e2⟩ := HI.out.more_b hbm HG1.out HRG.out hy HMEM.out HDR.out hlx _ hrow7 hgrow7 hown7
          refine ⟨⟨_, _, _, e1⟩, ?_⟩
          rw [e2]
          exact hlt

end Go.Proofs.Ytcahedlgmljhkaa.QR
