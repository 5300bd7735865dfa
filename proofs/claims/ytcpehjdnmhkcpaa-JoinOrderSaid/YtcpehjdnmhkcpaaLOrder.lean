/- JoinOrder, the walk. -/
import Derived.Test.YtcpehjdnmhkcpaaLOrderP
import Derived.Test.YtcpehjdnmhkcpaaLLinks
namespace Go.Proofs.Ytcpehjdnmhkcpaa.LOrder
open Go Go.RowKit Go.Maps Go.Proofs.Ytcpehjdnmhkcpaa.Mem Go.Proofs.Ytcpehjdnmhkcpaa.Plain Go.Proofs.Ytcpehjdnmhkcpaa.Ring Go.Proofs.Ytcpehjdnmhkcpaa.IMap Go.Proofs.Ytcpehjdnmhkcpaa.JoinP Go.Proofs.Ytcpehjdnmhkcpaa.JoinA Go.Proofs.Ytcpehjdnmhkcpaa.Mv Go.Proofs.Ytcpehjdnmhkcpaa.RowAt Go.Proofs.Ytcpehjdnmhkcpaa.JoinE Go.Proofs.Ytcpehjdnmhkcpaa.JoinR Go.Proofs.Ytcpehjdnmhkcpaa.JoinF Go.Proofs.Ytcpehjdnmhkcpaa.JoinG Go.Proofs.Ytcpehjdnmhkcpaa.JoinH Go.Proofs.Ytcpehjdnmhkcpaa.JoinI Go.Proofs.Ytcpehjdnmhkcpaa.JoinK Go.Proofs.Ytcpehjdnmhkcpaa.LOrderP
open Go.Proofs.Ytcpehjdnmhkcpaa.LGapP (dec dec_calls whole_calls adds adds_good add_all)
open Go.Proofs.Ytcpehjdnmhkcpaa.LLinks (row_blk)

set_option linter.unusedSimpArgs false

def num (j : Nat) : Value := .int .i64 (j : Int)
/-- Behind i rounds of the loop that lays them. -/
def lay (K i : Nat) : Array Value := ((List.range K).map fun (j : Nat) => if j < i then num j else .int .i64 0).toArray
theorem lay_zero (K : Nat) : (madeCells (Value.int .i64 0).cells (K * 1)).toList.toArray = lay K 0 := by
  refine Array.ext_getElem? fun i => ?_
  unfold lay
  simp [madeCells, Value.cells]
  congr 1
  funext x
  rw [Nat.mod_one]
  rfl
theorem lay_set {K i : Nat} (h : i < K) : (lay K i).setIfInBounds i (num i) = lay K (i + 1) := by
  refine Array.ext_getElem? fun j => ?_
  rw [Array.getElem?_setIfInBounds]
  unfold lay
  by_cases e : i = j
  · subst e
    rw [if_pos rfl, if_pos (by simpa using h)]
    rw [List.getElem?_toArray, List.getElem?_map, List.getElem?_range h]
    simp
  · rw [if_neg e, List.getElem?_toArray, List.getElem?_toArray, List.getElem?_map, List.getElem?_map]
    by_cases hj : j < K
    · rw [List.getElem?_range hj]
      simp only [Option.map_some]
      congr 1
      by_cases h1 : j < i
      · rw [if_pos h1, if_pos (by omega)]
      · rw [if_neg h1, if_neg (by omega)]
    · rw [List.getElem?_eq_none (by simp; omega)]
      rfl
theorem lay_at {K i : Nat} (h : i < K) : (lay K i)[i]? = some (.int .i64 0) := by
  unfold lay
  rw [List.getElem?_toArray, List.getElem?_map, List.getElem?_range h]
  simp
theorem lay_all (K : Nat) : (lay K K).toList = (List.range K).map num := by
  unfold lay
  rw [List.map_congr_left]
  intro j hj
  rw [if_pos (List.mem_range.1 hj)]

theorem dec_size : ∀ i, i < 8 → (dec i).size ≤ 2 := by decide
theorem info3 : (Try.prog.info? 3).map (fun i => (i.zero, i.size, i.bytes)) = some (some (.int .i64 0), 1, 8) := by kernel_rfl

variable {w : World} {B n cap g off : Nat} {e : TypeId} {xs : List Value}

theorem row_cap (h : RowAt w B e 1 (.slice (some ⟨g, off, none⟩) n cap) n xs) : n ≤ cap := by
  rcases h.2 with ⟨h0, _⟩ | ⟨g', off', cap', cur, h0, hb, hg, hnc, hcm, hcs, ht⟩
  · cases h0
  · simp only [Value.slice.injEq, Option.some.injEq, Addr.mk.injEq] at h0
    obtain ⟨_, _, rfl⟩ := h0
    exact hnc

theorem row_apart {B' n' sz sz' : Nat} {e' : TypeId} {v v' : Value} {xs' : List Value} (h : RowAt w B e sz v n xs) (h' : RowAt w B' e' sz' v' n' xs') (hne : e ≠ e') : ∀ k, v.ownBlock = some k → some k ≠ v'.ownBlock := by
  intro k hk hk'
  rcases h.2 with ⟨rfl, _⟩ | ⟨g1, off1, cap1, cur1, rfl, _, hg1, _⟩
  · simp [Value.ownBlock] at hk
  · rcases h'.2 with ⟨rfl, _⟩ | ⟨g2, off2, cap2, cur2, rfl, _, hg2, _⟩
    · simp [Value.ownBlock] at hk'
    · simp [Value.ownBlock] at hk hk'
      subst hk
      subst hk'
      rw [hg1] at hg2
      simp only [Option.some.injEq, Obj.cells.injEq] at hg2
      exact hne hg2.2.1

theorem num_one {l : List Nat} {u : Value} (h : u ∈ l.map num) : u.oneCell' = true := by
  obtain ⟨j, _, rfl⟩ := List.mem_map.1 h
  rfl

theorem num_take {l : List Nat} {p : Nat} {u : Value} (h : u ∈ (l.map num).take p) : u.oneCell' = true := num_one (List.mem_of_mem_take h)
theorem num_drop {l : List Nat} {p : Nat} {u : Value} (h : u ∈ (l.map num).drop p) : u.oneCell' = true := num_one (List.mem_of_mem_drop h)

theorem row_left (h : RowAt w B e 1 (.slice (some ⟨g, off, none⟩) n cap) n xs) {p : Nat} (hp : p ≤ n) : RowAt w B e 1 (.slice (some ⟨g, off, none⟩) p cap) p (xs.take p) := by
  have h1 := h.1
  refine ⟨by simp; omega, ?_⟩
  rcases h.2 with ⟨h0, _⟩ | ⟨g', off', cap', cur, h0, hb, hg, hnc, hcm, hcs, ht⟩
  · cases h0
  · simp only [Value.slice.injEq, Option.some.injEq, Addr.mk.injEq] at h0
    obtain ⟨⟨rfl, rfl, _⟩, _, rfl⟩ := h0
    refine .inr ⟨g, off, cap, cur, rfl, hb, hg, by omega, hcm, hcs, ?_⟩
    rw [← ht, List.take_take]
    congr 1
    omega

theorem row_right (h : RowAt w B e 1 (.slice (some ⟨g, off, none⟩) n cap) n xs) {p : Nat} (hp : p ≤ n) : RowAt w B e 1 (.slice (some ⟨g, off + p, none⟩) (n - p) (cap - p)) (n - p) (xs.drop p) := by
  have h1 := h.1
  refine ⟨by simp; omega, ?_⟩
  rcases h.2 with ⟨h0, _⟩ | ⟨g', off', cap', cur, h0, hb, hg, hnc, hcm, hcs, ht⟩
  · cases h0
  · simp only [Value.slice.injEq, Option.some.injEq, Addr.mk.injEq] at h0
    obtain ⟨⟨rfl, rfl, _⟩, _, rfl⟩ := h0
    refine .inr ⟨g, off + p, cap - p, cur, rfl, hb, hg, by omega, by omega, by omega, ?_⟩
    rw [← ht, List.drop_take, List.drop_drop]
    congr 1
    omega

theorem row_cast {n' : Nat} {xs' : List Value} {v : Value} (h : RowAt w B e 1 v n xs) (hn : n = n') (hx : xs = xs') : RowAt w B e 1 v n' xs' := by subst hn; subst hx; exact h

/-- Behind the last place nothing comes, wherever it is said to lie. -/
theorem src_none (w : World) (g : Nat) (q c : Nat) : Src Try.prog 1 50 (.slice (some ⟨g, q, none⟩) 0 c) 0 [] w :=
  Src.ofSlice w Try.underlying50 _ _ _ _ (by simp) (fun j u hj => by simp at hj) (fun u hu => by cases hu)

theorem src_rest {lf : List Nat} {p : Nat} (h : RowAt w B 3 1 (.slice (some ⟨g, off, none⟩) lf.length cap) lf.length (lf.map num)) (hp : p + 1 ≤ lf.length) (c : Nat) : Src Try.prog 1 50 (.slice (some ⟨g, off + (p + 1), none⟩) (lf.length - (p + 1)) c) (lf.length - (p + 1)) ((lf.map num).drop (p + 1)) w := by
  have hr := row_right h hp
  refine Src.ofSlice w Try.underlying50 _ _ _ _ (by simp) (fun j u hj => ?_) (fun u hu => num_drop hu)
  have hjl : j < (lf.length - (p + 1)) * 1 := by have := (List.getElem?_eq_some_iff.1 hj).1; simp at this; omega
  rw [Addr.add_lit]
  exact (hr.cell j hjl).trans hj

theorem row_of_blk {K : Nat} (hK : K ≤ maxLen) (hb : Blk w g (lay K K) e) (hB : B ≤ g) : RowAt w B e 1 (.slice (some ⟨g, 0, none⟩) K K) K ((List.range K).map num) := by
  have hs : (lay K K).size = K := by unfold lay; simp
  refine ⟨by simp, .inr ⟨g, 0, K, lay K K, rfl, hB, hb, Nat.le_refl _, hK, by omega, ?_⟩⟩
  rw [lay_all]
  simp [List.take_of_length_le]

theorem mem_erase {l : List Nat} (hn : l.Nodup) {p s : Nat} (hs : l[p]? = some s) (x : Nat) : x ∈ l.take p ++ l.drop (p + 1) ↔ x ∈ l ∧ x ≠ s := by
  obtain ⟨hp, e⟩ := List.getElem?_eq_some_iff.1 hs
  have hl : l = l.take p ++ s :: l.drop (p + 1) := by
    rw [← e, List.getElem_cons_drop]
    simp
  rw [hl] at hn
  have hn2 := List.nodup_append.1 hn
  have hn3 := List.nodup_cons.1 hn2.2.1
  constructor
  · intro h
    refine ⟨?_, ?_⟩
    · rw [hl]
      rcases List.mem_append.1 h with h | h
      · exact List.mem_append_left _ h
      · exact List.mem_append_right _ (List.mem_cons_of_mem _ h)
    · rintro rfl
      rcases List.mem_append.1 h with h | h
      · exact hn2.2.2 x h x (by simp) rfl
      · exact hn3.1 h
  · rintro ⟨h, hne⟩
    rw [hl] at h
    rcases List.mem_append.1 h with h | h
    · exact List.mem_append_left _ h
    · rcases List.mem_cons.1 h with h | h
      · exact absurd h hne
      · exact List.mem_append_right _ h

theorem nodup_erase {l : List Nat} (hn : l.Nodup) (p : Nat) : (l.take p ++ l.drop (p + 1)).Nodup := by
  refine hn.sublist ?_
  have : (l.take p ++ l.drop (p + 1)).Sublist (l.take p ++ l.drop p) := List.Sublist.append (List.Sublist.refl _) (by
    rw [← List.drop_drop]
    exact List.drop_sublist _ _)
  rwa [List.take_append_drop] at this

theorem adds_spec : ∀ i, i ≤ 8 → (adds i).short = true ∧ (adds i).most = 64 ∧ (adds i).lost = 0 ∧ (adds i).next = 0 ∧ (adds i).held = [] ∧ (adds i).links = (List.range i).map (fun (j : Nat) => ((j : Int), (-1 : Int))) := by
  intro i h
  have h9 : i = 0 ∨ i = 1 ∨ i = 2 ∨ i = 3 ∨ i = 4 ∨ i = 5 ∨ i = 6 ∨ i = 7 ∨ i = 8 := by omega
  rcases h9 with rfl | rfl | rfl | rfl | rfl | rfl | rfl | rfl | rfl
  all_goals exact ⟨by kernel_rfl, by kernel_rfl, by kernel_rfl, by kernel_rfl, by kernel_rfl, by kernel_rfl⟩

theorem line_start (K : Nat) (hK : K ≤ 8) : Line K 0 (List.range K) (adds K) := by
  obtain ⟨a, b, c, d, e, f⟩ := adds_spec K hK
  refine ⟨a, b, c, by rw [d]; rfl, Nat.zero_le _, fun j hj => by omega, fun x hx => ?_, fun j _ hj h => absurd (List.mem_range.2 hj) h, fun j hj _ => ?_, fun j hj h => absurd (List.mem_range.2 hj) h, by rw [e]; simp⟩
  · rw [e] at hx; simp at hx
  · rw [f]; exact List.mem_map.2 ⟨j, List.mem_range.2 hj, rfl⟩

set_option maxHeartbeats 2000000 in
set_option maxRecDepth 100000 in
theorem order_walk (a : Option Addr) (len pcap : Nat) (a1 : Int) (w : World) (_hlm : len ≤ maxLen) (hz : ∀ i, i < len → ∃ x n, a = some x ∧ w.cell? (x.add i) = some (.int .i64 n)) : Calls Try.prog 5 #[.slice a len pcap, .int .i64 a1] w fun e w' => e = .returned (.bool true) ∧ Below w.heap.size w w' := by
  have HZ := Lib.hid hz
  clear hz
  obtain ⟨r, hr, hr8⟩ : ∃ r : Nat, bits .and .i64 a1 7 = (r : Int) ∧ r < 8 := by
    have h0 : 0 ≤ a1 % 8 := Int.emod_nonneg _ (by omega)
    have h1 : a1 % 8 < 8 := Int.emod_lt_of_pos _ (by omega)
    exact ⟨(a1 % 8).toNat, by rw [and7]; omega, by omega⟩
  go_enter Try.func5, Try.ntmps5
  go_wp2_with fail
  refine (awake_calls _).mono ?_
  rintro e w0 ⟨rfl, hb0⟩
  go_wp2_with fail
  refine (new_calls true 64 _ (by omega)).mono ?_
  rintro e w1 ⟨J, bl, bh, rfl, hr1, hb1, hJ, hl, hh⟩
  have HR1 : Hid (JRep w1 J bl bh (adds 0)) := Lib.hid hr1
  have hB1 : Below w.heap.size w w1 := hb0.trans (hb1.mono hb0.size)
  have hJ1 := hr1.blk.lt
  have hl1 := hr1.links.lt
  have hh1 := hr1.held.lt
  clear hr1
  go_wp2_with (first | (go_at_call 14; ((with_reducible refine (num_calls _ _).mono ?_); rintro e w' ⟨rfl, rfl⟩)))
  go_loopw [8] (fun i wr => ∃ k : Nat, i = .int .i64 k ∧ k ≤ r + 1 ∧ JRep wr J bl bh (adds k) ∧ Mv J bl bh w1 wr) (fun i _ => r + 1 - (intOf i).toNat)
  case atStart => exact ⟨0, rfl, Nat.zero_le _, HR1.out, Mv.refl _ _ _ _⟩
  case round =>
    obtain ⟨k, rfl, hk, hR, hM⟩ := hrel
    have HR := Lib.hid hR
    have HM := Lib.hid hM
    clear hR hM
    by_cases hlt : k < r + 1
    · have hlt' : (k : Int) < 1 + (r : Int) := by omega
      go_wp2_with (first | (go_at_call 16; refine (add_calls J bl bh _ k _ HR.out (adds_good k (by omega)).fit (wf_i64_iff.2 (by omega))).mono ?_; rintro e w2 ⟨rfl, hr2, hm2⟩))
      go_roundw
      case rel => exact ⟨k + 1, by go_num, by omega, hr2, HM.out.trans hm2⟩
      case measure => simp [intOf]; omega
    · obtain rfl : k = r + 1 := by omega
      have hge : ¬ ((r + 1 : Nat) : Int) < 1 + (r : Int) := by omega
      obtain ⟨wo, rfl⟩ : ∃ wo : World, wo = wr := ⟨_, rfl⟩
      obtain ⟨i3, hi3, hz30, hz31, hz32⟩ := info_parts info3
      go_wp2_with (first | (at_make; refine wpList_make_full _ rfl _ _ 50 rfl wo.heap.size 3 i3 (.int .i64 0) 1 Try.underlying50 hi3 hz30 hz31 _ _ _ _ (r + 1) rfl rfl (by omega) (by omega) (by rw [hz32]; omega) (by unfold maxLen; omega) (Nat.le_refl _) ?_; intro w2 hrow2 hgr2))
      have hb2 := row_blk hrow2
      rw [lay_zero] at hb2
      have HA2 := Lib.hid hb2
      have HR2 := Lib.hid (HR.out.grown hgr2)
      have HM2 : Hid (Mv J bl bh w1 w2) := Lib.hid (HM.out.grown hgr2 (by simp))
      have hHB : w1.heap.size ≤ wo.heap.size := HM.out.size
      have HNE := Lib.hid (show wo.heap.size ≠ J ∧ wo.heap.size ≠ bl ∧ wo.heap.size ≠ bh from ⟨by omega, by omega, by omega⟩)
      generalize wo.heap.size = H at *
      clear hb2 hrow2 hgr2 HR HM
      go_wp2_with fail
      go_loopw [10] (fun i wr => ∃ k : Nat, i = .int .i64 k ∧ k ≤ r + 1 ∧ JRep wr J bl bh (adds (r + 1)) ∧ Blk wr H (lay (r + 1) k) 3 ∧ Mv J bl bh w1 wr) (fun i _ => r + 1 - (intOf i).toNat)
      case atStart => exact ⟨0, rfl, Nat.zero_le _, HR2.out, HA2.out, HM2.out⟩
      case round =>
        obtain ⟨k, rfl, hk, hR, hA, hM⟩ := hrel
        have HR := Lib.hid hR
        have HA := Lib.hid hA
        have HM := Lib.hid hM
        clear hR hA hM
        by_cases hlt : k < r + 1
        · have hlt' : (k : Int) < 1 + (r : Int) := by omega
          have hlt2 : (k : Int) < (r : Int) + 1 := by omega
          have hk0 : (0 : Int) ≤ (k : Int) := by omega
          have hfr := HA.out.free k
          have hck := (HA.out.cell k).trans (lay_at hlt)
          go_wp2_with fail
          refine ⟨⟨k + 1, by go_num, by omega, rep_kept HR.out (grown_set (grown_refl _ _) k _) (fun e => HNE.out.1 (Option.some.inj e).symm) (fun e => HNE.out.2.1 (Option.some.inj e).symm) (fun e => HNE.out.2.2 (Option.some.inj e).symm), lay_set hlt ▸ HA.out.set k _, HM.out.grown (grown_set (grown_refl _ _) k _) (fun b hb => by cases hb; exact .inr (.inr (.inr hHB)))⟩, ?_⟩
          simp [intOf]
          omega
        · obtain rfl : k = r + 1 := by omega
          have hge : ¬ ((r + 1 : Nat) : Int) < 1 + (r : Int) := by omega
          have HLF := Lib.hid (row_of_blk (by unfold maxLen; omega) HA.out hHB)
          clear HA HA2 HR2 HM2 HR1
          go_wp2_with fail
          go_loopw [9, 11, 12] (fun v g i wx => ∃ (k m : Nat) (lf : List Nat) (s : JS), i = .int .i64 k ∧ k + lf.length = r + 1 ∧ RowAt wx w1.heap.size 3 1 v lf.length (lf.map num) ∧ Line (r + 1) m lf s ∧ (m = r + 1 ∨ m ∈ lf) ∧ (∀ x ∈ lf, x < r + 1) ∧ lf.Nodup ∧ JRep wx J bl bh s ∧ JoinH.Good s k ∧ Mv J bl bh w1 wx ∧ Txt wx w1.heap.size g ((List.range m).map pt)) (fun _ _ i _ => r + 1 - (intOf i).toNat)
          case atStart => exact ⟨0, 0, List.range (r + 1), adds (r + 1), rfl, by simp, by rw [List.length_range]; exact HLF.out, line_start _ (by omega), .inr (by simp), fun x hx => List.mem_range.1 hx, List.nodup_range, HR.out, adds_good _ (by omega), HM.out, RowAt.nil _ _ _ _⟩
          case round =>
            obtain ⟨k, m, lf, s, rfl, hk, hV, hO, hS, hlk, hnd, hR, hG, hM, hT⟩ := hrel
            have HV := Lib.hid hV
            have HO := Lib.hid hO
            have HS := Lib.hid hS
            have HLK := Lib.hid hlk
            have HND := Lib.hid hnd
            have HR := Lib.hid hR
            have HG := Lib.hid hG
            have HM := Lib.hid hM
            have HT := Lib.hid hT
            clear hV hO hS hlk hnd hR hG hM hT
            obtain ⟨A, cap, rfl⟩ := HV.out.form
            by_cases hemp : lf = []
            · subst hemp
              obtain ⟨hheld, hm⟩ := HO.out.done HS.out
              subst hm
              obtain ⟨wz, rfl⟩ : ∃ wz : World, wz = wr := ⟨_, rfl⟩
              obtain ⟨A4, c4, rfl, hcells⟩ := HT.out.shape
              have hc4 : ∀ j, j < r + 1 → ∃ g off, A4 = some ⟨g, off, none⟩ ∧ wz.cell? ⟨g, off + j, none⟩ = some (.string ((⟨#[112]⟩ : ByteArray) ++ dec j)) := fun j hj => hcells j _ (by rw [List.getElem?_map, List.getElem?_range hj]; rfl)
              have HC := Lib.hid hc4
              have hl4 : (List.map pt (List.range (r + 1))).length = r + 1 := by simp
              rw [hl4]
              have hbne : ((r : Int) + 1 != 1 + (r : Int)) = false := by simp; omega
              have HH : Hid ((s.held.length : Int) = 0) := Lib.hid (by rw [hheld]; rfl)
              have HL := Lib.hid HO.out.lost
              have HBZ := Lib.hid (hB1.trans (HM.out.to_below hB1.size (Nat.le_trans hb0.size hJ) (Nat.le_trans hb0.size hl) (Nat.le_trans hb0.size hh)))
              clear hheld hcells hc4 hl4 HT HO HS HLK HND HG HM HV HLF
              go_wp2_with (first
                | (go_at_call 23; ((with_reducible refine (held_calls J bl bh _ _ HR.out).mono ?_); rintro e w' ⟨rfl, rfl⟩; rw [HH.out]))
                | (go_at_call 25; ((with_reducible refine (lost_calls J bl bh _ _ HR.out).mono ?_); rintro e w' ⟨rfl, rfl⟩; rw [HL.out])))
              go_loopw [18] (fun i wx => ∃ n : Nat, i = .int .i64 n ∧ n ≤ r + 1 ∧ Below wz.heap.size wz wx) (fun i _ => r + 1 - (intOf i).toNat)
              case atStart => exact ⟨0, rfl, Nat.zero_le _, Below.refl _ _⟩
              case round =>
                obtain ⟨n, rfl, hn, hB⟩ := hrel
                have HB := Lib.hid hB
                clear hB
                by_cases hlt : n < r + 1
                · have hnl : (n : Int) < 1 + (r : Int) := by omega
                  have hnl2 : (n : Int) < (r : Int) + 1 := by omega
                  have hn0 : (0 : Int) ≤ (n : Int) := by omega
                  have hds : 1 + (dec n).size ≤ 9223372036854775807 := by have := dec_size n (by omega); omega
                  have hds2 : (⟨#[112]⟩ : ByteArray).size + (dec n).size ≤ 9223372036854775807 := hds
                  have hds3 : ¬ 9223372036854775807 < (⟨#[112]⟩ : ByteArray).size + (dec n).size := by omega
                  have hds4 : ¬ 9223372036854775807 < 1 + (dec n).size := by omega
                  obtain ⟨gb, ob, rfl, hcell⟩ := HC.out n hlt
                  have hcw := (HB.out.cell (p := ⟨gb, ob + n, none⟩) (World.block_lt_of_cell? wz _ hcell)).trans hcell
                  clear hcell
                  go_wp2
                  go_region_held3 (fun W => W.cell? ⟨gb, ob + n, none⟩ = some (.string ((⟨#[112]⟩ : ByteArray) ++ dec n)) ∧ Below wz.heap.size wz W) (first | exact ⟨hcw, Below.drew HB.out⟩ | exact ⟨(hb8.cell (World.block_lt_of_cell? _ _ hcw)).trans hcw, (Below.drew HB.out).trans (hb8.mono HB.out.size)⟩)
                    (first | (go_at_call 28; ((with_reducible refine (dec_calls n (by omega) _).mono ?_); rintro e w8 ⟨rfl, hb8⟩)))
                  all_goals
                    go_wp2
                    refine ⟨⟨n + 1, by go_num, by omega, (Below.drew HB.out).trans (hb8.mono HB.out.size)⟩, ?_⟩
                    simp [intOf]
                    omega
                · have hge : ¬ (n : Int) < 1 + (r : Int) := by omega
                  go_wp2_with fail
                  go_ret
                  exact ⟨rfl, HBZ.out.trans (HB.out.mono HBZ.out.size)⟩
            · have hpos : 0 < lf.length := List.length_pos_iff.2 hemp
              have hposI : (0 : Int) < (lf.length : Int) := by omega
              obtain ⟨g, off, rfl⟩ : ∃ g off, A = some ⟨g, off, none⟩ := by
                rcases HV.out.2 with ⟨_, h0⟩ | ⟨g, off, c, cur, h0, _⟩
                · omega
                · simp only [Value.slice.injEq] at h0
                  exact ⟨g, off, h0.1⟩
              have hu : IntKind.u64.wrap (lf.length : Int) = (lf.length : Int) := by rw [u64_wrap]; omega
              have hz0 : ((lf.length : Int) == 0) = false := by simp; omega
              have hk8 : k < 8 := by omega
              by_cases hin : k < len
              · have hinI : (k : Int) < (len : Int) := by omega
                obtain ⟨xa, z, rfl, hz⟩ := HZ.out k hin
                have hBx := hB1.trans (HM.out.to_below hB1.size (Nat.le_trans hb0.size hJ) (Nat.le_trans hb0.size hl) (Nat.le_trans hb0.size hh))
                have hzr := (hBx.cell (World.block_lt_of_cell? w _ hz)).trans hz
                have hk0 : (0 : Int) ≤ (k : Int) := by omega
                obtain ⟨p, hp, hpl⟩ : ∃ p : Nat, wrap64 ((IntKind.u64.wrap z).tmod (lf.length : Int)) = (p : Int) ∧ p < lf.length := by
                  rw [u64_wrap]
                  have h0 : 0 ≤ z % 18446744073709551616 := Int.emod_nonneg _ (by omega)
                  rw [Int.tmod_eq_emod_of_nonneg h0]
                  generalize z % 18446744073709551616 = X at *
                  have h1 : 0 ≤ X % (lf.length : Int) := Int.emod_nonneg _ (by omega)
                  have h2 : X % (lf.length : Int) < (lf.length : Int) := Int.emod_lt_of_pos _ (by omega)
                  generalize X % (lf.length : Int) = Y at *
                  refine ⟨Y.toNat, ?_, by omega⟩
                  rw [wrap_i64 (by omega) (by omega)]
                  omega
                have hp0 : (0 : Int) ≤ (p : Int) := by omega
                have hcap := row_cap HV.out
                have hpc : p ≤ cap := by omega
                have hpc1 : p + 1 ≤ cap := by omega
                have hpl1 : p + 1 ≤ lf.length := by omega
                have hpI : (p : Int) < (lf.length : Int) := by omega
                clear hz hBx hin
                by_cases hce : cap = p + 1
                · obtain rfl := hce
                  obtain ⟨sv, hsv⟩ : ∃ sv, lf[p]? = some sv := ⟨_, List.getElem?_eq_getElem hpl⟩
                  have hsk : sv < r + 1 := HLK.out sv (List.mem_of_getElem? hsv)
                  have hcell : wr.cell? ⟨g, off + p, none⟩ = some (.int .i64 (sv : Int)) := by
                    have := HV.out.cell p (by omega)
                    rw [List.getElem?_map, hsv] at this
                    exact this
                  obtain ⟨hn, m', hS', hO', hgot⟩ := HO.out.put (by omega) HG.out (by omega) hsk (List.mem_of_getElem? hsv) (mem_erase HND.out hsv)
                  have hlen' : (lf.take p ++ lf.drop (p + 1)).length + 1 = lf.length := by simp; omega
                  have hG' := put_good' HG.out (by omega) (sv : Int) (fro sv)
                  have hplen : (JS.put s (sv : Int) (fro sv)).1.length ≤ 8 := by
                    have q1 := congrArg List.length hgot
                    have q2 := hO'.top
                    simp at q1
                    omega
                  obtain ⟨⟨o, s'⟩, hput⟩ : ∃ q, JS.put s (sv : Int) (fro sv) = q := ⟨_, rfl⟩
                  rw [hput] at hO' hgot hG' hplen
                  simp only at hO' hgot hG' hplen
                  have HPUT := Lib.hid hput
                  have HN := Lib.hid hn
                  have HO' := Lib.hid hO'
                  have HS' := Lib.hid hS'
                  have HGOT := Lib.hid hgot
                  have HG' := Lib.hid hG'
                  have HLEN' := Lib.hid hlen'
                  have HND' := Lib.hid (nodup_erase HND.out p)
                  have HLK' : Hid (∀ x ∈ lf.take p ++ lf.drop (p + 1), x < r + 1) := Lib.hid (fun x hx => HLK.out x ((mem_erase HND.out hsv x).1 hx).1)
                  have hsw : (Lit.int .i64 (sv : Int)).wf = true := wf_i64_iff.2 (by omega)
                  have HSW := Lib.hid hsw
                  have hmt := HO.out.top
                  have hds : 1 + (dec sv).size ≤ 9223372036854775807 := by have := dec_size sv (by omega); omega
                  obtain ⟨i9, hi9, hz90, hz91, hz92⟩ := info_parts info9
                  obtain ⟨i3b, hi3b, hz3b0, hz3b1, hz3b2⟩ := info_parts info3
                  clear hput hn hO' hS' hgot hG' hlen' hsw HO HS HND
                  go_wp2_with (first
                    | (go_at_call 28; ((with_reducible refine (dec_calls sv (by omega) _).mono ?_); rintro e w4 ⟨rfl, hb4⟩; have hR4 := HR.out.below hb4))
                    | (go_at_call 27; ((with_reducible refine (whole_calls sv (by omega) _ _).mono ?_); rintro e w5 ⟨rfl, hb5⟩; have hR5 := hR4.below hb5)))
                  refine (put_step (f := ⟨true, true, (sv : Int), (⟨#[112]⟩ : ByteArray) ++ dec sv⟩) hR5 HG.out (by omega) HSW.out HN.out HPUT.out).mono ?_
                  rintro e w6 ⟨A6, k6, rfl, ht6, hr6, hm6⟩
                  have hM6 : Mv J bl bh wr w6 := (((Mv.refl J bl bh wr).below hb4).below hb5).trans hm6
                  have HM6 := Lib.hid hM6
                  have HT6 := Lib.hid (txt_mv HT.out hJ1 hl1 hh1 hM6)
                  have HV6 : Hid (RowAt w6 w1.heap.size 3 1 (.slice (some ⟨g, off, none⟩) lf.length (p + 1)) lf.length (lf.map num)) := Lib.hid (RowAt.block HV.out fun b hb => by
                    have := RowAt.lt HV.out b hb
                    exact hM6.block b this.2 (by omega) (by omega) (by omega))
                  have HSRC := Lib.hid (src_row (P := Try.prog) Try.underlying38 ht6 (fun u hu => by obtain ⟨t, _, rfl⟩ := List.mem_map.1 hu; rfl))
                  have HR6 := Lib.hid hr6
                  clear hM6 hr6 ht6 hm6 hb4 hb5 hR4 hR5
                  go_wp2_with (first
                    | (go_at_call 14; ((with_reducible refine (num_calls _ _).mono ?_); rintro e w' ⟨rfl, rfl⟩))
                    | (at_builtin; refine wpList_append_at rfl (.tmp 87) (.tmp 88) 38 38 rfl i9 (.string ⟨#[]⟩) 16 Try.underlying38 hi9 hz90 hz91 hz92 rfl HT6.out rfl _ rfl _ _ HSRC.out (by unfold maxLen; simp; omega) (by simp; omega) (by have := HM.out.size; have := HM6.out.size; omega) ?_; intro v7 w7 hrow7 hgrow7 hnil7 hown7; have HR7 := Lib.hid (rep_kept HR6.out hgrow7 (own_ne HT6.out hJ1) (own_ne HT6.out hl1) (own_ne HT6.out hh1)); have HM7 := Lib.hid ((HM.out.trans HM6.out).grown hgrow7 (fun b hb => .inr (.inr (.inr (RowAt.lt HT6.out b hb).1)))); have HT7 : Hid (Txt w7 w1.heap.size v7 ((List.range m).map pt ++ o)) := Lib.hid (by unfold Txt; rw [List.length_append, List.map_append]; exact hrow7); have HV7 := Lib.hid (RowAt.kept HV6.out hgrow7 (fun b hb => row_apart HV6.out HT6.out (by decide) b hb)); have HSA := Lib.hid (src_row (P := Try.prog) Try.underlying50 (row_left HV7.out (p := p) (by omega)) (fun u hu => num_take hu)); clear hrow7 hgrow7 hnil7 hown7)
                    | (at_builtin; refine wpList_append_at rfl (.tmp 90) (.tmp 93) 50 50 rfl i3b (.int .i64 0) 8 Try.underlying50 hi3b hz3b0 hz3b1 hz3b2 rfl (RowAt.nil w7 w1.heap.size 3 1) rfl _ rfl _ _ HSA.out (by unfold maxLen; omega) (by omega) HM7.out.size ?_; intro v8 w8 hrow8 hgrow8 hnil8 hown8; have HR8 := Lib.hid (HR7.out.grown hgrow8); have HM8 := Lib.hid (HM7.out.grown hgrow8 (by simp [Value.ownBlock])); have HT8 : Hid (Txt w8 w1.heap.size v7 ((List.range m).map pt ++ o)) := Lib.hid (RowAt.kept HT7.out hgrow8 (by simp [Value.ownBlock])); have HV8 := Lib.hid (RowAt.kept HV7.out hgrow8 (by simp [Value.ownBlock])); have HSB := Lib.hid (src_none w8 g); have H78 := Lib.hid hgrow8.size; have HOWN8 := Lib.hid hown8; have HROW8 := Lib.hid hrow8; clear hrow8 hgrow8 hnil8 hown8)
                    | (at_builtin; refine wpList_append_at rfl (.tmp 95) (.tmp 99) 50 50 rfl i3b (.int .i64 0) 8 Try.underlying50 hi3b hz3b0 hz3b1 hz3b2 rfl HROW8.out rfl _ rfl _ _ (HSB.out _ _) (by unfold maxLen; omega) (by omega) HM8.out.size ?_; intro v9 w9 hrow9 hgrow9 hnil9 hown9))
                  have HR9 := rep_kept HR8.out hgrow9 (own_ne HROW8.out hJ1) (own_ne HROW8.out hl1) (own_ne HROW8.out hh1)
                  have HM9 := HM8.out.grown hgrow9 (fun b hb => .inr (.inr (.inr (RowAt.lt HROW8.out b hb).1)))
                  have HT9 : Txt w9 w1.heap.size v7 ((List.range m').map pt) := by
                    rw [← HGOT.out]
                    refine RowAt.kept HT8.out hgrow9 (fun b hb e => ?_)
                    rcases HOWN8.out with h | h
                    · rw [h] at e; cases e
                    · rw [h] at e
                      have := (RowAt.lt HT7.out b hb).2
                      have e2 := Option.some.inj e
                      omega
                  have HV9 : RowAt w9 w1.heap.size 3 1 v9 (lf.take p ++ lf.drop (p + 1)).length ((lf.take p ++ lf.drop (p + 1)).map num) := row_cast hrow9 (by simp <;> omega) (by rw [List.drop_eq_nil_of_le (by omega)]; simp [List.map_take])
                  refine ⟨⟨k + 1, m', lf.take p ++ lf.drop (p + 1), s', by go_num, by have := HLEN'.out; omega, HV9, HO'.out, HS'.out, HLK'.out, HND'.out, HR9, HG'.out, HM9, HT9⟩, ?_⟩
                  simp [intOf]
                  omega
                · have hce2 : ¬ cap = p + 1 := hce
                  obtain ⟨sv, hsv⟩ : ∃ sv, lf[p]? = some sv := ⟨_, List.getElem?_eq_getElem hpl⟩
                  have hsk : sv < r + 1 := HLK.out sv (List.mem_of_getElem? hsv)
                  have hcell : wr.cell? ⟨g, off + p, none⟩ = some (.int .i64 (sv : Int)) := by
                    have := HV.out.cell p (by omega)
                    rw [List.getElem?_map, hsv] at this
                    exact this
                  obtain ⟨hn, m', hS', hO', hgot⟩ := HO.out.put (by omega) HG.out (by omega) hsk (List.mem_of_getElem? hsv) (mem_erase HND.out hsv)
                  have hlen' : (lf.take p ++ lf.drop (p + 1)).length + 1 = lf.length := by simp; omega
                  have hG' := put_good' HG.out (by omega) (sv : Int) (fro sv)
                  have hplen : (JS.put s (sv : Int) (fro sv)).1.length ≤ 8 := by
                    have q1 := congrArg List.length hgot
                    have q2 := hO'.top
                    simp at q1
                    omega
                  obtain ⟨⟨o, s'⟩, hput⟩ : ∃ q, JS.put s (sv : Int) (fro sv) = q := ⟨_, rfl⟩
                  rw [hput] at hO' hgot hG' hplen
                  simp only at hO' hgot hG' hplen
                  have HPUT := Lib.hid hput
                  have HN := Lib.hid hn
                  have HO' := Lib.hid hO'
                  have HS' := Lib.hid hS'
                  have HGOT := Lib.hid hgot
                  have HG' := Lib.hid hG'
                  have HLEN' := Lib.hid hlen'
                  have HND' := Lib.hid (nodup_erase HND.out p)
                  have HLK' : Hid (∀ x ∈ lf.take p ++ lf.drop (p + 1), x < r + 1) := Lib.hid (fun x hx => HLK.out x ((mem_erase HND.out hsv x).1 hx).1)
                  have hsw : (Lit.int .i64 (sv : Int)).wf = true := wf_i64_iff.2 (by omega)
                  have HSW := Lib.hid hsw
                  have hmt := HO.out.top
                  have hds : 1 + (dec sv).size ≤ 9223372036854775807 := by have := dec_size sv (by omega); omega
                  obtain ⟨i9, hi9, hz90, hz91, hz92⟩ := info_parts info9
                  obtain ⟨i3b, hi3b, hz3b0, hz3b1, hz3b2⟩ := info_parts info3
                  clear hput hn hO' hS' hgot hG' hlen' hsw HO HS HND
                  go_wp2_with (first
                    | (go_at_call 28; ((with_reducible refine (dec_calls sv (by omega) _).mono ?_); rintro e w4 ⟨rfl, hb4⟩; have hR4 := HR.out.below hb4))
                    | (go_at_call 27; ((with_reducible refine (whole_calls sv (by omega) _ _).mono ?_); rintro e w5 ⟨rfl, hb5⟩; have hR5 := hR4.below hb5)))
                  refine (put_step (f := ⟨true, true, (sv : Int), (⟨#[112]⟩ : ByteArray) ++ dec sv⟩) hR5 HG.out (by omega) HSW.out HN.out HPUT.out).mono ?_
                  rintro e w6 ⟨A6, k6, rfl, ht6, hr6, hm6⟩
                  have hM6 : Mv J bl bh wr w6 := (((Mv.refl J bl bh wr).below hb4).below hb5).trans hm6
                  have HM6 := Lib.hid hM6
                  have HT6 := Lib.hid (txt_mv HT.out hJ1 hl1 hh1 hM6)
                  have HV6 : Hid (RowAt w6 w1.heap.size 3 1 (.slice (some ⟨g, off, none⟩) lf.length cap) lf.length (lf.map num)) := Lib.hid (RowAt.block HV.out fun b hb => by
                    have := RowAt.lt HV.out b hb
                    exact hM6.block b this.2 (by omega) (by omega) (by omega))
                  have HSRC := Lib.hid (src_row (P := Try.prog) Try.underlying38 ht6 (fun u hu => by obtain ⟨t, _, rfl⟩ := List.mem_map.1 hu; rfl))
                  have HR6 := Lib.hid hr6
                  clear hM6 hr6 ht6 hm6 hb4 hb5 hR4 hR5
                  go_wp2_with (first
                    | (go_at_call 14; ((with_reducible refine (num_calls _ _).mono ?_); rintro e w' ⟨rfl, rfl⟩))
                    | (at_builtin; refine wpList_append_at rfl (.tmp 87) (.tmp 88) 38 38 rfl i9 (.string ⟨#[]⟩) 16 Try.underlying38 hi9 hz90 hz91 hz92 rfl HT6.out rfl _ rfl _ _ HSRC.out (by unfold maxLen; simp; omega) (by simp; omega) (by have := HM.out.size; have := HM6.out.size; omega) ?_; intro v7 w7 hrow7 hgrow7 hnil7 hown7; have HR7 := Lib.hid (rep_kept HR6.out hgrow7 (own_ne HT6.out hJ1) (own_ne HT6.out hl1) (own_ne HT6.out hh1)); have HM7 := Lib.hid ((HM.out.trans HM6.out).grown hgrow7 (fun b hb => .inr (.inr (.inr (RowAt.lt HT6.out b hb).1)))); have HT7 : Hid (Txt w7 w1.heap.size v7 ((List.range m).map pt ++ o)) := Lib.hid (by unfold Txt; rw [List.length_append, List.map_append]; exact hrow7); have HV7 := Lib.hid (RowAt.kept HV6.out hgrow7 (fun b hb => row_apart HV6.out HT6.out (by decide) b hb)); have HSA := Lib.hid (src_row (P := Try.prog) Try.underlying50 (row_left HV7.out (p := p) (by omega)) (fun u hu => num_take hu)); clear hrow7 hgrow7 hnil7 hown7)
                    | (at_builtin; refine wpList_append_at rfl (.tmp 90) (.tmp 93) 50 50 rfl i3b (.int .i64 0) 8 Try.underlying50 hi3b hz3b0 hz3b1 hz3b2 rfl (RowAt.nil w7 w1.heap.size 3 1) rfl _ rfl _ _ HSA.out (by unfold maxLen; omega) (by omega) HM7.out.size ?_; intro v8 w8 hrow8 hgrow8 hnil8 hown8; have HR8 := Lib.hid (HR7.out.grown hgrow8); have HM8 := Lib.hid (HM7.out.grown hgrow8 (by simp [Value.ownBlock])); have HT8 : Hid (Txt w8 w1.heap.size v7 ((List.range m).map pt ++ o)) := Lib.hid (RowAt.kept HT7.out hgrow8 (by simp [Value.ownBlock])); have HV8 := Lib.hid (RowAt.kept HV7.out hgrow8 (by simp [Value.ownBlock])); have HSB := Lib.hid (src_rest HV8.out (by omega)); have H78 := Lib.hid hgrow8.size; have HOWN8 := Lib.hid hown8; have HROW8 := Lib.hid hrow8; clear hrow8 hgrow8 hnil8 hown8)
                    | (at_builtin; refine wpList_append_at rfl (.tmp 95) (.tmp 99) 50 50 rfl i3b (.int .i64 0) 8 Try.underlying50 hi3b hz3b0 hz3b1 hz3b2 rfl HROW8.out rfl _ rfl _ _ (HSB.out _) (by unfold maxLen; omega) (by omega) HM8.out.size ?_; intro v9 w9 hrow9 hgrow9 hnil9 hown9))
                  have HR9 := rep_kept HR8.out hgrow9 (own_ne HROW8.out hJ1) (own_ne HROW8.out hl1) (own_ne HROW8.out hh1)
                  have HM9 := HM8.out.grown hgrow9 (fun b hb => .inr (.inr (.inr (RowAt.lt HROW8.out b hb).1)))
                  have HT9 : Txt w9 w1.heap.size v7 ((List.range m').map pt) := by
                    rw [← HGOT.out]
                    refine RowAt.kept HT8.out hgrow9 (fun b hb e => ?_)
                    rcases HOWN8.out with h | h
                    · rw [h] at e; cases e
                    · rw [h] at e
                      have := (RowAt.lt HT7.out b hb).2
                      have e2 := Option.some.inj e
                      omega
                  have HV9 : RowAt w9 w1.heap.size 3 1 v9 (lf.take p ++ lf.drop (p + 1)).length ((lf.take p ++ lf.drop (p + 1)).map num) := row_cast hrow9 (by simp <;> omega) (by simp [List.map_append, List.map_take, List.map_drop])
                  refine ⟨⟨k + 1, m', lf.take p ++ lf.drop (p + 1), s', by go_num, by have := HLEN'.out; omega, HV9, HO'.out, HS'.out, HLK'.out, HND'.out, HR9, HG'.out, HM9, HT9⟩, ?_⟩
                  simp [intOf]
                  omega
              · have hinI : ((k : Int) < (len : Int)) = False := eq_false (by omega)
                have hpl : 0 < lf.length := hpos
                have hcap := row_cap HV.out
                have hpc : 0 ≤ cap := by omega
                have hpc1 : 1 ≤ cap := by omega
                have hpl1 : 1 ≤ lf.length := by omega
                by_cases hce : cap = 1
                · obtain rfl := hce
                  obtain ⟨sv, hsv⟩ : ∃ sv, lf[0]? = some sv := ⟨_, List.getElem?_eq_getElem hpl⟩
                  have hsk : sv < r + 1 := HLK.out sv (List.mem_of_getElem? hsv)
                  have hcell : wr.cell? ⟨g, off, none⟩ = some (.int .i64 (sv : Int)) := by
                    have := HV.out.cell 0 (by omega)
                    rw [List.getElem?_map, hsv] at this
                    exact this
                  obtain ⟨hn, m', hS', hO', hgot⟩ := HO.out.put (by omega) HG.out (by omega) hsk (List.mem_of_getElem? hsv) (mem_erase HND.out hsv)
                  have hlen' : (lf.take 0 ++ lf.drop (1)).length + 1 = lf.length := by simp; omega
                  have hG' := put_good' HG.out (by omega) (sv : Int) (fro sv)
                  have hplen : (JS.put s (sv : Int) (fro sv)).1.length ≤ 8 := by
                    have q1 := congrArg List.length hgot
                    have q2 := hO'.top
                    simp at q1
                    omega
                  obtain ⟨⟨o, s'⟩, hput⟩ : ∃ q, JS.put s (sv : Int) (fro sv) = q := ⟨_, rfl⟩
                  rw [hput] at hO' hgot hG' hplen
                  simp only at hO' hgot hG' hplen
                  have HPUT := Lib.hid hput
                  have HN := Lib.hid hn
                  have HO' := Lib.hid hO'
                  have HS' := Lib.hid hS'
                  have HGOT := Lib.hid hgot
                  have HG' := Lib.hid hG'
                  have HLEN' := Lib.hid hlen'
                  have HND' := Lib.hid (nodup_erase HND.out 0)
                  have HLK' : Hid (∀ x ∈ lf.take 0 ++ lf.drop (1), x < r + 1) := Lib.hid (fun x hx => HLK.out x ((mem_erase HND.out hsv x).1 hx).1)
                  have hsw : (Lit.int .i64 (sv : Int)).wf = true := wf_i64_iff.2 (by omega)
                  have HSW := Lib.hid hsw
                  have hmt := HO.out.top
                  have hds : 1 + (dec sv).size ≤ 9223372036854775807 := by have := dec_size sv (by omega); omega
                  obtain ⟨i9, hi9, hz90, hz91, hz92⟩ := info_parts info9
                  obtain ⟨i3b, hi3b, hz3b0, hz3b1, hz3b2⟩ := info_parts info3
                  clear hput hn hO' hS' hgot hG' hlen' hsw HO HS HND
                  go_wp2_with (first
                    | (go_at_call 28; ((with_reducible refine (dec_calls sv (by omega) _).mono ?_); rintro e w4 ⟨rfl, hb4⟩; have hR4 := HR.out.below hb4))
                    | (go_at_call 27; ((with_reducible refine (whole_calls sv (by omega) _ _).mono ?_); rintro e w5 ⟨rfl, hb5⟩; have hR5 := hR4.below hb5)))
                  refine (put_step (f := ⟨true, true, (sv : Int), (⟨#[112]⟩ : ByteArray) ++ dec sv⟩) hR5 HG.out (by omega) HSW.out HN.out HPUT.out).mono ?_
                  rintro e w6 ⟨A6, k6, rfl, ht6, hr6, hm6⟩
                  have hM6 : Mv J bl bh wr w6 := (((Mv.refl J bl bh wr).below hb4).below hb5).trans hm6
                  have HM6 := Lib.hid hM6
                  have HT6 := Lib.hid (txt_mv HT.out hJ1 hl1 hh1 hM6)
                  have HV6 : Hid (RowAt w6 w1.heap.size 3 1 (.slice (some ⟨g, off, none⟩) lf.length 1) lf.length (lf.map num)) := Lib.hid (RowAt.block HV.out fun b hb => by
                    have := RowAt.lt HV.out b hb
                    exact hM6.block b this.2 (by omega) (by omega) (by omega))
                  have HSRC := Lib.hid (src_row (P := Try.prog) Try.underlying38 ht6 (fun u hu => by obtain ⟨t, _, rfl⟩ := List.mem_map.1 hu; rfl))
                  have HR6 := Lib.hid hr6
                  clear hM6 hr6 ht6 hm6 hb4 hb5 hR4 hR5
                  go_wp2_with (first
                    | (go_at_call 14; ((with_reducible refine (num_calls _ _).mono ?_); rintro e w' ⟨rfl, rfl⟩))
                    | (at_builtin; refine wpList_append_at rfl (.tmp 87) (.tmp 88) 38 38 rfl i9 (.string ⟨#[]⟩) 16 Try.underlying38 hi9 hz90 hz91 hz92 rfl HT6.out rfl _ rfl _ _ HSRC.out (by unfold maxLen; simp; omega) (by simp; omega) (by have := HM.out.size; have := HM6.out.size; omega) ?_; intro v7 w7 hrow7 hgrow7 hnil7 hown7; have HR7 := Lib.hid (rep_kept HR6.out hgrow7 (own_ne HT6.out hJ1) (own_ne HT6.out hl1) (own_ne HT6.out hh1)); have HM7 := Lib.hid ((HM.out.trans HM6.out).grown hgrow7 (fun b hb => .inr (.inr (.inr (RowAt.lt HT6.out b hb).1)))); have HT7 : Hid (Txt w7 w1.heap.size v7 ((List.range m).map pt ++ o)) := Lib.hid (by unfold Txt; rw [List.length_append, List.map_append]; exact hrow7); have HV7 := Lib.hid (RowAt.kept HV6.out hgrow7 (fun b hb => row_apart HV6.out HT6.out (by decide) b hb)); have HSA := Lib.hid (src_row (P := Try.prog) Try.underlying50 (row_left HV7.out (p := 0) (by omega)) (fun u hu => num_take hu)); clear hrow7 hgrow7 hnil7 hown7)
                    | (at_builtin; refine wpList_append_at rfl (.tmp 90) (.tmp 93) 50 50 rfl i3b (.int .i64 0) 8 Try.underlying50 hi3b hz3b0 hz3b1 hz3b2 rfl (RowAt.nil w7 w1.heap.size 3 1) rfl _ rfl _ _ HSA.out (by unfold maxLen; omega) (by omega) HM7.out.size ?_; intro v8 w8 hrow8 hgrow8 hnil8 hown8; have HR8 := Lib.hid (HR7.out.grown hgrow8); have HM8 := Lib.hid (HM7.out.grown hgrow8 (by simp [Value.ownBlock])); have HT8 : Hid (Txt w8 w1.heap.size v7 ((List.range m).map pt ++ o)) := Lib.hid (RowAt.kept HT7.out hgrow8 (by simp [Value.ownBlock])); have HV8 := Lib.hid (RowAt.kept HV7.out hgrow8 (by simp [Value.ownBlock])); have HSB := Lib.hid (src_none w8 g); have H78 := Lib.hid hgrow8.size; have HOWN8 := Lib.hid hown8; have HROW8 := Lib.hid hrow8; clear hrow8 hgrow8 hnil8 hown8)
                    | (at_builtin; refine wpList_append_at rfl (.tmp 95) (.tmp 99) 50 50 rfl i3b (.int .i64 0) 8 Try.underlying50 hi3b hz3b0 hz3b1 hz3b2 rfl HROW8.out rfl _ rfl _ _ (HSB.out _ _) (by unfold maxLen; omega) (by omega) HM8.out.size ?_; intro v9 w9 hrow9 hgrow9 hnil9 hown9))
                  have HR9 := rep_kept HR8.out hgrow9 (own_ne HROW8.out hJ1) (own_ne HROW8.out hl1) (own_ne HROW8.out hh1)
                  have HM9 := HM8.out.grown hgrow9 (fun b hb => .inr (.inr (.inr (RowAt.lt HROW8.out b hb).1)))
                  have HT9 : Txt w9 w1.heap.size v7 ((List.range m').map pt) := by
                    rw [← HGOT.out]
                    refine RowAt.kept HT8.out hgrow9 (fun b hb e => ?_)
                    rcases HOWN8.out with h | h
                    · rw [h] at e; cases e
                    · rw [h] at e
                      have := (RowAt.lt HT7.out b hb).2
                      have e2 := Option.some.inj e
                      omega
                  have HV9 : RowAt w9 w1.heap.size 3 1 v9 (lf.take 0 ++ lf.drop (1)).length ((lf.take 0 ++ lf.drop (1)).map num) := row_cast hrow9 (by simp <;> omega) (by rw [List.drop_eq_nil_of_le (by omega)]; simp)
                  refine ⟨⟨k + 1, m', lf.take 0 ++ lf.drop (1), s', by go_num, by have := HLEN'.out; omega, HV9, HO'.out, HS'.out, HLK'.out, HND'.out, HR9, HG'.out, HM9, HT9⟩, ?_⟩
                  simp [intOf]
                  omega
                · have hce2 : ¬ cap = 1 := hce
                  obtain ⟨sv, hsv⟩ : ∃ sv, lf[0]? = some sv := ⟨_, List.getElem?_eq_getElem hpl⟩
                  have hsk : sv < r + 1 := HLK.out sv (List.mem_of_getElem? hsv)
                  have hcell : wr.cell? ⟨g, off, none⟩ = some (.int .i64 (sv : Int)) := by
                    have := HV.out.cell 0 (by omega)
                    rw [List.getElem?_map, hsv] at this
                    exact this
                  obtain ⟨hn, m', hS', hO', hgot⟩ := HO.out.put (by omega) HG.out (by omega) hsk (List.mem_of_getElem? hsv) (mem_erase HND.out hsv)
                  have hlen' : (lf.take 0 ++ lf.drop (1)).length + 1 = lf.length := by simp; omega
                  have hG' := put_good' HG.out (by omega) (sv : Int) (fro sv)
                  have hplen : (JS.put s (sv : Int) (fro sv)).1.length ≤ 8 := by
                    have q1 := congrArg List.length hgot
                    have q2 := hO'.top
                    simp at q1
                    omega
                  obtain ⟨⟨o, s'⟩, hput⟩ : ∃ q, JS.put s (sv : Int) (fro sv) = q := ⟨_, rfl⟩
                  rw [hput] at hO' hgot hG' hplen
                  simp only at hO' hgot hG' hplen
                  have HPUT := Lib.hid hput
                  have HN := Lib.hid hn
                  have HO' := Lib.hid hO'
                  have HS' := Lib.hid hS'
                  have HGOT := Lib.hid hgot
                  have HG' := Lib.hid hG'
                  have HLEN' := Lib.hid hlen'
                  have HND' := Lib.hid (nodup_erase HND.out 0)
                  have HLK' : Hid (∀ x ∈ lf.take 0 ++ lf.drop (1), x < r + 1) := Lib.hid (fun x hx => HLK.out x ((mem_erase HND.out hsv x).1 hx).1)
                  have hsw : (Lit.int .i64 (sv : Int)).wf = true := wf_i64_iff.2 (by omega)
                  have HSW := Lib.hid hsw
                  have hmt := HO.out.top
                  have hds : 1 + (dec sv).size ≤ 9223372036854775807 := by have := dec_size sv (by omega); omega
                  obtain ⟨i9, hi9, hz90, hz91, hz92⟩ := info_parts info9
                  obtain ⟨i3b, hi3b, hz3b0, hz3b1, hz3b2⟩ := info_parts info3
                  clear hput hn hO' hS' hgot hG' hlen' hsw HO HS HND
                  go_wp2_with (first
                    | (go_at_call 28; ((with_reducible refine (dec_calls sv (by omega) _).mono ?_); rintro e w4 ⟨rfl, hb4⟩; have hR4 := HR.out.below hb4))
                    | (go_at_call 27; ((with_reducible refine (whole_calls sv (by omega) _ _).mono ?_); rintro e w5 ⟨rfl, hb5⟩; have hR5 := hR4.below hb5)))
                  refine (put_step (f := ⟨true, true, (sv : Int), (⟨#[112]⟩ : ByteArray) ++ dec sv⟩) hR5 HG.out (by omega) HSW.out HN.out HPUT.out).mono ?_
                  rintro e w6 ⟨A6, k6, rfl, ht6, hr6, hm6⟩
                  have hM6 : Mv J bl bh wr w6 := (((Mv.refl J bl bh wr).below hb4).below hb5).trans hm6
                  have HM6 := Lib.hid hM6
                  have HT6 := Lib.hid (txt_mv HT.out hJ1 hl1 hh1 hM6)
                  have HV6 : Hid (RowAt w6 w1.heap.size 3 1 (.slice (some ⟨g, off, none⟩) lf.length cap) lf.length (lf.map num)) := Lib.hid (RowAt.block HV.out fun b hb => by
                    have := RowAt.lt HV.out b hb
                    exact hM6.block b this.2 (by omega) (by omega) (by omega))
                  have HSRC := Lib.hid (src_row (P := Try.prog) Try.underlying38 ht6 (fun u hu => by obtain ⟨t, _, rfl⟩ := List.mem_map.1 hu; rfl))
                  have HR6 := Lib.hid hr6
                  clear hM6 hr6 ht6 hm6 hb4 hb5 hR4 hR5
                  go_wp2_with (first
                    | (go_at_call 14; ((with_reducible refine (num_calls _ _).mono ?_); rintro e w' ⟨rfl, rfl⟩))
                    | (at_builtin; refine wpList_append_at rfl (.tmp 87) (.tmp 88) 38 38 rfl i9 (.string ⟨#[]⟩) 16 Try.underlying38 hi9 hz90 hz91 hz92 rfl HT6.out rfl _ rfl _ _ HSRC.out (by unfold maxLen; simp; omega) (by simp; omega) (by have := HM.out.size; have := HM6.out.size; omega) ?_; intro v7 w7 hrow7 hgrow7 hnil7 hown7; have HR7 := Lib.hid (rep_kept HR6.out hgrow7 (own_ne HT6.out hJ1) (own_ne HT6.out hl1) (own_ne HT6.out hh1)); have HM7 := Lib.hid ((HM.out.trans HM6.out).grown hgrow7 (fun b hb => .inr (.inr (.inr (RowAt.lt HT6.out b hb).1)))); have HT7 : Hid (Txt w7 w1.heap.size v7 ((List.range m).map pt ++ o)) := Lib.hid (by unfold Txt; rw [List.length_append, List.map_append]; exact hrow7); have HV7 := Lib.hid (RowAt.kept HV6.out hgrow7 (fun b hb => row_apart HV6.out HT6.out (by decide) b hb)); have HSA := Lib.hid (src_row (P := Try.prog) Try.underlying50 (row_left HV7.out (p := 0) (by omega)) (fun u hu => num_take hu)); clear hrow7 hgrow7 hnil7 hown7)
                    | (at_builtin; refine wpList_append_at rfl (.tmp 90) (.tmp 93) 50 50 rfl i3b (.int .i64 0) 8 Try.underlying50 hi3b hz3b0 hz3b1 hz3b2 rfl (RowAt.nil w7 w1.heap.size 3 1) rfl _ rfl _ _ HSA.out (by unfold maxLen; omega) (by omega) HM7.out.size ?_; intro v8 w8 hrow8 hgrow8 hnil8 hown8; have HR8 := Lib.hid (HR7.out.grown hgrow8); have HM8 := Lib.hid (HM7.out.grown hgrow8 (by simp [Value.ownBlock])); have HT8 : Hid (Txt w8 w1.heap.size v7 ((List.range m).map pt ++ o)) := Lib.hid (RowAt.kept HT7.out hgrow8 (by simp [Value.ownBlock])); have HV8 := Lib.hid (RowAt.kept HV7.out hgrow8 (by simp [Value.ownBlock])); have HSB := Lib.hid (src_rest (p := 0) HV8.out (by omega)); have H78 := Lib.hid hgrow8.size; have HOWN8 := Lib.hid hown8; have HROW8 := Lib.hid hrow8; clear hrow8 hgrow8 hnil8 hown8)
                    | (at_builtin; refine wpList_append_at rfl (.tmp 95) (.tmp 99) 50 50 rfl i3b (.int .i64 0) 8 Try.underlying50 hi3b hz3b0 hz3b1 hz3b2 rfl HROW8.out rfl _ rfl _ _ (HSB.out _) (by unfold maxLen; omega) (by omega) HM8.out.size ?_; intro v9 w9 hrow9 hgrow9 hnil9 hown9))
                  have HR9 := rep_kept HR8.out hgrow9 (own_ne HROW8.out hJ1) (own_ne HROW8.out hl1) (own_ne HROW8.out hh1)
                  have HM9 := HM8.out.grown hgrow9 (fun b hb => .inr (.inr (.inr (RowAt.lt HROW8.out b hb).1)))
                  have HT9 : Txt w9 w1.heap.size v7 ((List.range m').map pt) := by
                    rw [← HGOT.out]
                    refine RowAt.kept HT8.out hgrow9 (fun b hb e => ?_)
                    rcases HOWN8.out with h | h
                    · rw [h] at e; cases e
                    · rw [h] at e
                      have := (RowAt.lt HT7.out b hb).2
                      have e2 := Option.some.inj e
                      omega
                  have HV9 : RowAt w9 w1.heap.size 3 1 v9 (lf.take 0 ++ lf.drop (1)).length ((lf.take 0 ++ lf.drop (1)).map num) := row_cast hrow9 (by simp <;> omega) (by simp [List.map_append, List.map_take, List.map_drop])
                  refine ⟨⟨k + 1, m', lf.take 0 ++ lf.drop (1), s', by go_num, by have := HLEN'.out; omega, HV9, HO'.out, HS'.out, HLK'.out, HND'.out, HR9, HG'.out, HM9, HT9⟩, ?_⟩
                  simp [intOf]
                  omega

end Go.Proofs.Ytcpehjdnmhkcpaa.LOrder
