/- The queue as plain data: what always holds of it. -/
import Derived.Test.YtcahedlgmljhkaaQP
namespace Go.Proofs.Ytcahedlgmljhkaa.QG
open Go Go.RowKit Go.Proofs.Ytcahedlgmljhkaa.Plain Go.Proofs.Ytcahedlgmljhkaa.QP

/-- How many of a packet wait on a link. -/
def cntL (l : List Wt) (p : Nat) : Nat := (l.filter (fun x => x.p == p)).length
/-- How many of a packet wait. -/
def cnt (s : QS) (p : Nat) : Nat := (s.keys.map fun k => cntL (s.waits k) p).sum

structure Good (s : QS) (n : Nat) : Prop where
  z0 : 1 ≤ s.size
  z1 : s.size ≤ 1500
  seq0 : 0 ≤ s.seq
  seq1 : s.seq < ringOf s.short
  pk : ∀ t ∈ s.packets, okPk s.size t = true
  few : s.packets.length + s.opens.length ≤ 64
  cut : s.cut ≤ n
  keys : ∀ k ∈ s.keys, 0 ≤ k ∧ k ≤ 9223372036854775807
  kn : s.keys.length ≤ 8
  nodup : s.keys.Nodup
  wl : ∀ k ∈ s.keys, (s.waits k).length ≤ 64 * s.cut
  wp : ∀ k ∈ s.keys, ∀ x ∈ s.waits k, x.p < s.cut ∧ (lkp s.opens x.p).isSome = true
  op : ∀ p ∈ s.opens, ∃ q : Nat, p.1 = (q : Int) ∧ q < s.cut ∧ p.2 = (cnt s q : Int) ∧ 0 < cnt s q
  on : s.opens.Pairwise (fun p q => p.1 ≠ q.1)

variable {s : QS} {n : Nat} {x : Int}

theorem Good.mono (h : Good s n) {m : Nat} (hm : n ≤ m) : Good s m := ⟨h.z0, h.z1, h.seq0, h.seq1, h.pk, h.few, Nat.le_trans h.cut hm, h.keys, h.kn, h.nodup, h.wl, h.wp, h.op, h.on⟩

theorem new_good (z : Nat) (short : Bool) (h0 : 1 ≤ z) (h1 : z ≤ 1500) : Good (QS.new z short) 0 := by
  have := ringOf_size short
  exact ⟨h0, h1, Int.le_refl _, (by show (0 : Int) < ringOf short; omega), fun t h => (by cases h), Nat.zero_le _, Nat.le_refl _, fun k h => (by cases h), Nat.zero_le _, List.nodup_nil, fun k h => (by cases h), fun k h => (by cases h), fun k h => (by cases h), List.Pairwise.nil⟩

theorem cnt_congr {s s' : QS} (hk : s'.keys = s.keys) (hw : ∀ k ∈ s.keys, s'.waits k = s.waits k) (p : Nat) : cnt s' p = cnt s p := by
  unfold cnt
  rw [hk, List.map_congr_left (fun k h => by rw [hw k h])]

theorem add_good (h : Good s n) (hx : x ≤ 9223372036854775807) : Good (s.add x) n := by
  unfold QS.add
  split
  · rename_i hn
    have hx0 : 0 ≤ x ∧ ¬ x ∈ s.keys ∧ s.keys.length < 8 := by
      unfold QS.addNum at hn
      split at hn
      · cases hn
      · rename_i hc
        split at hn
        · cases hn
        · rename_i h8
          rw [has_spec] at hc
          exact ⟨by omega, fun hm => hc (.inr hm), by omega⟩
    have hw : ∀ k ∈ s.keys, upd s.waits x [] k = s.waits k := fun k hk => upd_other _ _ (fun e => hx0.2.1 (e ▸ hk))
    have hcnt : ∀ p, cnt { s with keys := s.keys ++ [x], drains := upd s.drains x false, waits := upd s.waits x [] } p = cnt s p := fun p => by
      unfold cnt
      simp only [List.map_append, List.map_cons, List.map_nil, List.sum_append, List.sum_cons, List.sum_nil, upd_same]
      rw [List.map_congr_left (fun k hk => by rw [hw k hk])]
      simp [cntL]
    refine ⟨h.z0, h.z1, h.seq0, h.seq1, h.pk, h.few, h.cut, fun k hk => ?_, by simp; omega, ?_, fun k hk => ?_, fun k hk y hy => ?_, fun p hp => ?_, h.on⟩
    · rcases List.mem_append.1 hk with hk | hk
      · exact h.keys k hk
      · simp at hk; subst hk; exact ⟨hx0.1, hx⟩
    · exact List.nodup_append.2 ⟨h.nodup, by simp, fun a ha b hb => by simp at hb; subst hb; exact fun e => hx0.2.1 (e ▸ ha)⟩
    · rcases List.mem_append.1 hk with hk | hk
      · simp only [hw k hk]; exact h.wl k hk
      · simp at hk; subst hk; simp [upd_same]
    · rcases List.mem_append.1 hk with hk | hk
      · simp only [hw k hk] at hy; exact h.wp k hk y hy
      · simp at hk; subst hk; simp [upd_same] at hy
    · obtain ⟨q, a, b, c, d⟩ := h.op p hp
      exact ⟨q, a, b, by rw [hcnt]; exact c, by rw [hcnt]; exact d⟩
  · exact h

theorem drain_good (h : Good s n) : Good (s.drain x) n := by
  unfold QS.drain
  split
  · exact ⟨h.z0, h.z1, h.seq0, h.seq1, h.pk, h.few, h.cut, h.keys, h.kn, h.nodup, h.wl, h.wp, h.op, h.on⟩
  · exact h

theorem sum_filter {l : List Int} (hn : l.Nodup) (f : Int → Nat) {x : Int} (hx : x ∈ l) : (l.map f).sum = f x + ((l.filter (· != x)).map f).sum := by
  induction l with
  | nil => cases hx
  | cons y l ih =>
    obtain ⟨h1, h2⟩ := List.nodup_cons.1 hn
    rcases List.mem_cons.1 hx with rfl | hx
    · have : l.filter (· != x) = l := List.filter_eq_self.2 (fun a ha => by simp; exact fun e => h1 (e ▸ ha))
      simp [this]
    · have hne : y ≠ x := fun e => h1 (e ▸ hx)
      have : (y :: l).filter (· != x) = y :: l.filter (· != x) := by simp [hne]
      rw [this]
      simp only [List.map_cons, List.sum_cons, ih h2 hx]
      omega

theorem drop_good (h : Good s n) : Good (s.drop x) n := by
  unfold QS.drop
  split
  · rename_i hn
    have hx : x ∈ s.keys ∧ s.waits x = [] := by
      unfold QS.dropNum at hn
      split at hn
      · rename_i hc
        split at hn
        · rename_i he
          exact ⟨has_spec.1 hc, he⟩
        · cases hn
      · cases hn
    have hsub : ∀ k ∈ s.keys.filter (· != x), k ∈ s.keys := fun k hk => (List.mem_filter.1 hk).1
    have hcnt : ∀ p, cnt { s with keys := s.keys.filter (· != x) } p = cnt s p := fun p => by
      unfold cnt
      simp only
      rw [sum_filter h.nodup (fun k => cntL (s.waits k) p) hx.1, hx.2]
      simp [cntL]
    refine ⟨h.z0, h.z1, h.seq0, h.seq1, h.pk, h.few, h.cut, fun k hk => h.keys k (hsub k hk), Nat.le_trans (List.length_filter_le _ _) h.kn, h.nodup.filter _, fun k hk => h.wl k (hsub k hk), fun k hk => h.wp k (hsub k hk), fun p hp => ?_, h.on⟩
    obtain ⟨q, a, b, c, d⟩ := h.op p hp
    exact ⟨q, a, b, by rw [hcnt]; exact c, by rw [hcnt]; exact d⟩
  · exact h

theorem sub_good (h : Good s n) (t : ByteArray) : Good (s.sub t) n := by
  unfold QS.sub
  split
  · rename_i hn
    have ht : okPk s.size t = true ∧ s.len < 64 := by
      unfold QS.subNum at hn
      split at hn
      · rename_i hc
        split at hn
        · cases hn
        · exact ⟨hc, by omega⟩
      · cases hn
    have hl := ht.2
    unfold QS.len at hl
    refine ⟨h.z0, h.z1, h.seq0, h.seq1, fun u hu => ?_, by simp; omega, h.cut, h.keys, h.kn, h.nodup, h.wl, h.wp, h.op, h.on⟩
    rcases List.mem_append.1 hu with hu | hu
    · exact h.pk u hu
    · simp at hu; subst hu; exact ht.1
  · exact h

/-! ### Dealing -/

variable {row : List Int} {fs : Nat → Fr} {p : Nat} {W : Int → List Wt}

theorem row_at (h : 0 < row.length) (i : Nat) : row.getD (i % row.length) 0 ∈ row := by
  have hi := Nat.mod_lt i h
  rw [List.getD_eq_getElem?_getD, List.getElem?_eq_getElem hi]
  exact List.getElem_mem hi

theorem deals_len (i : Nat) (k : Int) : (W k).length ≤ (deals row fs p W i k).length ∧ (deals row fs p W i k).length ≤ (W k).length + i := by
  induction i with
  | zero => exact ⟨Nat.le_refl _, Nat.le_refl _⟩
  | succ i ih =>
    unfold deals upd
    split
    · rename_i e
      subst e
      rw [List.length_append, List.length_singleton]
      omega
    · omega

theorem deals_mem (i : Nat) (k : Int) {y : Wt} (h : y ∈ deals row fs p W i k) : y ∈ W k ∨ y.p = p := by
  induction i with
  | zero => exact .inl h
  | succ i ih =>
    unfold deals upd at h
    split at h
    · rename_i e
      subst e
      rcases List.mem_append.1 h with h | h
      · exact ih h
      · simp at h; subst h; exact .inr rfl
    · exact ih h

theorem deals_off (h : 0 < row.length) (i : Nat) {k : Int} (hk : k ∉ row) : deals row fs p W i k = W k := by
  induction i with
  | zero => rfl
  | succ i ih =>
    unfold deals
    rw [upd_other _ _ (fun e => hk (by rw [e]; exact row_at h i)), ih]

theorem deals_other (i : Nat) (k : Int) {q : Nat} (hq : q ≠ p) : cntL (deals row fs p W i k) q = cntL (W k) q := by
  induction i with
  | zero => rfl
  | succ i ih =>
    unfold deals upd
    split
    · rename_i e
      subst e
      rw [← ih]
      unfold cntL
      rw [List.filter_append]
      have : ¬ p = q := fun e => hq e.symm
      simp [this]
    · exact ih

theorem sum_upd {keys : List Int} (hn : keys.Nodup) {r : Int} (hr : r ∈ keys) (V : Int → List Wt) (v : List Wt) (q c : Nat) (hc : cntL v q + c = cntL (V r) q + 1) :
    (keys.map fun k => cntL (upd V r v k) q).sum + c = (keys.map fun k => cntL (V k) q).sum + 1 := by
  rw [sum_filter hn (fun k => cntL (upd V r v k) q) hr, sum_filter hn (fun k => cntL (V k) q) hr, upd_same]
  have : ((keys.filter (· != r)).map fun k => cntL (upd V r v k) q) = (keys.filter (· != r)).map fun k => cntL (V k) q := List.map_congr_left (fun k hk => by
    have := (List.mem_filter.1 hk).2
    rw [upd_other _ _ (by simpa using this)])
  rw [this]
  omega

theorem deals_all {keys : List Int} (hn : keys.Nodup) (h : 0 < row.length) (hr : ∀ r ∈ row, r ∈ keys) (i : Nat) : (keys.map fun k => cntL (deals row fs p W i k) p).sum = (keys.map fun k => cntL (W k) p).sum + i := by
  induction i with
  | zero => rfl
  | succ i ih =>
    have := sum_upd hn (hr _ (row_at h i)) (deals row fs p W i) (deals row fs p W i (row.getD (i % row.length) 0) ++ [⟨fs i, p⟩]) p 0 (by unfold cntL; simp)
    unfold deals
    omega

theorem row_mem {x k : Int} : k ∈ s.row x ↔ k ∈ s.keys ∧ s.drains k = false := by
  unfold QS.row
  rw [List.mem_append, (isort_perm _).mem_iff, (isort_perm _).mem_iff, List.mem_filter, List.mem_filter]
  constructor
  · rintro (⟨h1, h2⟩ | ⟨h1, h2⟩)
    · simp at h2; exact ⟨h1, h2.1⟩
    · simp at h2; exact ⟨h1, h2.1⟩
  · rintro ⟨h1, h2⟩
    by_cases c : k < x
    · exact .inr ⟨h1, by simp [h2, c]⟩
    · exact .inl ⟨h1, by simp [h2]; omega⟩

theorem lkp_none {m : List (Int × Int)} {x : Int} : lkp m x = none ↔ ∀ p ∈ m, p.1 ≠ x := by
  unfold lkp
  simp [List.find?_eq_none]
theorem lkp_mem {m : List (Int × Int)} {x v : Int} (h : lkp m x = some v) : (x, v) ∈ m := by
  unfold lkp at h
  obtain ⟨p, hp, rfl⟩ := Option.map_eq_some_iff.1 h
  have h1 := List.find?_some hp
  have h2 := List.mem_of_find?_eq_some hp
  obtain ⟨a, c⟩ := p
  simp at h1
  subst h1
  exact h2
theorem lkp_some {m : List (Int × Int)} {x v : Int} (h : (x, v) ∈ m) : (lkp m x).isSome = true := by
  cases hl : lkp m x with
  | none => exact absurd rfl (lkp_none.1 hl _ h)
  | some _ => rfl
theorem dlt_none {m : List (Int × Int)} {x : Int} (h : lkp m x = none) : dlt m x = m := by
  unfold dlt
  rw [List.filter_eq_self]
  intro p hp
  simpa using lkp_none.1 h p hp
theorem dlt_len {m : List (Int × Int)} {x : Int} (h : (lkp m x).isSome = true) : (dlt m x).length + 1 ≤ m.length := by
  obtain ⟨v, hv⟩ := Option.isSome_iff_exists.1 h
  have hm := lkp_mem hv
  unfold dlt
  have : (m.filter (fun p => p.1 != x)).length < m.length := by
    refine Nat.lt_of_le_of_ne (List.length_filter_le _ _) (fun e => ?_)
    have := List.length_filter_eq_length_iff.1 e _ hm
    simp at this
  omega

theorem pieces_pos {z : Nat} {t : ByteArray} (hz : 1 ≤ z) (ht : 1 ≤ t.size) : 1 ≤ pieces z t := by
  unfold pieces
  exact (Nat.le_div_iff_mul_le hz).2 (by omega)

/-- Behind a deal. -/
theorem deal_good (h : Good s n) (hx : x ∈ s.keys) (hd : s.drains x = false) (hp : s.packets ≠ []) : Good (s.deal x) (n + 1) := by
  obtain ⟨t, ts, ht⟩ : ∃ t ts, s.packets = t :: ts := by cases hq : s.packets with | nil => exact absurd hq hp | cons t ts => exact ⟨t, ts, rfl⟩
  have hok := okPk_spec.1 (h.pk t (by rw [ht]; simp))
  have hr : 0 < (s.row x).length := by
    have : x ∈ s.row x := row_mem.2 ⟨hx, hd⟩
    exact List.length_pos_of_mem this
  have hrk : ∀ r ∈ s.row x, r ∈ s.keys := fun r hr => (row_mem.1 hr).1
  have hhd : s.packets.headD ⟨#[]⟩ = t := by rw [ht]; rfl
  have htl : s.packets.tail = ts := by rw [ht]; rfl
  have hnone : lkp s.opens s.cut = none := lkp_none.2 (fun q hq e => by
    obtain ⟨r, a, b, _⟩ := h.op q hq
    rw [a] at e
    omega)
  have hpst : ∀ v, pst s.opens s.cut v = s.opens ++ [((s.cut : Int), v)] := fun v => by unfold pst; rw [dlt_none hnone]
  have hp1 := pieces_pos h.z0 hok.1
  have hring := ringOf_size s.short
  have h0 : (s.keys.map fun k => cntL (s.waits k) s.cut).sum = 0 := by
    rw [List.sum_eq_zero_iff_forall_eq_nat]
    intro c hc
    obtain ⟨k, hk, rfl⟩ := List.mem_map.1 hc
    unfold cntL
    rw [List.length_eq_zero_iff, List.filter_eq_nil_iff]
    intro y hy
    have := (h.wp k hk y hy).1
    simp
    omega
  unfold QS.deal
  rw [hhd, htl, hpst]
  have hcs : ∀ q, cnt { s with waits := deals (s.row x) (frag t s.size (pieces s.size t) s.seq (ringOf s.short)) s.cut s.waits (pieces s.size t), opens := s.opens ++ [((s.cut : Int), (pieces s.size t : Int))], cut := s.cut + 1, packets := ts, seq := (s.seq + pieces s.size t) % ringOf s.short } q = if q = s.cut then pieces s.size t else cnt s q := fun q => by
    unfold cnt
    simp only
    split
    · rename_i e
      subst e
      rw [deals_all h.nodup hr hrk, h0]
      omega
    · rename_i e
      rw [List.map_congr_left (fun k _ => deals_other _ k e)]
  have hfew := h.few
  rw [ht] at hfew
  simp at hfew
  refine ⟨h.z0, h.z1, Int.emod_nonneg _ (by omega), Int.emod_lt_of_pos _ (by omega), fun u hu => h.pk u (by rw [ht]; exact List.mem_cons_of_mem _ hu), by simp; omega, by have := h.cut; simp only; omega, h.keys, h.kn, h.nodup, fun k hk => ?_, fun k hk y hy => ?_, fun q hq => ?_, ?_⟩
  · have a := (deals_len (row := s.row x) (fs := frag t s.size (pieces s.size t) s.seq (ringOf s.short)) (p := s.cut) (W := s.waits) (pieces s.size t) k).2
    have b := h.wl k hk
    simp only
    omega
  · rcases deals_mem _ _ hy with hy | hy
    · obtain ⟨a, b⟩ := h.wp k hk y hy
      refine ⟨by simp only; omega, ?_⟩
      obtain ⟨v, hv⟩ := Option.isSome_iff_exists.1 b
      exact lkp_some (v := v) (List.mem_append_left _ (lkp_mem hv))
    · exact ⟨by simp only; omega, lkp_some (v := pieces s.size t) (List.mem_append_right _ (by rw [hy]; simp))⟩
  · simp only at hq ⊢
    rcases List.mem_append.1 hq with hq | hq
    · obtain ⟨r, a, b, c, d⟩ := h.op q hq
      exact ⟨r, a, by omega, by rw [hcs, if_neg (by omega)]; exact c, by rw [hcs, if_neg (by omega)]; exact d⟩
    · simp at hq
      subst hq
      exact ⟨s.cut, rfl, by omega, by rw [hcs, if_pos rfl], by rw [hcs, if_pos rfl]; omega⟩
  · refine List.pairwise_append.2 ⟨h.on, by simp, fun a ha b hb => ?_⟩
    simp at hb
    subst hb
    exact lkp_none.1 hnone a ha

/-- Behind a fragment that is taken. -/
theorem pop_good (h : Good s n) (hx : x ∈ s.keys) (hw : s.waits x ≠ []) : Good (s.pop x) n := by
  obtain ⟨y, ys, hy⟩ : ∃ y ys, s.waits x = y :: ys := by cases hq : s.waits x with | nil => exact absurd hq hw | cons t ts => exact ⟨t, ts, rfl⟩
  obtain ⟨hyc, hyo⟩ := h.wp x hx y (by rw [hy]; simp)
  obtain ⟨v, hv⟩ := Option.isSome_iff_exists.1 hyo
  obtain ⟨q, hq, hqc, hqv, hq0⟩ := h.op _ (lkp_mem hv)
  simp only at hq hqv
  obtain rfl : y.p = q := by omega
  have hlen := dlt_len (x := (y.p : Int)) hyo
  have hcs : ∀ q o, cnt { s with waits := upd s.waits x ys, opens := o } q = if q = y.p then cnt s q - 1 else cnt s q := fun q o => by
    unfold cnt
    simp only
    split
    · rename_i e
      subst e
      have := sum_upd h.nodup hx s.waits ys y.p 2 (by rw [hy]; unfold cntL; simp)
      omega
    · rename_i e
      have hne : (y.p == q) = false := by simp; omega
      have := sum_upd h.nodup hx s.waits ys q 1 (by rw [hy]; unfold cntL; rw [List.filter_cons, hne]; simp)
      omega
  have hhd : ((s.waits x).headD ⟨Fr.none, 0⟩).p = y.p := by rw [hy]; rfl
  unfold QS.pop
  rw [hhd, show (s.waits x).tail = ys from by rw [hy]; rfl]
  unfold less
  rw [hv]
  simp only [Option.getD_some]
  have hmem : ∀ k, ∀ u ∈ upd s.waits x ys k, u ∈ s.waits k := fun k u hu => by
    unfold upd at hu
    split at hu
    · rename_i e
      subst e
      rw [hy]
      exact List.mem_cons_of_mem _ hu
    · exact hu
  have hwl : ∀ k ∈ s.keys, (upd s.waits x ys k).length ≤ 64 * s.cut := fun k hk => by
    have := h.wl k hk
    unfold upd
    split
    · rename_i e
      subst e
      rw [hy] at this
      simp at this
      omega
    · exact this
  have hdd : dlt (pst s.opens y.p (v - 1)) y.p = dlt s.opens y.p := by
    unfold dlt pst dlt
    rw [List.filter_append, List.filter_filter]
    simp
  have hfew := h.few
  split
  · rename_i hv1
    rw [hdd]
    have hc1 : cnt s y.p = 1 := by omega
    have hz : ∀ k ∈ s.keys, ∀ u ∈ upd s.waits x ys k, u.p ≠ y.p := by
      intro k hk u hu e
      have h0 : cnt { s with waits := upd s.waits x ys, opens := s.opens } y.p = 0 := by rw [hcs, if_pos rfl]; omega
      unfold cnt at h0
      rw [List.sum_eq_zero_iff_forall_eq_nat] at h0
      have := h0 _ (List.mem_map.2 ⟨k, hk, rfl⟩)
      unfold cntL at this
      rw [List.length_eq_zero_iff, List.filter_eq_nil_iff] at this
      have := this u hu
      simp [e] at this
    refine ⟨h.z0, h.z1, h.seq0, h.seq1, h.pk, by simp only; omega, h.cut, h.keys, h.kn, h.nodup, hwl, fun k hk u hu => ?_, fun p hp => ?_, h.on.filter _⟩
    · obtain ⟨a, b⟩ := h.wp k hk u (hmem k u hu)
      refine ⟨a, ?_⟩
      obtain ⟨v', hv'⟩ := Option.isSome_iff_exists.1 b
      refine lkp_some (v := v') (List.mem_filter.2 ⟨lkp_mem hv', ?_⟩)
      have := hz k hk u hu
      simp
      omega
    · obtain ⟨hp1, hp2⟩ := List.mem_filter.1 hp
      obtain ⟨r, a, b, c, d⟩ := h.op p hp1
      have hne : ¬ r = y.p := fun e => by rw [a, e] at hp2; simp at hp2
      exact ⟨r, a, b, by rw [hcs, if_neg hne]; exact c, by rw [hcs, if_neg hne]; exact d⟩
  · rename_i hv1
    unfold pst
    refine ⟨h.z0, h.z1, h.seq0, h.seq1, h.pk, by simp; omega, h.cut, h.keys, h.kn, h.nodup, hwl, fun k hk u hu => ?_, fun p hp => ?_, ?_⟩
    · obtain ⟨a, b⟩ := h.wp k hk u (hmem k u hu)
      refine ⟨a, ?_⟩
      obtain ⟨v', hv'⟩ := Option.isSome_iff_exists.1 b
      by_cases e : u.p = y.p
      · exact lkp_some (v := v - 1) (List.mem_append_right _ (by rw [e]; simp))
      · exact lkp_some (v := v') (List.mem_append_left _ (List.mem_filter.2 ⟨lkp_mem hv', by simp; omega⟩))
    · rcases List.mem_append.1 hp with hp | hp
      · obtain ⟨hp1, hp2⟩ := List.mem_filter.1 hp
        obtain ⟨r, a, b, c, d⟩ := h.op p hp1
        have hne : ¬ r = y.p := fun e => by rw [a, e] at hp2; simp at hp2
        exact ⟨r, a, b, by rw [hcs, if_neg hne]; exact c, by rw [hcs, if_neg hne]; exact d⟩
      · simp at hp
        subst hp
        refine ⟨y.p, rfl, hyc, ?_, ?_⟩
        · rw [hcs, if_pos rfl]; simp only; omega
        · rw [hcs, if_pos rfl]; omega
    · refine List.pairwise_append.2 ⟨h.on.filter _, by simp, fun a ha b hb => ?_⟩
      simp at hb
      subst hb
      have := (List.mem_filter.1 ha).2
      simpa using this

theorem take_spec (h : s.takeNum x = 0) : x ∈ s.keys ∧ (s.waits x ≠ [] ∨ (s.waits x = [] ∧ s.drains x = false ∧ s.packets ≠ [])) := by
  unfold QS.takeNum at h
  split at h
  · rename_i hc
    split at h
    · cases h
    · rename_i hn
      refine ⟨has_spec.1 hc, ?_⟩
      by_cases hw : s.waits x = []
      · refine .inr ⟨hw, ?_, fun e => hn ⟨hw, .inr e⟩⟩
        cases hd : s.drains x
        · rfl
        · exact absurd ⟨hw, .inl hd⟩ hn
      · exact .inl hw
  · cases h

/-- A deal gives the one that asks something. -/
theorem deal_first (h : Good s n) (hx : x ∈ s.keys) (hd : s.drains x = false) (hp : s.packets ≠ []) : (s.deal x).waits x ≠ [] := by
  obtain ⟨t, ts, ht⟩ : ∃ t ts, s.packets = t :: ts := by cases hq : s.packets with | nil => exact absurd hq hp | cons t ts => exact ⟨t, ts, rfl⟩
  have hok := okPk_spec.1 (h.pk t (by rw [ht]; simp))
  have hp1 := pieces_pos h.z0 hok.1
  have hr : x ∈ s.row x := row_mem.2 ⟨hx, hd⟩
  have h0 : (s.row x).getD 0 0 = x := by
    have h1 : isort (s.keys.filter fun k => !s.drains k && !decide (k < x)) ≠ [] := fun e => by
      have : x ∈ isort (s.keys.filter fun k => !s.drains k && !decide (k < x)) := (isort_perm _).mem_iff.2 (List.mem_filter.2 ⟨hx, by simp [hd]⟩)
      rw [e] at this
      cases this
    unfold QS.row
    obtain ⟨a, l, e⟩ : ∃ a l, isort (s.keys.filter fun k => !s.drains k && !decide (k < x)) = a :: l := by cases hq : isort (s.keys.filter fun k => !s.drains k && !decide (k < x)) with | nil => exact absurd hq h1 | cons a l => exact ⟨a, l, rfl⟩
    have hs := isort_sorted (s.keys.filter fun k => !s.drains k && !decide (k < x))
    have hxm : x ∈ isort (s.keys.filter fun k => !s.drains k && !decide (k < x)) := (isort_perm _).mem_iff.2 (List.mem_filter.2 ⟨hx, by simp [hd]⟩)
    have ham : a ∈ isort (s.keys.filter fun k => !s.drains k && !decide (k < x)) := by rw [e]; simp
    rw [(isort_perm _).mem_iff, List.mem_filter] at ham
    have ha := ham.2
    simp at ha
    rw [e] at hs hxm
    rw [e]
    show a = x
    rcases List.mem_cons.1 hxm with h2 | h2
    · exact h2.symm
    · have := (List.pairwise_cons.1 hs).1 x h2
      omega
  have hone : ∀ i, 0 < i → deals (s.row x) (frag t s.size (pieces s.size t) s.seq (ringOf s.short)) s.cut s.waits i x ≠ [] := by
    intro i hi
    induction i with
    | zero => omega
    | succ i ih =>
      unfold deals upd
      split
      · simp
      · rename_i e
        rcases Nat.eq_zero_or_pos i with h1 | h1
        · subst h1
          rw [Nat.zero_mod, h0] at e
          exact absurd rfl e
        · exact ih h1
  unfold QS.deal
  rw [show s.packets.headD ⟨#[]⟩ = t from by rw [ht]; rfl]
  exact hone _ hp1

theorem peek_good (h : Good s n) (ht : s.takeNum x = 0) : Good (s.peek x) (n + 1) ∧ (s.peek x).waits x ≠ [] ∧ (s.peek x).keys = s.keys := by
  obtain ⟨hx, hc⟩ := take_spec ht
  unfold QS.peek
  rcases hc with hw | ⟨hw, hd, hp⟩
  · rw [if_neg hw]
    exact ⟨h.mono (by omega), hw, rfl⟩
  · rw [if_pos hw]
    exact ⟨deal_good h hx hd hp, deal_first h hx hd hp, rfl⟩

theorem take_good (h : Good s n) : Good (s.take x) (n + 1) := by
  unfold QS.take
  split
  · rename_i ht
    obtain ⟨a, b, c⟩ := peek_good h ht
    exact pop_good a (by rw [c]; exact (take_spec ht).1) b
  · exact h.mono (by omega)

end Go.Proofs.Ytcahedlgmljhkaa.QG
