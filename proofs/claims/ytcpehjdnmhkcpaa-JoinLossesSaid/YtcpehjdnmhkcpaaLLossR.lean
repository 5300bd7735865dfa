/- JoinLosses, plain data. -/
import Derived.Test.YtcpehjdnmhkcpaaLTwiceP
import Derived.Test.YtcpehjdnmhkcpaaLLinksP
import Derived.Test.YtcpehjdnmhkcpaaPJoinLossesx3
import Derived.Test.YtcpehjdnmhkcpaaJoinK
/- JoinLosses, as plain data: whatever is lost, what is told is told in its row. -/
namespace Go.Proofs.Ytcpehjdnmhkcpaa.LLossP
open Go Go.RowKit Go.Maps Go.Proofs.Ytcpehjdnmhkcpaa.Plain Go.Proofs.Ytcpehjdnmhkcpaa.Ring Go.Proofs.Ytcpehjdnmhkcpaa.JoinP Go.Proofs.Ytcpehjdnmhkcpaa.JoinA Go.Proofs.Ytcpehjdnmhkcpaa.JoinQ Go.Proofs.Ytcpehjdnmhkcpaa.JoinR Go.Proofs.Ytcpehjdnmhkcpaa.JoinG Go.Proofs.Ytcpehjdnmhkcpaa.JoinH Go.Proofs.Ytcpehjdnmhkcpaa.JoinI Go.Proofs.Ytcpehjdnmhkcpaa.JoinK

/-- The texts of i fragments from x on, as one. -/
def glue (fs : Nat → Fr) (x : Nat) : Nat → ByteArray
  | 0 => ⟨#[]⟩
  | i + 1 => glue fs x i ++ (fs (x + i)).d

/-- N fragments in a row, of packets that end at en 1, en 2 ..; their texts. -/
structure Row (fs : Nat → Fr) (N P : Nat) (en : Nat → Nat) (want : List ByteArray) : Prop where
  seq : ∀ q, q < N → (fs q).q = (q : Int)
  size : ∀ q, q < N → (fs q).d.size ≤ 2048
  N1 : N ≤ 1000
  en0 : en 0 = 0
  enP : en P = N
  up : ∀ j, j < P → en j < en (j + 1)
  wl : want.length = P
  b : ∀ q, q < N → (fs q).b = true → ∃ j, j < P ∧ q = en j
  e : ∀ j q, j < P → en j ≤ q → q < en (j + 1) → ((fs q).e = true ↔ q + 1 = en (j + 1))
  text : ∀ j, j < P → want[j]? = some (glue fs (en j) (en (j + 1) - en j))

variable {fs : Nat → Fr} {N P : Nat} {en : Nat → Nat} {want : List ByteArray}

theorem en_mono (R : Row fs N P en want) : ∀ {i j : Nat}, i ≤ j → j ≤ P → en i ≤ en j := by
  intro i j h
  induction h with
  | refl => intro _; exact Nat.le_refl _
  | @step m h ih => intro hj; have h1 := R.up m hj; have h2 := ih (Nat.le_of_succ_le hj); exact Nat.le_trans h2 (Nat.le_of_lt h1)

/-- What holds all the while: x is next. -/
structure Inv (fs : Nat → Fr) (N x : Nat) (s : JS) : Prop where
  short : s.short = true
  next : s.next = (x : Int)
  xN : x ≤ N
  held : ∀ f ∈ s.held, ∃ q, x ≤ q ∧ q < N ∧ f = fs q
  links : ∀ p ∈ s.links, p.2 < (N : Int)

variable {x : Nat} {s : JS}

theorem Inv.size (I : Inv fs N x s) : s.size = 4096 := by unfold JS.size; rw [I.short]; rfl
theorem Inv.off (I : Inv fs N x s) (hN : N ≤ 1000) {q : Nat} (h1 : x ≤ q) (h2 : q < N) : s.off (q : Int) = (q : Int) - (x : Int) := by
  unfold JS.off offset
  rw [I.size, I.next]
  omega
theorem Inv.num (I : Inv fs N x s) (hN : N ≤ 1000) {i : Int} (h0 : 0 ≤ i) (hi : i ≤ 1000) : s.num i = (x : Int) + i := by
  have := I.xN
  unfold JS.num at_
  rw [I.size, I.next]
  omega

theorem Inv.get (I : Inv fs N x s) (R : Row fs N P en want) {q : Nat} {f : Fr} (h : s.get (q : Int) = some f) : x ≤ q ∧ q < N ∧ f = fs q := by
  unfold JS.get at h
  obtain ⟨q', h1, h2, rfl⟩ := I.held f (List.mem_of_find?_eq_some h)
  have := List.find?_some h
  simp [R.seq q' h2] at this
  obtain rfl : q' = q := by omega
  exact ⟨h1, h2, rfl⟩

/-- A state whose fragments all lie behind y. -/
theorem Inv.move (I : Inv fs N x s) (R : Row fs N P en want) {y : Nat} (hxy : x ≤ y) (hy : y ≤ N) {s' : JS} (h1 : s'.short = s.short) (h2 : s'.next = s.num ((y : Int) - x)) (h3 : s'.links = s.links) (h4 : ∀ f ∈ s'.held, f ∈ s.held ∧ (y : Int) - x ≤ s.off f.q) : Inv fs N y s' := by
  have hN := R.N1
  refine ⟨h1.trans I.short, ?_, hy, fun f hf => ?_, fun p hp => I.links p (by rw [← h3]; exact hp)⟩
  · rw [h2, I.num hN (by omega) (by omega)]; omega
  · obtain ⟨hm, ho⟩ := h4 f hf
    obtain ⟨q, a, b, rfl⟩ := I.held f hm
    rw [R.seq q b, I.off hN a b] at ho
    exact ⟨q, by omega, b, rfl⟩

theorem Inv.letGo (I : Inv fs N x s) (R : Row fs N P en want) {o : Int} (h0 : 0 ≤ o) (h1 : (x : Int) + o ≤ N) : Inv fs N (x + o.toNat) (s.letGo o) := by
  refine I.move R (by omega) (by omega) rfl ?_ rfl (fun f hf => ?_)
  · show s.num o = _
    congr 1
    omega
  · unfold JS.letGo at hf
    simp only [List.mem_filter] at hf
    refine ⟨hf.1, ?_⟩
    have := hf.2
    simp at this
    omega

theorem Inv.take (I : Inv fs N x s) (R : Row fs N P en want) {n : Nat} (h1 : x + n ≤ N) : Inv fs N (x + n) (s.take n) := by
  refine I.move R (by omega) (by omega) rfl ?_ rfl (fun f hf => ?_)
  · show s.num n = _
    congr 1
    omega
  · unfold JS.take at hf
    simp only [List.mem_filter] at hf
    refine ⟨hf.1, ?_⟩
    have := hf.2
    simp at this
    omega

/-- upto lies below the fragments' end. -/
theorem Inv.upto (I : Inv fs N x s) (R : Row fs N P en want) (hu : 0 ≤ s.upto) : (x : Int) + s.upto < N := by
  obtain ⟨h1, p, hp, e⟩ := upto_spec hu
  have h2 := h1 p hp
  have h3 := I.links p hp
  have hN := R.N1
  have hx := I.xN
  unfold JS.sig signed offset at e
  rw [I.size, I.next] at e
  split at e <;> omega

theorem Inv.get_num (I : Inv fs N x s) (R : Row fs N P en want) {i : Nat} (hi : i ≤ 1000) {f : Fr} (h : s.get (s.num (i : Int)) = some f) : x + i < N ∧ f = fs (x + i) := by
  rw [I.num R.N1 (by omega) (by omega), show (x : Int) + (i : Int) = ((x + i : Nat) : Int) from by omega] at h
  exact (I.get R h).2

/-- A whole packet: it goes to its end. -/
theorem Inv.pack (I : Inv fs N x s) (R : Row fs N P en want) {j : Nat} (hj : j < P) (hx : x = en j) : ∀ (k i : Nat) (t : ByteArray) (n : Nat), i + k ≤ 1000 → x + i < en (j + 1) → s.pack k i (glue fs x i) = (t, n, true) → x + n = en (j + 1) ∧ t = glue fs x n
  | 0, i, t, n, _, _, h => by simp [JS.pack] at h
  | k + 1, i, t, n, hk, hi, h => by
    cases hg : s.get (s.num (i : Int)) with
    | none => simp [JS.pack, hg] at h
    | some f =>
      obtain ⟨hlt, rfl⟩ := I.get_num R (by omega) hg
      have hE := R.e j (x + i) hj (by omega) hi
      simp only [JS.pack, hg] at h
      split at h
      · simp at h
      · split at h
        · rename_i he
          simp only [Prod.mk.injEq, and_true] at h
          obtain ⟨rfl, rfl⟩ := h
          exact ⟨hE.1 he, rfl⟩
        · rename_i he
          have hne : ¬ x + i + 1 = en (j + 1) := fun e => he (hE.2 e)
          exact Inv.pack I R hj hx k (i + 1) t n (by omega) (by omega) h

/-- One round. -/
theorem Inv.step (I : Inv fs N x s) (R : Row fs N P en want) (Ft : Fit s) {o : List ByteArray} {s' : JS} (h : s.step = some (o, s')) :
    ∃ y, x ≤ y ∧ Inv fs N y s' ∧ (o = [] ∨ ∃ j t, j < P ∧ en j = x ∧ y = en (j + 1) ∧ o = [t] ∧ want[j]? = some t) := by
  have hN := R.N1
  have hx := I.xN
  have hmany := Ft.many
  have hover : ∀ {o : List ByteArray} {s' : JS}, (if (s.held.length : Int) ≤ s.most then none else some (([] : List ByteArray), s.letGo (s.least + 1))) = some (o, s') →
      ∃ y, x ≤ y ∧ Inv fs N y s' ∧ (o = [] ∨ ∃ j t, j < P ∧ en j = x ∧ y = en (j + 1) ∧ o = [t] ∧ want[j]? = some t) := by
    intro o s' h
    split at h
    · cases h
    · rename_i hc
      cases h
      have hm := Ft.most0
      have hne : s.held ≠ [] := by intro e; apply hc; rw [e]; simp; omega
      obtain ⟨f, hf, e⟩ := least_of hne
      obtain ⟨q, a, b, rfl⟩ := I.held f hf
      rw [R.seq q b, I.off hN a b] at e
      exact ⟨_, by omega, I.letGo R (o := s.least + 1) (by omega) (by omega), .inl rfl⟩
  unfold JS.step at h
  simp only at h
  split at h
  · rename_i f hg
    have hg0 := hg
    rw [I.next] at hg0
    obtain ⟨_, hxN, rfl⟩ := I.get R hg0
    split at h
    · rename_i r hf
      cases h
      unfold JS.first at hf
      split at hf
      · cases hf
        exact ⟨_, by omega, I.letGo R (o := 1) (by omega) (by omega), .inl rfl⟩
      · rename_i hb
        have hb' : (fs x).b = true := by simpa using hb
        obtain ⟨j, hj, hxj⟩ := R.b x hxN hb'
        obtain ⟨_, p2, p3, _⟩ := pack_spec s (s.held.length + 1) 0 ⟨#[]⟩
        split at hf
        · rename_i t n hp
          cases hf
          have hlt := R.up j hj
          obtain ⟨e1, e2⟩ := I.pack R hj hxj (s.held.length + 1) 0 t n (by omega) (by omega) hp
          have hle := en_mono R (show j + 1 ≤ P from hj) (Nat.le_refl _)
          rw [R.enP] at hle
          refine ⟨x + n, by omega, I.take R (by omega), .inr ⟨j, t, hj, hxj.symm, e1, rfl, ?_⟩⟩
          rw [R.text j hj, e2]
          congr 2
          · exact hxj.symm
          · omega
        · rename_i t n hp
          have hp2 : (s.pack (s.held.length + 1) 0 ⟨#[]⟩).2.1 = n := by
            have : s.packet = (t, n, false) := hp
            unfold JS.packet at this
            rw [this]
          rw [hp2] at p2 p3
          have hxn : x + n ≤ N := by
            rcases Nat.eq_zero_or_pos n with h0 | h0
            · omega
            · obtain ⟨f, hf'⟩ := Option.isSome_iff_exists.1 (p3 (n - 1) (by omega) (by omega))
              have := (I.get_num R (by omega) hf').1
              omega
          split at hf
          · cases hf
            exact ⟨_, by omega, I.letGo R (o := (n : Int)) (by omega) (by omega), .inl rfl⟩
          · split at hf
            · rename_i hm
              cases hf
              have hu := I.upto R (by omega)
              exact ⟨_, by omega, I.letGo R (o := (n : Int) + 1) (by omega) (by omega), .inl rfl⟩
            · cases hf
    · exact hover h
  · split at h
    · rename_i hu
      cases h
      have hu2 := I.upto R hu
      have hl0 := (least_in s).1
      refine ⟨x + (min (s.upto + 1) s.least).toNat, by omega, I.move R (by omega) (by omega) rfl ?_ rfl (fun f hf => ⟨hf, ?_⟩), .inl rfl⟩
      · show s.num _ = s.num _
        congr 1
        omega
      · have := (minL_le s.size (s.held.map fun f => s.off f.q)).2 (s.off f.q) (List.mem_map.2 ⟨f, hf, rfl⟩)
        have h2 : s.least ≤ s.off f.q := this
        omega
    · exact hover h

theorem take_up {l : List ByteArray} {i j : Nat} (h : i ≤ j) : (l.take i).Sublist (l.take j) := by
  have : (l.take j).take i = l.take i := by rw [List.take_take, Nat.min_eq_left h]
  rw [← this]
  exact List.take_sublist _ _

/-- All rounds. -/
theorem Inv.all (R : Row fs N P en want) : ∀ (n : Nat) (s : JS) (x J : Nat) (got : List ByteArray), mu s ≤ n → Fit s → Low s → Inv fs N x s → J ≤ P → en J ≤ x → got.Sublist (want.take J) →
    ∃ y J', Inv fs N y (JS.all s).2 ∧ J' ≤ P ∧ en J' ≤ y ∧ (got ++ (JS.all s).1).Sublist (want.take J') := by
  intro n
  induction n with
  | zero =>
    intro s x J got hm Ft L I hJ he hs
    cases h : s.step with
    | none => rw [all_none h]; exact ⟨x, J, I, hJ, he, by simpa using hs⟩
    | some r => obtain ⟨o, s'⟩ := r; have := (step_spec Ft L h).1; omega
  | succ n ih =>
    intro s x J got hm Ft L I hJ he hs
    cases h : s.step with
    | none => rw [all_none h]; exact ⟨x, J, I, hJ, he, by simpa using hs⟩
    | some r =>
      obtain ⟨o, s'⟩ := r
      obtain ⟨h1, F', L', _⟩ := step_spec Ft L h
      obtain ⟨y, hxy, I', ho⟩ := I.step R Ft h
      rw [all_some Ft L h]
      rcases ho with rfl | ⟨j, t, hj, hx, hy, rfl, hw⟩
      · obtain ⟨z, J', a, b, c, d⟩ := ih s' y J got (by omega) F' L' I' hJ (by omega) hs
        exact ⟨z, J', a, b, c, by simpa using d⟩
      · have hJj : J ≤ j := by
          rcases Nat.lt_or_ge j J with hlt | hge
          · have h2 := en_mono R (show j + 1 ≤ J from hlt) hJ
            have h3 := R.up j hj
            omega
          · exact hge
        have hs' : (got ++ [t]).Sublist (want.take (j + 1)) := by
          rw [List.take_add_one, hw]
          exact List.Sublist.append (hs.trans (take_up hJj)) (List.Sublist.refl _)
        obtain ⟨z, J', a, b, c, d⟩ := ih s' y (j + 1) (got ++ [t]) (by omega) F' L' I' hj (by omega) hs'
        exact ⟨z, J', a, b, c, by simpa using d⟩

/-- One fragment of the row is put. -/
theorem Inv.put (R : Row fs N P en want) (I : Inv fs N x s) {n : Nat} (G : JoinH.Good s n) (hn : n ≤ 100000) {l : Int} (hl : JS.has s l = true) {q : Nat} (hq : q < N) {J : Nat} {got : List ByteArray} (hJ : J ≤ P) (he : en J ≤ x) (hs : got.Sublist (want.take J)) :
    JS.putNum s l (fs q) = 0 ∧ ∃ y J', Inv fs N y (JS.put s l (fs q)).2 ∧ J' ≤ P ∧ en J' ≤ y ∧ (got ++ (JS.put s l (fs q)).1).Sublist (want.take J') := by
  have hN := R.N1
  have hx := I.xN
  have hsq := R.seq q hq
  have hok : okFr s.short (fs q) = true := by
    rw [I.short]
    exact okFr_spec.2 ⟨by rw [hsq]; omega, by rw [hsq]; show (q : Int) < 4096; omega, R.size q hq⟩
  have e : JS.putNum s l (fs q) = 0 := by unfold JS.putNum; rw [if_pos hl, if_pos hok]
  refine ⟨e, ?_⟩
  obtain ⟨Ft, L, _⟩ := take_in G (by omega) hl (has_in G.fit hl) hok
  have hlk : ∀ p ∈ (JS.setLink s l (fs q).q).links, p.2 < (N : Int) := by
    intro p hp
    unfold JS.setLink at hp
    rcases List.mem_append.1 hp with h | h
    · exact I.links p (List.mem_filter.1 h).1
    · simp at h
      subst h
      simp only [hsq]
      omega
  have I1 : Inv fs N x (JS.setLink s l (fs q).q) := ⟨I.short, I.next, I.xN, I.held, hlk⟩
  have I' : Inv fs N x (JS.take1 (JS.setLink s l (fs q).q) (fs q)) := by
    unfold JS.take1
    split
    · exact ⟨I1.short, I1.next, I1.xN, I1.held, I1.links⟩
    · rename_i hc
      refine ⟨I1.short, I1.next, I1.xN, fun f hf => ?_, I1.links⟩
      rcases List.mem_append.1 hf with h | h
      · exact I1.held f h
      · simp at h
        subst h
        refine ⟨q, ?_, hq, rfl⟩
        rcases Nat.lt_or_ge q x with hlt | hge
        · exfalso
          apply hc
          right
          unfold JS.off offset
          rw [I1.size, I1.next, hsq]
          omega
        · exact hge
  unfold JS.put
  rw [if_pos e]
  exact Inv.all R (mu _) _ x J got (Nat.le_refl _) Ft L I' hJ he hs

/-- One round of the last loop. -/
theorem greedy {got want : List ByteArray} {i a : Nat} {w g : ByteArray} (h : (got.drop a).Sublist (want.drop i)) (hi : want[i]? = some w) (ha : got[a]? = some g) :
    (w = g → (got.drop (a + 1)).Sublist (want.drop (i + 1))) ∧ (w ≠ g → (got.drop a).Sublist (want.drop (i + 1))) := by
  obtain ⟨hi1, hi2⟩ := List.getElem?_eq_some_iff.1 hi
  obtain ⟨ha1, ha2⟩ := List.getElem?_eq_some_iff.1 ha
  rw [List.drop_eq_getElem_cons hi1, List.drop_eq_getElem_cons ha1, hi2, ha2] at h
  refine ⟨fun e => ?_, fun e => ?_⟩
  · subst e
    exact List.cons_sublist_cons.1 h
  · rw [List.drop_eq_getElem_cons ha1, ha2]
    cases h with
    | cons _ h => exact h
    | cons_cons _ h => exact absurd rfl e

theorem greedy_end {got want : List ByteArray} {i a : Nat} (h : (got.drop a).Sublist (want.drop i)) (hi : want.length ≤ i) (ha : a ≤ got.length) : a = got.length := by
  rw [List.drop_eq_nil_of_le hi] at h
  have := List.sublist_nil.1 h
  have := List.drop_eq_nil_iff.1 this
  omega

end Go.Proofs.Ytcpehjdnmhkcpaa.LLossP
/- JoinLosses: what Cut and cuts answer, as plain data. -/
namespace Go.Proofs.Ytcpehjdnmhkcpaa.LLossQ
open Go Go.RowKit Go.Maps Go.Proofs.Ytcpehjdnmhkcpaa.Plain Go.Proofs.Ytcpehjdnmhkcpaa.PJoinLosses Go.Proofs.YtcpehjdnmhkcpaaW.PrintWords Go.Proofs.YtcpehjdnmhkcpaaW.PrintLast Go.Proofs.YtcpehjdnmhkcpaaW.PrintMore Go.Proofs.Ytcpehjdnmhkcpaa.LTwiceP

variable {t : ByteArray} {c n sq : Nat}

/-- Where the i-th piece begins. -/
def at_ (t : ByteArray) (c i : Nat) : Nat := min t.size (i * c)
def D (t : ByteArray) (c i : Nat) : ByteArray := t.extract (at_ t c i) (at_ t c (i + 1))
def G (t : ByteArray) (c sq i : Nat) : S33 := ⟨((at_ t c i : Nat) : Int) == 0, ((at_ t c (i + 1) : Nat) : Int) == (t.size : Int), ((sq + i : Nat) : Int), D t c i⟩

/-- It takes n pieces. -/
structure Cuts (t : ByteArray) (c n : Nat) : Prop where
  c1 : 1 ≤ c
  c2 : c ≤ 1000
  t1 : 1 ≤ t.size
  t2 : t.size ≤ 1000
  n1 : n ≤ 64
  last : t.size ≤ n * c
  more : ∀ i, i < n → i * c < t.size

theorem at_lt (C : Cuts t c n) {i : Nat} (hi : i < n) : at_ t c i = i * c := by have := C.more i hi; unfold at_; omega
theorem at_end (C : Cuts t c n) : at_ t c n = t.size := by have := C.last; unfold at_; omega
theorem at_next (C : Cuts t c n) {i : Nat} (hi : i < n) : mn (t.size : Int) (wrap64 (((at_ t c i : Nat) : Int) + (c : Int))) = ((at_ t c (i + 1) : Nat) : Int) := by
  have h := C.more i hi
  have h2 := C.t2
  have h3 := C.c2
  rw [at_lt C hi]
  have e : at_ t c (i + 1) = min t.size (i * c + c) := by unfold at_; rw [Nat.succ_mul]
  rw [e]
  generalize i * c = x at *
  rw [wrap_i64 (by omega) (by omega)]
  unfold mn
  split <;> omega

theorem wr1 {i : Nat} (h : i ≤ 64) : wrap64 ((i : Int) + 1) = ((i + 1 : Nat) : Int) := by rw [wrap_i64 (by omega) (by omega)]; omega
theorem wr0 {i sq : Nat} (h : i ≤ 64) (hs : sq ≤ 1000) : Int.tmod (wrap64 ((sq : Int) + (i : Int))) 4096 = ((sq + i : Nat) : Int) := by
  rw [wrap_i64 (by omega) (by omega), Int.tmod_eq_emod_of_nonneg (by omega)]
  omega

theorem l1_end (C : Cuts t c n) (k : Nat) (acc : List S33) (hacc : acc.length = n) : withyref17_Cut.l1 (k + 1) t [(c : Int)] (sq : Int) true acc ((at_ t c n : Nat) : Int) (n : Int) = some (acc, 0) := by
  have hn := C.n1
  rw [withyref17_Cut.l1, at_end C, if_neg (by omega), if_neg (by omega)]

theorem l1_step (hs : sq ≤ 1000) (C : Cuts t c n) (k : Nat) (acc : List S33) {i : Nat} (hi : i < n) (hacc : acc.length = i) : withyref17_Cut.l1 (k + 1) t [(c : Int)] (sq : Int) true acc ((at_ t c i : Nat) : Int) (i : Int) = withyref17_Cut.l1 k t [(c : Int)] (sq : Int) true (acc ++ [G t c sq i]) ((at_ t c (i + 1) : Nat) : Int) ((i + 1 : Nat) : Int) := by
  have hm := C.more i hi
  have hn := C.n1
  have hlt := at_lt C hi
  have hr : withyref1_Ring.f true = some 4096 := rfl
  have h1 : Int.tmod (i : Int) (([(c : Int)] : List Int).length : Int) = 0 := by
    show Int.tmod (i : Int) 1 = 0
    exact Int.tmod_one _
  have h2 : rd [(c : Int)] 0 = (c : Int) := rfl
  have hle : at_ t c (i + 1) ≤ t.size := by unfold at_; omega
  have hge : at_ t c i ≤ at_ t c (i + 1) := by
    unfold at_
    rw [Nat.succ_mul]
    omega
  have p1 : ((at_ t c i : Nat) : Int) < (t.size : Int) := by omega
  have p2 : (0 : Int) ≤ ((at_ t c i : Nat) : Int) := by omega
  have p3 : ((at_ t c i : Nat) : Int) ≤ ((at_ t c (i + 1) : Nat) : Int) := by omega
  have p4 : ((at_ t c (i + 1) : Nat) : Int) ≤ (t.size : Int) := by omega
  have p5 : acc.length < 4398046511104 := by omega
  have p6 : ¬ (([(c : Int)] : List Int).length : Int) = 0 := by simp
  have p7 : (0 : Int) < (([(c : Int)] : List Int).length : Int) := by simp
  have p8 : ¬ (4096 : Int) = 0 := by omega
  have hq := wr0 (i := i) (sq := sq) (by omega) hs
  have hi1 := wr1 (i := i) (by have := C.n1; clear hq; omega)
  have hnx := at_next C hi
  rw [withyref17_Cut.l1, if_pos p1, if_neg p6, h1, if_pos (show (0 : Int) ≤ 0 from Int.le_refl 0), if_pos p7, hr, Option.bind_some, if_neg p8, if_pos p2, h2, hnx, if_pos p3, if_pos p4, if_pos p5, hq, hi1]
  rfl

theorem l1_run (hs : sq ≤ 1000) (C : Cuts t c n) (k : Nat) : ∀ (j i : Nat), i + j = n → withyref17_Cut.l1 (k + j + 1) t [(c : Int)] (sq : Int) true ((List.range i).map (G t c sq)) ((at_ t c i : Nat) : Int) (i : Int) = some ((List.range n).map (G t c sq), 0)
  | 0, i, h => by
    obtain rfl : i = n := by omega
    exact l1_end C k _ (by simp)
  | j + 1, i, h => by
    rw [show k + (j + 1) + 1 = (k + j + 1) + 1 from by omega, l1_step hs C _ _ (by omega) (by simp)]
    have := l1_run hs C k j (i + 1) (by omega)
    rw [List.range_succ, List.map_append] at this
    exact this

theorem cut_f (hs : sq ≤ 1000) (C : Cuts t c n) (k : Nat) : withyref17_Cut.f (k + n + 4) t [(c : Int)] (sq : Int) true = some ((List.range n).map (G t c sq), 0) := by
  have a1 := C.t1
  have a2 := C.t2
  have a3 := C.c1
  have a4 := C.c2
  have hr : withyref1_Ring.f true = some 4096 := rfl
  have h := l1_run hs C k n 0 (by omega)
  have h0 : ((at_ t c 0 : Nat) : Int) = 0 := by unfold at_; simp
  rw [h0] at h
  have e : k + n + 4 = (((k + n + 1) + 1) + 1) + 1 := by omega
  have h2 : rd [(c : Int)] 0 = (c : Int) := rfl
  have hw : wrap64 (0 + 1) = 1 := wrap_i64 (by omega) (by omega)
  unfold withyref17_Cut.f
  rw [if_neg (by omega), if_neg (by omega), if_neg (by simp), if_neg (by simp), if_neg (by omega), hr, Option.bind_some, e, withyref17_Cut.j0, if_neg (by simp; omega), withyref17_Cut.l0, if_pos (by simp), if_pos (show (0 : Int) ≤ 0 from Int.le_refl 0), h2, if_neg (by omega), if_neg (by omega), hw, withyref17_Cut.l0, if_neg (by simp)]
  exact h

theorem pre_at (C : Cuts t c n) : ∀ i, i ≤ n → pre (D t c) i = t.extract 0 (at_ t c i)
  | 0, _ => by
    have : at_ t c 0 = 0 := by unfold at_; simp
    rw [this]
    unfold pre
    exact (ByteArray.ext (by simp)).symm
  | i + 1, h => by
    unfold pre
    rw [pre_at C i (by omega)]
    unfold D
    refine ByteArray.ext ?_
    simp only [ByteArray.data_append, ByteArray.data_extract]
    have h1 : at_ t c i ≤ at_ t c (i + 1) := by unfold at_; rw [Nat.succ_mul]; omega
    rw [Array.extract_append_extract]
    simp [Nat.max_eq_right h1]

theorem pre_all (C : Cuts t c n) : pre (D t c) n = t := by
  rw [pre_at C n (Nat.le_refl _), at_end C]
  exact ByteArray.ext (by simp)

theorem D_size (C : Cuts t c n) (i : Nat) : (D t c i).size ≤ 2048 := by
  have := C.t2
  unfold D
  rw [ByteArray.size_extract]
  omega

/-- The pieces as fragments. -/
theorem G_val (C : Cuts t c n) {i : Nat} (hi : i < n) : (G t c sq i).f0 = decide (i = 0) ∧ (G t c sq i).f1 = decide (i + 1 = n) ∧ (G t c sq i).f2 = ((sq + i : Nat) : Int) ∧ (G t c sq i).f3 = D t c i := by
  have a1 := C.c1
  have a2 := C.t1
  refine ⟨?_, ?_, rfl, rfl⟩
  · show (((at_ t c i : Nat) : Int) == 0) = _
    rw [at_lt C hi]
    by_cases h : i = 0
    · subst h; simp
    · have : 0 < i * c := Nat.mul_pos (by omega) (by omega)
      rw [decide_eq_false h]
      simp
      omega
  · show (((at_ t c (i + 1) : Nat) : Int) == (t.size : Int)) = _
    by_cases h : i + 1 = n
    · rw [decide_eq_true h, h, at_end C]; simp
    · have hm := C.more (i + 1) (by omega)
      rw [decide_eq_false h, at_lt C (by omega)]
      rw [beq_eq_false_iff_ne]
      omega

theorem cuts_of {a : Nat} (h1 : 1 ≤ t.size) (h2 : t.size ≤ 300) (ha : a < 64) (hc : c = 1 + a + t.size / 40) : Cuts t c ((t.size + c - 1) / c) ∧ (t.size + c - 1) / c ≤ 40 ∧ 0 < (t.size + c - 1) / c := by
  have hdm := Nat.div_add_mod (t.size + c - 1) c
  have hml := Nat.mod_lt (t.size + c - 1) (show 0 < c by omega)
  have hcomm : c * ((t.size + c - 1) / c) = ((t.size + c - 1) / c) * c := Nat.mul_comm _ _
  rw [hcomm] at hdm
  generalize (t.size + c - 1) / c = n at *
  have hn : n < 41 := by
    have : n * c < 41 * c := by omega
    exact Nat.lt_of_mul_lt_mul_right this
  refine ⟨⟨by omega, by omega, h1, by omega, by omega, by omega, fun i hi => ?_⟩, by omega, ?_⟩
  · have : (i + 1) * c ≤ n * c := Nat.mul_le_mul_right _ hi
    rw [Nat.succ_mul] at this
    omega
  · rcases Nat.eq_zero_or_pos n with h | h
    · subst h; simp at hdm; omega
    · exact h

open Go.Proofs.Ytcpehjdnmhkcpaa.JoinP Go.Proofs.Ytcpehjdnmhkcpaa.LLossP

def fsOf (L : List S33) (q : Nat) : Fr := let x := L.getD q z33; ⟨x.f0, x.f1, x.f2, x.f3⟩

theorem fsOf_old {L M : List S33} {q : Nat} (h : q < L.length) : fsOf (L ++ M) q = fsOf L q := by
  unfold fsOf
  rw [List.getD_eq_getElem?_getD, List.getD_eq_getElem?_getD, List.getElem?_append_left h]
theorem fsOf_new (C : Cuts t c n) {L : List S33} {i : Nat} (h : i < n) : fsOf (L ++ (List.range n).map (G t c L.length)) (L.length + i) = ⟨decide (i = 0), decide (i + 1 = n), ((L.length + i : Nat) : Int), D t c i⟩ := by
  have e : (L ++ (List.range n).map (G t c L.length)).getD (L.length + i) z33 = G t c L.length i := by
    rw [List.getD_eq_getElem?_getD, List.getElem?_append_right (by omega), Nat.add_sub_cancel_left, List.getElem?_map, List.getElem?_range h]
    rfl
  obtain ⟨g0, g1, g2, g3⟩ := G_val (sq := L.length) C h
  unfold fsOf
  rw [e]
  simp only [g0, g1, g2, g3]

theorem glue_congr {fs fs' : Nat → Fr} {x : Nat} : ∀ m, (∀ i, i < m → fs (x + i) = fs' (x + i)) → glue fs x m = glue fs' x m
  | 0, _ => rfl
  | m + 1, h => by
    unfold glue
    rw [glue_congr m (fun i hi => h i (by omega)), h m (by omega)]

theorem glue_pre {fs : Nat → Fr} {x : Nat} {E : Nat → ByteArray} : ∀ m, (∀ i, i < m → (fs (x + i)).d = E i) → glue fs x m = pre E m
  | 0, _ => rfl
  | m + 1, h => by
    unfold glue pre
    rw [glue_pre m (fun i hi => h i (by omega)), h m (by omega)]

theorem row_nil : Row (fsOf []) 0 0 (fun _ => 0) [] :=
  ⟨fun q h => by omega, fun q h => by omega, by omega, rfl, rfl, fun j h => by omega, rfl, fun q h => by omega, fun j q h => by omega, fun j h => by omega⟩

/-- One packet more. -/
theorem row_add {L : List S33} {P : Nat} {en : Nat → Nat} {want : List ByteArray} (R : Row (fsOf L) L.length P en want) (C : Cuts t c n) (h0 : 0 < n) (hN : L.length + n ≤ 1000) :
    Row (fsOf (L ++ (List.range n).map (G t c L.length))) (L.length + n) (P + 1) (fun j => if j ≤ P then en j else L.length + n) (want ++ [t]) := by
  have hnew := fun i (h : i < n) => fsOf_new (L := L) C h
  have hold := fun q (h : q < L.length) => fsOf_old (M := (List.range n).map (G t c L.length)) h
  generalize fsOf (L ++ (List.range n).map (G t c L.length)) = fs at *
  have hsplit : ∀ q, q < L.length + n → q < L.length ∨ ∃ i, i < n ∧ q = L.length + i := fun q h => by
    rcases Nat.lt_or_ge q L.length with h1 | h1
    · exact .inl h1
    · exact .inr ⟨q - L.length, by omega, by omega⟩
  have hmono : ∀ j, j ≤ P → en j ≤ L.length := fun j hj => by
    have := en_mono R hj (Nat.le_refl _)
    rw [R.enP] at this
    exact this
  have hen : ∀ j, j ≤ P → (if j ≤ P then en j else L.length + n) = en j := fun j hj => if_pos hj
  have hen2 : (if P + 1 ≤ P then en (P + 1) else L.length + n) = L.length + n := if_neg (by omega)
  refine ⟨fun q hq => ?_, fun q hq => ?_, hN, ?_, hen2, fun j hj => ?_, ?_, fun q hq hb => ?_, fun j q hj h1 h2 => ?_, fun j hj => ?_⟩
  · rcases hsplit q hq with h | ⟨i, hi, rfl⟩
    · rw [hold q h]; exact R.seq q h
    · rw [hnew i hi]
  · rcases hsplit q hq with h | ⟨i, hi, rfl⟩
    · rw [hold q h]; exact R.size q h
    · rw [hnew i hi]; exact D_size C i
  · show (if 0 ≤ P then en 0 else _) = 0
    rw [if_pos (Nat.zero_le _)]; exact R.en0
  · show (if j ≤ P then en j else _) < (if j + 1 ≤ P then en (j + 1) else _)
    rw [if_pos (by omega)]
    rcases Nat.lt_or_ge j P with h | h
    · rw [if_pos (by omega)]; exact R.up j h
    · rw [if_neg (by omega)]
      have := hmono j (by omega)
      omega
  · simp [R.wl]
  · rcases hsplit q hq with h | ⟨i, hi, rfl⟩
    · rw [hold q h] at hb
      obtain ⟨j, a, b⟩ := R.b q h hb
      exact ⟨j, by omega, by show q = (if j ≤ P then en j else _); rw [if_pos (by omega)]; exact b⟩
    · rw [hnew i hi] at hb
      have hi0 : i = 0 := by simpa using hb
      exact ⟨P, by omega, by show L.length + i = (if P ≤ P then en P else _); rw [if_pos (Nat.le_refl _), R.enP, hi0]; rfl⟩
  · have h1' : (if j ≤ P then en j else L.length + n) ≤ q := h1
    have h2' : q < (if j + 1 ≤ P then en (j + 1) else L.length + n) := h2
    show _ ↔ q + 1 = (if j + 1 ≤ P then en (j + 1) else L.length + n)
    rw [if_pos (by omega)] at h1'
    rcases Nat.lt_or_ge j P with h | h
    · rw [if_pos (by omega)] at h2' ⊢
      have := hmono (j + 1) (by omega)
      rw [hold q (by omega)]
      exact R.e j q h h1' h2'
    · obtain rfl : j = P := by omega
      rw [if_neg (by omega)] at h2' ⊢
      rw [R.enP] at h1'
      obtain ⟨i, rfl⟩ : ∃ i, q = L.length + i := ⟨q - L.length, by omega⟩
      rw [hnew i (by omega)]
      simp only [decide_eq_true_eq]
      omega
  · show (want ++ [t])[j]? = some (glue fs (if j ≤ P then en j else L.length + n) ((if j + 1 ≤ P then en (j + 1) else L.length + n) - (if j ≤ P then en j else L.length + n)))
    rw [if_pos (by omega)]
    rcases Nat.lt_or_ge j P with h | h
    · rw [if_pos (by omega), List.getElem?_append_left (by rw [R.wl]; exact h), R.text j h]
      have h2 := hmono (j + 1) (by omega)
      have h3 := R.up j h
      rw [glue_congr _ (fun i hi => (hold (en j + i) (by omega)).symm)]
    · obtain rfl : j = P := by omega
      rw [if_neg (by omega), R.enP, Nat.add_sub_cancel_left, List.getElem?_append_right (by rw [R.wl]; exact Nat.le_refl _), R.wl, Nat.sub_self]
      rw [glue_pre n (E := D t c) (fun i hi => by rw [hnew i hi]), pre_all C]
      rfl

end Go.Proofs.Ytcpehjdnmhkcpaa.LLossQ
/- JoinLosses: what cuts answers, as plain data. -/
namespace Go.Proofs.Ytcpehjdnmhkcpaa.LLossR
open Go Go.RowKit Go.Maps Go.Proofs.Ytcpehjdnmhkcpaa.Plain Go.Proofs.Ytcpehjdnmhkcpaa.PJoinLosses Go.Proofs.YtcpehjdnmhkcpaaW.PrintWords Go.Proofs.YtcpehjdnmhkcpaaW.PrintLast Go.Proofs.YtcpehjdnmhkcpaaW.PrintMore Go.Proofs.Ytcpehjdnmhkcpaa.LTwiceP Go.Proofs.Ytcpehjdnmhkcpaa.JoinP Go.Proofs.Ytcpehjdnmhkcpaa.LLossP Go.Proofs.Ytcpehjdnmhkcpaa.LLossQ

theorem row_many {fs : Nat → Fr} {N P : Nat} {en : Nat → Nat} {want : List ByteArray} (R : Row fs N P en want) : ∀ j, j ≤ P → j ≤ en j
  | 0, _ => Nat.zero_le _
  | j + 1, h => by have := R.up j (by omega); have := row_many R j (by omega); omega

/-- What cuts has so far. -/
def Good (L : List S33) (want : List ByteArray) : Prop := ∃ P en, Row (fsOf L) L.length P en want

theorem wr_next {i : Nat} (h : i ≤ 100) : wrap64 ((i : Int) + 1) = ((i + 1 : Nat) : Int) := by rw [wrap_i64 (by omega) (by omega)]; omega
theorem wr_seq {a b : Nat} (h : a + b ≤ 1000) : Int.tmod (wrap64 ((a : Int) + (b : Int))) 4096 = ((a + b : Nat) : Int) := by
  rw [wrap_i64 (by omega) (by omega), Int.tmod_eq_emod_of_nonneg (by omega)]
  omega
theorem wr_size {a s : Nat} (ha : a < 64) (hs : s ≤ 300) : wrap64 (wrap64 (1 + (a : Int)) + wrap64 ((s : Int) / 40)) = ((1 + a + s / 40 : Nat) : Int) := by
  rw [wrap_i64 (n := 1 + (a : Int)) (by omega) (by omega), wrap_i64 (n := (s : Int) / 40) (by omega) (by omega), wrap_i64 (by omega) (by omega)]
  omega

/-- One packet is cut. -/
theorem j2_step {l0 : List ByteArray} {a1 : Int} {a : Nat} (ha : Go.bits .and .i64 a1 63 = (a : Int)) (ha64 : a < 64) {L : List S33} {want : List ByteArray} (hG : Good L want) {i : Nat} (hi : i < 12) (hL : L.length ≤ 40 * i) {t : ByteArray} (h1 : 1 ≤ t.size) (h2 : t.size ≤ 300) {K : Nat} (hK : 50 ≤ K) :
    ∃ L' want', withylaw19_cuts.j2 (K + 1) l0 a1 (L.length : Int) true L want (i : Int) t = withylaw19_cuts.l0 K l0 a1 (L'.length : Int) true L' want' ((i + 1 : Nat) : Int) ∧ Good L' want' ∧ L'.length ≤ 40 * (i + 1) := by
  obtain ⟨P, en, R⟩ := hG
  obtain ⟨c, hc⟩ : ∃ c, c = 1 + a + t.size / 40 := ⟨_, rfl⟩
  obtain ⟨C, hn, hn0⟩ := cuts_of h1 h2 ha64 hc
  obtain ⟨n, he⟩ : ∃ n, (t.size + c - 1) / c = n := ⟨_, rfl⟩
  rw [he] at C hn hn0
  have hwl : want.length ≤ 1000 := by
    have h1 := row_many R P (Nat.le_refl _)
    have h2 := R.enP
    have h3 := R.wl
    have h4 := R.N1
    omega
  have R' := row_add R C hn0 (by omega)
  have hlen : (L ++ (List.range n).map (G t c L.length)).length = L.length + n := by simp
  refine ⟨L ++ (List.range n).map (G t c L.length), want ++ [t], ?_, ⟨P + 1, _, by rw [hlen]; exact R'⟩, by rw [hlen]; omega⟩
  have hcut := cut_f (sq := L.length) (by omega) C (K - n - 4)
  rw [show K - n - 4 + n + 4 = K from by omega] at hcut
  have hr : withyref1_Ring.f true = some 4096 := rfl
  have hml : ((List.range n).map (G t c L.length)).length = n := by simp
  have p1 : L.length + ((List.range n).map (G t c L.length)).length < 4398046511104 := by rw [hml]; omega
  have p2 : want.length < 8796093022208 := by omega
  have p3 : ¬ (4096 : Int) = 0 := by omega
  have q1 := wr_next (i := i) (by omega)
  have q2 := wr_size ha64 h2
  rw [← hc] at q2
  have q3 := wr_seq (a := L.length) (b := n) (by clear q1 q2; omega)
  rw [withylaw19_cuts.j2, ha, q2, hcut, Option.bind_some]
  dsimp only
  rw [if_pos rfl, hr, Option.bind_some, if_neg p3, if_pos p1, if_pos p2, hml, q3, q1, hlen]

theorem cuts_run {l0 : List ByteArray} {a1 : Int} {a : Nat} (ha : Go.bits .and .i64 a1 63 = (a : Int)) (ha64 : a < 64) : ∀ (r i K : Nat) (L : List S33) (want : List ByteArray), i + r = 12 → 3 * r + 60 ≤ K → L.length ≤ 40 * i → Good L want →
    ∃ L' want', withylaw19_cuts.l0 K l0 a1 (L.length : Int) true L want (i : Int) = some (L', want') ∧ L'.length ≤ 480 ∧ Good L' want'
  | 0, i, K, L, want, hi, hK, hL, hG => by
    obtain ⟨k, rfl⟩ : ∃ k, K = k + 2 := ⟨K - 2, by omega⟩
    have hd : decide ((i : Int) < 12) = false := decide_eq_false (by omega)
    refine ⟨L, want, ?_, by omega, hG⟩
    rw [withylaw19_cuts.l0, hd]
    split
    · rw [withylaw19_cuts.j1, if_neg (by simp)]
    · rw [withylaw19_cuts.j1, if_neg (by simp)]
  | r + 1, i, K, L, want, hi, hK, hL, hG => by
    obtain ⟨k, rfl⟩ : ∃ k, K = k + 3 := ⟨K - 3, by omega⟩
    have hd : decide ((i : Int) < 12) = true := decide_eq_true (by omega)
    have q1 := wr_next (i := i) (by omega)
    by_cases hlen : (i : Int) < (l0.length : Int)
    · have hi0 : (0 : Int) ≤ (i : Int) := by clear q1; omega
      obtain ⟨s, hs⟩ : ∃ s, rdOf ByteArray.empty l0 (i : Int) = s := ⟨_, rfl⟩
      rw [withylaw19_cuts.l0, if_pos hlen, hd, withylaw19_cuts.j1, if_pos rfl, if_pos hi0, if_pos hlen, hs]
      by_cases hemp : s.toList = ([] : List UInt8)
      · rw [if_pos hemp, q1]
        clear q1
        exact cuts_run ha ha64 r (i + 1) (k + 1) L want (by omega) (by omega) (by omega) hG
      · rw [if_neg hemp]
        have hs1 : 1 ≤ s.size := by
          rcases Nat.eq_zero_or_pos s.size with h | h
          · exact absurd (by rw [ByteArray.toList_eq]; exact List.eq_nil_of_length_eq_zero (by simpa using h)) hemp
          · exact h
        clear q1
        by_cases hbig : (s.size : Int) > 300
        · have hx : (s.extract 0 300).size = 300 := by rw [ByteArray.size_extract]; omega
          rw [if_pos hbig, if_pos (Nat.zero_le 300), if_pos (by omega)]
          obtain ⟨L', want', e, hG', hL'⟩ := j2_step (l0 := l0) (a1 := a1) ha ha64 hG (show i < 12 by omega) hL (t := s.extract 0 300) (by omega) (by omega) (K := k) (by omega)
          rw [e]
          exact cuts_run ha ha64 r (i + 1) k L' want' (by omega) (by omega) hL' hG'
        · rw [if_neg hbig]
          obtain ⟨L', want', e, hG', hL'⟩ := j2_step (l0 := l0) (a1 := a1) ha ha64 hG (show i < 12 by omega) hL (t := s) (by omega) (by omega) (K := k) (by omega)
          rw [e]
          exact cuts_run ha ha64 r (i + 1) k L' want' (by omega) (by omega) hL' hG'
    · refine ⟨L, want, ?_, by clear q1; omega, hG⟩
      rw [withylaw19_cuts.l0, if_neg hlen, withylaw19_cuts.j1, if_neg (by simp)]

/-- What cuts answers: a row of packets. -/
theorem cuts_f (l0 : List ByteArray) (a1 : Int) : ∃ L want, withylaw19_cuts.f 96 l0 a1 0 true = some (L, want) ∧ L.length ≤ 480 ∧ Good L want := by
  have h0 : 0 ≤ a1 % 64 := Int.emod_nonneg _ (by omega)
  have h1 : a1 % 64 < 64 := Int.emod_lt_of_pos _ (by omega)
  have ha : Go.bits .and .i64 a1 63 = ((a1 % 64).toNat : Int) := by rw [and63]; omega
  exact cuts_run ha (by omega) 12 0 96 [] [] rfl (by omega) (by simp) ⟨0, _, row_nil⟩

end Go.Proofs.Ytcpehjdnmhkcpaa.LLossR
