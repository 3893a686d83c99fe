/-
  Package node: a node's bytes, its size, written.
-/
import Derived.Test.YtknohdgcigcmdaaNodeC
namespace Go.Proofs.Ytknohdgcigcmdaa
open Go.RowKit
set_option maxRecDepth 100000

def cellB (leaf : Bool) (c : Ce) : List UInt8 := encS c.key ++ (if leaf then encC c.long ++ (if c.long = 0 then encS c.val else encC c.size) else [])
def headB (n : Nd) : List UInt8 := enc (if n.leaf then 1 else 0) ++ encC (n.cs.length : Int)
def bytesN (n : Nd) : List UInt8 := headB n ++ n.cs.flatMap (cellB n.leaf) ++ (if n.leaf then [] else n.ks.flatMap encC)
structure Small (n : Nd) : Prop where
  c : n.cs.length ≤ 1000
  k : n.ks.length ≤ 1000
  t : ∀ c ∈ n.cs, c.key.size ≤ 100000 ∧ c.val.size ≤ 100000
theorem encS_len (s : ByteArray) : (encS s).length ≤ 10 + s.size := by
  unfold encS
  split
  · rw [List.length_append, ← ba_size]
    have := enc_len10 (u := s.size) (by omega)
    omega
  · simp
theorem cellB_len {leaf : Bool} {c : Ce} (h : c.key.size ≤ 100000 ∧ c.val.size ≤ 100000) : (cellB leaf c).length ≤ 200040 := by
  unfold cellB
  have h1 := encS_len c.key
  have h2 := encS_len c.val
  have h3 := encC_len c.long
  have h4 := encC_len c.size
  rw [List.length_append]
  split
  · rw [List.length_append]
    split <;> omega
  · simp; omega
theorem cellsB_len {leaf : Bool} : ∀ {cs : List Ce}, (∀ c ∈ cs, c.key.size ≤ 100000 ∧ c.val.size ≤ 100000) → (cs.flatMap (cellB leaf)).length ≤ 200040 * cs.length
  | [], _ => by simp
  | c :: cs, h => by
    rw [List.flatMap_cons, List.length_append, List.length_cons]
    have h1 := cellB_len (leaf := leaf) (h c (by simp))
    have h2 := cellsB_len (leaf := leaf) (cs := cs) (fun x hx => h x (by simp [hx]))
    omega
theorem flatMap_take_succ {α : Type} (f : α → List UInt8) (L : List α) (m : Nat) (h : m < L.length) : (L.take (m + 1)).flatMap f = (L.take m).flatMap f ++ f L[m] := by
  rw [List.take_succ_eq_append_getElem h, List.flatMap_append]
  simp
theorem kidsB_len : ∀ (L : List Int), (L.flatMap encC).length ≤ 10 * L.length
  | [] => by simp
  | x :: L => by
    rw [List.flatMap_cons, List.length_append, List.length_cons]
    have := encC_len x
    have := kidsB_len L
    omega
theorem headB_len (n : Nd) : (headB n).length ≤ 20 := by
  unfold headB
  rw [List.length_append]
  have h1 : (enc (if n.leaf then 1 else 0)).length ≤ 10 := enc_len10 (by cases n.leaf <;> simp)
  have h2 := encC_len (n.cs.length : Int)
  omega
theorem counts_spec (b : Sl) (l : List UInt8) (t : Sl) (L : List Int) (w0 w : World) (hb : Own w0 w b l) (ht : InR itR w t L) (e0 : w0.heap.size ≤ w.heap.size) (hlen : l.length + 10 * L.length ≤ 100000000000) :
    Calls Try.prog 62 #[.slice b.base b.len b.cap, .slice t.base t.len t.cap] w fun e w' => ∃ s' : Sl, e = .returned (.slice s'.base s'.len s'.cap) ∧ Own w0 w' s' (l ++ L.flatMap encC) ∧ Ext [] w w' := by
  refine sh_node_counts_ok _ _ _ _ ?_
  unfold sh_node_counts
  have hl := ht.1.rlen
  have hcap := ht.2
  refine ⟨fun k b' i W => ∃ m : Nat, i = (m : Int) ∧ m ≤ L.length ∧ k = L.length - m ∧ Own w0 W b' (l ++ (L.take m).flatMap encC) ∧ Ext [] w W, ⟨_, 0, rfl, by omega, rfl, by simpa using hb, Ext.refl _ _⟩, ?_⟩
  rintro k b' i w1 ⟨m, rfl, hm, rfl, h1, e1⟩
  refine VIf.mk (fun hd => ?_) (fun hd => ?_)
  · have hm' : m < L.length := by rw [hl] at hd; simp at hd; omega
    refine VIx.i' (r := itR) (ht.1.ext0 e1) hm' fun a hr => VLd.i1 (t := .int .i64) (L[m]) hr (VSet.i ?_)
    have hk := kidsB_len (L.take m)
    rw [List.length_take] at hk
    refine VCall.i (Count_spec b' _ (L[m]) w1 h1.seg (by rw [List.length_append]; omega)) ?_
    rintro e w2 ⟨s', rfl, h2, e2⟩
    have z := e1.size
    refine exW.i1 (t := .sl) s' rfl ⟨_, (show L.length - (m + 1) < L.length - m by omega), m + 1, w64 (n := (m : Int) + 1) (by omega), by omega, rfl, ?_, e1.then0 e2⟩
    rw [flatMap_take_succ _ _ _ hm', ← List.append_assoc]
    exact h2.mono (by omega)
  · have hmm : m = L.length := by rw [hl] at hd; simp at hd; omega
    subst hmm
    rw [List.take_length] at h1
    exact ⟨b', rfl, h1, e1⟩
theorem ints_in {w : World} {b n : Nat} {L : List Int} (h : Bk w b (itR.cells L) 3) (hn : L.length = n) (h2 : n ≤ 100000) : InR itR w ⟨some ⟨b, 0, none⟩, n, n⟩ L := ⟨Seg.of_bk h (by simp) (by rw [Rec.cells_len, hn]), Nat.le_refl _, by simp only; omega⟩
set_option maxHeartbeats 1000000 in
theorem bytes_spec (c k : Sl) (n : Nd) (w : World) (h : NIn w c k n) (hs : Small n) : Calls Try.prog 35 #[.agg (nhC n.leaf c k).toArray] w fun e w' => ∃ s' : Sl, e = .returned (.slice s'.base s'.len s'.cap) ∧ Own w w' s' (bytesN n) ∧ Ext [] w w' := by
  refine sh_node_bytes_ok _ _ _ _ _ ?_
  unfold sh_node_bytes
  have hl := h.ci.1.rlen
  have hkl := h.ki.1.rlen
  have hsc := hs.c
  have hsk := hs.k
  refine VNw.i fun nb w1 hnb hk1 e1 => ?_
  have hk1 : Bk w1 nb (nhC n.leaf c k) 30 := hk1
  have z1 := e1.size
  have hfl : (enc (if n.leaf then 1 else 0)).length ≤ 10 := enc_len10 (by cases n.leaf <;> simp)
  refine ⟨fun b W => Own w W b (headB n) ∧ Bk W nb (nhC n.leaf c k) 30 ∧ Ext [] w W, ?_, ?_⟩
  · intro w2 hw2
    have ed := Ext.drew' hw2
    have hk2 := hk1.ext ed
    have e02 := e1.then0 ed
    refine VLd.i1 (t := .bool) n.leaf (Rd.of_bk hk2 rfl) (VLd.s c (Rd.of_bk hk2 rfl) ⟨?_, ?_⟩)
    · refine VCall.i (Flag_spec ⟨none, 0, 0⟩ [] n.leaf w2 (Seg.nil _ _ _) (by simp)) ?_
      rintro e w3 ⟨s3, rfl, h3, e3⟩
      refine exW.i1 (t := .sl) s3 rfl ⟨Rd.of_bk (hk2.ext e3) rfl, ?_⟩
      rw [hl]
      refine VNw.i fun b12 w4 hb12 hk4 e4 => ?_
      rw [List.nil_append] at h3
      have e04 := (e02.then0 e3).then0 e4
      refine VCall.i (counts_spec s3 _ ⟨some ⟨b12, 0, none⟩, 1, 1⟩ [(n.cs.length : Int)] w w4 ((h3.mono e02.size).ext0 e4) (ints_in hk4 rfl (by omega)) e04.size (by simp only [List.length_cons, List.length_nil]; omega)) ?_
      rintro e w5 ⟨s5, rfl, h5, e5⟩
      refine exW.i1 (t := .sl) s5 rfl ⟨by simpa [headB] using h5, ((hk2.ext e3).ext e4).ext e5, e04.then0 e5⟩
    · rw [hl]
      refine VNw.i fun b12 w3 hb12 hk3 e3 => ⟨Rd.of_bk (hk2.ext e3) rfl, ?_⟩
      refine VCall.i (Flag_spec ⟨none, 0, 0⟩ [] n.leaf w3 (Seg.nil _ _ _) (by simp)) ?_
      rintro e w4 ⟨s4, rfl, h4, e4⟩
      refine exW.i1 (t := .sl) s4 rfl ?_
      rw [List.nil_append] at h4
      have e03 := e02.then0 e3
      have e04 := e03.then0 e4
      refine VCall.i (counts_spec s4 _ ⟨some ⟨b12, 0, none⟩, 1, 1⟩ [(n.cs.length : Int)] w w4 (h4.mono e03.size) (ints_in (hk3.ext e4) rfl (by omega)) e04.size (by simp only [List.length_cons, List.length_nil]; omega)) ?_
      rintro e w5 ⟨s5, rfl, h5, e5⟩
      refine exW.i1 (t := .sl) s5 rfl ⟨by simpa [headB] using h5, ((hk2.ext e3).ext e4).ext e5, e04.then0 e5⟩
  rintro b w9 ⟨h9, hk9, e9⟩
  refine VLd.s c (Rd.of_bk hk9 rfl) ?_
  have hhl := headB_len n
  refine ⟨fun kk b' i W => ∃ m : Nat, i = (m : Int) ∧ m ≤ n.cs.length ∧ kk = n.cs.length - m ∧ Own w W b' (headB n ++ (n.cs.take m).flatMap (cellB n.leaf)) ∧ Bk W nb (nhC n.leaf c k) 30 ∧ Ext [] w W, ⟨_, 0, rfl, by omega, rfl, by simpa using h9, hk9, e9⟩, ?_⟩
  rintro kk b' i w10 ⟨m, rfl, hm, rfl, h10, hk10, e10⟩
  have htl : ∀ m, m ≤ n.cs.length → (headB n ++ (n.cs.take m).flatMap (cellB n.leaf)).length ≤ 300000000 := fun m hm => by
    have := cellsB_len (leaf := n.leaf) (cs := n.cs.take m) (fun x hx => hs.t x (List.mem_of_mem_take hx))
    rw [List.length_take] at this
    rw [List.length_append]
    omega
  refine VIf.mk (fun hd => ?_) (fun hd => ?_)
  · have hm' : m < n.cs.length := by rw [hl] at hd; simp at hd; omega
    have h10n := h.ext0 e10
    refine VIx.i' (r := ceR) h10n.ci.1 hm' fun a hr => VLd.ce (n.cs[m]) hr ?_
    obtain ⟨x, hx⟩ : ∃ x, x = n.cs[m] := ⟨_, rfl⟩
    have hxs := hs.t x (by rw [hx]; exact List.getElem_mem hm')
    rw [← hx]
    refine VNw.i fun cb w11 hcb hk11 e11 => VSt.bk hk11 rfl (by simp) fun w12 hk12 e12 => ?_
    have hk12 : Bk w12 cb (ceC x) 48 := hk12
    have e1012 : Ext [] w10 w12 := e11.then e12 (fun i hi hlt => by simp at hi; omega)
    have ho12 := h10.ext0 e1012
    have hn12 := hk10.ext e1012
    have e012 := e10.then0 e1012
    have hlm := htl m hm
    refine VLd.i1 (t := .str) x.key (Rd.of_bk hk12 rfl) ?_
    refine VCall.i (Str_spec b' _ x.key w12 ho12.seg (by omega)) ?_
    rintro e w13 ⟨s13, rfl, h13, e13⟩
    refine exW.i1 (t := .sl) s13 rfl ?_
    have h13 := h13.mono e012.size
    have hk13 := hk12.ext e13
    have hn13 := hn12.ext e13
    have e013 := e012.then0 e13
    have hkey := encS_len x.key
    have hval := encS_len x.val
    refine ⟨fun b2 W => Own w W b2 (headB n ++ (n.cs.take (m + 1)).flatMap (cellB n.leaf)) ∧ Bk W nb (nhC n.leaf c k) 30 ∧ Ext [] w W, ?_, ?_⟩
    · refine VLd.i1 (t := .bool) n.leaf (Rd.of_bk hn13 rfl) (VIf.mk (fun hq => ?_) (fun hq => ?_))
      · have hq : n.leaf = false := by simpa using hq
        refine ⟨?_, hn13, e013⟩
        have hcb : cellB n.leaf x = encS x.key := by unfold cellB; rw [hq]; simp
        rw [flatMap_take_succ _ _ _ hm', ← hx, hcb]
        simpa using h13
      · have hq : n.leaf = true := by simpa using hq
        refine VLd.i1 (t := .int .i64) x.long (Rd.of_bk hk13 rfl) (VIf.mk (fun h0 => ?_) (fun h0 => ?_))
        · have h0 : x.long = 0 := by simpa using h0
          intro w14 hw14
          have ed := Ext.drew' hw14
          have hk14 := hk13.ext ed
          refine VLd.i1 (t := .str) x.val (Rd.of_bk hk14 rfl) ?_
          refine VNw.i fun b41 w15 hb41 hk15 e15 => ⟨Rd.of_bk (hk14.ext e15) rfl, ?_⟩
          have e015 := (e013.then0 ed).then0 e15
          refine VCall.i (counts_spec s13 _ ⟨some ⟨b41, 0, none⟩, 1, 1⟩ [0] w w15 ((h13.ext0 ed).ext0 e15) (ints_in hk15 rfl (by omega)) e015.size (by rw [List.length_append]; simp only [List.length_cons, List.length_nil]; omega)) ?_
          rintro e w16 ⟨s16, rfl, h16, e16⟩
          have hc0 := encC_len 0
          refine exW.i1 (t := .sl) s16 rfl ⟨Rd.of_bk ((hk14.ext e15).ext e16) rfl, ?_⟩
          have e016 := e015.then0 e16
          refine VCall.i (Str_spec s16 _ x.val w16 h16.seg (by simp only [List.length_append, List.flatMap_cons, List.flatMap_nil, List.length_nil]; rw [List.length_append] at hlm; omega)) ?_
          rintro e w17 ⟨s17, rfl, h17, e17⟩
          refine exW.i1 (t := .sl) s17 rfl ⟨?_, (((hn13.ext ed).ext e15).ext e16).ext e17, e016.then0 e17⟩
          have h17 := h17.mono e016.size
          have hcb : cellB n.leaf x = encS x.key ++ (encC 0 ++ encS x.val) := by unfold cellB; rw [hq, if_pos rfl, if_pos h0, h0]
          rw [flatMap_take_succ _ _ _ hm', ← hx, hcb]
          simpa using h17
        · have h0 : ¬ x.long = 0 := by simpa using h0
          refine VLd.i1 (t := .int .i64) x.long (Rd.of_bk hk13 rfl) (VLd.i1 (t := .int .i64) x.size (Rd.of_bk hk13 rfl) ?_)
          refine VNw.i fun b30 w18 hb30 hk18 e18 => ?_
          have e018 := e013.then0 e18
          refine VCall.i (counts_spec s13 _ ⟨some ⟨b30, 0, none⟩, 2, 2⟩ [x.long, x.size] w w18 (h13.ext0 e18) (ints_in hk18 rfl (by omega)) e018.size (by rw [List.length_append]; simp only [List.length_cons, List.length_nil]; omega)) ?_
          rintro e w19 ⟨s19, rfl, h19, e19⟩
          refine exW.i1 (t := .sl) s19 rfl ⟨?_, (hn13.ext e18).ext e19, e018.then0 e19⟩
          have hcb : cellB n.leaf x = encS x.key ++ (encC x.long ++ encC x.size) := by unfold cellB; rw [hq, if_pos rfl, if_neg h0]
          rw [flatMap_take_succ _ _ _ hm', ← hx, hcb]
          simpa using h19
    · rintro b2 w20 ⟨h20, hn20, e20⟩
      exact ⟨_, (show n.cs.length - (m + 1) < n.cs.length - m by omega), m + 1, w64 (n := (m : Int) + 1) (by omega), by omega, rfl, h20, hn20, e20⟩
  · have hmm : m = n.cs.length := by rw [hl] at hd; simp at hd; omega
    subst hmm
    rw [List.take_length] at h10
    refine VLd.i1 (t := .bool) n.leaf (Rd.of_bk hk10 rfl) (VIf.mk (fun hq => ?_) (fun hq => ?_))
    · refine ⟨b', rfl, ?_, e10⟩
      unfold bytesN
      rw [if_pos hq, List.append_nil]
      exact h10
    · refine VLd.s k (Rd.of_bk hk10 rfl) ?_
      have hlm := htl n.cs.length (Nat.le_refl _)
      rw [List.take_length] at hlm
      refine VCall.i (counts_spec b' _ k n.ks w w10 h10 (h.ext0 e10).ki e10.size (by omega)) ?_
      rintro e w21 ⟨s21, rfl, h21, e21⟩
      refine exW.i1 (t := .sl) s21 rfl ⟨s21, rfl, ?_, e10.then0 e21⟩
      unfold bytesN
      rw [if_neg (by simp [hq])]
      exact h21
def sizeN (n : Nd) : Nat := if okN n then (bytesN n).length else 0
def encN (n : Nd) : List UInt8 × Int := if okN n then (if 512 < (bytesN n).length then ([], 40) else (bytesN n, 0)) else ([], 4)
theorem Size_spec (c k : Sl) (n : Nd) (w : World) (h : NIn w c k n) (hs : Small n) : Calls Try.prog 21 #[.agg (nhC n.leaf c k).toArray] w fun e w' => e = .returned (.int .i64 ((sizeN n : Nat) : Int)) ∧ Ext [] w w' := by
  refine sh_node_Size_ok _ _ _ _ _ ?_
  unfold sh_node_Size
  have hsc := hs.c
  refine VNw.i fun nb w1 hnb hk1 e1 => ?_
  have hk1 : Bk w1 nb (nhC n.leaf c k) 30 := hk1
  refine VLd.nh n.leaf c k (Rd.of_bk hk1 rfl) (VCall.i (Check_spec c k n w1 (h.ext0 e1) (by omega)) ?_)
  rintro e w2 ⟨rfl, e2⟩
  have e02 := e1.then0 e2
  refine exW.i1 (t := .bool) _ rfl (VIf.mk (fun hq => ⟨?_, e02⟩) (fun hq => ?_))
  · have hq : okN n = false := by simpa using hq
    unfold sizeN
    rw [hq]; rfl
  · have hq : okN n = true := by simpa using hq
    refine VLd.nh n.leaf c k (Rd.of_bk (hk1.ext e2) rfl) (VCall.i (bytes_spec c k n w2 (h.ext0 e02) hs) ?_)
    rintro e w3 ⟨s3, rfl, h3, e3⟩
    refine exW.i1 (t := .sl) s3 rfl (VSet.i ⟨?_, e02.then0 e3⟩)
    unfold sizeN
    rw [if_pos hq, h3.len]
theorem Encode_spec (c k : Sl) (n : Nd) (w : World) (h : NIn w c k n) (hs : Small n) : Calls Try.prog 24 #[.agg (nhC n.leaf c k).toArray] w fun e w' => ∃ s' : Sl, e = .returned (.tuple #[.slice s'.base s'.len s'.cap, .int .i64 (encN n).2]) ∧ Own w w' s' (encN n).1 ∧ Ext [] w w' := by
  refine sh_node_Encode_ok _ _ _ _ _ ?_
  unfold sh_node_Encode
  have hsc := hs.c
  refine VNw.i fun nb w1 hnb hk1 e1 => ?_
  have hk1 : Bk w1 nb (nhC n.leaf c k) 30 := hk1
  refine VLd.nh n.leaf c k (Rd.of_bk hk1 rfl) (VCall.i (Check_spec c k n w1 (h.ext0 e1) (by omega)) ?_)
  rintro e w2 ⟨rfl, e2⟩
  have e02 := e1.then0 e2
  refine exW.i1 (t := .bool) _ rfl (VIf.mk (fun hq => ?_) (fun hq => ?_))
  · have hq : okN n = false := by simpa using hq
    have hr : encN n = ([], 4) := by unfold encN; rw [hq]; rfl
    rw [hr]
    exact ⟨⟨none, 0, 0⟩, rfl, Own.nil _ _, e02⟩
  · have hq : okN n = true := by simpa using hq
    refine VLd.nh n.leaf c k (Rd.of_bk (hk1.ext e2) rfl) (VCall.i (bytes_spec c k n w2 (h.ext0 e02) hs) ?_)
    rintro e w3 ⟨s3, rfl, h3, e3⟩
    have hl3 := h3.len
    have e03 := e02.then0 e3
    refine exW.i1 (t := .sl) s3 rfl (VIf.mk (fun hb => ?_) (fun hb => ?_))
    · have hb : 512 < (bytesN n).length := by rw [hl3] at hb; simp at hb; omega
      have hr : encN n = ([], 40) := by unfold encN; rw [if_pos hq, if_pos hb]
      rw [hr]
      exact ⟨⟨none, 0, 0⟩, rfl, Own.nil _ _, e03⟩
    · have hb : ¬ 512 < (bytesN n).length := by rw [hl3] at hb; simp at hb; omega
      have hr : encN n = (bytesN n, 0) := by unfold encN; rw [if_pos hq, if_neg hb]
      rw [hr]
      exact ⟨s3, rfl, h3.mono e02.size, e03⟩
end Go.Proofs.Ytknohdgcigcmdaa
