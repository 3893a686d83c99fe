/-
  Slices of bytes: in memory of their own, read, put behind one another, told as texts.
-/
import Derived.Test.YtknohdgcigcmdaaCodeP
import Derived.ChangeKeysEq
namespace Go.Proofs.Ytknohdgcigcmdaa
open Go.RowKit
set_option maxRecDepth 100000

/-- a slice of bytes in memory of its own -/
def Own (w0 w : World) (s : Sl) (l : List UInt8) : Prop := Row w 5 1 s (bc l) ∧ ∀ b ∈ rowB s, w0.heap.size ≤ b
theorem Own.ext0 {w0 w w' : World} {s : Sl} {l : List UInt8} (h : Own w0 w s l) (e : Ext [] w w') : Own w0 w' s l := ⟨h.1.ext0 e, h.2⟩
theorem Own.seg {w0 w : World} {s : Sl} {l : List UInt8} (h : Own w0 w s l) : Seg w s.base s.len 1 (bc l) := h.1.seg
theorem Own.len {w0 w : World} {s : Sl} {l : List UInt8} (h : Own w0 w s l) : s.len = l.length := by have := h.1.1; rw [bc_len] at this; omega
theorem Own.mono {w0 w1 w : World} {s : Sl} {l : List UInt8} (h : Own w1 w s l) (e : w0.heap.size ≤ w1.heap.size) : Own w0 w s l := ⟨h.1, fun b hb => Nat.le_trans e (h.2 b hb)⟩
theorem Own.cap {w0 w : World} {s : Sl} {l : List UInt8} (h : Own w0 w s l) : s.len ≤ s.cap ∧ s.cap ≤ 9223372036854775807 := ⟨h.1.2.1, h.1.2.2.1⟩
theorem Seg.blen {w : World} {a : Option Addr} {n : Nat} {l : List UInt8} (h : Seg w a n 1 (bc l)) : n = l.length := by have := h.1; rw [bc_len] at this; omega
theorem Own.nil (w0 w : World) : Own w0 w ⟨none, 0, 0⟩ [] := ⟨Row.nil _ _ _, by simp [rowB]⟩

/-- bytes put behind an own row -/
theorem VApp.own {w0 w : World} {s : Sl} {l news : List UInt8} {m : Nat} {src : List Value → Prop} {K : Sl → World → Prop} (h : Own w0 w s l) (e0 : Ext [] w0 w) (hs : src (bc news)) (hm : news.length = m)
    (hb : l.length + m ≤ 140737488355328) (k : ∀ s' w', Own w0 w' s' (l ++ news) → Ext [] w0 w' → Ext (rowB s) w w' → K s' w') : VApp none w 5 1 1 #[.int .u8 0] s.base s.len s.cap m src K := by
  have hl := h.len
  refine VApp.row (news := bc news) h.1 rfl hs (by rw [bc_len]; omega) (bc_one _) (by omega) (by omega) fun s' w' hr hlen he hbl _ => ?_
  rw [← bc_app] at hr
  refine k s' w' ⟨hr, fun b hb => ?_⟩ (e0.then he (fun i hi hlt => by have := h.2 i hi; omega)) he
  rcases hbl b hb with h' | h'
  · exact h.2 b h'
  · have := e0.size; omega

theorem Bk.ne' {w : World} {a b : Nat} {cs ds : List Value} {t u : TypeId} (h : Bk w a cs t) (k : Bk w b ds u) (hne : t ≠ u) : a ≠ b := by
  rintro rfl
  obtain ⟨f, h1, _⟩ := h
  obtain ⟨g, k1, _⟩ := k
  rw [h1] at k1
  cases k1
  exact hne rfl

/-- bytes that a slice reads -/
def BSl (w : World) (s : Sl) (d : Nat) (l : List UInt8) : Prop :=
  s.len = l.length ∧ s.len ≤ s.cap ∧ s.cap ≤ 9223372036854775807 ∧ (s.len = 0 ∨ ∃ off cells, s.base = some ⟨d, off, none⟩ ∧ Bk w d cells 5 ∧ (cells.drop off).take s.len = bc l)
theorem BSl.ext {M : List Nat} {w w' : World} {s : Sl} {d : Nat} {l : List UInt8} (h : BSl w s d l) (e : Ext M w w') (hd : s.len ≠ 0 → d ∉ M) : BSl w' s d l := by
  obtain ⟨h1, h2, h0, h3⟩ := h
  by_cases hz : s.len = 0
  · exact ⟨h1, h2, h0, .inl hz⟩
  refine ⟨h1, h2, h0, h3.imp id ?_⟩
  rintro ⟨off, cells, hb, hk, hc⟩
  exact ⟨off, cells, hb, hk.ext e (hd hz), hc⟩
theorem BSl.ne {w : World} {s : Sl} {d q : Nat} {l : List UInt8} {cs : List Value} {t : TypeId} (h : BSl w s d l) (k : Bk w q cs t) (ht : 5 ≠ t) (hz : s.len ≠ 0) : d ≠ q := by
  obtain ⟨_, _, _, h3⟩ := h
  rcases h3 with h3 | ⟨off, cells, hb, hk, hc⟩
  · exact absurd h3 hz
  · exact hk.ne' k ht
theorem BSl.seg {w : World} {s : Sl} {d : Nat} {l : List UInt8} (h : BSl w s d l) : Seg w s.base s.len 1 (bc l) := by
  obtain ⟨h1, h2, _, h3⟩ := h
  refine ⟨by rw [bc_len]; omega, h3.imp id ?_⟩
  rintro ⟨off, cells, hb, hk, hc⟩
  exact ⟨_, hb, Rd.of_bk hk (by rw [bc_len, ← h1]; exact hc)⟩
theorem BSl.cut {w : World} {s : Sl} {d : Nat} {l : List UInt8} (h : BSl w s d l) (n : Nat) (hn : n ≤ l.length) : BSl w ⟨cutB s.base s.cap 1 n, s.len - n, s.cap - n⟩ d (l.drop n) := by
  obtain ⟨h1, h2, h0, h3⟩ := h
  refine ⟨by simp; omega, by simp only; omega, by simp only; omega, ?_⟩
  by_cases hz : s.len - n = 0
  · exact .inl hz
  · right
    rcases h3 with h3 | ⟨off, cells, hb, hk, hc⟩
    · omega
    · refine ⟨off + n, cells, ?_, hk, ?_⟩
      · simp only [cutB]
        rw [if_neg (by omega), hb]
        simp [Nat.add_comm]
      · simp only
        rw [← bc_drop, ← hc, List.drop_take, List.drop_drop]
theorem BSl.head {w : World} {s : Sl} {d : Nat} {l : List UInt8} (h : BSl w s d l) (n : Nat) (hn : n ≤ l.length) : BSl w ⟨cutB s.base s.cap 1 0, n - 0, s.cap - 0⟩ d (l.take n) := by
  obtain ⟨h1, h2, h0, h3⟩ := h
  refine ⟨by simp; omega, by simp only; omega, by simp only; omega, ?_⟩
  by_cases hz : n = 0
  · exact .inl (by simp only; omega)
  · right
    rcases h3 with h3 | ⟨off, cells, hb, hk, hc⟩
    · omega
    · refine ⟨off, cells, ?_, hk, ?_⟩
      · simp only [cutB]
        rw [if_neg (by omega), hb]
        simp
      · simp only [Nat.sub_zero]
        rw [← bc_take, ← hc, List.take_take, show min n s.len = n by omega]
theorem Own.bsl {w0 w : World} {s : Sl} {l : List UInt8} (h : Own w0 w s l) (z : Nat) (hz : w0.heap.size ≤ z) : ∃ d, w0.heap.size ≤ d ∧ BSl w s d l := by
  have hl := h.len
  have hc := h.cap
  obtain ⟨⟨_, _, _, h3⟩, h4⟩ := h
  rcases h3 with ⟨hb, h0⟩ | ⟨b, rest, hb, hk, _⟩
  · exact ⟨z, hz, hl, hc.1, hc.2, .inl (by omega)⟩
  · refine ⟨b, h4 b (by simp [rowB, hb]), hl, hc.1, hc.2, .inr ⟨0, _, hb, hk, ?_⟩⟩
    rw [List.drop_zero, hl, ← bc_len, List.take_left]

theorem strEq (a b : ByteArray) : (a.toList == b.toList) = (a.data.toList == b.data.toList) := by simp [ByteArray.toList_eq]
/-- a slice told as a text -/
theorem VStr.i {g : Option Bool} {w : World} {base : Option Addr} {n : Nat} {K : ByteArray → Prop} (l : List UInt8) (h : Seg w base n 1 (bc l)) (k : ∀ s : ByteArray, s.data.toList = l → K s) : VStr g w base n K :=
  ⟨⟨l.toArray⟩, gd.i h, k _ rfl⟩
theorem VStr.off {c : Bool} {w : World} {base : Option Addr} {n : Nat} {K : ByteArray → Prop} (hc : c = false) (k : ∀ s : ByteArray, K s) : VStr (some c) w base n K :=
  ⟨⟨#[]⟩, fun e => absurd (hc.symm.trans e) (by simp), k _⟩

theorem Row.put {g : Option Bool} {W : World} {s : Sl} {m : List UInt8} {q : Nat} {v : UInt8} {K : World → Prop} (h : Row W 5 1 s (bc m)) (hq : q < s.len)
    (k : ∀ W', Row W' 5 1 s (bc (m.set q v)) → Ext (rowB s) W W' → K W') :
    VIx g s.base s.len (q : Int) fun (a : Addr) => VSt none W (Addr.add a ((Int.toNat (q : Int)) * 1)) [.int .u8 ((v.toNat : Nat) : Int)] K := by
  obtain ⟨g1, g2, g3, g4⟩ := h
  rw [bc_len] at g1
  rcases g4 with ⟨_, h6⟩ | ⟨b, rest, hb, hk, hl⟩
  · omega
  · rw [hb]
    refine VIx.i (by omega) (by omega) ?_
    simp only [add_blk, Int.toNat_natCast, Nat.zero_add, Nat.mul_one]
    refine VSt.bk hk rfl (by simp only [List.length_append, bc_len, List.length_singleton]; omega) fun w5 hk5 e5 => ?_
    have hset : (bc m ++ rest).take q ++ [Value.int .u8 ((v.toNat : Nat) : Int)] ++ (bc m ++ rest).drop (q + [Value.int .u8 ((v.toNat : Nat) : Int)].length) = bc (m.set q v) ++ rest := by
      rw [List.take_append_of_le_length (by rw [bc_len]; omega), List.drop_append_of_le_length (by rw [bc_len]; simp; omega), bc_take, bc_drop]
      rw [List.set_eq_take_append_cons_drop, if_pos (by omega)]
      simp [bc]
    rw [hset] at hk5
    refine k w5 ⟨by rw [bc_len, List.length_set]; exact g1, g2, g3, .inr ⟨b, rest, hb, hk5, by rw [bc_len, List.length_set, ← bc_len]; exact hl⟩⟩ (by rw [show rowB s = [b] by simp [rowB, hb]]; exact e5)

theorem Own.bk {w0 w : World} {s : Sl} {l : List UInt8} (h : Own w0 w s l) (h0 : 0 < s.len) : ∃ b rest, s.base = some ⟨b, 0, none⟩ ∧ Bk w b (bc l ++ rest) 5 ∧ w0.heap.size ≤ b := by
  obtain ⟨⟨h1, h2, h3, h4⟩, h5⟩ := h
  rcases h4 with ⟨_, h6⟩ | ⟨b, rest, hb, hk, _⟩
  · omega
  · exact ⟨b, rest, hb, hk, h5 b (by simp [rowB, hb])⟩

end Go.Proofs.Ytknohdgcigcmdaa
