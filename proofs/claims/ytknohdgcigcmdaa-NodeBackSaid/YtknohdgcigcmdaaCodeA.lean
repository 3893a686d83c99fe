/-
  Package code, written: contracts of Clone, uvarint, Num, Count, Str, Flag: new memory, what was handed in stands.
-/
import Derived.Test.YtknohdgcigcmdaaCodeO
import Derived.Test.YtknohdgcigcmdaaSh
namespace Go.Proofs.Ytknohdgcigcmdaa
open Go.RowKit
set_option maxRecDepth 100000

theorem Clone_spec (s : Sl) (l : List UInt8) (w : World) (h : Seg w s.base s.len 1 (bc l)) (hl : l.length ≤ 140737488355328) :
    Calls Try.prog 73 #[.slice s.base s.len s.cap] w fun e w' => ∃ s' : Sl, e = .returned (.slice s'.base s'.len s'.cap) ∧ Own w w' s' l ∧ Ext [] w w' := by
  refine sh_bytes_Clone_ok _ _ _ ?_
  unfold sh_bytes_Clone
  have hn := h.blen
  refine VIf.mk (fun hc => ?_) (fun hc => ?_)
  · have hz : l = [] := by
      rcases h.2 with h0 | ⟨a, ha, _⟩
      · exact List.length_eq_zero_iff.1 (by omega)
      · rw [ha] at hc; simp at hc
    subst hz
    exact ⟨⟨none, 0, 0⟩, rfl, Own.nil _ _, Ext.refl _ _⟩
  · refine VNw.i fun b w1 hb hk e1 => ?_
    have ho : Own w w1 ⟨some ⟨b, 0, none⟩, 0, 0⟩ [] := ⟨Row.of_bk (size := 1) hk rfl (by omega), by simp [rowB]; omega⟩
    refine VApp.own (s := ⟨some ⟨b, 0, none⟩, 0, 0⟩) ho e1 (h.ext0 e1) hn.symm (by simp; omega) fun s' w' h' e' _ => ?_
    exact ⟨s', rfl, h', e'⟩

theorem uvarint_spec (s : Sl) (l : List UInt8) (u : Nat) (w : World) (h : Seg w s.base s.len 1 (bc l)) (hl : l.length ≤ 140737488355300) (hu : u < 18446744073709551616) :
    Calls Try.prog 86 #[.slice s.base s.len s.cap, .int .u64 (u : Int)] w fun e w' => ∃ s' : Sl, e = .returned (.slice s'.base s'.len s'.cap) ∧ Own w w' s' (l ++ enc u) ∧ Ext [] w w' := by
  refine sh_code_uvarint_ok _ _ _ _ ?_
  unfold sh_code_uvarint
  refine VCall.i (Clone_spec s l w h (by omega)) ?_
  rintro e w1 ⟨s1, rfl, h1, e1⟩
  refine exW.i1 (t := .sl) s1 rfl ?_
  have hlen := enc_len10 hu
  refine ⟨fun k n o W => ∃ (m : Nat) (p : List UInt8), n = (m : Int) ∧ k = m ∧ m < 18446744073709551616 ∧ Own w W o p ∧ Ext [] w W ∧ p ++ enc m = l ++ enc u, ⟨_, u, l, rfl, rfl, hu, h1, e1, rfl⟩, ?_⟩
  clear h1 e1 s1
  rintro k n o w2 ⟨m, p, rfl, rfl, hm, h2, e2, hp⟩
  have hpl : p.length + (enc k).length = l.length + (enc u).length := by rw [← List.length_append, hp, List.length_append]
  have hem := enc_pos k
  refine VIf.mk (fun hc => ?_) (fun hc => ?_)
  · simp at hc
    refine VNw.i fun b w3 hb hk e3 => ?_
    have hbyte : [Value.int .u8 (bOr .u8 (IntKind.wrap .u8 (k : Int)) 128)] = bc [UInt8.ofNat (k % 128 + 128)] := by
      have := or128 ⟨k % 256, Nat.mod_lt _ (by omega)⟩
      simp only at this
      rw [wrap8, show ((k : Int) % 256) = ((k % 256 : Nat) : Int) by omega, this]
      simp only [bc, List.map_cons, List.map_nil]
      rw [ofNat8 (by omega)]
      rw [show k % 256 % 128 = k % 128 by omega]
    have hk : Bk w3 b (bc [UInt8.ofNat (k % 128 + 128)]) 5 := by rw [← hbyte]; exact hk
    refine VApp.own (h2.ext0 e3) (e2.then0 e3) (news := [UInt8.ofNat (k % 128 + 128)]) (Seg.of_bk hk (by simp [bc]) (by simp [bc])) rfl (by omega) fun s' w' h' e' _ => ?_
    refine VSet.i ⟨_, ?_, k / 128, p ++ [UInt8.ofNat (k % 128 + 128)], ?_, rfl, by omega, h', e', ?_⟩
    · omega
    · rw [Int.fdiv_eq_ediv_of_nonneg _ (by omega)]; omega
    · rw [← hp, enc_big (u := k) (by omega)]; simp
  · simp at hc
    refine VNw.i fun b w3 hb hk e3 => ?_
    have hbyte : [Value.int .u8 (IntKind.wrap .u8 (k : Int))] = bc [UInt8.ofNat k] := by
      rw [wrap8, show ((k : Int) % 256) = (k : Int) by omega]
      simp only [bc, List.map_cons, List.map_nil]
      rw [ofNat8 (by omega)]
    have hk : Bk w3 b (bc [UInt8.ofNat k]) 5 := by rw [← hbyte]; exact hk
    refine VApp.own (h2.ext0 e3) (e2.then0 e3) (news := [UInt8.ofNat k]) (Seg.of_bk hk (by simp [bc]) (by simp [bc])) rfl (by omega) fun s' w' h' e' _ => ?_
    exact ⟨s', rfl, by rw [← hp, enc_small (u := k) (by omega)]; exact h', e'⟩

/-- a count's bytes -/
def encC (n : Int) : List UInt8 := if 0 ≤ n ∧ n ≤ 2147483647 then enc n.toNat else []
theorem encC_len (n : Int) : (encC n).length ≤ 10 := by
  unfold encC; split
  · exact enc_len10 (by omega)
  · simp
theorem Count_spec (s : Sl) (l : List UInt8) (n : Int) (w : World) (h : Seg w s.base s.len 1 (bc l)) (hl : l.length ≤ 140737488355300) :
    Calls Try.prog 80 #[.slice s.base s.len s.cap, .int .i64 n] w fun e w' => ∃ s' : Sl, e = .returned (.slice s'.base s'.len s'.cap) ∧ Own w w' s' (l ++ encC n) ∧ Ext [] w w' := by
  refine sh_code_Count_ok _ _ _ _ ?_
  unfold sh_code_Count encC
  refine VIf.mk (fun hc => ?_) (fun hc => ?_)
  · simp at hc
    rw [if_neg (by omega), List.append_nil]
    refine VCall.i (Clone_spec s l w h (by omega)) ?_
    rintro e w1 ⟨s1, rfl, h1, e1⟩
    exact exW.i1 (t := .sl) s1 rfl ⟨s1, rfl, h1, e1⟩
  · simp at hc
    rw [if_pos (by omega), w64u, show n % 18446744073709551616 = ((n.toNat : Nat) : Int) by omega]
    refine VCall.i (uvarint_spec s l n.toNat w h hl (by omega)) ?_
    rintro e w1 ⟨s1, rfl, h1, e1⟩
    exact exW.i1 (t := .sl) s1 rfl ⟨s1, rfl, h1, e1⟩

/-- a text's bytes -/
def encS (s : ByteArray) : List UInt8 := if s.size ≤ 2147483647 then enc s.size ++ s.data.toList else []
theorem Str_spec (s : Sl) (l : List UInt8) (x : ByteArray) (w : World) (h : Seg w s.base s.len 1 (bc l)) (hl : l.length ≤ 130737488355300) :
    Calls Try.prog 64 #[.slice s.base s.len s.cap, .string x] w fun e w' => ∃ s' : Sl, e = .returned (.slice s'.base s'.len s'.cap) ∧ Own w w' s' (l ++ encS x) ∧ Ext [] w w' := by
  refine sh_code_Str_ok _ _ _ _ ?_
  unfold sh_code_Str encS
  refine VIf.mk (fun hc => ?_) (fun hc => ?_)
  · simp at hc
    rw [if_neg (by omega), List.append_nil]
    refine VCall.i (Clone_spec s l w h (by omega)) ?_
    rintro e w1 ⟨s1, rfl, h1, e1⟩
    exact exW.i1 (t := .sl) s1 rfl ⟨s1, rfl, h1, e1⟩
  · simp at hc
    rw [if_pos (by omega)]
    refine VCall.i (Count_spec s l x.size w h (by omega)) ?_
    rintro e w1 ⟨s1, rfl, h1, e1⟩
    refine exW.i1 (t := .sl) s1 rfl ?_
    have hC : encC (x.size : Int) = enc x.size := by unfold encC; rw [if_pos (by omega)]; rfl
    rw [hC] at h1
    have hlen := enc_len10 (show x.size < 18446744073709551616 by omega)
    refine VApp.own h1 e1 (news := x.data.toList) (bc_str x) Array.length_toList (by simp only [List.length_append]; omega) fun s' w' h' e' _ => ?_
    exact ⟨s', rfl, by rw [← List.append_assoc]; exact h', e'⟩

theorem Flag_spec (s : Sl) (l : List UInt8) (v : Bool) (w : World) (h : Seg w s.base s.len 1 (bc l)) (hl : l.length ≤ 140737488355300) :
    Calls Try.prog 63 #[.slice s.base s.len s.cap, .bool v] w fun e w' => ∃ s' : Sl, e = .returned (.slice s'.base s'.len s'.cap) ∧ Own w w' s' (l ++ enc (if v then 1 else 0)) ∧ Ext [] w w' := by
  refine sh_code_Flag_ok _ _ _ _ ?_
  unfold sh_code_Flag
  refine ⟨fun n W => n = (if v then 1 else 0) ∧ W = w, VIf.mk (fun hc => ⟨by simp [hc], rfl⟩) (fun hc => ⟨by simp [hc], rfl⟩), ?_⟩
  rintro n w1 ⟨rfl, rfl⟩
  refine VCall.i (Count_spec s l _ _ h hl) ?_
  rintro e w1 ⟨s1, rfl, h1, e1⟩
  refine exW.i1 (t := .sl) s1 rfl ⟨s1, rfl, ?_, e1⟩
  have : encC (if v then 1 else 0) = enc (if v then 1 else 0) := by cases v <;> rfl
  rw [← this]; exact h1
end Go.Proofs.Ytknohdgcigcmdaa
