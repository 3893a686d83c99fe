/-
  Package parts, plain: what a joiner does with a packet; and a part put in, in memory.
-/
import Derived.Test.YthpbkkjggnejcaaPartsH
namespace Go.Proofs.Ythpbkkjggnejcaa
open Go.RowKit
set_option maxRecDepth 100000

abbrev Ab := List (Ky × Slots)
def absE (K : List KE) : Ab := K.map fun k => (k.key, k.sl)
def dropA (A : Ab) (who : Ky) : Ab := A.filter fun k => !decide (k.1 = who)
def roomA (A : Ab) : Ab := if A.length = 16 then A.tail else A
def findA (A : Ab) (who : Ky) : Option Slots := (A.find? fun k => decide (k.1 = who)).map (·.2)
def setA (A : Ab) (who : Ky) (sl : Slots) : Ab := A.map fun k => if k.1 = who then (who, sl) else k
def putS (s : Slots) (i : Nat) (d : ByteArray) : Slots := if s[i]? = some none then s.set i (some d) else s
def joinS (s : Slots) : List UInt8 := s.flatMap fun x => (x.getD ByteArray.empty).data.toList
def takeA1 (A : Ab) (who : Ky) (count : Int) : Ab := match findA A who with
  | some sl => if (sl.length : Int) ≠ count then dropA A who else A
  | none => A
def takeA2 (A : Ab) (who : Ky) (n : Nat) : Ab := match findA A who with
  | some _ => A
  | none => roomA A ++ [(who, List.replicate n none)]
/-- what a joiner does with a packet: what it keeps then, what it tells -/
def takeP (A : Ab) (fr : Int) (l : List UInt8) : Ab × List UInt8 × Bool × Int :=
  if (readP l).2 ≠ 0 then (A, [], false, (readP l).2)
  else if (readP l).1.count = 1 then (takeA1 A (fr, (readP l).1.number) (readP l).1.count, (readP l).1.data.data.toList, true, 0)
  else
    if 0 < leftOf (putS ((findA (takeA2 (takeA1 A (fr, (readP l).1.number) (readP l).1.count) (fr, (readP l).1.number) (readP l).1.count.toNat) (fr, (readP l).1.number)).getD []) (readP l).1.place.toNat (readP l).1.data) then
      (setA (takeA2 (takeA1 A (fr, (readP l).1.number) (readP l).1.count) (fr, (readP l).1.number) (readP l).1.count.toNat) (fr, (readP l).1.number) (putS ((findA (takeA2 (takeA1 A (fr, (readP l).1.number) (readP l).1.count) (fr, (readP l).1.number) (readP l).1.count.toNat) (fr, (readP l).1.number)).getD []) (readP l).1.place.toNat (readP l).1.data), [], false, 0)
    else (dropA (takeA2 (takeA1 A (fr, (readP l).1.number) (readP l).1.count) (fr, (readP l).1.number) (readP l).1.count.toNat) (fr, (readP l).1.number), joinS (putS ((findA (takeA2 (takeA1 A (fr, (readP l).1.number) (readP l).1.count) (fr, (readP l).1.number) (readP l).1.count.toNat) (fr, (readP l).1.number)).getD []) (readP l).1.place.toNat (readP l).1.data), true, 0)
/-- what is known of a part that was read -/
theorem readP_ok {l : List UInt8} (h : (readP l).2 = 0) : 0 ≤ (readP l).1.number ∧ (readP l).1.number ≤ 2147483647 ∧ 0 ≤ (readP l).1.place ∧ (readP l).1.place < (readP l).1.count ∧ (readP l).1.count ≤ 22 ∧ (readP l).1.data.size ≤ 380 ∧ ¬ badP (readP l).1.place (readP l).1.count (readP l).1.data.size := by
  unfold readP at h ⊢
  split at h
  · rename_i h1; exact absurd h h1
  · rename_i h1
    rw [if_neg h1]
    split at h
    · cases h
    · rename_i h2
      rw [if_neg h2]
      split at h
      · cases h
      · rename_i h3
        rw [if_neg h3]
        have h4 := rStr_le 380 (by omega) (rCount 22 (rCount 21 (rCount 2147483647 (some (openF l).2.1)).2).2).2
        refine ⟨(rCount_pos _ _).1, (rCount_pos _ _).2, (rCount_pos _ _).1, ?_, rCount_le 22 (by omega) _, ?_, h3⟩
        · show (rawP (some (openF l).2.1)).1.place < (rawP (some (openF l).2.1)).1.count
          simp only [not_or] at h2
          omega
        · show (rStr 380 _).1.size ≤ 380
          omega
theorem abs_drop (K : List KE) (who : Ky) : absE (dropE K who) = dropA (absE K) who := by
  unfold absE dropE dropA
  rw [List.filter_map]
  rfl
theorem abs_room (K : List KE) : absE (roomE K) = roomA (absE K) := by
  unfold roomE roomA absE
  rw [List.length_map]
  split
  · rw [List.map_tail]
  · rfl
theorem abs_app (K L : List KE) : absE (K ++ L) = absE K ++ absE L := List.map_append ..
theorem find_none {K : List KE} {who : Ky} (h : ∀ k ∈ K, k.key ≠ who) : findA (absE K) who = none := by
  unfold findA absE
  rw [List.find?_eq_none.2]
  · rfl
  · intro x hx
    obtain ⟨k, hk, rfl⟩ := List.mem_map.1 hx
    simpa using h k hk
theorem find_some {K : List KE} (hn : (K.map (·.key)).Nodup) {k : KE} (hk : k ∈ K) : findA (absE K) k.key = some k.sl := by
  unfold findA absE
  induction K with
  | nil => cases hk
  | cons x K ih =>
    simp only [List.map_cons, List.nodup_cons] at hn
    rw [List.map_cons, List.find?_cons]
    rcases List.mem_cons.1 hk with rfl | hk
    · simp
    · have : x.key ≠ k.key := fun e => hn.1 (by rw [e]; exact List.mem_map_of_mem hk)
      simp only [this, decide_false]
      exact ih hn.2 hk
/-- who is kept, or nobody -/
theorem kept_or (K : List KE) (who : Ky) : (∃ k ∈ K, k.key = who) ∨ ∀ k ∈ K, k.key ≠ who := by
  by_cases h : ∃ k ∈ K, k.key = who
  · exact .inl h
  · exact .inr fun k hk e => h ⟨k, hk, e⟩
theorem putS_len (s : Slots) (i : Nat) (d : ByteArray) : (putS s i d).length = s.length := by unfold putS; split <;> simp
theorem putS_ok {s : Slots} {i : Nat} {d : ByteArray} (h : slotsOk s) (hd : d.size ≤ 380) (hd2 : i + 1 < s.length → d.size = 380) : slotsOk (putS s i d) := by
  obtain ⟨h1, h2, h3⟩ := h
  refine ⟨by rw [putS_len]; exact h1, by rw [putS_len]; exact h2, fun j e hj => ?_⟩
  rw [putS_len]
  unfold putS at hj
  split at hj
  · rw [List.getElem?_set] at hj
    split at hj
    · rename_i hij
      split at hj
      · simp only [Option.some.injEq] at hj
        subst hj hij
        exact ⟨hd, hd2⟩
      · cases hj
    · exact h3 j e hj
  · exact h3 j e hj
theorem left_set {s : Slots} {i : Nat} {d : ByteArray} (h : s[i]? = some none) : leftOf (s.set i (some d)) + 1 = leftOf s := by
  unfold leftOf
  induction s generalizing i with
  | nil => simp at h
  | cons x s ih =>
    cases i with
    | zero =>
      simp at h
      subst h
      simp [List.countP_cons]
    | succ i =>
      have h : s[i]? = some none := by simpa using h
      have := ih h
      rw [List.set_cons_succ, List.countP_cons, List.countP_cons]
      omega
def setE (K : List KE) (who : Ky) (sl : Slots) : List KE := K.map fun k => if k.key = who then { k with sl := sl } else k
theorem setE_keys (K : List KE) (who : Ky) (sl : Slots) : (setE K who sl).map (·.key) = K.map (·.key) := by
  unfold setE
  rw [List.map_map]
  apply List.map_congr_left
  intro k _
  simp only [Function.comp]
  split <;> rfl
theorem abs_set (K : List KE) (who : Ky) (sl : Slots) : absE (setE K who sl) = setA (absE K) who sl := by
  unfold absE setE setA
  rw [List.map_map, List.map_map]
  apply List.map_congr_left
  intro k _
  simp only [Function.comp]
  split
  · rename_i h; rw [← h]
  · rfl
theorem setE_mem {K : List KE} {who : Ky} {sl : Slots} {k : KE} (h : k ∈ setE K who sl) : ∃ k0 ∈ K, k.key = k0.key ∧ k.wb = k0.wb ∧ k.pb = k0.pb ∧ k.tb = k0.tb ∧ ((k0.key = who ∧ k.sl = sl) ∨ (k0.key ≠ who ∧ k.sl = k0.sl)) := by
  unfold setE at h
  obtain ⟨k0, hk0, rfl⟩ := List.mem_map.1 h
  refine ⟨k0, hk0, ?_⟩
  split
  · rename_i e; exact ⟨rfl, rfl, rfl, rfl, .inl ⟨e, rfl⟩⟩
  · rename_i e; exact ⟨rfl, rfl, rfl, rfl, .inr ⟨e, rfl⟩⟩
theorem drop_set (A : Ab) (who : Ky) (sl : Slots) : dropA (setA A who sl) who = dropA A who := by
  unfold dropA setA
  induction A with
  | nil => rfl
  | cons x A ih =>
    rw [List.map_cons]
    by_cases h : x.1 = who
    · rw [if_pos h, List.filter_cons_of_neg (by simp), List.filter_cons_of_neg (by simp [h])]
      exact ih
    · rw [if_neg h, List.filter_cons_of_pos (by simp [h]), List.filter_cons_of_pos (by simp [h]), ih]
section
variable {w0 W W' : World} {jb mb : Nat} {K : List KE} {os : Sl} {F : Ky → Option Addr}
theorem setE_jbs (K : List KE) (who : Ky) (sl : Slots) : jbs jb (setE K who sl) mb os = jbs jb K mb os := by
  unfold jbs setE
  congr 3
  rw [List.flatMap_map]
  congr 1
  funext k
  split <;> rfl
/-- one kept message's blocks are written -/
theorem JR.put (h : JR w0 W jb K mb os F) {k : KE} (hk : k ∈ K) {sl : Slots} (e : Ext [k.pb, k.tb, k.wb] W W') (hw : WRep W' { k with sl := sl }) (hs : slotsOk sl) : JR w0 W' jb (setE K k.key sl) mb os F := by
  have hkw := h.wr k hk
  have no : ∀ {q : Nat} {cs : List Value} {t : TypeId}, Bk W q cs t → t ≠ 9 → t ≠ 4 → t ≠ 72 → q ∉ [k.pb, k.tb, k.wb] := fun hq n1 n2 n3 hm => by
    simp only [List.mem_cons, List.not_mem_nil, or_false] at hm
    rcases hm with rfl | rfl | rfl
    · exact hq.neT hkw.p n1 rfl
    · exact hq.neT hkw.t n2 rfl
    · exact hq.neT hkw.w n3 rfl
  have mem : ∀ {k' : KE}, k' ∈ setE K k.key sl → ∃ k0 ∈ K, k'.key = k0.key ∧ k'.wb = k0.wb ∧ k'.pb = k0.pb ∧ k'.tb = k0.tb ∧ ((k0.key = k.key ∧ k'.sl = sl) ∨ (k0.key ≠ k.key ∧ k'.sl = k0.sl)) := fun hk' => setE_mem hk'
  have uni : ∀ k0 ∈ K, k0.key = k.key → k0 = k := fun k0 hk0 e => by
    apply Classical.byContradiction
    intro hne
    obtain ⟨i, hi, rfl⟩ := List.mem_iff_getElem.1 hk0
    obtain ⟨j, hj, rfl⟩ := List.mem_iff_getElem.1 hk
    have h1 : (K.map (·.key))[i]'(by simpa using hi) = (K.map (·.key))[j]'(by simpa using hj) := by simpa using e
    have := (List.getElem_inj h.nd).1 h1
    subst this
    exact hne rfl
  refine ⟨h.j.ext e (no h.j (by decide) (by decide) (by decide)), h.m.ext e ?_, ?_, by rw [setE_keys]; exact h.nd, by unfold setE; rw [List.length_map]; exact h.le, fun k' hk' => ?_, fun c hc => ?_, fun k' hk' => ?_, h.aj, h.am, fun k' hk' => ?_, fun k1 h1 k2 h2 hne => ?_, fun k' hk' => ?_⟩
  · simp only [List.mem_cons, List.not_mem_nil, or_false, not_or]
    exact ⟨h.m.ne hkw.p, h.m.ne hkw.t, h.m.ne hkw.w⟩
  · rw [setE_keys]
    refine h.o.ext e fun b hb => ?_
    obtain ⟨_, hz⟩ := h.o.1.bk_of hb
    exact no hz (by decide) (by decide) (by decide)
  · obtain ⟨k0, hk0, e1, e2, _⟩ := mem hk'
    rw [e1, e2]
    exact h.f k0 hk0
  · refine h.f0 c fun k0 hk0 => ?_
    have : (if k0.key = k.key then { k0 with sl := sl } else k0) ∈ setE K k.key sl := List.mem_map_of_mem hk0
    have := hc _ this
    split at this <;> exact this
  · unfold setE at hk'
    obtain ⟨k0, hk0, rfl⟩ := List.mem_map.1 hk'
    split
    · rename_i e0
      rw [uni k0 hk0 e0]
      exact hw
    · rename_i e0
      obtain ⟨d1, d2, d3⟩ := h.dis k0 hk0 k hk e0
      have hw0 := h.wr k0 hk0
      refine hw0.ext e ?_ ?_ ?_
      · simp only [List.mem_cons, List.not_mem_nil, or_false, not_or]
        exact ⟨hw0.w.neT hkw.p (by decide), hw0.w.neT hkw.t (by decide), d1⟩
      · simp only [List.mem_cons, List.not_mem_nil, or_false, not_or]
        exact ⟨d2, hw0.p.neT hkw.t (by decide), hw0.p.neT hkw.w (by decide)⟩
      · simp only [List.mem_cons, List.not_mem_nil, or_false, not_or]
        exact ⟨hw0.t.neT hkw.p (by decide), d3, hw0.t.neT hkw.w (by decide)⟩
  · obtain ⟨k0, hk0, e1, e2, e3, e4, _⟩ := mem hk'
    rw [e2, e3, e4]
    exact h.ak k0 hk0
  · obtain ⟨a0, ha0, a1, a2, a3, a4, _⟩ := mem h1
    obtain ⟨b0, hb0, b1, b2, b3, b4, _⟩ := mem h2
    rw [a1, b1] at hne
    rw [a2, a3, a4, b2, b3, b4]
    exact h.dis a0 ha0 b0 hb0 hne
  · obtain ⟨k0, hk0, _, _, _, _, h5⟩ := mem hk'
    rcases h5 with ⟨_, h5⟩ | ⟨_, h5⟩
    · rw [h5]; exact hs
    · rw [h5]; exact h.ok k0 hk0
end
end Go.Proofs.Ythpbkkjggnejcaa
