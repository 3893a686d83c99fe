/-
  Package msg: an argument's message may be spoken of.
-/
import Derived.Test.YtodcdfelbphajaaMsgZ
import Derived.Test.YtodcdfelbphajaaMsgJ
namespace Go.Proofs.Ytodcdfelbphajaa
open Go.RowKit
theorem EOk.arg {p : MP} (h : MOk p) (f : Fit p) (s : FitS p) : EOk p := by
  obtain ⟨c, e, l, pp, qq⟩ := h
  refine ⟨c.g0, c.g7, c.g13, c.g29, ?_, c.g12, ?_, c.g25, ?_, ?_, s.s15, s.s24, fun x hx => ?_, l, s.pp, fun x hx => ?_⟩
  · intro n hn
    simp only [List.mem_cons, List.not_mem_nil, or_false] at hn
    rcases hn with rfl | rfl | rfl | rfl | rfl | rfl
    · exact c.g1
    · exact c.g2
    · exact c.g3
    · exact c.g4
    · exact c.g5
    · exact c.g6
  · intro n hn
    simp only [List.mem_cons, List.not_mem_nil, or_false] at hn
    rcases hn with rfl | rfl | rfl | rfl | rfl
    · exact c.g16
    · exact c.g17
    · exact c.g18
    · exact c.g19
    · exact c.g20
  · intro n hn
    simp only [List.mem_cons, List.not_mem_nil, or_false] at hn
    rcases hn with rfl | rfl | rfl
    · exact c.g30
    · exact c.g31
    · exact c.g32
  · intro n hn
    simp only [List.mem_cons, List.not_mem_nil, or_false] at hn
    rcases hn with rfl | rfl | rfl
    · exact s.s8
    · exact s.s9
    · exact s.s10
  · obtain ⟨⟨a, b⟩, c1, d⟩ := e x hx
    exact ⟨a, b, s.e x hx, f.fa x hx, d⟩
  · obtain ⟨⟨⟨a, b⟩, c1⟩, d⟩ := qq x hx
    exact ⟨a, b, c1, s.qq x hx⟩
theorem EO.arg {p : MP} (h : MOk p) : EO p := by
  obtain ⟨c, e, l, pp, qq⟩ := h
  refine ⟨c.g0, c.g7, c.g13, c.g29, ?_, c.g12, ?_, c.g25, ?_, fun x hx => ?_, l, fun x hx => ?_⟩
  · intro n hn
    simp only [List.mem_cons, List.not_mem_nil, or_false] at hn
    rcases hn with rfl | rfl | rfl | rfl | rfl | rfl
    · exact c.g1
    · exact c.g2
    · exact c.g3
    · exact c.g4
    · exact c.g5
    · exact c.g6
  · intro n hn
    simp only [List.mem_cons, List.not_mem_nil, or_false] at hn
    rcases hn with rfl | rfl | rfl | rfl | rfl
    · exact c.g16
    · exact c.g17
    · exact c.g18
    · exact c.g19
    · exact c.g20
  · intro n hn
    simp only [List.mem_cons, List.not_mem_nil, or_false] at hn
    rcases hn with rfl | rfl | rfl
    · exact c.g30
    · exact c.g31
    · exact c.g32
  · obtain ⟨⟨a, b⟩, c1, d⟩ := e x hx
    exact ⟨a, b, d⟩
  · obtain ⟨⟨⟨a, b⟩, c1⟩, d⟩ := qq x hx
    exact ⟨a, b, c1⟩
end Go.Proofs.Ytodcdfelbphajaa
