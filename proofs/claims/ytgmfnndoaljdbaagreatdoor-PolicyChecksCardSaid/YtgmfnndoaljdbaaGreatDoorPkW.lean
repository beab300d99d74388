/- The closed run of works(). -/
import Derived.Test.YtgmfnndoaljdbaaGreatDoorTB
import Derived.Test.YtgmfnndoaljdbaaGreatDoorPkX
import Derived.Test.YtgmfnndoaljdbaaGreatDoorAxTb
import Derived.Test.YtgmfnndoaljdbaaGreatDoorAxY
import Derived.Test.YtgmfnndoaljdbaaGreatDoorCopyCheck
set_option linter.all false
namespace Go.Proofs
open Go Go.Ax
set_option maxRecDepth 100000
theorem x113 : ExtOK Tryz.prog 113 (extCC 103) := fun args hp n r h => extCC_ok (resolveFn_enters rf113) cc_used cc_fresh args hp n r h
noncomputable def twFn : Tree LFn := (.node (.node (.node (.node (.node (.node (.node .nil 11 lf11 .nil) 12 lf12 .nil) 14 lf14 (.node .nil 15 lf15 .nil)) 17 lf17 (.node (.node (.node .nil 19 lf19 .nil) 24 lf24 .nil) 27 lf27 (.node .nil 30 lf30 .nil))) 34 lf34 (.node (.node (.node (.node .nil 44 lf44 .nil) 45 lf45 .nil) 46 lf46 (.node .nil 47 lf47 .nil)) 48 lf48 (.node (.node .nil 50 lf50 .nil) 51 lf51 (.node .nil 52 lf52 .nil)))) 53 lf53 (.node (.node (.node (.node (.node .nil 54 lf54 .nil) 56 lf56 .nil) 58 lf58 (.node .nil 62 lf62 .nil)) 65 lf65 (.node (.node .nil 66 lf66 .nil) 67 lf67 (.node .nil 68 lf68 .nil))) 93 lf93 (.node (.node (.node (.node .nil 94 lf94 .nil) 96 lf96 .nil) 100 lf100 (.node .nil 101 lf101 .nil)) 103 lf103 (.node (.node .nil 104 lf104 .nil) 107 lf107 (.node .nil 108 lf108 .nil))))) 109 lf109 (.node (.node (.node (.node (.node (.node .nil 112 lf112 .nil) 113 lf113 .nil) 116 lf116 (.node .nil 117 lf117 .nil)) 118 lf118 (.node (.node .nil 119 lf119 .nil) 120 lf120 (.node .nil 121 lf121 .nil))) 125 lf125 (.node (.node (.node (.node .nil 126 lf126 .nil) 127 lf127 .nil) 142 lf142 (.node .nil 146 lf146 .nil)) 147 lf147 (.node (.node .nil 148 lf148 .nil) 154 lf154 (.node .nil 156 lf156 .nil)))) 157 lf157 (.node (.node (.node (.node (.node .nil 158 lf158 .nil) 159 lf159 .nil) 160 lf160 (.node .nil 161 lf161 .nil)) 162 lf162 (.node (.node .nil 163 lf163 .nil) 164 lf164 (.node .nil 165 lf165 .nil))) 167 lf167 (.node (.node (.node (.node .nil 176 lf176 .nil) 177 lf177 .nil) 178 lf178 (.node .nil 179 lf179 .nil)) 180 lf180 (.node (.node .nil 181 lf181 .nil) 185 lf185 (.node .nil 193 lf193 .nil))))))
noncomputable def twDf : Tree LFnD := (.node .nil 46 ld46 .nil)
theorem twFn_ok : twFn.All fun f lf => resolveFn Tryz.prog f = some lf := ⟨rf109, ⟨rf53, ⟨rf34, ⟨rf17, ⟨rf14, ⟨rf12, ⟨rf11, trivial, trivial⟩, trivial⟩, ⟨rf15, trivial, trivial⟩⟩, ⟨rf27, ⟨rf24, ⟨rf19, trivial, trivial⟩, trivial⟩, ⟨rf30, trivial, trivial⟩⟩⟩, ⟨rf48, ⟨rf46, ⟨rf45, ⟨rf44, trivial, trivial⟩, trivial⟩, ⟨rf47, trivial, trivial⟩⟩, ⟨rf51, ⟨rf50, trivial, trivial⟩, ⟨rf52, trivial, trivial⟩⟩⟩⟩, ⟨rf93, ⟨rf65, ⟨rf58, ⟨rf56, ⟨rf54, trivial, trivial⟩, trivial⟩, ⟨rf62, trivial, trivial⟩⟩, ⟨rf67, ⟨rf66, trivial, trivial⟩, ⟨rf68, trivial, trivial⟩⟩⟩, ⟨rf103, ⟨rf100, ⟨rf96, ⟨rf94, trivial, trivial⟩, trivial⟩, ⟨rf101, trivial, trivial⟩⟩, ⟨rf107, ⟨rf104, trivial, trivial⟩, ⟨rf108, trivial, trivial⟩⟩⟩⟩⟩, ⟨rf157, ⟨rf125, ⟨rf118, ⟨rf116, ⟨rf113, ⟨rf112, trivial, trivial⟩, trivial⟩, ⟨rf117, trivial, trivial⟩⟩, ⟨rf120, ⟨rf119, trivial, trivial⟩, ⟨rf121, trivial, trivial⟩⟩⟩, ⟨rf147, ⟨rf142, ⟨rf127, ⟨rf126, trivial, trivial⟩, trivial⟩, ⟨rf146, trivial, trivial⟩⟩, ⟨rf154, ⟨rf148, trivial, trivial⟩, ⟨rf156, trivial, trivial⟩⟩⟩⟩, ⟨rf167, ⟨rf162, ⟨rf160, ⟨rf159, ⟨rf158, trivial, trivial⟩, trivial⟩, ⟨rf161, trivial, trivial⟩⟩, ⟨rf164, ⟨rf163, trivial, trivial⟩, ⟨rf165, trivial, trivial⟩⟩⟩, ⟨rf180, ⟨rf178, ⟨rf177, ⟨rf176, trivial, trivial⟩, trivial⟩, ⟨rf179, trivial, trivial⟩⟩, ⟨rf185, ⟨rf181, trivial, trivial⟩, ⟨rf193, trivial, trivial⟩⟩⟩⟩⟩⟩
theorem twDf_ok : twDf.All fun f lf => resolveFnD Tryz.prog f = some lf := ⟨rd46, trivial, trivial⟩
noncomputable def twTab : Tab := tabOf twFn twDf (.node (.node (.node .nil 113 (extCC 103) .nil) 114 extCompare .nil) 152 extIndexByte (.node .nil 175 extCount (.node .nil 195 (extMake 5) .nil)))
theorem twTab_ok : TabOK Tryz.prog twTab := tabOf_ok twFn_ok twDf_ok ⟨x152, ⟨x114, ⟨x113, trivial, trivial⟩, trivial⟩, ⟨x175, trivial, ⟨x195, trivial, trivial⟩⟩⟩
def tab64 : List AV := ([0, 1, 56, 2, 57, 49, 28, 3, 61, 58, 42, 50, 38, 29, 17, 4, 62, 47, 59, 36, 45, 43, 51, 22, 53, 39, 33, 30, 24, 18, 12, 5, 63, 55, 48, 27, 60, 41, 37, 16, 46, 35, 44, 21, 52, 32, 23, 11, 54, 26, 40, 15, 34, 20, 31, 10, 25, 14, 19, 9, 13, 8, 7, 6] : List Int).map (AV.int .u8)
theorem works_run : isTrue (callY Tryz.prog twTab 1000 60 (.inl 11) [] [(0, .glob 3 0 tab64)] 1) = true := by kernel_rfl
theorem tab64_ren (f : Nat → Nat) : renL f tab64 = tab64 := renL_same (m := 0) (fun _ h => absurd h (Nat.not_lt_zero _)) _ (by decide)
/- WORKS, wherever it is called -/
theorem works_ok {hp : AHeap} {n i : Nat} (hg : hp.get? i = some (.glob 3 0 tab64)) : ACalls Tryz.prog 11 [] hp n (Is (.ret (.bool true), hp, n)) := by
  refine true_of_run twTab_ok works_run (by decide) (by decide) (fun _ => i) ?_
  intro p hp
  simp only [List.mem_singleton] at hp
  subst hp
  simp only [tab64_ren]
  exact hg
end Go.Proofs
