/- Of the models: the check of the reference. -/
import Derived.Test.YtkecfadnfnnfaaaGreatDoorPlB9
set_option linter.unusedVariables false
set_option linter.unusedSimpArgs false
namespace Go.Proofs.YtkecfadnfnnfaaaGreatDoor.LabB
open Go Go.Ev Go.Sy
section
variable (p:Qae) (f:GFun)
end
end Go.Proofs.YtkecfadnfnnfaaaGreatDoor.LabB
namespace Go.Proofs.YtkecfadnfnnfaaaGreatDoor.LabB
open Go Go.Ev Go.Sy
structure SR (sl:List Int)(sc:List Bool):Prop where
 mem:∀ v,v∈sl↔(0≤v∧sc[v.toNat]?=some true)
structure BR (m:Int)(br bo:List Bool):Prop where
 len:br.length=bo.length
 at_:∀ i:Nat,i<bo.length→bo[i]?=some (decide ((i:Int)<m)||(br[i]?==some true))
theorem BR.get {m:Int}{br bo:List Bool}(h:BR m br bo){v:Int}(h0:0≤v)(h1:v<(bo.length:Int)):∃ y,at' br v=some y∧bo[v.toNat]?=some (decide (v<m)||y):=by
 obtain ⟨y,hy,hy'⟩:=Qeg (l:=br) h0 (by rw [h.len]; exact h1)
 refine ⟨y,hy,?_⟩
 rw [h.at_ v.toNat (by omega),hy',Int.toNat_of_nonneg h0]
 cases y<;>rfl
theorem BR.set {m:Int}{br bo:List Bool}(h:BR m br bo)(i:Nat):BR m (br.set i true) (bo.set i true):=⟨by simp [h.len],fun j hj=>by
 rw [List.length_set] at hj
 rw [List.getElem?_set,List.getElem?_set]
 by_cases hi:i=j
 ·subst hi
  rw [if_pos rfl,if_pos rfl,if_pos hj,if_pos (by rw [h.len]; exact hj)]
  simp
 ·rw [if_neg hi,if_neg hi]
  exact h.at_ j hj⟩
section
variable (p:Qae) (f:GFun)
theorem SR.add {sl:List Int}{sc:List Bool}(h:SR sl sc)(l:List Int)(hl:∀ v∈l,0≤v∧v<(sc.length:Int)):SR (sl++l) (setS true l sc):=⟨fun v=>by
 rw [List.mem_append,h.mem v,Qhc]
 constructor
 ·rintro (⟨h0,h1⟩ |h1)
  ·refine ⟨h0,?_⟩
   split
   ·rfl
   ·exact h1
  ·obtain ⟨h2,h3⟩:=hl v h1
   exact ⟨h2,by rw [if_pos ⟨⟨v,h1,rfl⟩,by omega⟩]⟩
 ·rintro ⟨h0,h1⟩
  split at h1
  ·rename_i h2
   obtain ⟨⟨w,hw,hwv⟩,_⟩:=h2
   have:=(hl w hw).1
   have:w=v:=by omega
   exact Or.inr (this▸hw)
  ·exact Or.inl ⟨h0,h1⟩⟩
end
end Go.Proofs.YtkecfadnfnnfaaaGreatDoor.LabB
