/- The models of this program are true of it. -/
import Derived.Test.YtkecfadnfnnfaaaGreatDoorModB
import Derived.Test.YtkecfadnfnnfaaaGreatDoorSyT
import Derived.Test.YtkecfadnfnnfaaaGreatDoorOkB
import Derived.Test.YtkecfadnfnnfaaaGreatDoorPkB
set_option maxRecDepth 100000
set_option linter.all false
namespace Go.Proofs.YtkecfadnfnnfaaaGreatDoor.LabB
open Go Go.Ev Go.Sy
theorem QC8:(List.range 254).all (fun i=>(match (tb.fam i).ext with |true=>(Nat.beq i 1||(Nat.beq i 2||Nat.beq i 3)) |false=>true))=true:=by kernel_rfl
theorem QC9 (i:Nat)(h:¬ i<254):tb.fam i=default:=by
 show (match Nat.blt i 254 with |true=>fams.get i |false=>default)=default
 have:Nat.blt i 254=false:=by
  cases hb:Nat.blt i 254 with
  | false=>rfl
  | true=>exact absurd (by simpa [Nat.blt_eq] using hb) h
 rw [this]
theorem QEM (i:Nat)(h:(tb.fam i).ext=true):i=1∨i=2∨i=3:=by
 by_cases hi:i<254
 ·have:=List.all_eq_true.mp QC8 i (List.mem_range.mpr hi)
  rw [h] at this
  rw [Bool.or_eq_true,Bool.or_eq_true] at this
  rcases this with h |h |h
  ·exact Or.inl (Nat.eq_of_beq_eq_true h)
  ·exact Or.inr (Or.inl (Nat.eq_of_beq_eq_true h))
  ·exact Or.inr (Or.inr (Nat.eq_of_beq_eq_true h))
 ·rw [QC9 i hi] at h
  cases h
theorem QA0 {s sep:List UInt8}{a b:List UInt8}{t:Bool}(h:cutM s sep=some (a,b,t)):cutP [.str s,.str sep]=some (.tup [.str a,.str b,.bool t]):=by
 unfold cutM at h
 split at h
 ·rename_i c
  unfold cutP
  simp only
  split at h
  ·rename_i hlt
   rw [hlt]
   simp only
   unfold cut1 at h
   split at h
   ·rename_i hd
    rw [hd]
    simp only [Option.some.injEq,Prod.mk.injEq] at h
    obtain ⟨rfl,rfl,rfl⟩:=h
    rfl
   ·rename_i y r hd
    rw [hd]
    simp only [Option.some.injEq,Prod.mk.injEq] at h
    obtain ⟨rfl,rfl,rfl⟩:=h
    rfl
  ·cases h
 ·cases h
theorem QEN {s cs r:List UInt8}(h:QvD s cs=some r):QuP [.str s,.str cs]=some (.str r):=by
 unfold QvD at h
 unfold QuP
 simp only
 split at h
 ·rename_i hc
  rw [hc]
  simp only [Option.some.injEq] at h
  subst h
  rfl
 ·cases h
theorem QFW:QCS ctx tb G:=by
 intro i x z he hz env θ n j o hx hal ho
 rcases QEM i he with rfl |rfl |rfl
 ·have hz':some true=some z:=hz
  have ho':([QzJ [.bool]]:List Out)[j]?=some o:=ho
  cases j with
  | succ j=>simp at ho'
  | zero=>
   simp only [List.getElem?_cons_zero,Option.some.injEq] at ho'
   subst ho'
   have hz2:true=z:=Option.some.inj hz'
   subst hz2
   have hb:true=env n .bool:=hal
   show ∃ H',R ctx (.pfn 24 [])=some (.val (.bool (env n .bool)) H')
   rw [← hb]
   exact ⟨[],Qwu QC3⟩
 ·have hz':cutM (show List UInt8×List UInt8 from x).1 (show List UInt8×List UInt8 from x).2=some (show List UInt8×List UInt8×Bool from z):=hz
  have ho':([QzJ [.str,.str,.bool]]:List Out)[j]?=some o:=ho
  cases j with
  | succ j=>simp at ho'
  | zero=>
   simp only [List.getElem?_cons_zero,Option.some.injEq] at ho'
   subst ho'
   have hb:(show List UInt8×List UInt8×Bool from z)=(env n .str,env (n+1) .str,env (n+2) .bool):=hal
   rw [hb] at hz'
   show cutP [.str (show List UInt8×List UInt8 from x).1,.str (show List UInt8×List UInt8 from x).2]=some (.tup [.str (env n .str),.str (env (n+1) .str),.bool (env (n+2) .bool)])
   exact QA0 hz'
 ·have hz':QvD (show List UInt8×List UInt8 from x).1 (show List UInt8×List UInt8 from x).2=some (show List UInt8 from z):=hz
  have ho':([QzJ [.str]]:List Out)[j]?=some o:=ho
  cases j with
  | succ j=>simp at ho'
  | zero=>
   simp only [List.getElem?_cons_zero,Option.some.injEq] at ho'
   subst ho'
   have hb:(show List UInt8 from z)=env n .str:=hal
   rw [hb] at hz'
   show QuP [.str (show List UInt8×List UInt8 from x).1,.str (show List UInt8×List UInt8 from x).2]=some (.str (env n .str))
   exact QEN hz'
theorem QDa:Qil=some true:=QEz ctx tb G 1 (by kernel_rfl) ()
end Go.Proofs.YtkecfadnfnnfaaaGreatDoor.LabB
