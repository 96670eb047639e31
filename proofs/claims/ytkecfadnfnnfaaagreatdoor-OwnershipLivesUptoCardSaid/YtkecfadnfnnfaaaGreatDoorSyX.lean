/- Contracts of strings.Cut at a separator of one byte, and of strings.Trim at a set of ASCII, as the evaluator asks for them. -/
import Derived.Test.YtkecfadnfnnfaaaGreatDoorSyW
import Derived.Test.YtkecfadnfnnfaaaGreatDoorEvCl
import Derived.Shelf.Strings.Cut
import Derived.Shelf.Strings.SlTrimAscii
set_option linter.unusedVariables false
namespace Go.Sy
open Go Go.Ev Go.Proofs Go.Shelf Go.RowKit Go.Lib
variable {P:Program} {ρ:Shelf.Ren}
set_option maxHeartbeats 2000000 in
set_option maxRecDepth 100000 in
theorem QBV (L:Lays.n220 P ρ)(s:ByteArray)(c:UInt8)(w:World)(hs:s.size<4294967281):
  Calls P (ρ.f 220) #[.string s,.string ⟨#[c]⟩] w fun e w'=>e=.returned (.tuple #[.string ⟨(Lib.cut s.data.toList [c]).1.toArray⟩,.string ⟨(Lib.cut s.data.toList [c]).2.1.toArray⟩,.bool (Lib.cut s.data.toList [c]).2.2])∧∃ n,w'=w.drewN n:=by
 have hone:Lib.index s.data.toList [c]=Lib.indexByte s.data.toList c:=by
  have:=Lib.one s ⟨#[c]⟩ rfl
  exact this.trans (congrArg _ (UInt8.toNat_inj.1 (by
   show ((((c.toNat:Nat):Int)).toNat.toUInt8).toNat=c.toNat
   rw [Int.toNat_natCast]
   simp)))
 rcases Lib.indexB_cases s ⟨#[c]⟩ with hix |⟨i,hix,hroom⟩
 ·obtain ⟨e1,e2,e3⟩:=Lib.cutB_miss s ⟨#[c]⟩ hix
  have e1:(⟨(Lib.cut s.data.toList [c]).1.toArray⟩:ByteArray)=s:=e1
  have e2:(⟨(Lib.cut s.data.toList [c]).2.1.toArray⟩:ByteArray)=ByteArray.empty:=e2
  have e3:(Lib.cut s.data.toList [c]).2.2=false:=e3
  rw [e1,e2,e3]
  have t3:=L.t3; have t4:=L.t4; have t9:=L.t9
  have a3:∀ w,(isAgg (ρ.t 3)).run P w=.ok false w:=run_isAgg_plain L.t3 rfl; have a4:∀ w,(isAgg (ρ.t 4)).run P w=.ok false w:=run_isAgg_plain L.t4 rfl; have a9:∀ w,(isAgg (ρ.t 9)).run P w=.ok false w:=run_isAgg_plain L.t9 rfl
  have e219:∀ args w,(callFunc (ρ.f 219) args).run P w=.ok (.enter (ρ.f 219) args) w:=enters_of L.f219 (by kernel_rfl) rfl
  have mixed:=L.mixed; have z3:=L.z3; have v3:=L.v3; have z4:=L.z4; have v4:=L.v4; have z9:=L.z9; have v9:=L.v9
  go_enter L.f220,Body.n220_ntmps ρ
  go_wp2_with (go_at_fn (ρ.f 219); refine (Any.stringslite_Index_one { L with } _ _ _).mono ?_; rintro e w' ⟨rfl,rfl⟩; rw [← hone,show Lib.index s.data.toList [c]=_ from hix])
  go_ret3
  exact ⟨rfl,0,rfl⟩
 ·obtain ⟨e1,e2,e3⟩:=Lib.cutB_hit s ⟨#[c]⟩ i hix
  have e1:(⟨(Lib.cut s.data.toList [c]).1.toArray⟩:ByteArray)=s.extract 0 i:=e1
  have e2:(⟨(Lib.cut s.data.toList [c]).2.1.toArray⟩:ByteArray)=s.extract (i+1) s.size:=e2
  have e3:(Lib.cut s.data.toList [c]).2.2=true:=e3
  rw [e1,e2,e3]
  have hroom:i+1≤s.size:=hroom
  have c1:(0:Int)≤↑i:=by omega
  have c2:(↑i:Int)≤↑s.size:=by omega
  have c3:(0:Int)≤↑i+1:=by omega
  have c4:(↑i+1:Int)≤↑s.size:=by omega
  have c6:IntKind.i64.wrap ((i:Int)+1)=(i:Int)+1:=by rw [IntKind.wrap_i64]; omega
  have c5:wrap64 ((i:Int)+1)=(i:Int)+1:=by unfold wrap64; omega
  have t3:=L.t3; have t4:=L.t4; have t9:=L.t9
  have a3:∀ w,(isAgg (ρ.t 3)).run P w=.ok false w:=run_isAgg_plain L.t3 rfl; have a4:∀ w,(isAgg (ρ.t 4)).run P w=.ok false w:=run_isAgg_plain L.t4 rfl; have a9:∀ w,(isAgg (ρ.t 9)).run P w=.ok false w:=run_isAgg_plain L.t9 rfl
  have e219:∀ args w,(callFunc (ρ.f 219) args).run P w=.ok (.enter (ρ.f 219) args) w:=enters_of L.f219 (by kernel_rfl) rfl
  have mixed:=L.mixed; have z3:=L.z3; have v3:=L.v3; have z4:=L.z4; have v4:=L.v4; have z9:=L.z9; have v9:=L.v9
  go_enter L.f220,Body.n220_ntmps ρ
  go_wp2_with (go_at_fn (ρ.f 219); refine (Any.stringslite_Index_one { L with } _ _ _).mono ?_; rintro e w' ⟨rfl,rfl⟩; rw [← hone,show Lib.index s.data.toList [c]=_ from hix])
  go_region_o
  go_wp2
  go_ret3
  exact ⟨rfl,1,rfl⟩
set_option maxHeartbeats 1000000 in
theorem QBW (L:Lays.n145 P ρ)(s:ByteArray)(c:UInt8)(w:World)(hs:s.size<4294967281):
  Calls P (ρ.f 145) #[.string s,.string ⟨#[c]⟩] w fun e w'=>e=.returned (.tuple #[.string ⟨(Lib.cut s.data.toList [c]).1.toArray⟩,.string ⟨(Lib.cut s.data.toList [c]).2.1.toArray⟩,.bool (Lib.cut s.data.toList [c]).2.2])∧∃ n,w'=w.drewN n:=by
 have t4:=L.t4; have t9:=L.t9; have t59:=L.t59
 have a4:∀ w,(isAgg (ρ.t 4)).run P w=.ok false w:=run_isAgg_plain L.t4 rfl; have a9:∀ w,(isAgg (ρ.t 9)).run P w=.ok false w:=run_isAgg_plain L.t9 rfl; have a59:∀ w,(isAgg (ρ.t 59)).run P w=.ok false w:=run_isAgg_plain L.t59 rfl
 have e220:∀ args w,(callFunc (ρ.f 220) args).run P w=.ok (.enter (ρ.f 220) args) w:=enters_of L.f220 (by kernel_rfl) rfl
 have mixed:=L.mixed; have z4:=L.z4; have v4:=L.v4; have z9:=L.z9; have v9:=L.v9; have z59:=L.z59; have v59:=L.v59
 go_enter L.f145,Body.n145_ntmps ρ
 go_wp2_with (go_at_fn (ρ.f 220); refine (QBV { L with } _ _ _ hs).mono ?_; rintro e w' ⟨rfl,n,rfl⟩)
 go_ret3
 exact ⟨rfl,n,rfl⟩
theorem QBX (s:List UInt8)(c:UInt8):Lib.cut s [c]=cut1 s c:=by
 have hi:∀ s:List UInt8,(Lib.index s [c] = -1∧s.dropWhile (· != c)=[])∨(∃ k:Nat,Lib.index s [c]=k∧s.takeWhile (· != c)=s.take k∧∃ r,s.dropWhile (· != c)=c::r∧s.drop (k+1)=r):=by
  intro s
  induction s with
  | nil=>exact Or.inl ⟨rfl,rfl⟩
  | cons b l ih=>
   by_cases hb:b=c
   ·subst hb
    refine Or.inr ⟨0,?_,by simp,l,by simp,rfl⟩
    simp [Lib.index,List.isPrefixOf]
   ·have hp:([c]:List UInt8).isPrefixOf (b::l)=false:=by
     have:(c==b)=false:=by simpa using fun h=>hb h.symm
     simp [List.isPrefixOf,this]
    have h2:(b != c)=true:=by simpa using hb
    rcases ih with ⟨h1,h3⟩ |⟨k,h1,h3,r,h4,h5⟩
    ·refine Or.inl ⟨?_,?_⟩
     ·rw [Lib.index,hp]
      simp [h1]
     ·rw [List.dropWhile_cons,if_pos h2,h3]
    ·refine Or.inr ⟨k+1,?_,?_,r,?_,?_⟩
     ·rw [Lib.index,hp]
      have:¬ ((k:Int) = -1):=by omega
      simp [h1,this]
     ·rw [List.takeWhile_cons,if_pos h2,h3]; rfl
     ·rw [List.dropWhile_cons,if_pos h2,h4]
     ·rw [List.drop_succ_cons,h5]
 unfold Lib.cut cut1
 rcases hi s with ⟨h1,h2⟩ |⟨k,h1,h2,r,h3,h4⟩
 ·rw [h1,h2,if_neg (by omega)]
 ·rw [h1,h2,h3,if_pos (by omega)]
  simp only [Int.toNat_natCast,List.length_cons,List.length_nil,Nat.zero_add,h4]
theorem Qug {P:Program}{f:FuncId}{cvs:Array Value}{v:AV}{I:Imm}{w:World}{cv:Value}(hI:Qft I w)(h:Calls P f cvs w fun e w'=>e=.returned cv∧Below w.heap.size w w')(hv:VRel I ρ0 v cv):QCE P f cvs v I w:=
 Calls.mono h fun e w' ⟨he,hb⟩=>⟨cv,I,he,Imm.le_refl I,fun c o u hu=>Or.inl hu,hI.keep fun c o v hc=>hb.block c (QpQ (hI.at_ c o v hc)),hv,hb,hb.os,hb.tape,hb.output⟩
theorem QvE {I:Imm}{s t:List UInt8}{cvs:Array Value}(h:QfI I ρ0 [.str s,.str t] cvs):∃ a b:ByteArray,cvs=#[.string a,.string b]∧a.data.toList=s∧b.data.toList=t:=by
 obtain ⟨hl,hr⟩:=h
 obtain ⟨l⟩:=cvs
 match l,hl with
 | [x,y],_=>
  have h1:=hr 0 (.str s) x rfl rfl
  have h2:=hr 1 (.str t) y rfl rfl
  cases h1 with
  | str _ _ a ha=>
   cases h2 with
   | str _ _ b hb=>exact ⟨a,b,rfl,ha,hb⟩
end Go.Sy
