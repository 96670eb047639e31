/- The soundness of rows: literals, make, append, copy; of maps. -/
import Derived.Test.YtkecfadnfnnfaaaGreatDoorEvU
import Derived.Laws.MakeOwn
import Derived.Laws.Append
set_option linter.unusedVariables false
set_option linter.unusedSimpArgs false
namespace Go.Ev
open Go.RowKit
section
variable {P:Program} {c:Ctx} {I J:Imm} {ρ:Ren} {H:Heap} {w:World}
theorem QkI (hc:TysOk P c){t e:TypeId}(he:elemOf (c.ty t)=some e):P.underlying t=some (.slice e)∧∃ i d z,TyOk P c e i d z:=by
 have hd:(c.ty t).d=.slice e:=by unfold elemOf at he; cases hd:(c.ty t).d<;>simp [hd] at he; rw [he]
 obtain ⟨i,d,z,ht⟩:=hc.ty t (QoJ (by rw [hd]; simp))
 have hr:=ht.rel
 rw [hd] at hr
 cases hr with
 | slice _ he2=>exact ⟨ht.und,hc.ty e he2⟩
structure QcF (J:Imm)(z:Nat)(es:List (List AV))(cells:Array Value):Prop where
 len:∀ r∈es,r.length=z∧∀ x∈r,x.Qax=true
 size:cells.size=es.length * z
 at_:∀ (i j:Nat) (r:List AV) (x:AV) (v:Value),es[i]?=some r→r[j]?=some x→cells[i * z+j]?=some v→VRel J ρ0 x v
theorem QcF.imm {z:Nat}{es:List (List AV)}{cells:Array Value}(h:QcF I z es cells)(hI:I.le J):QcF J z es cells:=
 ⟨h.len,h.size,fun i j r x v hr hx hv=>(h.at_ i j r x v hr hx hv).imm hI⟩
theorem QkJ (hs:Sim I ρ H w){w':World}{cells extra:Array Value}{el:TypeId}{z n:Nat}{es:List (List AV)}(hw:Qgt w w' (.cells (cells++extra) el (0,0)))(hr:QcF I z es cells)(hn:es.length≤n)(hx:n * z≤cells.size+extra.size):
  Ext H.length I ρ H w I (ρ.put H.length (w.heap.size,z,n)) (H++[.rows z true es]) w'∧Sim I (ρ.put H.length (w.heap.size,z,n)) (H++[.rows z true es]) w'∧
  VRel I (ρ.put H.length (w.heap.size,z,n)) (.sl H.length 0 es.length) (.slice (some ⟨w.heap.size,0,none⟩) es.length n):=by
 obtain ⟨s1,e1⟩:=hs.QkG hw z n true es hn (by simpa using hx) hr.len (fun i j r x v hri hx hv=>by
  have hj:j<z:=by have:=(List.getElem?_eq_some_iff.1 hx).1; rw [(hr.len r (List.mem_of_getElem? hri)).1] at this; exact this
  have hi:i<es.length:=(List.getElem?_eq_some_iff.1 hri).1
  have:=Qct hi hj
  rw [Array.getElem?_append_left (by rw [hr.size]; exact this)] at hv
  exact hr.at_ i j r x v hri hx hv)
 exact ⟨e1,s1,Ren.QAb hn (Nat.le_refl _)⟩
theorem QAn {i j i' z n:Nat}(hj:j<z):(i * z≤i' * z+j∧i' * z+j<i * z+z)↔i'=i:=by
 constructor
 ·rintro ⟨h1,h2⟩
  rcases Nat.lt_trichotomy i i' with hlt |heq |hgt
  ·have:=Nat.mul_le_mul_right z (show i+1≤i' from hlt)
   rw [Nat.succ_mul] at this; omega
  ·exact heq.symm
  ·have:=Nat.mul_le_mul_right z (show i'+1≤i from hgt)
   rw [Nat.succ_mul] at this; omega
 ·rintro rfl; omega
theorem QoL {z:Nat}:∀ (l:List (Nat×AV)) (m:List (Nat×Value)) (I:Imm) (H H1:Heap) (rows es:List (List AV)) (cells:Array Value),Sim I ρ H w→QcF I z rows cells→PRel I ρ l m→QeV z rows l H=some (es,H1)→
  ∃ J cells',Instr.fill (fun i=>some (i * z,z)) cells m=some cells'∧QcF J z es cells'∧es.length=rows.length∧Sim J ρ H1 w∧Ext H.length I ρ H w J ρ H1 w∧H1.length=H.length
 | [],m,I,H,H1,rows,es,cells,hs,hr,hp,h=>by
  cases hp
  simp [QeV] at h
  obtain ⟨rfl,rfl⟩:=h
  exact ⟨I,cells,rfl,hr,rfl,hs,Ext.refl _ _ _ _ _,rfl⟩
 | (i,x)::l,m,I,H,H1,rows,es,cells,hs,hr,hp,h=>by
  cases hp with
  | cons _ _ u _ m hx hp=>
   simp only [QeV] at h
   split at h
   ·cases h
   ·rename_i v H2 hf
    obtain ⟨J,sJ,eJ,rJ,lJ⟩:=Ql3 hs hf hx
    split at h
    ·rename_i hb
     rw [Qat] at h
     rw [Bool.and_eq_true,Bool.and_eq_true] at hb
     obtain ⟨⟨b1,b2⟩,b3⟩:=hb
     have b1:=Nat.eq_of_beq_eq_true b1
     have b2:=(Ql4 _ _).1 b2
     obtain ⟨c1,c2,c3⟩:=rJ.cells b3
     obtain ⟨_,l1,l2⟩:=Qta (i * z) u.cells.toList 0 cells
     have hfold:(u.cells.zipIdx.foldl (fun cs (x:Value×Nat)=>cs.setIfInBounds (i * z+x.2) x.1) cells)=(u.cells.toList.zipIdx 0).foldl (fun cs (x:Value×Nat)=>cs.setIfInBounds (i * z+x.2) x.1) cells:=by
      rw [← Array.foldl_toList,Array.toList_zipIdx]
     have hul:u.cells.toList.length=z:=by simp; omega
     have hIJ:I.le J:=eJ.imm
     have hnew:QcF J z (rows.set i v.cells) ((u.cells.toList.zipIdx 0).foldl (fun cs (x:Value×Nat)=>cs.setIfInBounds (i * z+x.2) x.1) cells):=by
      refine ⟨fun r hr'=>?_,by rw [l1,hr.size]; simp,fun i' j r y q hri hy hq=>?_⟩
      ·rcases List.mem_or_eq_of_mem_set hr' with hm |rfl
       ·exact hr.len r hm
       ·exact ⟨b1,fun x hx=>List.all_eq_true.1 b3 x hx⟩
      ·rw [l2] at hq
       rw [List.getElem?_set] at hri
       simp only [Nat.add_zero,hul] at hq
       split at hri
       ·rename_i e
        subst e
        simp [b2] at hri
        subst hri
        have hj:j<z:=by have:=(List.getElem?_eq_some_iff.1 hy).1; omega
        have hlt:=Qct b2 hj
        rw [if_pos (by rw [hr.size]; omega),show i * z+j - i * z=j by omega,Array.getElem?_toList] at hq
        exact c2 j y q hy hq
       ·rename_i e
        have hj:j<z:=by have:=(List.getElem?_eq_some_iff.1 hy).1; rw [(hr.len r (List.mem_of_getElem? hri)).1] at this; exact this
        rw [if_neg (fun hcond=>e ((QAn (n:=0) hj).1 ⟨hcond.1,hcond.2.1⟩).symm)] at hq
        exact (hr.at_ i' j r y q hri hy hq).imm hIJ
     have hp':PRel J ρ l m:=by
      have aux:∀ {l:List (Nat×AV)} {m:List (Nat×Value)},PRel I ρ l m→PRel J ρ l m:=fun h=>by
       induction h with
       | nil=>exact .nil
       | cons i x u l m h r ih=>exact .cons _ _ _ _ _ (h.imm hIJ) ih
      exact aux hp
     obtain ⟨J2,cells',f1,f2,f3,f4,f5,f6⟩:=QoL l m J H2 H1 _ es _ sJ hnew hp' h
     refine ⟨J2,cells',?_,f2,by rw [f3]; simp,f4,eJ.trans f5 (by omega),by omega⟩
     simp only [Instr.fill]
     have hle:(i+1) * z≤rows.length * z:=Nat.mul_le_mul_right z b2
     rw [Nat.succ_mul] at hle
     rw [if_neg (by
      have:=hr.size
      simp at hul
      simp
      omega)]
     rw [← f1,← hfold]
    ·cases h
theorem QCJ {y:AV}{u:Value}{ρ:Ren}(h:VRel I ρ y u):VRel I ρ (lstZ y) u:=by
 cases h with
 | nils=>exact .lst0 _ _ _
 | emp=>exact .lst0 _ _ _
 | _=>simp only [lstZ]; constructor<;>assumption
theorem Qp3 {t:TypeId}{i:TypeInfo}{d:TypeDesc}{z:Value}(ht:TyOk P c t i d z)(hall:(c.ty t).zero.all AV.Qax=true)(len:Nat):QcF I (c.ty t).size (List.replicate len ((c.ty t).zero.map lstZ)) (madeCells z.cells (len * (c.ty t).size)):=by
 obtain ⟨z1,z2⟩:=Qlr (I:=I) (ρ:=ρ0) ht
 have e:(c.ty t).zero.length=(c.ty t).size:=by rw [z1,ht.len,ht.size]
 refine ⟨fun r hr=>?_,by simp [madeCells],fun i' j r x v hr hx hv=>?_⟩
 ·obtain ⟨_,rfl⟩:=List.mem_replicate.1 hr
  refine ⟨by rw [List.length_map]; exact e,fun x hx=>?_⟩
  obtain ⟨y,hy,rfl⟩:=List.mem_map.1 hx
  have:=List.all_eq_true.1 hall y hy
  cases y<;>first |rfl |(simp [AV.Qax] at this)
 ·have hmem:=List.mem_of_getElem? hr
  obtain ⟨_,rfl⟩:=List.mem_replicate.1 hmem
  have hi:i'<len:=by have:=(List.getElem?_eq_some_iff.1 hr).1; simpa using this
  have hj:j<(c.ty t).size:=by have:=(List.getElem?_eq_some_iff.1 hx).1; rw [List.length_map] at this; omega
  have hlt:=Qct hi hj
  have hzs:z.cells.size=(c.ty t).size:=by rw [← z1,e]
  have hmod:(i' * (c.ty t).size+j) % z.cells.size=j:=by rw [hzs,Nat.mul_comm,Nat.mul_add_mod,Nat.mod_eq_of_lt hj]
  have hj':j<z.cells.size:=by omega
  have hg:(madeCells z.cells (len * (c.ty t).size))[i' * (c.ty t).size+j]?=some z.cells[j]:=by
   unfold madeCells
   rw [Array.getElem?_map,Array.getElem?_range,if_pos hlt]
   simp only [Option.map_some,hmod]
   rw [getElem!_pos z.cells j hj']
  rw [hg] at hv
  simp at hv
  subst hv
  rw [List.getElem?_map] at hx
  cases hy:(c.ty t).zero[j]? with
  | none=>simp [hy] at hx
  | some y=>
   simp [hy] at hx
   subst hx
   exact QCJ (z2 j y _ hy (Array.getElem?_eq_getElem hj'))
theorem QrF (hc:TysOk P c)(hs:Sim I ρ H w){t:TypeId}{len:Nat}{l:List (Nat×AV)}{m:Array (Nat×Value)}{v:AV}{H':Heap}(h:QeD c (c.ty t) len l H=some (v,H'))(hr:PRel I ρ l m.toList):
  Did P I ρ H w (Instr.buildSlice t len m) v H':=by
 unfold QeD at h
 split at h
 ·cases h
 ·rename_i e he
  obtain ⟨hu,i,d,z,ht⟩:=QkI hc he
  split at h
  ·cases h
  ·rename_i hb
   rw [Bool.and_eq_true] at hb
   have hb':=Nat.le_of_ble_eq_true hb.1
   split at h
   ·rename_i es H1 hf
    simp only [Qat,osi,Prod.mk.injEq] at h
    obtain ⟨rfl,rfl⟩:=h
    have hzr:=Qp3 (I:=I) ht hb.2 len
    obtain ⟨J,cells',f1,f2,f3,f4,f5,f6⟩:=QoL l m.toList I H H1 _ es _ hs hzr hr hf
    simp at f3
    have hcs:cells'.size=len * (c.ty e).size:=by rw [f2.size,f3]
    obtain ⟨e1,s1,v1⟩:=QkJ (cells:=cells') (extra:=#[]) (el:=e) (n:=len) f4 (Qgt.alloc w (.cells (cells'++#[]) e)) f2 (by omega) (by simp [hcs])
    rw [f3] at v1
    refine ⟨_,_,J,_,?_,f5.trans e1 (by omega),s1,v1,by simp; omega⟩
    unfold Instr.buildSlice
    have hgt:¬ (len * (c.ty e).size > 2 ^ 24):=by omega
    have hfill:Instr.fill (fun i=>some (i * (c.ty e).size,(c.ty e).size)) ((Array.range (len * (c.ty e).size)).map (z.cells[· % z.cells.size]!)) m.toList=some cells':=f1
    simp only [Sem.run_bind,run_underlying hu,Result.andThen_ok,run_sizeOf ht,if_neg hgt]
    by_cases h0:len * (c.ty e).size=0
    ·simp only [if_pos h0,Sem.run_bind,Sem.run_pure,Result.andThen_ok]
     rw [h0] at hfill ⊢
     have e0:(Array.map (fun x=>(#[]:Array Value)[x % (#[]:Array Value).size]!) (Array.range 0))=Array.map (fun x=>z.cells[x % z.cells.size]!) (Array.range 0):=by simp
     rw [e0,hfill]
     simp [newRow]
    ·simp only [if_neg h0,Sem.run_bind,zeroValue,typeInfo,run_program,Result.andThen_ok,ht.info,Sem.run_pure,ht.zero,hfill]
     simp [newRow]
   ·cases h
theorem Qtb (hc:TysOk P c)(hs:Sim I ρ H w){t:TypeId}{l k v:AV}{u1 u2:Value}{H':Heap}(h:QfG c (c.ty t) l k H=some (v,H'))(hl:VRel I ρ l u1)(hk:VRel I ρ k u2):
  Did P I ρ H w (Instr.makeSlice t u1 u2) v H':=by
 unfold QfG at h
 split at h
 ·rename_i e n m he
  obtain ⟨hu,i,d,z,ht⟩:=QkI hc he
  cases hl
  cases hk
  split at h
  ·rename_i hb
   rw [Bool.and_eq_true,Bool.and_eq_true,Bool.and_eq_true,Bool.and_eq_true,Qfu,QgX] at hb
   obtain ⟨⟨⟨⟨b1,b2⟩,b3⟩,b4⟩,b5⟩:=hb
   have b1:0≤n:=by simpa using b1
   have b2:n=m:=by simpa using b2
   subst b2
   have b3:=Nat.le_of_ble_eq_true b3
   have b4:=Nat.le_of_ble_eq_true b4
   simp only [Qat,osi,Prod.mk.injEq] at h
   obtain ⟨rfl,rfl⟩:=h
   have hn:n.toNat * 1≤n.toNat * (c.ty e).bytes:=Nat.mul_le_mul_left _ b4
   have hby:(i.bytes:Int) * n≤281474976710656:=by
    have e1:(i.bytes:Int) * n=((n.toNat * (c.ty e).bytes:Nat):Int):=by
     rw [ht.bytes,Nat.mul_comm,Int.natCast_mul,Int.toNat_of_nonneg b1]
    rw [e1]; omega
   have hrun:=run_make (P:=P) w t e i z hu ht.info ht.zero .i64 .i64 n n b1 (Int.le_refl _) hby (by omega)
   have hzr:=Qp3 (I:=I) ht b5 n.toNat
   obtain ⟨e1,s1,v1⟩:=QkJ (cells:=madeCells z.cells (n.toNat * (c.ty e).size)) (extra:=#[]) (el:=e) (n:=n.toNat) hs (Qgt.alloc w (.cells (madeCells z.cells (n.toNat * (c.ty e).size)++#[]) e)) hzr (by simp) (by simp [madeCells])
   rw [List.length_replicate] at v1
   refine ⟨_,_,I,_,?_,e1,s1,v1,by simp⟩
   rw [hrun,ht.size]
   simp
  ·cases h
 ·cases h
theorem Qtc (hs:Sim I ρ H w){x:AV}{u:Value}{es:List (List AV)}{z:Nat}(h:rowsOf H x=some es)(hp:QbP x H=true)(hx:VRel I ρ x u)(hz:∀ r∈es,r.length=z):
  ∃ a cap,u=.slice a es.length cap∧∀ k,k≤es.length→∃ news:List Value,QcF I z (es.take k) news.toArray∧(∀ w':World,w'.heap=w.heap→(Builtin.firstCells z k u).run P w'=.ok news.toArray w')∧(∀ v∈news,v.oneCell'=true):=by
 have key:∀ (g off cap:Nat),(∀ (i j:Nat) (r:List AV) (x:AV),es[i]?=some r→r[j]?=some x→∃ v,w.cell? ⟨g,off+(i * z+j),none⟩=some v∧VRel I ρ0 x v)→(∀ r∈es,∀ x∈r,x.Qax=true)→
   ∀ k,k≤es.length→∃ news:List Value,QcF I z (es.take k) news.toArray∧(∀ w':World,w'.heap=w.heap→(Builtin.firstCells z k (.slice (some ⟨g,off,none⟩) es.length cap)).run P w'=.ok news.toArray w')∧(∀ v∈news,v.oneCell'=true):=by
  intro g off cap hcell hisc k hk
  have hex:∀ n,n≤k * z→∃ vs:List Value,vs.length=n∧∀ (q:Nat) (v:Value),vs[q]?=some v→w.cell? ⟨g,off+q,none⟩=some v:=by
   intro n
   induction n with
   | zero=>exact fun _=>⟨[],rfl,fun q v h=>by simp at h⟩
   | succ n ih=>
    intro hn
    obtain ⟨vs,h1,h2⟩:=ih (by omega)
    have hzp:0<z:=by
     rcases Nat.eq_zero_or_pos z with e |e
     ·subst e; simp at hn
     ·exact e
    have hi:n / z<es.length:=by
     have:n / z<k:=(Nat.div_lt_iff_lt_mul hzp).2 (by omega)
     omega
    have hrl:=hz es[n / z] (List.getElem_mem hi)
    have hj:n % z<es[n / z].length:=by rw [hrl]; exact Nat.mod_lt _ hzp
    obtain ⟨v,hv,_⟩:=hcell (n / z) (n % z) _ _ (List.getElem?_eq_getElem hi) (List.getElem?_eq_getElem hj)
    have e:n / z * z+n % z=n:=by rw [Nat.mul_comm]; exact Nat.div_add_mod n z
    rw [e] at hv
    refine ⟨vs++[v],by simp [h1],fun q v' hq=>?_⟩
    rw [List.getElem?_append] at hq
    split at hq
    ·exact h2 q v' hq
    ·have:q=n:=by have:=(List.getElem?_eq_some_iff.1 hq).1; simp at this; omega
     subst this
     simp [h1] at hq
     subst hq
     exact hv
  obtain ⟨vs,h1,h2⟩:=hex (k * z) (Nat.le_refl _)
  have hrows:QcF I z (es.take k) vs.toArray:=by
   refine ⟨fun r hr=>⟨hz r (List.mem_of_mem_take hr),hisc r (List.mem_of_mem_take hr)⟩,by simp [h1,Nat.min_eq_left hk],fun i j r x v hr hx hv=>?_⟩
   rw [List.getElem?_take] at hr
   split at hr
   ·obtain ⟨v',hv',hrel⟩:=hcell i j r x hr hx
    have:=h2 _ v (by simpa using hv)
    rw [hv'] at this
    simp at this
    subst this
    exact hrel
   ·cases hr
  refine ⟨vs,hrows,fun w' hw'=>?_,fun v hv=>?_⟩
  ·exact run_firstCells_some w' z k ⟨g,off,none⟩ es.length cap vs h1 (fun j v hv=>by
    rw [Addr.QgW]
    have:=h2 j v hv
    simpa [World.cell?,hw'] using this)
  ·obtain ⟨q,hq⟩:=List.mem_iff_getElem?.1 hv
   have hql:q<k * z:=by rw [← h1]; exact (List.getElem?_eq_some_iff.1 hq).1
   have hzp:0<z:=by
    rcases Nat.eq_zero_or_pos z with e |e
    ·subst e; simp at hql
    ·exact e
   have hik:q / z<k:=(Nat.div_lt_iff_lt_mul hzp).2 hql
   have hi:q / z<es.length:=by omega
   have hrl:=hz es[q / z] (List.getElem_mem hi)
   have hj:q % z<es[q / z].length:=by rw [hrl]; exact Nat.mod_lt _ hzp
   obtain ⟨v',hv',hrel⟩:=hcell (q / z) (q % z) _ _ (List.getElem?_eq_getElem hi) (List.getElem?_eq_getElem hj)
   have e:q / z * z+q % z=q:=by rw [Nat.mul_comm]; exact Nat.div_add_mod q z
   rw [e,h2 q v hq] at hv'
   simp at hv'
   subst hv'
   exact hrel.Qv7 (hisc _ (List.getElem_mem hi) _ (List.getElem_mem hj))
 have none_:∀ (a:Option Addr) (cap:Nat),es=[]→∀ k,k≤es.length→∃ news:List Value,QcF I z (es.take k) news.toArray∧(∀ w':World,w'.heap=w.heap→(Builtin.firstCells z k (.slice a 0 cap)).run P w'=.ok news.toArray w')∧(∀ v∈news,v.oneCell'=true):=by
  intro a cap e k hk
  subst e
  have:k=0:=by simpa using hk
  subst this
  refine ⟨[],⟨by simp,by simp,by simp⟩,fun w' _=>?_,by simp⟩
  cases a with
  | none=>simp [Builtin.firstCells]
  | some a=>exact run_firstCells_some w' z 0 a 0 cap [] (by simp) (by simp)
 unfold rowsOf at h
 cases hx with
 | nils=>simp at h; subst h; exact ⟨none,0,rfl,none_ none 0 rfl⟩
 | emp _ a=>simp at h; subst h; exact ⟨a,0,rfl,none_ a 0 rfl⟩
 | lst0 _ a cap=>simp at h; subst h; exact ⟨a,cap,rfl,none_ a cap rfl⟩
 | lst _ es' g off cap z' vs hne hl hz' h1 h2 h3=>
  simp at h
  subst h
  have e:z'=z:=by
   cases es' with
   | nil=>exact absurd rfl hne
   | cons r es=>rw [← hz' r (by simp),hz r (by simp)]
  subst e
  exact ⟨some ⟨g,off,none⟩,cap,rfl,key g off cap (fun i j r x hr hx=>⟨vs i j,hs.imm.at_ _ _ _ (h1 i j r x hr hx),h2 i j r x hr hx⟩) h3⟩
 | sl _ b off len a cap g z' n hρ ha hl=>
  simp only at h
  have key2:∀ (es':List (List AV)),(∃ zz,H[b]?=some (.rows zz true es'))∨(∃ zz,H[b]?=some (.ro zz es'))→Qdh es' off len some=some es→
    ∃ a' cap',Value.slice (some a) len cap=.slice a' es.length cap'∧∀ k,k≤es.length→∃ news:List Value,QcF I z (es.take k) news.toArray∧(∀ w':World,w'.heap=w.heap→(Builtin.firstCells z k (.slice (some a) len cap)).run P w'=.ok news.toArray w')∧(∀ v∈news,v.oneCell'=true):=by
   intro es' hb hcut
   obtain ⟨c1,c2⟩:=QeE hcut
   simp only [osi] at c2
   have hlen:es.length=len:=by rw [← c2]; simp; omega
   have hall:(∀ r∈es',r.length=z'∧∀ x∈r,x.Qax=true)∧∀ (i j:Nat) (r:List AV) (x:AV),es'[i]?=some r→r[j]?=some x→∃ v,w.cell? ⟨g,i * z'+j,none⟩=some v∧VRel I ρ0 x v:=by
    rcases hb with ⟨zz,hb⟩ |⟨zz,hb⟩
    ·obtain ⟨rfl,h2,h3,h4,h5⟩:=hs.blk b _ g z' n hb hρ
     refine ⟨h3,fun i j r x hr hx=>?_⟩
     have hj:j<zz:=by have:=(List.getElem?_eq_some_iff.1 hx).1; rw [(h3 r (List.mem_of_getElem? hr)).1] at this; exact this
     have hi:i<es'.length:=(List.getElem?_eq_some_iff.1 hr).1
     obtain ⟨v,hv⟩:=Option.isSome_iff_exists.1 (h4 _ (Qct (show i<n by omega) hj)).1
     exact ⟨v,hv,h5 i j r x v hr hx hv⟩
    ·obtain ⟨rfl,h2,h3,h4⟩:=hs.blk b _ g z' n hb hρ
     refine ⟨h3,fun i j r x hr hx=>?_⟩
     obtain ⟨v,hv,hrel⟩:=h4 i j r x hr hx
     exact ⟨v,hs.imm.at_ _ _ _ hv,hrel⟩
   rcases Nat.eq_zero_or_pos len with h0 |h0
   ·subst h0
    have e0:es=[]:=List.length_eq_zero_iff.1 hlen
    exact ⟨some a,cap,by rw [hlen],none_ (some a) cap e0⟩
   ·obtain ⟨a1,a2⟩:=ha (.inl h0)
    subst a1
    have ez:z'=z:=by
     have hm:es≠[]:=fun e=>by rw [e] at hlen; simp at hlen; omega
     obtain ⟨r,l,hrl⟩:=List.exists_cons_of_ne_nil hm
     have hr:r∈es:=by rw [hrl]; simp
     rw [← hz r hr,(hall.1 r (QnG (c2▸hr))).1]
    subst ez
    refine ⟨some ⟨g,off * z',none⟩,cap,by rw [hlen],?_⟩
    have:=key g (off * z') cap (fun i j r x hr hx=>by
     rw [← c2] at hr
     obtain ⟨_,hr'⟩:=QpR hr
     obtain ⟨v,hv,hrel⟩:=hall.2 (off+i) j r x hr' hx
     rw [show (off+i) * z'+j=off * z'+(i * z'+j) by rw [Nat.add_mul]; omega] at hv
     exact ⟨v,hv,hrel⟩) (fun r hr=>(hall.1 r (QnG (c2▸hr))).2)
    rw [hlen] at this
    intro k hk
    exact this k (by omega)
  split at h
  ·rename_i zz p es' hb
   have hp':p=true:=by simpa [QbP,hb] using hp
   subst hp'
   exact key2 es' (.inl ⟨zz,hb⟩) h
  ·rename_i zz es' hb
   exact key2 es' (.inr ⟨zz,hb⟩) h
  ·cases h
 | sle _ b g z' n a hρ=>
  have e0:es=[]:=by
   have cut:∀ es':List (List AV),Qdh es' 0 0 some=some es→es=[]:=fun es' hc=>by
    obtain ⟨_,c2⟩:=QeE hc
    simp only [List.take_zero,osi] at c2
    exact c2.symm
   simp only at h
   split at h
   ·exact cut _ h
   ·exact cut _ h
   ·cases h
  exact ⟨a,0,by rw [e0]; rfl,none_ a 0 e0⟩
 | _=>simp at h
end
end Go.Ev
