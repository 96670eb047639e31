/- The soundness of maps that are written; every operation but the calls. -/
import Derived.Test.YtkecfadnfnnfaaaGreatDoorEvW
import Derived.Laws.AppendOwn
import Derived.Deep.Upon
import Derived.Lib.AppendZeros
set_option linter.unusedVariables false
set_option linter.unusedSimpArgs false
namespace Go.Ev
open Go.RowKit
section
variable {P:Program} {c:Ctx} {I J:Imm} {ρ:Ren} {H:Heap} {w:World}
theorem QcF.append {z:Nat}{es fs:List (List AV)}{A B:Array Value}(h:QcF I z es A)(k:QcF I z fs B):QcF I z (es++fs) (A++B):=by
 refine ⟨fun r hr=>?_,by simp [h.size,k.size,Nat.add_mul],fun i j r x v hr hx hv=>?_⟩
 ·rcases List.mem_append.1 hr with h' |h'
  ·exact h.len r h'
  ·exact k.len r h'
 ·rw [List.getElem?_append] at hr
  split at hr
  ·rename_i hi
   have hj:j<z:=by have:=(List.getElem?_eq_some_iff.1 hx).1; rw [(h.len r (List.mem_of_getElem? hr)).1] at this; exact this
   have:=Qct hi hj
   rw [Array.getElem?_append_left (by rw [h.size]; exact this)] at hv
   exact h.at_ i j r x v hr hx hv
  ·rename_i hi
   have e:i * z+j=es.length * z+((i - es.length) * z+j):=by
    have:i=es.length+(i - es.length):=by omega
    rw [this,Nat.add_mul]
    simp
    omega
   rw [e,Array.getElem?_append_right (by rw [h.size]; omega),h.size,Nat.add_sub_cancel_left] at hv
   exact k.at_ _ j r x v hr hx hv
theorem QFN (hs:Sim I ρ H w){x:AV}{u:Value}{es:List (List AV)}{z:Nat}(h:rowsOf H x=some es)(hp:QbP x H=true)(hx:VRel I ρ x u)(hz:∀ r∈es,r.length=z){tx:TypeId}(hk:∃ e',P.underlying tx=some (.slice e')):
  ∃ news:List Value,Src P z tx u es.length news w∧QcF I z es news.toArray:=by
 obtain ⟨a,cap,rfl,hall⟩:=Qtc (P:=P) hs h hp hx hz
 obtain ⟨news,h1,h2,h3⟩:=hall es.length (Nat.le_refl _)
 rw [List.take_length] at h1
 have hl:news.length=es.length * z:=by have:=h1.size; simpa using this
 exact ⟨news,⟨.inl hk,fun w'=>rfl,h2 w rfl,h2 w.drew rfl,hl,h3⟩,h1⟩
theorem QxF {es:List (List AV)}{z:Nat}(h:(es.all fun r=>Nat.beq r.length z)=true):∀ r∈es,r.length=z:=fun r hr=>Nat.eq_of_beq_eq_true (List.all_eq_true.1 h r hr)
theorem QFO (hc:TysOk P c){t:TypeId}(h:QyC (c.ty t)=true):P.underlying t=some (.int .i64):=by
 unfold QyC at h
 split at h
 ·rename_i hk
  obtain ⟨i,d,z,ht⟩:=hc.ty t hk
  have hr:=ht.rel
  split at h
  ·rename_i hd
   rw [hd] at hr
   cases hr
   exact ht.und
  ·cases h
 ·cases h
theorem Qwb (hc:TysOk P c)(hs:Sim I ρ H w){t tx ty:TypeId}{s x v:AV}{u1 u2:Value}{H':Heap}(h:QnB c t H s x=some (v,H'))(hx:QyC (c.ty tx)=true)(h1:VRel I ρ s u1)(h2:VRel I ρ x u2):
  Did P I ρ H w (Builtin.append_ #[t,tx] ty #[u1,u2]) v H':=by
 have htx:=QFO hc hx
 unfold QnB at h
 split at h
 case h_2=>cases h
 cases h1
 split at h
 ·rename_i e n he
  obtain ⟨hu,i,d,z,ht⟩:=QkI hc he
  cases h2
  split at h
  ·rename_i hb
   rw [Bool.and_eq_true,Bool.and_eq_true,Bool.and_eq_true,Bool.and_eq_true,Qfu] at hb
   obtain ⟨⟨⟨⟨b1,b2⟩,b3⟩,b4⟩,b5⟩:=hb
   have b1:1≤n:=by simpa using b1
   have b2:=Nat.le_of_ble_eq_true b2
   have b3:=Nat.le_of_ble_eq_true b3
   have b4:=Nat.le_of_ble_eq_true b4
   simp only [Qat,osi,Prod.mk.injEq] at h
   obtain ⟨rfl,rfl⟩:=h
   have hn:n.toNat * 1≤n.toNat * (c.ty e).bytes:=Nat.mul_le_mul_left _ b3
   have hrun:=Lib.run_append_nil_zeros (P:=P) w t tx ty e i z .i64 .i64 hu htx ht.info ht.zero n.toNat (by omega) (by rw [ht.size]; omega) (by omega) (by rw [ht.bytes]; omega)
   rw [Int.toNat_of_nonneg (by omega)] at hrun
   have hzr:=Qp3 (I:=I) ht b5 n.toNat
   have hge:=grownCap_ge w n.toNat 0 e
   have hsz:z.cells.size=(c.ty e).size:=by rw [ht.len,ht.size]
   have hzc:Builtin.zeroCells z.cells n.toNat=madeCells z.cells (n.toNat * (c.ty e).size):=by rw [← hsz]; rfl
   obtain ⟨e1,s1,v1⟩:=QkJ (n:=grownCap w n.toNat 0 e) hs (Qgt.QnF w (.cells (Builtin.zeroCells z.cells n.toNat++Builtin.zeroCells z.cells (grownCap w n.toNat 0 e - n.toNat)) e)) (hzc▸hzr) (by simpa using hge) (by
    simp only [Builtin.zeroCells,Array.size_map,Array.size_range,hsz]
    rw [← Nat.add_mul]
    exact Nat.mul_le_mul_right _ (by omega))
   rw [List.length_replicate] at v1
   exact ⟨_,_,I,_,hrun,e1,s1,v1,by simp⟩
  ·cases h
 ·cases h
theorem Qsg (hc:TysOk P c)(hs:Sim I ρ H w){t tx ty:TypeId}{s x v:AV}{u1 u2:Value}{H':Heap}(h:Qgs c t tx H s x=some (v,H'))(h1:VRel I ρ s u1)(h2:VRel I ρ x u2):
  Did P I ρ H w (Builtin.append_ #[t,tx] ty #[u1,u2]) v H':=by
 unfold Qgs at h
 split at h
 ·cases h
 rename_i e he
 split at he
 case h_2=>cases he
 rename_i hex
 obtain ⟨hu,i,d,z,ht⟩:=QkI hc he
 have hk:∃ e',P.underlying tx=some (.slice e'):=by
  obtain ⟨e',he'⟩:=Option.isSome_iff_exists.1 hex
  exact ⟨e',(QkI hc he').1⟩
 split at h
 ·cases h
 rename_i new0 hrows
 split at h
 ·cases h
 rename_i new hpure
 split at hpure
 case h_2=>cases hpure
 rename_i hp
 simp only [osi] at hpure
 subst hpure
 split at h
 ·cases h
 rename_i hall
 have hz:=QxF hall
 obtain ⟨news,hsrc,hrel⟩:=QFN (P:=P) hs hrows hp h2 hz hk
 rw [← ht.size] at hsrc
 have hzs:z.cells.size=i.size:=ht.len
 have fresh:∀ (H0:Heap),Sim I ρ H0 w→∀ (base:Option Addr) (v:AV) (H':Heap),QbH c e H0 new0=some (v,H')→Did P I ρ H0 w (Builtin.append_ #[t,tx] ty #[.slice base 0 0,u2]) v H':=by
  intro H0 hs base v H' hq
  clear h
  unfold QbH at hq
  split at hq
  case h_2=>cases hq
  rename_i hb'
  rw [Bool.and_eq_true] at hb'
  have b1:=Nat.le_of_ble_eq_true hb'.1
  have b2:=Nat.le_of_ble_eq_true hb'.2
  simp only [Qat,osi,Prod.mk.injEq] at hq
  obtain ⟨rfl,rfl⟩:=hq
  rw [← ht.bytes] at b1 b2
  cases new0 with
  | nil=>
   have hn:news=[]:=by
    have:=hsrc.newsLen
    simp at this
    exact this
   subst hn
   obtain ⟨s1,e1⟩:=hs.Qz5 (c.ty e).size
   exact ⟨_,w,I,_,run_append_nothing w t tx ty e i hu ht.info base 0 0 (Nat.le_refl _) u2 hsrc,e1,s1,.sle _ _ _ _ _ _ (Ren.QaV _ _ _),by simp⟩
  | cons r l=>
   ·rename_i hz hall hrows hsrc
    clear hrows
    have hnle:(r::l).length * 1≤(r::l).length * i.bytes:=Nat.mul_le_mul_left _ b2
    have hpos:0<0+(r::l).length:=by simp
    have hfit:=growslice_fits (need:=0+(r::l).length) (old:=0) (bytes:=i.bytes) hpos (by rw [Nat.zero_add]; omega)
    have hold:(Builtin.firstCells i.size 0 (.slice base 0 0)).run P w.drew=.ok ([]:List Value).toArray w.drew:=by
     cases base with
     | none=>exact run_firstCells_none w.drew i.size 0 0 0
     | some a=>exact run_firstCells_some w.drew i.size 0 a 0 0 [] (by simp) (by simp)
    have hrun:=run_append_grow_src (P:=P) w t tx ty e i z hu ht.info ht.zero base 0 0 [] hold u2 _ news hsrc hpos (by omega) hfit
    have hge:=grownCap_ge w (0+(r::l).length) 0 e
    simp only [List.nil_append] at hrun
    obtain ⟨e1,s1,v1⟩:=QkJ (n:=grownCap w (0+(r::l).length) 0 e) hs (Qgt.QnF w (.cells (news.toArray++Builtin.zeroCells z.cells (grownCap w (0+(r::l).length) 0 e - (0+(r::l).length))) e)) hrel (by omega) (by
     have hnl:=hsrc.newsLen
     simp only [Builtin.zeroCells,Array.size_map,Array.size_range,List.size_toArray,hnl,hzs,ht.size]
     rw [← Nat.add_mul]
     exact Nat.mul_le_mul_right _ (by omega))
    refine ⟨_,_,I,_,hrun,e1,s1,?_,by simp⟩
    rw [Nat.zero_add] at v1 ⊢
    exact v1
 have dry:∀ (b:Nat) (base:Option Addr) (z':Nat) (es:List (List AV)),z'=(c.ty e).size→(0+new0.length) * (c.ty e).bytes≤35184372088832→1≤(c.ty e).bytes→
   Did P I ρ H w (Builtin.append_ #[t,tx] ty #[.slice base 0 0,u2]) (.sl H.length 0 (es.take 0++new0).length) (H.set b .dead++[.rows z' true (es.take 0++new0)]):=by
  intro b base z' es hz' hle h1
  obtain ⟨s1,e1⟩:=hs.kill b
  have:=fresh (H.set b .dead) s1 base (.sl H.length 0 new0.length) (H.set b .dead++[.rows z' true new0]) (by
   unfold QbH
   rw [Nat.zero_add] at hle
   have a1:Nat.ble (new0.length * (c.ty e).bytes) 35184372088832=true:=by rw [Qgf]; simpa using hle
   have a2:Nat.ble 1 (c.ty e).bytes=true:=by rw [Qgf]; simpa using h1
   simp [a1,a2,Qat,hz'])
  rw [List.take_zero,List.nil_append]
  obtain ⟨cv,w',I',ρ',g1,g2,g3,g4,g5⟩:=this
  exact ⟨cv,w',I',ρ',g1,e1.trans g2 (by simp),g3,g4,by simp⟩
 cases h1 with
 | nils=>exact fresh H hs none _ _ h
 | emp _ a=>exact fresh H hs a _ _ h
 | sle _ b g zz n a hρ=>
  split at h
  case h_1 heq=>cases heq
  case h_2 heq=>cases heq
  case h_4=>cases h
  rename_i b' len' heq
  simp only [AV.sl.injEq] at heq
  obtain ⟨rfl,_,rfl⟩:=heq
  split at h
  case h_2=>cases h
  rename_i z' es hb
  split at h
  case h_2=>cases h
  rename_i hok
  rw [Bool.and_eq_true,Bool.and_eq_true,Bool.and_eq_true] at hok
  obtain ⟨⟨⟨k1,k2⟩,k3⟩,k4⟩:=hok
  simp only [Qat,osi,Prod.mk.injEq] at h
  obtain ⟨rfl,rfl⟩:=h
  exact dry b a z' es (Nat.eq_of_beq_eq_true k1) (Nat.le_of_ble_eq_true k2) (Nat.le_of_ble_eq_true k4)
 | sl _ b off len a cap g zz n hρ ha hl=>
  split at h
  case h_1 heq=>cases heq
  case h_2 heq=>cases heq
  case h_4=>cases h
  rename_i b' len' heq
  simp only [AV.sl.injEq] at heq
  obtain ⟨rfl,rfl,rfl⟩:=heq
  split at h
  case h_2=>cases h
  rename_i z' es hb
  split at h
  case h_2=>cases h
  rename_i hok
  rw [Bool.and_eq_true,Bool.and_eq_true,Bool.and_eq_true] at hok
  obtain ⟨⟨⟨k1,k2⟩,k3⟩,k4⟩:=hok
  have k1:=Nat.eq_of_beq_eq_true k1
  have k2:=Nat.le_of_ble_eq_true k2
  have k3:=Nat.le_of_ble_eq_true k3
  have k4:=Nat.le_of_ble_eq_true k4
  simp only [Qat,osi,Prod.mk.injEq] at h
  obtain ⟨rfl,rfl⟩:=h
  obtain ⟨a1,a2⟩:=ha (.inr rfl)
  subst a1
  rw [Nat.zero_add] at a2
  obtain ⟨rfl,g2,g3,g4,g5⟩:=hs.blk b _ g zz n hb hρ
  have hzi:z'=i.size:=by rw [k1,ht.size]
  have htl:(es.take len).length=len:=by simp; omega
  have hnl:=hsrc.newsLen
  by_cases hn0:n=0
  ·subst hn0
   have c0:cap=0:=by omega
   have l0:len=0:=by omega
   subst c0
   subst l0
   exact dry b (some ⟨g,0 * z',none⟩) z' es k1 k2 k4
  have hnp:0<n:=by omega
  by_cases hroom:len+new0.length≤cap
  ·
   have hin:∀ j,j<news.length→(w.cell? ⟨g,0 * z'+len * i.size+j,none⟩).isSome=true∧w.frozen? ⟨g,0 * z'+len * i.size+j,none⟩=false:=fun j hj=>by
    have h1:(len+new0.length) * i.size≤n * i.size:=Nat.mul_le_mul_right _ (by omega)
    rw [Nat.add_mul] at h1
    exact g4 _ (by rw [hzi]; omega)
   have hrun:=run_append_room_src (P:=P) w t tx ty e i hu ht.info g (0 * z') len cap u2 _ news hsrc hroom (fun j hj=>(hin j hj).1) (fun j hj=>(hin j hj).2)
   have hbrel:BRel I (ρ.put H.length (g,z',n)) (w.setCells g (0 * z'+len * i.size) news) g z' n (.rows z' true (es.take len++new0)):=by
    refine ⟨rfl,by simp; omega,fun r hr=>?_,fun q hq=>?_,fun i' j r x y hr hx hy=>?_⟩
    ·rcases List.mem_append.1 hr with hr |hr
     ·exact g3 r (List.mem_of_mem_take hr)
     ·rw [k1]; exact hrel.len r hr
    ·rw [World.frozen?_setCells]
     exact ⟨World.isSome_setCells g _ _ w _ (g4 q hq).1,(g4 q hq).2⟩
    ·rw [List.getElem?_append] at hr
     split at hr
     ·rename_i hi
      rw [htl] at hi
      have hrm:=List.mem_of_getElem? hr
      rw [List.getElem?_take] at hr
      rw [if_pos hi] at hr
      have hj:j<z':=by have:=(List.getElem?_eq_some_iff.1 hx).1; rw [(g3 r (List.mem_of_getElem? hr)).1] at this; exact this
      have hlt:=Qct hi hj
      rw [World.cell?_setCells_out g _ _ w _ (fun _ _=>by simp only; left; rw [← hzi]; omega)] at hy
      exact g5 i' j r x y hr hx hy
     ·rename_i hi
      rw [htl] at hi hr
      have hj:j<z':=by have:=(List.getElem?_eq_some_iff.1 hx).1; rw [(hrel.len r (List.mem_of_getElem? hr)).1] at this; omega
      have hi2:i' - len<new0.length:=(List.getElem?_eq_some_iff.1 hr).1
      have hlt:=Qct hi2 hj
      have hq:(i' - len) * z'+j<news.length:=by rw [hnl,← hzi]; exact hlt
      have e0:0 * z'+len * i.size+((i' - len) * z'+j)=i' * z'+j:=by
       rw [← hzi]
       have:i'=len+(i' - len):=by omega
       rw [show i' * z'=len * z'+(i' - len) * z' by rw [← Nat.add_mul]; congr 1]
       omega
      have:=World.cell?_setCells_in g news (0 * z'+len * i.size) w (fun q hq=>(hin q hq).1) _ hq
      rw [e0] at this
      rw [this] at hy
      exact hrel.at_ (i' - len) j r x y hr hx (by rw [← k1]; simpa [List.getElem?_eq_getElem hq] using hy)
   obtain ⟨s1,e1⟩:=hs.grow hb rfl hρ hnp (Upd.setCells g news (0 * z'+len * i.size) w) (k':=.rows z' true (es.take len++new0)) rfl hbrel
   refine ⟨_,_,I,_,hrun,e1,s1,?_,by simp⟩
   have e3:(es.take len++new0).length=len+new0.length:=by rw [List.length_append,htl]
   rw [e3]
   exact .sl _ _ _ _ _ _ g z' n (Ren.QaV _ _ _) (fun _=>⟨rfl,by omega⟩) hroom
  ·
   have hro:rowsOf H (.sl b 0 len)=some (es.take len):=by
    have:Nat.ble len es.length=true:=by rw [Qgf]; simpa using k3
    simp [rowsOf,hb,Qdh,this,Qat]
   have hpo:QbP (.sl b 0 len) H=true:=by simp [QbP,hb]
   obtain ⟨a',cap',ha',hold⟩:=Qtc (P:=P) (z:=z') hs hro hpo (.sl ρ b 0 len ⟨g,0 * z',none⟩ cap g z' n hρ ha hl) (fun r hr=>(g3 r (List.mem_of_mem_take hr)).1)
   obtain ⟨olds,o1,o2,o3⟩:=hold len (by omega)
   have e4:(es.take len).take len=es.take len:=by rw [List.take_take,Nat.min_self]
   rw [e4] at o1
   have hnle:(len+new0.length) * 1≤(len+new0.length) * (c.ty e).bytes:=Nat.mul_le_mul_left _ k4
   have hfit:=growslice_fits (need:=len+new0.length) (old:=cap) (bytes:=i.bytes) (by omega) (by rw [ht.bytes]; omega)
   have hrun:=run_append_grow_src (P:=P) w t tx ty e i z hu ht.info ht.zero (some ⟨g,0 * z',none⟩) len cap olds (by rw [← hzi]; exact o2 w.drew rfl) u2 _ news hsrc (by omega) (by omega) hfit
   have hge:=grownCap_ge w (len+new0.length) cap e
   have hr2:QcF I z' (es.take len++new0) (olds++news).toArray:=by
    have:=o1.append (fs:=new0) (B:=news.toArray) (by rw [k1]; exact hrel)
    simpa using this
   obtain ⟨sd,ed⟩:=hs.setB hb rfl hρ hnp (Upd.refl w g) (.inr rfl) (show BRel I ρ w g z' n .dead from trivial)
   have e3:(es.take len++new0).length=len+new0.length:=by rw [List.length_append,htl]
   obtain ⟨e1,s1,v1⟩:=QkJ (n:=grownCap w (len+new0.length) cap e) sd (Qgt.QnF w (.cells ((olds++news).toArray++Builtin.zeroCells z.cells (grownCap w (len+new0.length) cap e - (len+new0.length))) e)) hr2 (by omega) (by
    rw [hr2.size,e3]
    simp only [Builtin.zeroCells,Array.size_map,Array.size_range,hzs]
    rw [← hzi,← Nat.add_mul]
    exact Nat.mul_le_mul_right _ (by omega))
   have hll:(H.set b Blk.dead).length=H.length:=by simp
   rw [hll] at e1 s1 v1
   refine ⟨_,_,I,_,hrun,ed.trans e1 (Nat.le_refl _),s1,?_,by simp⟩
   rw [e3] at v1 ⊢
   exact v1
 | lst _ es=>exfalso; revert h; generalize QbH c e H=f; simp
 | lst0=>exfalso; simp at h
 | _=>simp at h
theorem Qwc (hc:TysOk P c)(hs:Sim I ρ H w){t tx ty:TypeId}{s x v:AV}{u1 u2:Value}{H':Heap}(h:Ql2 c t tx H s x=some (v,H'))(h1:VRel I ρ s u1)(h2:VRel I ρ x u2):
  Did P I ρ H w (Builtin.append_ #[t,tx] ty #[u1,u2]) v H':=by
 unfold Ql2 at h
 split at h
 ·rename_i hx
  exact Qwb hc hs h hx h1 h2
 ·exact Qsg hc hs h h1 h2
theorem QCK (hc:TysOk P c)(hs:Sim I ρ H w){t tx ty:TypeId}{s x v:AV}{u1 u2:Value}{H':Heap}(h:QoB c t H s x=some (v,H'))(h1:VRel I ρ s u1)(h2:VRel I ρ x u2):
  Did P I ρ H w (Builtin.copy_ #[t,tx] ty #[u1,u2]) v H':=by
 unfold QoB at h
 split at h
 case h_2=>cases h
 rename_i b off len
 split at h
 case h_2=>cases h
 rename_i e src he hsrc
 split at h
 case h_2=>cases h
 rename_i z es hb
 split at h
 ·cases h
 rename_i new hnew
 split at hnew
 case h_2=>cases hnew
 rename_i hp
 simp only [osi] at hnew
 split at h
 case h_2=>cases h
 rename_i hok
 rw [Bool.and_eq_true,Bool.and_eq_true] at hok
 obtain ⟨⟨k1,k2⟩,k3⟩:=hok
 have k2:=Nat.eq_of_beq_eq_true k2
 have k3:=Nat.le_of_ble_eq_true k3
 simp only [Qat,osi,Prod.mk.injEq] at h
 obtain ⟨rfl,rfl⟩:=h
 obtain ⟨hu,i,d,zv,ht⟩:=QkI hc he
 obtain ⟨a2,cap2,rfl,hall⟩:=Qtc (P:=P) (z:=z) hs hsrc hp h2 (QxF k1)
 have hn:new.length=min src.length len:=by rw [← hnew]; simp [Nat.min_comm]
 obtain ⟨news,n1,n2,n3⟩:=hall new.length (by omega)
 have hnew':src.take new.length=new:=by
  rw [hn,← hnew,Nat.min_comm]
  apply List.ext_getElem?
  intro q
  rw [List.getElem?_take,List.getElem?_take]
  by_cases hq:q<len
  ·by_cases hq2:q<src.length
   ·rw [if_pos (by omega),if_pos hq]
   ·rw [if_neg (by omega),if_pos hq,List.getElem?_eq_none (by omega)]
  ·rw [if_neg (by omega),if_neg hq]
 rw [hnew'] at n1
 have hnl:news.length=new.length * z:=by have:=n1.size; simpa using this
 cases h1 with
 | sl _ _ _ _ a cap g zz n hρ ha hl=>
  obtain ⟨rfl,g2,g3,g4,g5⟩:=hs.blk b _ g zz n hb hρ
  have hmin:Nat.min src.length len=new.length:=hn.symm
  have hval:goInt (new.length:Int)=.int .i64 (new.length:Int):=rfl
  rcases Nat.eq_zero_or_pos new.length with h0 |h0
  ·have e0:new=[]:=List.length_eq_zero_iff.1 h0
   subst e0
   have en:news=[]:=by
    have:=hnl
    simp at this
    exact this
   subst en
   have eset:es.take off++[]++es.drop (off+([]:List (List AV)).length)=es:=by simp
   rw [eset]
   have eH:H.set b (.rows z true es)=H:=by
    apply List.ext_getElem?
    intro q
    rw [List.getElem?_set]
    split
    ·rename_i e; subst e
     rw [if_pos (List.getElem?_eq_some_iff.1 hb).1,hb]
    ·rfl
   rw [eH]
   refine Did.of hs ⟨.int .i64 0,?_,.int _ _ _⟩
   unfold Builtin.copy_
   have hq:=n2 w rfl
   simp at hq
   simp [run_underlying hu,Builtin.lenOf,run_sizeOf ht,hmin,← k2,hq,storeCells,goInt]
  ·obtain ⟨a1,a3⟩:=ha (.inl (by omega))
   subst a1
   have hzp:new.length≤len:=by omega
   have hin:∀ j,j<news.length→(w.cell? ⟨g,off * z+j,none⟩).isSome=true∧w.frozen? ⟨g,off * z+j,none⟩=false:=fun j hj=>by
    have h1:(off+new.length) * z≤n * z:=Nat.mul_le_mul_right _ (by omega)
    rw [Nat.add_mul] at h1
    exact g4 _ (by omega)
   have hst:=run_storeCells_cells (P:=P) g (off * z) news 0 w (by simpa using fun j hj=>(hin j hj).1) (by simpa using fun j hj=>(hin j hj).2) n3
   rw [Nat.add_zero] at hst
   have htl:(es.take off).length=off:=by simp; omega
   have hbrel:BRel I ρ (w.setCells g (off * z) news) g z n (.rows z true (es.take off++new++es.drop (off+new.length))):=by
    refine ⟨rfl,by simp; omega,fun r hr=>?_,fun q hq=>?_,fun i' j r x y hr hx hy=>?_⟩
    ·rcases List.mem_append.1 hr with hr |hr
     ·rcases List.mem_append.1 hr with hr |hr
      ·exact g3 r (List.mem_of_mem_take hr)
      ·exact n1.len r hr
     ·exact g3 r (List.mem_of_mem_drop hr)
    ·rw [World.frozen?_setCells]
     exact ⟨World.isSome_setCells g _ _ w _ (g4 q hq).1,(g4 q hq).2⟩
    ·have hout:es[i']?=some r→j<r.length→(i'<off∨off+new.length≤i')→VRel I ρ0 x y:=fun hr' hjr hi=>by
      have hj:j<z:=by rw [(g3 r (List.mem_of_getElem? hr')).1] at hjr; exact hjr
      rw [World.cell?_setCells_out g _ _ w _ (fun _ _=>by
       simp only
       rcases hi with hi |hi
       ·left; have:=Qct hi hj; omega
       ·right
        have:=Nat.mul_le_mul_right z hi
        rw [Nat.add_mul] at this
        omega)] at hy
      exact g5 i' j r x y hr' hx hy
     have hjr:j<r.length:=(List.getElem?_eq_some_iff.1 hx).1
     rw [List.append_assoc,List.getElem?_append] at hr
     split at hr
     ·rename_i hi
      rw [htl] at hi
      rw [List.getElem?_take,if_pos hi] at hr
      exact hout hr hjr (.inl hi)
     ·rename_i hi
      rw [htl] at hi hr
      rw [List.getElem?_append] at hr
      split at hr
      ·rename_i hi2
       have hj:j<z:=by rw [(n1.len r (List.mem_of_getElem? hr)).1] at hjr; exact hjr
       have hlt:=Qct hi2 hj
       have hq:(i' - off) * z+j<news.length:=by omega
       have e0:off * z+((i' - off) * z+j)=i' * z+j:=by
        rw [show i' * z=off * z+(i' - off) * z by rw [← Nat.add_mul]; congr 1; omega]
        omega
       have:=World.cell?_setCells_in g news (off * z) w (fun q hq=>(hin q hq).1) _ hq
       rw [e0] at this
       rw [this] at hy
       exact n1.at_ (i' - off) j r x y hr hx (by simpa [List.getElem?_eq_getElem hq] using hy)
      ·rename_i hi2
       rw [List.getElem?_drop] at hr
       have e0:off+new.length+(i' - off - new.length)=i':=by omega
       rw [e0] at hr
       exact hout hr hjr (.inr (by omega))
   obtain ⟨s1,e1⟩:=hs.setB hb rfl hρ (by omega) (Upd.setCells g news (off * z) w) (.inl rfl) hbrel
   refine ⟨.int .i64 (new.length:Int),_,I,ρ,?_,e1,s1,.int _ _ _,by simp⟩
   unfold Builtin.copy_
   have hq:=n2 w rfl
   simp [run_underlying hu,Builtin.lenOf,run_sizeOf ht,hmin,← k2,hq,hst,goInt]
 | sle _ _ g zz n a hρ=>
  have h0:new.length=0:=by omega
  have e0:new=[]:=List.length_eq_zero_iff.1 h0
  subst e0
  have en:news=[]:=by
   have:=hnl
   simp at this
   exact this
  subst en
  have hmin:Nat.min src.length 0=0:=by simp
  have eset:es.take 0++[]++es.drop (0+([]:List (List AV)).length)=es:=by simp
  rw [eset]
  have eH:H.set b (.rows z true es)=H:=by
   apply List.ext_getElem?
   intro q
   rw [List.getElem?_set]
   split
   ·rename_i e; subst e
    rw [if_pos (List.getElem?_eq_some_iff.1 hb).1,hb]
   ·rfl
  rw [eH]
  refine Did.of hs ⟨.int .i64 0,?_,.int _ _ _⟩
  unfold Builtin.copy_
  have hq:=n2 w rfl
  simp at hq
  cases a<;>simp [run_underlying hu,Builtin.lenOf,run_sizeOf ht,hmin,← k2,hq,storeCells,goInt]
theorem Qwd (hc:TysOk P c)(hs:Sim I ρ H w){t:TypeId}{v:AV}{r:Option AV}{ur:Option Value}{H':Heap}(h:Qiz (c.ty t) H r=some (v,H'))(hr:ORel I ρ r ur):Did P I ρ H w (Instr.makeMap t ur) v H':=by
 have hnew:v=.map H.length∧H'=H++[.map []]→∀ s:Sem Value,s.run P w=.ok (.map (some w.heap.size)) (w.alloc (.map #[] 0))→Did P I ρ H w s v H':=by
  rintro ⟨rfl,rfl⟩ s hrun
  obtain ⟨s1,e1⟩:=hs.alloc (Qgt.alloc w (.map #[] 0)) (.map []) 0 1 ⟨by omega,#[],0,by rw [(Qgt.alloc w (.map #[] 0)).at_],by simp,fun j x e hx=>by simp at hx⟩
  exact ⟨_,_,I,_,hrun,e1,s1,.map _ _ _ _ _ (Ren.QaV _ _ _),by simp⟩
 unfold Qiz at h
 cases hr with
 | none=>
  simp only [Qat,osi,Prod.mk.injEq] at h
  exact hnew ⟨h.1.symm,h.2.symm⟩ _ rfl
 | some x u hx=>
  cases hx with
  | int _ k n=>
   simp only at h
   split at h
   ·rename_i k' e' hd
    simp only [Qat,osi,Prod.mk.injEq] at h
    obtain ⟨i,d,z,ht⟩:=hc.ty t (QoJ (by rw [hd]; simp))
    have hrel:=ht.rel
    rw [hd] at hrel
    cases hrel with
    | map=>
     exact hnew ⟨h.1.symm,h.2.symm⟩ _ (by
      unfold Instr.makeMap
      simp only [Sem.run_bind,run_underlying ht.und,Result.andThen_ok,asInt,asIntOf,Sem.run_pure]
      rfl)
   ·cases h
  | _=>simp at h
theorem QkK {t:TypeId}{i:TypeInfo}{d:TypeDesc}{z:Value}(ht:TyOk P c t i d z){k:AV}{u:Value}(h:Qs0 (c.ty t).d k=true)(b:Bool)(n:Nat):(Instr.checkKey b (n+1) t u).run P w=.ok () w:=by
 have hr:=ht.rel
 unfold Instr.checkKey
 rw [Sem.run_bind,run_underlying ht.und w]
 revert h hr
 generalize (c.ty t).d=td
 intro h hr
 cases hr<;>simp [Qs0,Qfo] at h<;>cases u<;>rfl
theorem Qpm {kt:TypeId}{i:TypeInfo}{d:TypeDesc}{z:Value}(ht:TyOk P c kt i d z){k:AV}{u:Value}(hk:VRel I ρ0 k u):∀ (es:List (AV×AV)) (l:List MapEntry) (q:Nat) (r:Option AV),
  (∀ (j:Nat) (x:AV×AV) (e:MapEntry),es[j]?=some x→l[j]?=some e→VRel I ρ0 x.1 e.key∧VRel I ρ0 x.2 e.val)→es.length=l.length→QoC (c.ty kt).d k es=some r→
  match r with
  | none=>Instr.findNow d u l q=some none
  | some v=>∃ j e x,l[j]?=some e∧es[j]?=some x∧x.2=v∧Qfo (c.ty kt).d k x.1=some true∧Instr.findNow d u l q=some (some (q+j,e.val))
 | [],[],q,r,hrel,hl,h=>by simp [QoC] at h; subst h; rfl
 | [],_::_,q,r,hrel,hl,h=>by simp at hl
 | _::_,[],q,r,hrel,hl,h=>by simp at hl
 | (k',v')::es,e::l,q,r,hrel,hl,h=>by
  simp only [QoC] at h
  have h0:=hrel 0 _ _ rfl rfl
  cases hq:Qfo (c.ty kt).d k k' with
  | none=>simp [hq] at h
  | some b=>
   have hn:=(QpY (P:=P) (w:=default) ht.und ht.rel hq hk h0.1 0).2
   cases b with
   | true=>
    simp [hq] at h
    subst h
    exact ⟨0,e,(k',v'),rfl,rfl,rfl,hq,by simp [Instr.findNow,hn]⟩
   | false=>
    simp only [hq] at h
    have ih:=Qpm ht hk es l (q+1) r (fun j x e hx he=>hrel (j+1) x e hx he) (by simpa using hl) h
    cases r with
    | none=>simp only at ih ⊢; simp [Instr.findNow,hn,ih]
    | some v=>
     obtain ⟨j,e',x,h1,h2,h3,h4,h5⟩:=ih
     exact ⟨j+1,e',x,h1,h2,h3,h4,by simp only [Instr.findNow,hn]; rw [h5]; congr 3; omega⟩
theorem QyN (hc:TysOk P c)(hs:Sim I ρ H w){t:TypeId}{x k v:AV}{u1 u2:Value}{ok:Bool}(h:Qln c (c.ty t) x k ok H=some v)(hx:VRel I ρ x u1)(hk:VRel I ρ0 k u2):
  ∃ cv,(Instr.lookup t u1 u2 ok).run P w=.ok cv w∧VRel I ρ v cv:=by
 unfold Qln at h
 split at h
 case h_2=>cases h
 rename_i kt e hd
 obtain ⟨i,d,z,ht⟩:=hc.ty t (QoJ (by rw [hd]; simp))
 have hrel:=ht.rel
 rw [hd] at hrel
 cases hrel with
 | map _ _ hkk hke=>
  obtain ⟨ik,dk,zk,htk⟩:=hc.ty kt hkk
  obtain ⟨ie,de,ze,hte⟩:=hc.ty e hke
  split at h
  ·cases h
  rename_i es hes
  split at h
  ·cases h
  rename_i r hr
  split at hr
  case h_2=>cases hr
  rename_i hko
  split at h
  ·cases h
  rename_i v0 hv0
  simp only [osi] at h
  subst h
  have hents:∃ ents:Array MapEntry,es.length=ents.size∧(∀ (j:Nat) (x:AV×AV) (e:MapEntry),es[j]?=some x→ents[j]?=some e→VRel I ρ0 x.1 e.key∧VRel I ρ0 x.2 e.val)∧
    ((u1=.map none∧ents=#[])∨∃ g clock,u1=.map (some g)∧(getObj g).run P w=.ok (.map ents clock) w):=by
   cases hx with
   | nilm=>simp [entriesOf] at hes; subst hes; exact ⟨#[],rfl,fun j x e hx=>by simp at hx,.inl ⟨rfl,rfl⟩⟩
   | map _ b g z' n hρ=>
    simp only [entriesOf] at hes
    split at hes
    ·rename_i es' hb
     simp at hes
     subst hes
     obtain ⟨_,ents,clock,e1,e2,e3⟩:=hs.blk b _ g z' n hb hρ
     exact ⟨ents,e2,e3,.inr ⟨g,clock,rfl,by simp [getObj,Sem.run,e1]⟩⟩
    ·cases hes
   | _=>simp [entriesOf] at hes
  obtain ⟨ents,e1,e2,e3⟩:=hents
  have hf:=Qpm (P:=P) htk hk es ents.toList 0 r (fun j x e hx he=>e2 j x e hx (by simpa using he)) (by simpa using e1) hr
  have hck:∀ b,(Instr.checkKey b 10000 kt u2).run P w=.ok () w:=fun b=>QkK htk hko b 9999
  have hzero:∀ {cs:AV},pack (c.ty e) (c.ty e).zero=some cs→VRel I ρ cs ze:=fun {cs} hp=>by
   unfold pack at hp
   simp only [hke] at hp
   have hagg:=hte.agg
   cases ha:(c.ty e).isAgg with
   | true=>
    rw [ha,if_pos rfl] at hagg
    obtain ⟨zs,rfl⟩:=hagg
    obtain ⟨z1,z2⟩:=Qlr (I:=I) (ρ:=ρ) hte
    have hsz:zs.size=(c.ty e).size:=by have:=hte.len; rw [hte.size] at this; exact this
    have hzl:(c.ty e).zero.length=(c.ty e).size:=by rw [z1]; exact hsz
    simp only [ha] at hp
    have hle:Nat.ble (c.ty e).size (c.ty e).zero.length=true:=by rw [Qgf]; simp [hzl]
    simp only [hle,osi] at hp
    subst hp
    rw [List.take_of_length_le (by omega)]
    exact .agg _ _ _ z1 z2
   | false=>
    rw [ha] at hagg
    simp at hagg
    simp only [ha] at hp
    have hcells:=hte.cells
    rw [hagg.1] at hcells
    rw [hcells] at hp
    simp at hp
    subst hp
    exact QpV _ _ _
  refine ⟨(if ok then .tuple #[(match r with |some _=>(match Instr.findNow dk u2 ents.toList 0 with |some (some (_,v))=>v |_=>ze) |none=>ze),.bool r.isSome] else (match r with |some _=>(match Instr.findNow dk u2 ents.toList 0 with |some (some (_,v))=>v |_=>ze) |none=>ze)),?_,?_⟩
  ·have hz0:(zeroValue e).run P w=.ok ze w:=by simp [zeroValue,typeInfo,hte.info,hte.zero]
   rcases e3 with ⟨rfl,rfl⟩ |⟨g,clock,rfl,hg⟩
   ·have er:r=none:=by
     have:es=[]:=List.length_eq_zero_iff.1 (by simpa using e1)
     subst this
     simpa [QoC] using hr.symm
    subst er
    unfold Instr.lookup
    cases ok<;>simp [run_underlying ht.und,hck,Instr.findKey,run_underlying htk.und,Instr.findNow,hz0]
   ·unfold Instr.lookup
    cases r with
    | none=>
     simp only at hf
     cases ok<;>simp [run_underlying ht.und,hg,hck,Instr.findKey,run_underlying htk.und,hf,hz0]
    | some v=>
     obtain ⟨j,e',x',h1,h2,h3,h4,h5⟩:=hf
     cases ok<;>simp [run_underlying ht.und,hg,hck,Instr.findKey,run_underlying htk.und,h5]
  ·have hv:VRel I ρ v0 (match r with |some _=>(match Instr.findNow dk u2 ents.toList 0 with |some (some (_,v))=>v |_=>ze) |none=>ze):=by
    cases r with
    | none=>exact hzero hv0
    | some v=>
     simp at hv0
     subst hv0
     obtain ⟨j,e',x',h1,h2,h3,h4,h5⟩:=hf
     simp only [h5]
     have:=(e2 j x' e' h2 (by simpa using h1)).2
     rw [h3] at this
     exact this.any
   cases ok with
   | false=>exact hv
   | true=>
    refine .tup _ _ _ (by simp) (fun j x u hx hu=>?_)
    cases j with
    | zero=>simp at hx hu; subst hx; subst hu; exact hv
    | succ j=>cases j with
     | zero=>simp at hx hu; subst hx; subst hu; exact .bool _ _
     | succ j=>simp at hx
end
end Go.Ev
namespace Go.Ev
open Go.RowKit
section
variable {P:Program} {c:Ctx} {I J:Imm} {ρ:Ren} {H:Heap} {w:World}
theorem QxG {td:TD}{k:AV}{u:Value}(h:Qs0 td k=true)(hk:VRel I ρ k u):VRel I ρ0 k u:=by
 cases hk with
 | bool=>exact .bool _ _
 | int=>exact .int _ _ _
 | str _ s bs e=>exact .str _ _ _ e
 | _=>cases td<;>simp [Qs0,Qfo] at h
theorem QxH {td:TD}{x y:AV}(h:Qfo td x y=some true):x=y:=by
 unfold Qfo at h
 cases td<;>simp at h
 ·cases x<;>cases y<;>simp at h
  rename_i k a j b
  by_cases hk:k=j
  ·simp [hk,QgX] at h; rw [hk,h]
  ·simp [hk] at h
 ·cases x<;>cases y<;>simp at h; rw [h]
 ·cases x<;>cases y<;>simp at h; rw [h]
theorem Qwe {td:TD}{x y:AV}{u v:Value}(h:Qfo td x y=some true)(hx:VRel I ρ x u)(hy:VRel I ρ y v)(n:Nat):Instr.sameBits n v u=true:=by
 have e:=QxH h
 subst e
 cases hx with
 | bool=>cases hy; simp [Instr.sameBits]
 | int=>cases hy; simp [Instr.sameBits]
 | str _ s b1 e1=>
  cases hy with
  | str _ _ b2 e2=>
   have:b2=b1:=by
    cases b1 with |mk d1=>cases b2 with |mk d2=>
    congr 1
    apply Array.ext'
    simp at e1 e2
    rw [e2,e1]
   subst this
   have hb:(b2==b2)=true:=by show (b2.data==b2.data)=true; exact beq_self_eq_true _
   cases n<;>exact hb
 | _=>cases td<;>simp [Qfo] at h
theorem QAo {kt:TypeId}{i:TypeInfo}{d:TypeDesc}{z:Value}(ht:TyOk P c kt i d z){k v:AV}{u uv:Value}(hk:VRel I ρ0 k u)(hv:VRel I ρ0 v uv):∀ (es es':List (AV×AV)) (l:List MapEntry) (q:Nat),
  (∀ (j:Nat) (x:AV×AV) (e:MapEntry),es[j]?=some x→l[j]?=some e→VRel I ρ0 x.1 e.key∧VRel I ρ0 x.2 e.val)→es.length=l.length→Quw (c.ty kt).d k v es=some es'→
  (Instr.findNow d u l q=some none∧es'=es++[(k,v)])∨
  ∃ j e x,l[j]?=some e∧es[j]?=some x∧Qfo (c.ty kt).d k x.1=some true∧Instr.findNow d u l q=some (some (q+j,e.val))∧es'=es.set j (x.1,v)
 | [],es',[],q,hrel,hl,h=>by simp [Quw] at h; subst h; exact .inl ⟨rfl,rfl⟩
 | [],_,_::_,q,hrel,hl,h=>by simp at hl
 | _::_,_,[],q,hrel,hl,h=>by simp at hl
 | (k',v')::es,es',e::l,q,hrel,hl,h=>by
  simp only [Quw] at h
  have h0:=hrel 0 _ _ rfl rfl
  cases hq:Qfo (c.ty kt).d k k' with
  | none=>simp [hq] at h
  | some b=>
   have hn:=(QpY (P:=P) (w:=default) ht.und ht.rel hq hk h0.1 0).2
   cases b with
   | true=>
    simp [hq] at h
    subst h
    exact .inr ⟨0,e,(k',v'),rfl,rfl,hq,by simp [Instr.findNow,hn],rfl⟩
   | false=>
    simp only [hq] at h
    split at h
    ·cases h
    ·rename_i es1 hp
     simp at h
     subst h
     rcases QAo ht hk hv es es1 l (q+1) (fun j x e hx he=>hrel (j+1) x e hx he) (by simpa using hl) hp with ⟨h1,h2⟩ |⟨j,e',x,h1,h2,h3,h4,h5⟩
     ·exact .inl ⟨by simp [Instr.findNow,hn,h1],by rw [h2]; rfl⟩
     ·exact .inr ⟨j+1,e',x,h1,h2,h3,by simp only [Instr.findNow,hn]; rw [h4]; congr 3; omega,by rw [h5]; rfl⟩
theorem Qsh (hc:TysOk P c)(hs:Sim I ρ H w){t:TypeId}{m k x v:AV}{u1 u2 u3:Value}{H':Heap}(h:QmF c (c.ty t) m k x H=some (v,H'))(h1:VRel I ρ m u1)(h2:VRel I ρ k u2)(h3:VRel I ρ x u3):
  v=.tup []∧∃ w' I',(Instr.mapUpdate t u1 u2 u3).run P w=.ok () w'∧Ext H.length I ρ H w I' ρ H' w'∧Sim I' ρ H' w'∧H.length≤H'.length:=by
 unfold QmF at h
 split at h
 case h_2=>cases h
 rename_i kt e b hd
 split at h
 ·cases h
 rename_i v' H1 hf
 split at h
 case h_2=>cases h
 rename_i es hb
 split at h
 case h_2=>cases h
 rename_i hko
 split at h
 case h_2=>cases h
 rename_i es' hput
 simp only [Qat,osi,Prod.mk.injEq] at h
 obtain ⟨rfl,rfl⟩:=h
 obtain ⟨i,d,z,ht⟩:=hc.ty t (QoJ (by rw [hd]; simp))
 have hrel:=ht.rel
 rw [hd] at hrel
 cases hrel with
 | map _ _ hkk hke=>
  obtain ⟨ik,dk,zk,htk⟩:=hc.ty kt hkk
  obtain ⟨J,sJ,eJ,rJ,lJ⟩:=Ql3 hs hf h3
  have hk0:VRel J ρ0 k u2:=(QxG hko h2).imm eJ.imm
  cases h1 with
  | map _ _ g z' n hρ=>
   obtain ⟨hn0,ents,clock,e1,e2,e3⟩:=sJ.blk b _ g z' n hb hρ
   have hg:(getObj g).run P w=.ok (.map ents clock) w:=by simp [getObj,Sem.run,e1]
   have hset:∀ o,(setObj g o).run P w=.ok () { w with heap:=w.heap.setIfInBounds g o }:=fun o=>by simp [setObj,Sem.run,e1]
   have hgl:g<w.heap.size:=by
    rcases Nat.lt_or_ge g w.heap.size with h |h
    ·exact h
    ·rw [Array.getElem?_eq_none h] at e1; cases e1
   have hupd:∀ o,Upd w { w with heap:=w.heap.setIfInBounds g o } g:=fun o=>⟨by simp,fun q hq=>by simp [Array.getElem?_setIfInBounds_ne (Ne.symm hq)],rfl,rfl,rfl⟩
   have hat:∀ o,({ w with heap:=w.heap.setIfInBounds g o }:World).heap[g]?=some o:=fun o=>by simp [hgl]
   refine ⟨rfl,?_⟩
   rcases QAo htk hk0 rJ es es' ents.toList 0 (fun j x e hx he=>e3 j x e hx (by simpa using he)) (by simpa using e2) hput with ⟨p1,p2⟩ |⟨j,e',x',p1,p2,p3,p4,p5⟩
   ·subst p2
    obtain ⟨s2,ex2⟩:=sJ.setB hb rfl hρ hn0 (hupd (.map (ents.push { key:=u2,val:=u3,born:=clock }) (clock+1))) (k':=.map (es++[(k,v')])) (.inl rfl) ⟨hn0,_,_,hat _,by simp [e2],fun q y en hy hen=>by
     rw [List.getElem?_append] at hy
     rw [Array.getElem?_push] at hen
     split at hy
     ·rename_i hq
      rw [if_neg (by omega)] at hen
      exact e3 q y en hy hen
     ·rename_i hq
      have:q=es.length:=by have:=(List.getElem?_eq_some_iff.1 hy).1; simp at this; omega
      subst this
      rw [if_pos e2] at hen
      simp at hy hen
      subst hy
      subst hen
      exact ⟨hk0,rJ⟩⟩
    refine ⟨_,J,?_,eJ.trans ex2 (by omega),s2,by simp; omega⟩
    unfold Instr.mapUpdate
    simp [run_underlying ht.und,hg,QkK htk hko,Instr.findKey,run_underlying htk.und,p1,hset]
   ·subst p5
    have hjl:j<ents.size:=by have:=(List.getElem?_eq_some_iff.1 p1).1; simpa using this
    have hje:ents[j]?=some e':=by simpa using p1
    have hold:=e3 j x' e' p2 hje
    have hx'k:x'.1=k:=(QxH p3).symm
    have hsame:=Qwe p3 hk0 hold.1 10000
    obtain ⟨s2,ex2⟩:=sJ.setB hb rfl hρ hn0 (hupd (.map (ents.modify j fun e=>{ e with key:=u2,val:=u3 }) clock)) (k':=.map (es.set j (x'.1,v'))) (.inl rfl) ⟨hn0,_,_,hat _,by simp [e2],fun q y en hy hen=>by
     rw [List.getElem?_set] at hy
     rw [Array.getElem?_modify] at hen
     split at hy
     ·rename_i hq
      subst hq
      rw [if_pos rfl,hje] at hen
      rw [if_pos (by omega)] at hy
      simp at hy hen
      subst hy
      subst hen
      exact ⟨by rw [hx'k]; exact hk0,rJ⟩
     ·rename_i hq
      rw [if_neg hq] at hen
      exact e3 q y en hy hen⟩
    refine ⟨_,J,?_,eJ.trans ex2 (by omega),s2,by simp; omega⟩
    unfold Instr.mapUpdate
    have hkts:(Instr.keyThatStays (((ents[j]?).map (·.key)).getD u2) u2).run P w=.ok u2 w:=by
     unfold Instr.keyThatStays
     rw [hje]
     simp only [Option.map_some,Option.getD_some,hsame,if_true]
     rfl
    rw [Nat.zero_add] at p4
    simp only [Sem.run_bind,run_underlying ht.und,hg,Result.andThen_ok,QkK htk hko,Instr.findKey,run_underlying htk.und,p4,Sem.run_pure,hkts,hset]
  | _=>simp at hb
def QAp (P:Program)(I:Imm)(ρ:Ren)(H:Heap)(w:World)(s:Sem Next)(v:AV)(H':Heap):Prop:=
 ∃ cv w' I' ρ',(s.run P w=.ok (.value cv) w'∨(s.run P w=.ok .skip w'∧cv=undef))∧Ext H.length I ρ H w I' ρ' H' w'∧Sim I' ρ' H' w'∧VRel I' ρ' v cv∧H.length≤H'.length
theorem QAp.QoM {s:Sem Value}{v:AV}{H':Heap}(h:Did P I ρ H w s v H'):QAp P I ρ H w (do pure (.value (← s))) v H':=by
 obtain ⟨cv,w',I',ρ',h1,h2⟩:=h
 exact ⟨cv,w',I',ρ',.inl (by simp only [Sem.run_bind,h1,Result.andThen_ok,Sem.run_pure]),h2⟩
theorem QAp.Qgj (hs:Sim I ρ H w){s:Sem Value}{v:AV}(h:∃ cv,s.run P w=.ok cv w∧VRel I ρ v cv):QAp P I ρ H w (do pure (.value (← s))) v H:=.QoM (.of hs h)
theorem QfY {H H':Heap}{o:Option AV}{v:AV}(h:okV H o=some (v,H')):o=some v∧H'=H:=by
 cases o with
 | none=>simp [okV] at h
 | some x=>simp [okV] at h; exact ⟨by rw [h.1],h.2.symm⟩
theorem Qp4:∀ (n:Nat) (v:AV) (cv:Value),Qer n v=true→VRel I ρ v cv→VRel I ρ0 v cv
 | 0,v,cv,h,_=>by simp [Qer] at h
 | n+1,v,cv,h,hv=>by
  cases hv with
  | bool=>exact .bool _ _
  | int=>exact .int _ _ _
  | str _ s bs hh=>exact .str _ _ _ hh
  | nilp=>exact .nilp _
  | iptr _ cs g off vs h1 h2=>exact .iptr _ _ _ _ vs h1 h2
  | nils=>exact .nils _
  | emp=>exact .emp _ _
  | lst0=>exact .lst0 _ _ _
  | lst _ es g off cap z vs hne hl hz h1 h2 hc=>exact .lst _ _ _ _ _ z vs hne hl hz h1 h2 hc
  | nilm=>exact .nilm _
  | nilf=>exact .nilf _
  | fn _ f caps vs hl hv=>
   cases caps with
   | nil=>exact .fn _ _ _ _ hl (fun j x v hx=>by simp at hx)
   | cons=>simp [Qer] at h
  | nili=>exact .nili _
  | iface _ t v cv hh=>exact .iface _ _ _ _ hh
  | agg _ cs vs hl hv=>
   simp only [Qer] at h
   exact .agg _ _ _ hl (fun j x v hx hv'=>Qp4 n x v (List.all_eq_true.1 h x (List.mem_of_getElem? hx)) (hv j x v hx hv'))
  | undef=>simp [Qer] at h
  | ptr=>simp [Qer] at h
  | sl=>simp [Qer] at h
  | sle=>simp [Qer] at h
  | map=>simp [Qer] at h
  | tup=>simp [Qer] at h
theorem QCL (hc:TysOk P c)(rec:Task→Option Res)(hs:Sim I ρ H w){fr:Fr}{a:Act}{n:Nat}(hf:QcO I ρ fr a.tmps n){o:Oper}{v:AV}{H':Heap}(h:evOp c rec o fr H=some (v,H'))
  (hcall:∀ cl,o.op=.call cl→∃ b,cl.callee=.builtin b):QAp P I ρ H w (execOp a.eval o) v H':=by
 unfold evOp at h
 unfold execOp
 cases hop:o.op<;>simp only [hop] at h ⊢<;>try (cases h; done)
 case move x=>simp at h; obtain ⟨rfl,rfl⟩:=h; exact ⟨_,w,I,ρ,.inl rfl,Ext.refl _ _ _ _ _,hs,QaL hf x,Nat.le_refl _⟩
 case assign x=>simp at h; obtain ⟨rfl,rfl⟩:=h; exact ⟨_,w,I,ρ,.inl rfl,Ext.refl _ _ _ _ _,hs,QaL hf x,Nat.le_refl _⟩
 case pick p x y=>
  obtain ⟨h1,rfl⟩:=QfY h
  have hp:=QaL hf p
  unfold Qz0 at h1
  split at h1
  ·rename_i heq
   rw [heq] at hp
   generalize hpv:a.eval p=pv at hp
   cases hp
   simp at h1
   subst h1
   exact ⟨_,w,I,ρ,.inl (by simp [asBool]),Ext.refl _ _ _ _ _,hs,QaL hf x,Nat.le_refl _⟩
  ·rename_i heq
   rw [heq] at hp
   generalize hpv:a.eval p=pv at hp
   cases hp
   simp at h1
   subst h1
   exact ⟨_,w,I,ρ,.inl (by simp [asBool]),Ext.refl _ _ _ _ _,hs,QaL hf y,Nat.le_refl _⟩
  ·cases h1
 case alloc e=>exact .QoM (QAk hc hs h)
 case box e x=>exact .QoM (QEw hs h (QaL hf x))
 case build t parts=>
  obtain ⟨h1,rfl⟩:=QfY h
  refine .Qgj hs (QAl hc h1 ?_)
  have:=PRel.of hf parts.toList
  simpa using this
 case buildSlice t len parts=>
  refine .QoM (QrF hc hs h ?_)
  have:=PRel.of hf parts.toList
  simpa using this
 case load t x=>obtain ⟨h1,rfl⟩:=QfY h; exact .Qgj hs (QxC hc hs h1 (QaL hf x))
 case store t x y=>
  unfold Qs1 at h
  split at h
  ·rename_i H1 hst
   simp at h
   obtain ⟨rfl,rfl⟩:=h
   obtain ⟨w',I',ρ',h1,h2,h3,h4⟩:=QAm hc hs hst (QaL hf x) (QaL hf y)
   exact ⟨undef,w',I',ρ',.inr ⟨by simp only [Sem.run_bind,h1,Result.andThen_ok,Sem.run_pure],rfl⟩,h2,h3,.tup _ _ _ rfl (fun j x u hx=>by simp at hx),h4⟩
  ·cases h
 case nilCheck x=>
  obtain ⟨h1,rfl⟩:=QfY h
  have hx:=QaL hf x
  unfold QnC at h1
  split at h1
  case h_5=>cases h1
  all_goals
   rename_i heq
   rw [heq] at hx
   simp at h1
   subst h1
   generalize hxv:a.eval x=xv at hx ⊢
   cases hx
   exact ⟨_,w,I,ρ,.inl rfl,Ext.refl _ _ _ _ _,hs,by constructor<;>assumption,Nat.le_refl _⟩
 case binOp op t x y yt=>
  obtain ⟨h1,rfl⟩:=QfY h
  exact .Qgj hs (QAd hc h1 (QaL hf x) (QaL hf y))
 case unOp op t x=>obtain ⟨h1,rfl⟩:=QfY h; exact .Qgj hs (QCG h1 (QaL hf x))
 case convert s t x=>obtain ⟨h1,rfl⟩:=QfY h; exact .Qgj hs (Qwa hc h1 (QaL hf x))
 case makeInterface t x=>
  obtain ⟨h1,rfl⟩:=QfY h
  have hx:=QaL hf x
  unfold Qs2 at h1
  refine .Qgj hs ?_
  have hne:(c.ty t).d≠.other:=by intro e; simp [e] at h1
  obtain ⟨i,d,z,ht⟩:=hc.ty t (QoJ hne)
  have hr:=ht.rel
  split at h1
  ·cases h1
  ·cases h1
  ·rename_i hni hno
   split at h1
   ·rename_i hp
    simp at h1
    subst h1
    refine ⟨.iface t (a.eval x),?_,.iface _ _ _ _ (Qp4 8 _ _ hp hx)⟩
    unfold Instr.makeInterface
    rw [Sem.run_bind,run_underlying ht.und]
    revert hr hni
    generalize (c.ty t).d=td
    intro hr hni
    cases hr<;>first |rfl |exact absurd rfl hni
   ·cases h1
 case makeFunc fn first caps=>
  obtain ⟨h1,rfl⟩:=QfY h
  unfold Qlm at h1
  split at h1
  ·rename_i f
   split at h1
   ·rename_i hz
    simp at h1
    subst h1
    have hz:=Nat.eq_of_beq_eq_true hz
    have e:first=#[]:=Array.eq_empty_of_size_eq_zero hz
    subst e
    have hv:=QfI.of_map hf caps
    exact ⟨.func (.func f) #[] (caps.map a.eval),w,I,ρ,.inl (by simp [Instr.makeFunc]),Ext.refl _ _ _ _ _,hs,.fn _ _ _ _ hv.len hv.at_,Nat.le_refl _⟩
   ·cases h1
  ·cases h1
 case makeMap t r=>exact .QoM (Qwd hc hs h (ORel.of hf r))
 case makeSlice t l k=>exact .QoM (Qtb hc hs h (QaL hf l) (QaL hf k))
 case slice t x lo hi mx=>
  obtain ⟨h1,rfl⟩:=QfY h
  unfold QnD at h1
  cases mx with
  | none=>exact .Qgj hs (QAg hc hs h1 (QaL hf x) (ORel.of hf lo) (ORel.of hf hi))
  | some m=>simp at h1
 case fieldAddr s x f=>obtain ⟨h1,rfl⟩:=QfY h; exact .Qgj hs (Qs8 hc h1 (QaL hf x))
 case field s x f=>obtain ⟨h1,rfl⟩:=QfY h; exact .Qgj hs (QAe hc h1 (QaL hf x))
 case indexAddr t x ix=>obtain ⟨h1,rfl⟩:=QfY h; exact .Qgj hs (Qs9 hc hs h1 (QaL hf x) (QaL hf ix))
 case index t x ix=>obtain ⟨h1,rfl⟩:=QfY h; exact .Qgj hs (QAf hc h1 (QaL hf x) (QaL hf ix))
 case lookup t x ix ok=>
  obtain ⟨h1,rfl⟩:=QfY h
  refine .Qgj hs (QyN hc hs h1 (QaL hf x) ?_)
  unfold Qln at h1
  split at h1
  case h_2=>cases h1
  split at h1
  ·cases h1
  split at h1
  ·cases h1
  rename_i r hr
  split at hr
  case h_2=>cases hr
  rename_i hko
  exact QxG hko (QaL hf ix)
 case mapUpdate t m k x=>
  obtain ⟨rfl,w',I',h1,h2,h3,h4⟩:=Qsh hc hs h (QaL hf m) (QaL hf k) (QaL hf x)
  exact ⟨undef,w',I',ρ,.inr ⟨by simp only [Sem.run_bind,h1,Result.andThen_ok,Sem.run_pure],rfl⟩,h2,h3,.tup _ _ _ rfl (fun j x u hx=>by simp at hx),h4⟩
 case insert t m k x=>
  obtain ⟨rfl,w',I',h1,h2,h3,h4⟩:=Qsh hc hs h (QaL hf m) (QaL hf k) (QaL hf x)
  exact ⟨undef,w',I',ρ,.inr ⟨by simp only [Sem.run_bind,h1,Result.andThen_ok,Sem.run_pure],rfl⟩,h2,h3,.tup _ _ _ rfl (fun j x u hx=>by simp at hx),h4⟩
 case extract t i=>
  obtain ⟨h1,rfl⟩:=QfY h
  have ht:=QaL hf t
  unfold QmG at h1
  split at h1
  ·rename_i vs heq
   rw [heq] at ht
   generalize hxv:a.eval t=tv at ht ⊢
   cases ht with
   | tup _ _ cvs hl hv=>
    have hi:i<cvs.size:=by have:=(List.getElem?_eq_some_iff.1 h1).1; omega
    have hg:cvs[i]?=some cvs[i]:=Array.getElem?_eq_getElem hi
    exact .Qgj hs ⟨cvs[i],by simp [Instr.extract,hg],hv i v _ h1 hg⟩
  ·cases h1
 case call cl=>
  obtain ⟨b,hb⟩:=hcall cl hop
  unfold Qjj at h
  simp only [hb] at h
  unfold resolve
  simp only [hb]
  have hargs:=QfI.of_map hf cl.args
  revert h hargs
  generalize cl.args.toList.map (opv fr)=vs
  generalize hcv:cl.args.map a.eval=cvs
  intro h hargs
  have two:∀ {x y:AV},vs=[x,y]→∃ u1 u2,cvs=#[u1,u2]∧VRel I ρ x u1∧VRel I ρ y u2:=by
   rintro x y rfl
   have hl:=hargs.len
   simp at hl
   refine ⟨cvs[0],cvs[1],?_,hargs.at_ 0 _ _ rfl (Array.getElem?_eq_getElem (by omega)),hargs.at_ 1 _ _ rfl (Array.getElem?_eq_getElem (by omega))⟩
   apply Array.ext
   ·simp; omega
   ·intro i h1 h2
    have:i=0∨i=1:=by omega
    rcases this with rfl |rfl<;>rfl
  have ats:∀ {ts:Array TypeId},Nat.beq ts.size 2=true→ts=#[ts.getD 0 0,ts.getD 1 0]:=by
   intro ts hts
   have hts:=Nat.eq_of_beq_eq_true hts
   apply Array.ext
   ·simp; omega
   ·intro i h1 h2
    have:i=0∨i=1:=by omega
    rcases this with rfl |rfl<;>simp [Array.getD,hts]
  unfold QfW at h
  split at h
  ·rename_i x
   have hl:=hargs.len
   simp at hl
   have e1:cvs=#[cvs[0]]:=by
    apply Array.ext
    ·simp; omega
    ·intro i h1 h2
     have:i=0:=by omega
     subst this
     rfl
   have hx:=hargs.at_ 0 _ _ rfl (Array.getElem?_eq_getElem (show 0<cvs.size by omega))
   split at h
   ·rename_i hts
    have hts:=Nat.le_of_ble_eq_true hts
    unfold Qux at h
    split at h
    ·rename_i nn hlen
     simp at h
     obtain ⟨rfl,rfl⟩:=h
     have h0:cl.argTypes[0]?=some (cl.argTypes.getD 0 0):=by
      rw [Array.getElem?_eq_getElem (by omega)]
      simp [Array.getD,show 0<cl.argTypes.size by omega]
     have hrun:=QyL hc hs hlen hx cl.argTypes h0 o.type
     rw [e1]
     refine .Qgj (s:=Builtin.len_ cl.argTypes o.type #[cvs[0]]) hs ⟨_,hrun,.int _ _ _⟩
    ·cases h
   ·cases h
  ·rename_i x
   have hl:=hargs.len
   simp at hl
   have e1:cvs=#[cvs[0]]:=by
    apply Array.ext
    ·simp; omega
    ·intro i h1 h2
     have:i=0:=by omega
     subst this
     rfl
   have hx:=hargs.at_ 0 _ _ rfl (Array.getElem?_eq_getElem (show 0<cvs.size by omega))
   split at h
   ·rename_i hts
    have hts:=Nat.le_of_ble_eq_true hts
    unfold QyD at h
    split at h
    ·cases h
    ·rename_i e he
     obtain ⟨hu,_⟩:=QkI hc he
     have h0:cl.argTypes[0]?=some (cl.argTypes.getD 0 0):=by
      rw [Array.getElem?_eq_getElem (by omega)]
      simp [Array.getD,show 0<cl.argTypes.size by omega]
     rw [e1]
     have hcap:∀ a,(Builtin.cap_ cl.argTypes o.type #[.slice a 0 0]).run P w=.ok (.int .i64 0) w:=fun a=>by
      unfold Builtin.cap_
      simp only [h0]
      rw [show (#[Value.slice a 0 0]:Array Value)[0]?=some (.slice a 0 0) from rfl]
      simp only [Sem.run_bind,run_underlying hu,Result.andThen_ok]
      rfl
     generalize hcv0:cvs[0]=u0 at hx
     split at h
     ·cases hx
      simp at h
      obtain ⟨rfl,rfl⟩:=h
      exact .Qgj (s:=Builtin.cap_ cl.argTypes o.type _) hs ⟨_,hcap _,.int _ _ _⟩
     ·cases hx
      simp at h
      obtain ⟨rfl,rfl⟩:=h
      exact .Qgj (s:=Builtin.cap_ cl.argTypes o.type _) hs ⟨_,hcap _,.int _ _ _⟩
     ·cases h
   ·cases h
  ·obtain ⟨u1,u2,rfl,hx,hy⟩:=two rfl
   split at h
   ·rename_i hts
    have ha:=Qwc (tx:=cl.argTypes.getD 1 0) (ty:=o.type) hc hs h hx hy
    rw [← ats hts] at ha
    exact .QoM ha
   ·cases h
  ·obtain ⟨u1,u2,rfl,hx,hy⟩:=two rfl
   split at h
   ·rename_i hts
    have ha:=QCK (tx:=cl.argTypes.getD 1 0) (ty:=o.type) hc hs h hx hy
    rw [← ats hts] at ha
    exact .QoM ha
   ·cases h
  ·cases h
end
end Go.Ev
