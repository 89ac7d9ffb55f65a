/- A cart that goes alone: plain. -/
import Derived.Test.YtfpepkbflnendaaGreatLbPD
import Derived.Test.YtfpepkbflnendaaGreatLbPA
import Derived.Test.YtfpepkbflnendaaGreatLbPB
/- What a cart needs of all parts, by all truths: plain. -/
namespace Go.Proofs.YtfpepkbflnendaaGreat
open Go
namespace Ld
open Rd (Evt Tr restE passE addR All Tru endR sunk rested Fine)
def simD (p:Tr)(h now:Int):List (Int × Int)→Int→Int
 |[],day=>rested p h (day - now)
 |x::L,day=>simD p (rested p h (x.1 - now) - sunk p x.2) x.1 L day
def Srt (now:Int):List (Int × Int)→Int→Prop
 |[],day=>now≤day
 |x::L,day=>now≤x.1∧Srt x.1 L day
theorem srt_le:∀ (L:List (Int × Int)) (now day:Int),Srt now L day→now≤day
 |[],_,_,h=>h
 |x::L,_,_,h=>by have:=srt_le L _ _ h.2;have:=h.1;omega
theorem ydd:∀ (L:List (Int × Int)) (now day:Int),Srt now L day→(aheadE now L day).length≤L.length+(day - now).toNat
 |[],now,day,h=>by
   rw[aheadE]
   split
   ·rename_i h1;simp only[List.length_cons,List.length_nil];omega
   ·simp
 |x::L,now,day,h=>by
  have h1:=h.1
  have h2:=srt_le L _ _ h.2
  rw[aheadE]
  have hx:(if now<x.1 then x.1 else now)=x.1:=by split<;>omega
  rw[hx]
  have ih:=ydd L x.1 day h.2
  simp only[List.length_append,List.length_cons]
  split
  ·simp only[List.length_cons,List.length_nil];omega
  ·simp only[List.length_nil];omega
theorem yej:∀ (L:List (Int × Int)) (now day:Int),Srt now L day→day - now≤10→(∀ x∈L,0≤x.2∧x.2≤60)→∀ v∈aheadE now L day,OkA v
 |[],now,day,h,hd,_,v,hv=>by
   rw[aheadE] at hv
   split at hv
   ·rw[List.mem_singleton] at hv
    subst hv
    exact .inr ⟨rfl,by simp only[restE];omega,by simp only[restE];omega⟩
   ·cases hv
 |x::L,now,day,h,hd,hl,v,hv=>by
  have h1:=h.1
  have h2:=srt_le L _ _ h.2
  rw[aheadE] at hv
  have hx:(if now<x.1 then x.1 else now)=x.1:=by split<;>omega
  rw[hx] at hv
  rcases List.mem_append.1 hv with hv|hv
  ·split at hv
   ·rw[List.mem_singleton] at hv
    subst hv
    exact .inr ⟨rfl,by simp only[restE];omega,by simp only[restE];omega⟩
   ·cases hv
  ·rcases List.mem_cons.1 hv with rfl|hv
   ·have:=hl x (by simp)
    exact .inl ⟨rfl,rfl,this.1,this.2⟩
   ·exact yej L x.1 day h.2 (by omega) (fun y hy=>hl y (by simp[hy])) v hv
theorem ycw (p:Tr)(h d:Int):rested p h d≤p.full:=by unfold rested;omega
theorem ycm (p:Tr){h:Int}(hf:h≤p.full):rested p h 0=h:=by unfold rested;omega
theorem sim_eq (p:Tr)(hs:1≤p.stiff):∀ (L:List (Int × Int)) (h now day:Int),Srt now L day→h≤p.full→(∀ x∈L,0≤x.2)→endA p h (aheadE now L day)=simD p h now L day
 |[],h,now,day,hst,hf,_=>by
   have h1:now≤day:=hst
   rw[aheadE,simD]
   by_cases h2:now<day
   ·rw[if_pos h2];rfl
   ·rw[if_neg h2,show day - now=0 by omega,ycm p hf];rfl
 |x::L,h,now,day,hst,hf,hl=>by
  have h1:=hst.1
  have hx:(if now<x.1 then x.1 else now)=x.1:=by split<;>omega
  have hsk:=Rd.sunk_nn (p:=p) hs (hl x (by simp))
  have hr:=ycw p h (x.1 - now)
  have ih:=sim_eq p hs L (rested p h (x.1 - now) - sunk p x.2) x.1 day hst.2 (by omega) fun y hy=>hl y (by simp[hy])
  rw[aheadE,hx,simD,← ih,yjj]
  have e:endA p h (if now<x.1 then [restE (x.1 - now)] else [])=rested p h (x.1 - now):=by
   by_cases h2:now<x.1
   ·rw[if_pos h2];rfl
   ·rw[if_neg h2,show x.1 - now=0 by omega,ycm p hf];rfl
  rw[e]
  rfl
structure Vl (l:Lo):Prop where
 fine:Fine l.road
 can:Rd.canR l.road (Rd.everyR l.road)=true
 ev:l.road.events.length≤2
 carts:l.carts.length≤5
 load:∀ i,i<l.carts.length→0≤(l.carts.getD i default).load∧(l.carts.getD i default).load≤60
def Holds (r:Rd.Road)(L:List (Int × Int))(day load:Int):Prop:=∀ ls,All r ls→∀ i,i<r.parts.length→∀ p h,Tru r ls i p h→sunk p load≤simD p (endR r p h ls) 0 L day
theorem yed {p:Tr}(hs:1≤p.stiff):∀ (L:List (Int × Int)) (h now day:Int),simD p h now L day≤p.full
 |[],h,_now,_day=>ycw p h _
 |_x::L,_h,_now,_day=>yed hs L _ _ _
theorem yji {r:Rd.Road}(hr:Fine r){ls:List Int}(hl:All r ls){i:Nat}(hi:i<r.parts.length){p:Tr}{h:Int}(ht:Tru r ls i p h):endR r p h ls≤p.full:=Rd.height_full hr hi hl.1 ht _
theorem ygd {l:Lo}(hv:Vl l){w:List Int}{load day:Int}{L:List (Int × Int)}(hL:gone l w=L)(hs:Srt 0 L day)(hd:day≤3)(hlen:L.length≤5)(hld:∀ x∈L,0≤x.2∧x.2≤60)(l0:0≤load)(l1:load≤60):bearT l w load day=true↔Holds l.road L day load:=by
 have hd0:=srt_le L 0 day hs
 have hok:=yej L 0 day hs (by omega) hld
 have hal:=ydd L 0 day hs
 have har:aheadR l w day=appR l.road (aheadE 0 L day):=by unfold aheadR appR;rw[hL]
 have hf:=yjn hv.fine _ hok (by have:=hv.ev;omega)
 have hc:=ykg (r:=l.road) _ hok
 have he:Rd.errR (appR l.road (aheadE 0 L day)) (Rd.isLoad load)=0:=by
  unfold Rd.errR
  have:Rd.isLoad load=true:=decide_eq_true ⟨l0,l1⟩
  rw[(Rd.valid_iff _).2 hf,this,hc,hv.can];rfl
 unfold bearT
 rw[har,he]
 simp only[decide_true,Bool.true_and,decide_eq_true_eq]
 have hb:Rd.bearsR (appR l.road (aheadE 0 L day)) load=2↔Rd.sureR (appR l.road (aheadE 0 L day)) 0 load=true:=by
  unfold Rd.bearsR
  cases Rd.sureR (appR l.road (aheadE 0 L day)) 0 load with
  |true=>simp
  |false=>cases Rd.mayR (appR l.road (aheadE 0 L day)) load<;>simp
 rw[hb,yjm _ _ hok]
 refine forall_congr' fun ls=>forall_congr' fun hls=>forall_congr' fun i=>forall_congr' fun hi=>forall_congr' fun p=>forall_congr' fun h=>forall_congr' fun ht=>?_
 have h1:=(Rd.tru_part hv.fine hi ht).1
 rw[sim_eq p h1 L _ 0 day hs (yji hv.fine hls hi ht) fun x hx=>(hld x hx).1,ycm p (yed h1 L _ _ _)]
 omega
theorem ygu (l:Lo)(p:List Int)(i:Nat):∀ (A:List Nat) (now:Int),(A++[i]).Pairwise (Bef p)→(∀ a∈A++[i],now≤p.getD a 0)→Srt now (gonA l p A) (p.getD i 0)
 |[],now,_,h=>h i (by simp)
 |a::A,now,hp,h=>by
  obtain ⟨h1,h2⟩:=List.pairwise_cons.1 hp
  refine ⟨h a (by simp),ygu l p i A _ h2 fun b hb=>?_⟩
  have:=h1 b hb
  unfold Bef at this
  show p.getD a 0≤p.getD b 0
  omega
theorem ycy:∀ (n:Nat) (l:List Nat),l.Nodup→(∀ x∈l,x<n)→l.length≤n
 |0,l,_,h=>by
  cases l with
  |nil=>simp
  |cons a l=>exact absurd (h a (by simp)) (Nat.not_lt_zero a)
 |n+1,l,hn,h=>by
  have ih:=ycy n (l.erase n) (hn.erase n) fun x hx=>by
   obtain ⟨h1,h2⟩:=hn.mem_erase_iff.1 hx
   have:=h x h2
   omega
  rw[List.length_erase] at ih
  split at ih<;>omega
theorem yhf (p:List Int):(order p).length≤p.length:=
 ycy _ _ ((ybi p).imp fun {a b} hab e=>by subst e;exact yce p a a hab hab) fun x hx=>(mem_order_iff.1 hx).1
structure AtO (l:Lo) (p:List Int) (A:List Nat) (i:Nat):Prop where
 hi:i<p.length
 d0:0≤p.getD i 0
 d1:p.getD i 0≤3
 srt:Srt 0 (gonA l p A) (p.getD i 0)
 len:(gonA l p A).length≤4
 mem:∀ a∈A,a<p.length
theorem yjl {l:Lo}(h5:l.carts.length≤5){p:List Int}(hp:p.length=l.carts.length){A:List Nat}{i:Nat}{B:List Nat}(h:order p=A++i::B):AtO l p A i:=by
 have hmem : ∀ a ∈ A ++ [i], a < p.length ∧ 0 ≤ p.getD a 0 ∧ p.getD a 0 < 4 := fun a ha => mem_order_iff.1 (by
  rw[h]
  rcases List.mem_append.1 ha with ha|ha
  ·exact List.mem_append_left _ ha
  ·rw[List.mem_singleton] at ha;subst ha;simp)
 have hinc:(A++[i]).Pairwise (Bef p):=by
  have:=ybi p
  rw[h,show A++i::B=(A++[i])++B by simp] at this
  exact (List.pairwise_append.1 this).1
 obtain ⟨q1,q2,q3⟩:=hmem i (by simp)
 refine ⟨q1,q2,by omega,ygu l p i A 0 hinc fun a ha=>(hmem a ha).2.1,?_,fun a ha=>(hmem a (by simp[ha])).1⟩
 have h1:=yhf p
 unfold gonA
 rw[List.length_map]
 have:=congrArg List.length h
 simp only[List.length_append,List.length_cons] at this
 omega
theorem ok_at {l:Lo}(hv:Vl l){p:List Int}(hp:p.length=l.carts.length){A:List Nat}{i:Nat}{B:List Nat}(h:order p=A++i::B):okCartAt l p A i↔p.getD i 0≤(l.carts.getD i default).due∧Holds l.road (gonA l p A) (p.getD i 0) (l.carts.getD i default).load:=by
 have ho:=yjl hv.carts hp h
 have h5:=hv.carts
 unfold okCartAt
 obtain ⟨q1,q2⟩:=hv.load i (by rw[← hp];exact ho.hi)
 rw[ygd hv (yjg hp (by omega) h) ho.srt ho.d1 (by have:=ho.len;omega) (fun x hx=>?_) q1 q2]
 unfold gonA at hx
 obtain ⟨a,ha,rfl⟩:=List.mem_map.1 hx
 exact hv.load a (by rw[← hp];exact ho.mem a ha)
theorem ydf {l:Lo}(hv:Vl l){p:List Int}(hp:p.length=l.carts.length):right l p=true↔∀ A i B,order p=A++i::B→p.getD i 0≤(l.carts.getD i default).due∧Holds l.road (gonA l p A) (p.getD i 0) (l.carts.getD i default).load:=by
 rw[right_iff]
 exact ⟨fun H A i B h=>(ok_at hv hp h).1 (H A i B h),fun H A i B h=>(ok_at hv hp h).2 (H A i B h)⟩
inductive Less:List (Int × Int)→List (Int × Int)→Prop
 |nil:Less [] []
 |go {L M:List (Int × Int)} (d a b:Int):a≤b→Less L M→Less ((d,a)::L) ((d,b)::M)
 |drop {L M:List (Int × Int)} (x:Int × Int):Less L M→Less L (x::M)
theorem ykh (p:Tr){a b:Int}(h:a≤b)(d:Int):rested p a d≤rested p b d:=by unfold rested;omega
theorem ykn {p:Tr}(hr:0≤p.rise)(h:Int){a b:Int}(_ha:0≤a)(hb:0≤b):rested p (rested p h a) b=rested p h (a+b):=by
 unfold rested
 have h1:0≤b * p.rise:=Int.mul_nonneg hb hr
 have h2:(a+b) * p.rise=a * p.rise+b * p.rise:=Int.add_mul a b p.rise
 rw[h2]
 omega
theorem ylk {p:Tr}(hr:0≤p.rise):∀ (L:List (Int × Int)) (h now mid day:Int),now≤mid→Srt mid L day→simD p (rested p h (mid - now)) mid L day=simD p h now L day
 |[],h,now,mid,day,h1,h2=>by
   have h3:mid≤day:=h2
   rw[simD,simD,ykn hr h (by omega) (by omega)]
   congr 1;omega
 |x::L,h,now,mid,day,h1,h2=>by
  have h3:=h2.1
  rw[simD,simD,ykn hr h (by omega) (by omega)]
  congr 3;omega
theorem yko {p:Tr}(hs:1≤p.stiff)(hr:0≤p.rise):∀ {L M:List (Int × Int)},Less L M→∀ (h h' now day:Int),Srt now M day→(∀ x∈M,0≤x.2)→h'≤h→simD p h' now M day≤simD p h now L day
 |_,_,.nil,h,h',now,day,_,_,hh=>ykh p hh _
 |_,_,.go (L:=L) (M:=M) d a b hab hlm,h,h',now,day,hst,hn,hh=>by
  rw[simD,simD]
  refine yko hs hr hlm _ _ _ _ hst.2 (fun x hx=>hn x (by simp[hx])) ?_
  have h1:=ykh p hh (d - now)
  have h2:=Rd.sunk_mono hs hab
  show rested p h' (d - now) - sunk p b≤rested p h (d - now) - sunk p a
  omega
 |L,_,.drop (M:=M) x hlm,h,h',now,day,hst,hn,hh=>by
  rw[simD]
  have h1:=hst.1
  have h2:=srt_le M _ _ hst.2
  have h3:=Rd.sunk_nn (p:=p) hs (hn x (by simp))
  have ih:=yko hs hr hlm (rested p h (x.1 - now)) (rested p h' (x.1 - now) - sunk p x.2) x.1 day hst.2 (fun y hy=>hn y (by simp[hy])) (by have:=ykh p hh (x.1 - now);omega)
  refine Int.le_trans ih (Int.le_of_eq ?_)
  refine ylk hr L h now x.1 day h1 ?_
  exact less_srt hlm x.1 day hst.2
where
 less_srt:∀ {L M:List (Int × Int)},Less L M→∀ (now day:Int),Srt now M day→Srt now L day
 |_,_,.nil,_,_,h=>h
 |_,_,.go _ _ _ _ hlm,_,_,h=>⟨h.1,less_srt hlm _ _ h.2⟩
 |[],_,.drop (M:=M) x hlm,now,day,h=>by have:=srt_le M _ _ h.2;have:=h.1;show now≤day;omega
 |y::L,_,.drop x hlm,now,day,h=>by
  have:=less_srt hlm x.1 day h.2
  exact ⟨by have:=this.1;have:=h.1;omega,this.2⟩
theorem yky {r:Rd.Road}(hf:Fine r){L M:List (Int × Int)}(hlm:Less L M){day a b:Int}(hst:Srt 0 M day)(hn:∀ x∈M,0≤x.2)(hab:a≤b)(h:Holds r M day b):Holds r L day a:=by
 intro ls hls i hi p h' ht
 obtain ⟨q1,_,q3,_⟩:=Rd.tru_part hf hi ht
 have h1:=h ls hls i hi p h' ht
 have h2:=yko q1 q3 hlm (endR r p h' ls) (endR r p h' ls) 0 day hst hn (Int.le_refl _)
 have h3:=Rd.sunk_mono q1 hab
 omega
theorem yip {p:List Int}{k i:Nat}(v:Int)(h:i≠k):(p.set k v).getD i 0=p.getD i 0:=by
 rw[List.getD_eq_getElem?_getD,List.getD_eq_getElem?_getD,List.getElem?_set_ne (Ne.symm h)]
theorem yio {p:List Int}{k:Nat}(v:Int)(h:k<p.length):(p.set k v).getD k 0=v:=by
 rw[List.getD_eq_getElem?_getD,List.getElem?_set_self h];rfl
theorem gon_nn {l:Lo}(hv:Vl l){p:List Int}(hp:p.length=l.carts.length){A:List Nat}(h:∀ a∈A,a<p.length):∀ x∈gonA l p A,0≤x.2:=by
 intro x hx
 unfold gonA at hx
 obtain ⟨a,ha,rfl⟩:=List.mem_map.1 hx
 exact (hv.load a (by rw[← hp];exact h a ha)).1
end Ld
namespace Ld
theorem yci (l:Lo)(c:Cart)(d:Int):d∈daysOf l c↔d=-1∨(0≤d∧d<l.days∧d≤c.due):=by
 unfold daysOf
 simp only[List.mem_cons,List.mem_map,List.mem_range]
 constructor
 ·rintro (h|⟨n,hn,rfl⟩)
  ·exact .inl h
  ·exact .inr ⟨Int.natCast_nonneg n,by show (n:Int)<l.days;omega,by show (n:Int)≤c.due;omega⟩
 ·rintro (h|⟨h0,h1,h2⟩)
  ·exact .inl h
  ·exact .inr ⟨d.toNat,by omega,by show ((d.toNat:Nat):Int)=d;omega⟩
theorem ybt (l:Lo):∀ (cs:List Cart) (p:List Int),p∈plansL l cs↔p.length=cs.length∧∀ i,i<cs.length→p.getD i 0∈daysOf l (cs.getD i default)
 |[],p=>by
   simp only[plansL,List.mem_singleton,List.length_nil,List.length_eq_zero_iff]
   exact ⟨fun h=>⟨h,fun i hi=>absurd hi (Nat.not_lt_zero i)⟩,fun h=>h.1⟩
 |c::cs,p=>by
  have ih:=ybt l cs
  simp only[plansL,List.mem_flatMap,List.mem_map]
  constructor
  ·rintro ⟨d,hd,q,hq,rfl⟩
   obtain ⟨h1,h2⟩:=(ih q).1 hq
   refine ⟨by simp[h1],fun i hi=>?_⟩
   cases i with
   |zero=>exact hd
   |succ i=>exact h2 i (by simpa using hi)
  ·rintro ⟨h1,h2⟩
   cases p with
   |nil=>simp at h1
   |cons d q=>
    refine ⟨d,h2 0 (by simp),q,(ih q).2 ⟨by simpa using h1,fun i hi=>h2 (i+1) (by simpa using hi)⟩,rfl⟩
theorem mem_rights {l:Lo}{p:List Int}:p∈rights l↔p∈plansL l l.carts∧right l p=true:=by unfold rights;rw[List.mem_filter]
theorem ykq {p:List Int}{i:Nat}(hi:i<p.length)(h0:0≤p.getD i 0)(h3:p.getD i 0<4):∃ A B,order p=A++i::B:=List.append_of_mem (mem_order_iff.2 ⟨hi,h0,h3⟩)
theorem ykz {l:Lo}(hd:l.days≤4){p:List Int}(hp:isPlan l p=true)(h:right l p=true):p∈rights l:=by
 unfold isPlan at hp
 simp only[Bool.and_eq_true,decide_eq_true_eq,List.all_eq_true] at hp
 obtain ⟨hl,hp⟩:=hp
 refine mem_rights.2 ⟨(ybt l l.carts p).2 ⟨hl,fun i hi=>?_⟩,h⟩
 rw[yci]
 have hi':i<p.length:=by omega
 have hm:=hp (p.getD i 0) (by rw[List.getD_eq_getElem?_getD,List.getElem?_eq_getElem hi'];exact List.getElem_mem _)
 rw[Bool.or_eq_true,decide_eq_true_eq] at hm
 rcases hm with hm|hm
 ·exact .inl hm
 ·have hm:=of_decide_eq_true hm
  refine .inr ⟨hm.1,hm.2,?_⟩
  obtain ⟨A,B,e⟩:=ykq hi' hm.1 (by omega)
  exact ((right_iff l p).1 h A i B e).1
theorem rights_plan {l:Lo}{p:List Int}(h:p∈rights l):isPlan l p=true∧right l p=true:=by
 obtain ⟨h1,h2⟩:=mem_rights.1 h
 obtain ⟨h3,h4⟩:=(ybt l l.carts p).1 h1
 refine ⟨?_,h2⟩
 unfold isPlan
 simp only[Bool.and_eq_true,decide_eq_true_eq,List.all_eq_true]
 refine ⟨h3,fun d hd=>?_⟩
 obtain ⟨i,hi,rfl⟩:=List.getElem_of_mem hd
 have:=(yci _ _ _).1 (h4 i (by omega))
 rw[List.getD_eq_getElem?_getD,List.getElem?_eq_getElem hi] at this
 simp only[Option.getD_some] at this
 rw[Bool.or_eq_true,decide_eq_true_eq]
 rcases this with h|⟨a,b,_⟩
 ·exact .inl h
 ·exact .inr (decide_eq_true ⟨a,b⟩)
theorem stay_right (l:Lo):List.replicate l.carts.length (-1)∈rights l:=by
 have hg:∀ i,i<l.carts.length→(List.replicate l.carts.length (-1:Int)).getD i 0=-1:=fun i hi=>by simp[List.getD_eq_getElem?_getD,hi]
 refine mem_rights.2 ⟨(ybt _ _ _).2 ⟨by simp,fun i hi=>by rw[hg i hi,yci];exact .inl rfl⟩,(right_iff _ _).2 fun A i B e=>?_⟩
 have:=mem_order_iff.1 (show i∈order (List.replicate l.carts.length (-1)) by rw[e];simp)
 rw[List.length_replicate] at this
 have h1:=hg i this.1
 omega
theorem ybs (f:List Int→Int):∀ (L:List (List Int)) (b:List Int × Int),(mostL f L (some b)=some b∧∀ q∈L,f q≤b.2)∨∃ A p B,L=A++p::B∧mostL f L (some b)=some (p,f p)∧b.2<f p∧(∀ q∈A,f q<f p)∧∀ q∈B,f q≤f p
 |[],b=>.inl ⟨rfl,fun q hq=>by cases hq⟩
 |x::L,b=>by
  rw[mostL]
  by_cases h:b.2<f x
  ·rw[if_pos h]
   rcases ybs f L (x,f x) with ⟨h1,h2⟩|⟨A,p,B,e,h1,h2,h3,h4⟩
   ·exact .inr ⟨[],x,L,rfl,h1,h,fun q hq=>(by cases hq),h2⟩
   ·refine .inr ⟨x::A,p,B,by rw[e];rfl,h1,by simp only at h2;omega,fun q hq=>?_,h4⟩
    rcases List.mem_cons.1 hq with rfl|hq
    ·exact h2
    ·exact h3 q hq
  ·rw[if_neg h]
   rcases ybs f L b with ⟨h1,h2⟩|⟨A,p,B,e,h1,h2,h3,h4⟩
   ·refine .inl ⟨h1,fun q hq=>?_⟩
    rcases List.mem_cons.1 hq with rfl|hq
    ·omega
    ·exact h2 q hq
   ·refine .inr ⟨x::A,p,B,by rw[e];rfl,h1,h2,fun q hq=>?_,h4⟩
    rcases List.mem_cons.1 hq with rfl|hq
    ·omega
    ·exact h3 q hq
theorem mostL_none (f:List Int→Int){L:List (List Int)}(h:L≠[]):∃ A p B,L=A++p::B∧mostL f L none=some (p,f p)∧(∀ q∈A,f q<f p)∧∀ q∈B,f q≤f p:=by
 cases L with
 |nil=>exact absurd rfl h
 |cons x L=>
  rw[mostL]
  rcases ybs f L (x,f x) with ⟨h1,h2⟩|⟨A,p,B,e,h1,h2,h3,h4⟩
  ·exact ⟨[],x,L,rfl,h1,fun q hq=>(by cases hq),h2⟩
  ·refine ⟨x::A,p,B,by rw[e];rfl,h1,fun q hq=>?_,h4⟩
   rcases List.mem_cons.1 hq with rfl|hq
   ·exact h2
   ·exact h3 q hq
def tailP (l:Lo)(p:List Int):List (List Int):=((plansL l (l.carts.drop p.length)).map (p++·)).filter (right l)
theorem tailP_nil (l:Lo):tailP l []=rights l:=by unfold tailP rights;simp
theorem tailP_end {l:Lo}{p:List Int}(h:p.length=l.carts.length):tailP l p=if right l p then [p] else []:=by
 unfold tailP
 rw[h,List.drop_length]
 simp only[plansL,List.map_cons,List.map_nil,List.append_nil,List.filter_cons,List.filter_nil]
theorem tailP_step {l:Lo}{p:List Int}(h:p.length<l.carts.length):tailP l p=(daysOf l (l.carts.getD p.length default)).flatMap fun d=>tailP l (p++[d]):=by
 unfold tailP
 rw[List.drop_eq_getElem_cons h,List.getD_eq_getElem?_getD,List.getElem?_eq_getElem h,plansL,List.map_flatMap,List.filter_flatMap]
 congr 1
 funext d
 rw[List.map_map,List.length_append,List.length_singleton]
 congr 2
 funext q
 simp
theorem days_len (l:Lo){c:Cart}(h0:0≤c.due)(h1:c.due<l.days):((daysOf l c).length:Int)=c.due+2:=by
 unfold daysOf
 simp only[List.length_cons,List.length_map,List.length_range]
 omega
theorem days_get (l:Lo)(c:Cart){i:Nat}(h:i<(daysOf l c).length):(daysOf l c)[i]?=some ((i:Int) - 1):=by
 unfold daysOf at h ⊢
 cases i with
 |zero=>rfl
 |succ i=>
  simp only[List.length_cons,List.length_map,List.length_range] at h
  rw[List.getElem?_cons_succ,List.getElem?_map,List.getElem?_range (by omega)]
  simp
end Ld
namespace Ev
namespace Ro
open K
attribute [local simp] ev1 wantG spineK spine float xnew xval xeff zab zae zau zah zai addFl cellsOf pickC alive slLen slFt binI maxA maxK minA minK aeqK aeqS AV.cells spA zad fillA setAt bitsI nat_nn zav AV.plain apart
set_option maxRecDepth 100000
set_option maxHeartbeats 4000000
inductive PlE (Q:Nat→Prop) (H:List AB) (p:List Int):AV→Prop
 |none:p=[]→PlE Q H p .nils
 |some (b:Nat):p≠[]→Q b→H[b]?=some (.cells (ints p))→PlE Q H p (.sl b 0 p.length 1)
theorem PlE.pl {Q:Nat→Prop}{H:List AB}{p:List Int}{v:AV}(h:PlE Q H p v):PlV Q H p v:=by
 cases h with
 |none h=>exact .none h
 |some b _ h1 h2=>exact .some b _ h1 h2 (by simp[ints]) fun i hi=>ybh p hi
theorem PlE.keep {Q Q':Nat→Prop}{H G:List AB}{p:List Int}{v:AV}(h:PlE Q H p v)(hq:∀ b,b<H.length→Q b→Q' b)(hk:∀ b x,Q b→H[b]?=Option.some x→G[b]?=Option.some x):PlE Q' G p v:=by
 cases h with
 |none h=>exact .none h
 |some b h0 h1 h2=>exact .some b h0 (hq b (get_lt h2) h1) (hk b _ h1 h2)
theorem PlV.imp {Q Q':Nat→Prop}{H:List AB}{p:List Int}{v:AV}(h:PlV Q H p v)(hq:∀ b,b<H.length→Q b→Q' b):PlV Q' H p v:=h.keep hq fun _ _ _ h=>h
def argP (p:List Int)(v:AV)(H:List AB):Prop:=PlE (fun _=>True) H p v
structure PlS (qb bX bY bF yl base:Nat) (J:List (List Int)→List Nat→List AB→Prop) (d:List (List Int)) (W:List Nat) (hp:List AB):Prop where
 x:hp[bX]?=some (.cells [.ptr qb 0])
 y:hp[bY]?=some (.cells [.yield yl])
 fn:hp[bF]?=some (.cells [.fn (.func 121) [] [.ptr bX 0,.ptr bY 0,.ptr bF 0]])
 j:J d W hp
 w:∀ j∈W,base≤j
structure PlX (l:Ld.Lo) (call:CallF) (qb mb bX bY bF yl n0 base:Nat) (T:List Nat) (J:List (List Int)→List Nat→List AB→Prop) (E:List (List Int)→List AB→Prop) (M:List (List Int)→Nat→Prop):Prop where
 ys:YieldsV call yl n0 T argP refs (Ld.rights l) [mb] (Qx l qb mb) J E M
 hJ:∀ d W G,J d W G→Qx l qb mb G
 hT:∀ j∈T,j<n0
 hlT:yl∈T
 xl:bX<n0
 xT:bX∉T
 e1:bY=n0
 e3:bF=n0+1
 e4:base=n0+2
 xx:bX≠qb∧bX≠mb
 xm:qb<n0∧mb<n0
 bd:∀ d W G,J d W G→∀ j∈W,j<G.length
def POnQ (l:Ld.Lo)(qb mb bX bY bF yl n0 base:Nat)(T:List Nat)(J:List (List Int)→List Nat→List AB→Prop)(E:List (List Int)→List AB→Prop)(M:List (List Int)→Nat→Prop)(p:List Int)(pv:AV)(d:List (List Int))(W:List Nat)(hp:List AB)(b:Bool)(hp':List AB)(tc:List Nat):Prop:=
 (∀ j∈tc,j=mb∨j∈T∨j∈W)∧(b=true→∃ W',PlS qb bX bY bF yl base J (d++Ld.tailP l p) W' hp'∧(∀ j∈W',j∈W∨hp.length≤j∨j∈refs pv)∧(Ld.tailP l p=[]∨yl∈tc)∧∀ j,j<n0→M (d++Ld.tailP l p) j→M d j∨j∈tc)∧(b=false→(∃ d',d' <+: Ld.rights l∧E d' hp'∧∀ j,j<n0→M d' j→M d j∨j∈tc)∧yl∈tc)
def POnC (l:Ld.Lo)(call:CallF)(qb mb bX bY bF yl n0 base:Nat)(T:List Nat)(J:List (List Int)→List Nat→List AB→Prop)(E:List (List Int)→List AB→Prop)(M:List (List Int)→Nat→Prop)(p:List Int):Prop:=
 ∀ (d:List (List Int)) (W:List Nat) (hp:List AB) (pv:AV),PlS qb bX bY bF yl base J d W hp→PlE (fun b=>base≤b∧b∉W) hp p pv→d++Ld.tailP l p <+: Ld.rights l →
  ∃ b hp' tc,call (.fn (.func 121) [] [.ptr bX 0,.ptr bY 0,.ptr bF 0]) [pv] hp=some (.ret (.bool b),hp',tc)∧Kp tc hp hp'∧POnQ l qb mb bX bY bF yl n0 base T J E M p pv d W hp b hp' tc
section
variable {l:Ld.Lo} {call:CallF} {qb mb bX bY bF yl n0 base:Nat} {T:List Nat} {J:List (List Int)→List Nat→List AB→Prop} {E:List (List Int)→List AB→Prop} {M:List (List Int)→Nat→Prop}
theorem PlS.len (c:PlX l call qb mb bX bY bF yl n0 base T J E M){d:List (List Int)}{W:List Nat}{hp:List AB}(h:PlS qb bX bY bF yl base J d W hp):base≤hp.length:=by
 have:=get_lt h.fn
 have:=c.e3
 have:=c.e4
 omega
theorem PlS.kp (c:PlX l call qb mb bX bY bF yl n0 base T J E M){d:List (List Int)}{W:List Nat}{hp hp1:List AB}(h:PlS qb bX bY bF yl base J d W hp){tc:List Nat}(k:Kp tc hp hp1)(htc:∀ j∈tc,j=mb)(hq:Qx l qb mb hp1):PlS qb bX bY bF yl base J d W hp1:=by
 have h1:=c.e1;have h3:=c.e3;have h5:=c.xl;have h6:=c.xm;have h7:=c.xx
 refine ⟨k.at h.x fun hh=>h7.2 (htc _ hh),k.at h.y fun hh=>?_,k.at h.fn fun hh=>?_,c.ys.stable _ _ _ _ h.j (fun j hj _ hn=>k.get j hj fun hh=>hn ?_) hq,h.w⟩
 ·have:=htc _ hh;omega
 ·have:=htc _ hh;omega
 ·rw[htc _ hh];simp
theorem PlS.app (c:PlX l call qb mb bX bY bF yl n0 base T J E M){d:List (List Int)}{W:List Nat}{hp:List AB}(h:PlS qb bX bY bF yl base J d W hp)(K:List AB):PlS qb bX bY bF yl base J d W (hp++K):=
 h.kp c (tc:=[]) (Kp.app _ _) (by simp) ((c.hJ _ _ _ h.j).app K)
end
def ClonePC (call:CallF):Prop:=(∀ H,call (.fn (.func 63) [] []) [.nils] H=some (.ret .nils,H,[]))∧∀ (H:List AB) (p:List Int) (b:Nat),p≠[]→p.length≤1000→H[b]?=some (.cells (ints p))→call (.fn (.func 63) [] []) [.sl b 0 p.length 1] H=some (.ret (.sl (H.length+1) 0 p.length 1),H++[.dead,.cells (ints p)],[])
theorem yfu (C:Cfg)(call:CallF)(H:List AB):Wb C call H af63 [.nils]
  (fun v _hp tc=>v=.nils∧tc=[]):=by
 unfold Wb Wa af63 Zq Zu Zm Zo Zt Zi
 simp only[zipI]
 refine gA ?_
 exact zac (.inl rfl) rfl (by simp) (by simp only[resL,resOf,zaa];simp[*,resV]) ⟨rfl,rfl⟩
theorem yfv (C:Cfg)(call:CallF)(H:List AB)(p:List Int)(b:Nat)(h0:p≠[])(hp5:p.length≤1000)(hb:H[b]?=some (.cells (ints p))):Wb C call H af63 [.sl b 0 p.length 1]
  (fun v hp tc=>v=.sl (H.length+1) 0 p.length 1∧tc=[]∧hp=H++[.dead,.cells (ints p)]):=by
 obtain ⟨y0,y1,y2,y3,y4,y5⟩:=bk' hb
 have hil:(ints p).length=p.length:=by simp[ints]
 have hpl:=zfn p
 have hb5:p.length≤bound:=by unfold bound;omega
 have ht:List.take p.length (ints p)=ints p:=by rw[← hil,List.take_length]
 have hne1:¬ (b=H.length):=by omega
 have hne2:¬ (H.length=b):=by omega
 generalize ints p=cs at *
 have hh:=hideP h0
 clear hb h0
 generalize p.length=n at *
 unfold Wb Wa af63 Zq Zu Zm Zo Zt Zi
 simp only[zipI]
 refine gA ?_
 exact zac (v:=.sl (H.length+1) 0 n 1) (.inl rfl) rfl (by simp) endvP ⟨rfl,by simp,by simp⟩
theorem yds {C:Cfg}{n0:Nat}(hC:C.calm=true)(hwh:∀ f,C.whole f=true)(h0:Has C 63 af63):ClonePC (Ev.call C (n0+1)):=by
 constructor
 ·intro H
  obtain ⟨w,hp,tc,G,c1,⟨rfl,rfl⟩,k1,k2,c3,c4⟩:=zcw (first:=[]) (captured:=[]) (args:=[.nils]) (H:=H) hC hwh h0 (le' rfl) (yfu C (Ev.call C n0) H)
  have hG:G=H:=c4 rfl rfl
  subst hG
  exact c1
 ·intro H p b hp0 hp5 hb
  obtain ⟨w,hp,tc,G,c1,⟨rfl,rfl,h3⟩,k1,k2,c3,c4⟩:=zcw (first:=[]) (captured:=[]) (args:=[.sl b 0 p.length 1]) (H:=H) hC hwh h0 (le' rfl) (yfv C (Ev.call C n0) H p b hp0 hp5 hb)
  have hG:G=hp:=c3 (.inl (by simp[refs]))
  rw[hG,h3] at c1
  exact c1
section
variable {C:Cfg} {call:CallF} {l:Ld.Lo} {qb mb bX bY bF yl n0 base:Nat} {T:List Nat} {J:List (List Int)→List Nat→List AB→Prop} {E:List (List Int)→List AB→Prop} {M:List (List Int)→Nat→Prop}
theorem on_end (c:PlX l call qb mb bX bY bF yl n0 base T J E M)(hR:RightC call l)(p:List Int)(hn:p.length=l.carts.length)(d:List (List Int))(W:List Nat)(hp:List AB)(pv:AV)(hA:PlS qb bX bY bF yl base J d W hp)(hpv:PlE (fun b=>base≤b∧b∉W) hp p pv)(hpre:d++Ld.tailP l p <+: Ld.rights l):
  Wb C call hp af121 [pv,.ptr bX 0,.ptr bY 0,.ptr bF 0]
   (fun v hp' tc=>∃ b,v=.bool b∧POnQ l qb mb bX bY bF yl n0 base T J E M p pv d W hp b hp' tc):=by
 have hQ:=c.hJ _ _ _ hA.j
 have hbl:=hA.len c
 have h1:=c.e1;have h3:=c.e3;have h4:=c.e4;have h5:=c.xl;have h6:=c.xm;have h7:=c.xx
 obtain ⟨G1,tc1,r1,r2,r3,r4⟩:=hR hp qb mb hQ p pv (by omega) (hpv.pl.imp fun b hb h=>⟨by omega,hb⟩)
 have hS1:=hA.kp c r3 r2 r4
 have hpv1:PlE (fun _=>True) G1 p pv:=hpv.keep (fun _ _ _=>trivial) fun b x hb hx=>r3.at hx fun hh=>by have:=r2 _ hh;omega
 have hrv:∀ j∈refs pv,n0≤j:=by
  intro j hj
  cases hpv with
  |none _=>simp[refs] at hj
  |some b _ hb _=>simp only[refs,List.mem_singleton] at hj;omega
 have hl1:hp.length≤G1.length:=r3.len
 rw[Ld.tailP_end hn] at hpre
 obtain ⟨x0,x1,x2,x3,x4,x5⟩:=bk' hA.x
 obtain ⟨q0,q1,q2,q3,q4,q5⟩:=bk' hQ.q
 obtain ⟨y0,y1,y2,y3,y4,y5⟩:=bk' hS1.y
 have hshape:(pv=.nils∧(l.carts.length:Int)=0)∨∃ b,pv=.sl b 0 l.carts.length 1∧Bk hp b (.cells (ints p)):=by
  cases hpv with
  |none h=>exact .inl ⟨rfl,by rw[← hn,h];rfl⟩
  |some b _ _ h=>exact .inr ⟨b,by rw[hn],bk' h⟩
 cases hr:Ld.right l p with
 |false=>
  rw[hr] at hpre r1
  have hT0:Ld.tailP l p=[]:=by rw[Ld.tailP_end hn,hr];rfl
  have HQ:=hideP (And.intro hT0 (And.intro hS1 r2))
  clear hQ hA hpv hpre hS1 hpv1 hrv r2 r3 r4 hR hr hT0 c
  unfold Wb Wa af121 Zq Zr Zu Zm Zl Zo Zd Zh Zk Zc Za Zb Zf Zj Zt Zn Zi Zy Zw
  simp only[zipI,loadCs,List.cons_append,List.nil_append] at *
  have fin:∀ tc',(∀ j∈tc',j∈tc1)→POnQ l qb mb bX bY bF yl n0 base T J E M p pv d W hp true G1 tc':=fun tc' htc=>by
   obtain ⟨hT0,hS1,r2⟩:=HQ.out
   refine And.intro (fun j hj=>.inl (r2 j (htc j hj))) (And.intro (fun _=>⟨W,by rw[hT0,List.append_nil];exact hS1,fun j hj=>.inl hj,.inl hT0,fun j _ h=>.inl (by rwa [hT0,List.append_nil] at h)⟩) (fun h=>by cases h))
  have HF:=hideP fin
  clear fin HQ h1 h3 h4 h5 h6 h7 hn hbl
  rcases hshape with ⟨hs,h0⟩|⟨b,hs,Q0,Q1,Q2,Q3,Q4,Q5⟩
  all_goals
   subst hs
   refine gA ?_
   refine zac (v:=.bool true) (.inl rfl) rfl (by simp only;omega) (by simp only[resL,resOf,zaa];simp[*,resV]) ⟨true,rfl,HF.out _ fun j hj=>?_⟩
   simp at hj
   exact hj.1
 |true=>
  rw[hr] at hpre r1
  have hT0:Ld.tailP l p=[p]:=by rw[Ld.tailP_end hn,hr];rfl
  obtain ⟨b,hp',tc',W',s1,s9,s2,s3,s6,s4,s5,s10⟩:=c.ys.step d _ W G1 pv hpre hS1.j hpv1 hrv
  have hlen:G1.length≤hp'.length:=s3.len
  have lT:yl<hp.length:=by have:=c.hT _ c.hlT;omega
  have fin:∀ tc2,(∀ j,j∈tc2↔(j∈tc'∧j<hp.length)∨(j∈tc1∧j<hp.length))→POnQ l qb mb bX bY bF yl n0 base T J E M p pv d W hp b hp' tc2:=fun tc2 htc=>by
   have hin:∀ j∈tc2,j=mb∨j∈T∨j∈W:=fun j hj=>by
    rcases (htc j).1 hj with ⟨h,_⟩|⟨h,_⟩
    ·exact .inr (List.mem_append.1 (s2 j h))
    ·exact .inl (r2 j h)
   have hm:∀ j,j<n0→M (d++[p]) j→M d j∨j∈tc2:=fun j h1 h2=>(s10 j h1 h2).imp id fun h=>(htc j).2 (.inl ⟨h,by omega⟩)
   have hy:yl∈tc2:=(htc _).2 (.inl ⟨s9,lT⟩)
   refine And.intro hin (And.intro (fun hb=>⟨W',?_,fun j hj=>?_,.inr hy,by rw[hT0];exact hm⟩) (fun hb=>⟨⟨_,hpre,(s5 hb).1,hm⟩,hy⟩))
   ·have nt:∀ {q},(∀ j∈T,q≠j)→q<base→q∉tc':=fun hq hb ht=>by
     rcases List.mem_append.1 (s2 _ ht) with h|h
     ·exact hq _ h rfl
     ·have:=hA.w _ h;omega
    have tl:∀ j∈T,j<n0:=c.hT
    refine ⟨s3.at hS1.x (nt (fun j hj e=>c.xT (e ▸ hj)) (by omega)),s3.at hS1.y (nt (fun j hj=>by have:=tl j hj;omega) (by omega)),s3.at hS1.fn (nt (fun j hj=>by have:=tl j hj;omega) (by omega)),?_,fun j hj=>?_⟩
    ·rw[hT0];exact s4 hb
    ·rcases s6 j hj with h|h|h
     ·exact hA.w j h
     ·omega
     ·cases hpv with
      |none _=>simp[refs] at h
      |some b _ hb _=>simp only[refs,List.mem_singleton] at h;omega
   ·rcases s6 j hj with h|h|h
    ·exact .inl h
    ·exact .inr (.inl (by omega))
    ·exact .inr (.inr h)
  have HF:=hideP fin
  clear hQ hA hpv hpre hS1 hpv1 hrv r2 r3 r4 hR hr hT0 c fin s2 s3 s4 s5 s6 s9 s10 lT h1 h3 h4 h5 h6 h7 hn hbl
  unfold Wb Wa af121 Zq Zr Zu Zm Zl Zo Zd Zh Zk Zc Za Zb Zf Zj Zt Zn Zi Zy Zw
  simp only[zipI,loadCs,List.cons_append,List.nil_append] at *
  rcases hshape with ⟨hs,h0⟩|⟨b,hs,Q0,Q1,Q2,Q3,Q4,Q5⟩
  all_goals
   subst hs
   refine gA ?_
   refine zac (.inl rfl) rfl (by simp only;omega) (by simp only[resL,resOf,zaa];simp[*,resV]) ⟨_,rfl,HF.out _ fun j=>?_⟩
   simp
end
structure LdVal (l:Ld.Lo):Prop where
 well:LdWell l
 ld:∀ c∈l.carts,0≤c.load
 d0:1≤l.days
 d1:l.days≤4
 due:∀ c∈l.carts,0≤c.due∧c.due<l.days
section
variable {C:Cfg} {call call':CallF} {l:Ld.Lo} {qb mb bX bY bF yl n0 base:Nat} {T:List Nat} {J:List (List Int)→List Nat→List AB→Prop} {E:List (List Int)→List AB→Prop} {M:List (List Int)→Nat→Prop}
structure PInv (qb mb bX bY bF yl n0 base:Nat) (T:List Nat) (J:List (List Int)→List Nat→List AB→Prop) (M:List (List Int)→Nat→Prop) (p:List Int) (pv:AV) (d:List (List Int)) (W:List Nat) (hp:List AB) (L:List (List Int)) (hp1:List AB) (tc:List Nat):Prop where
 s:∃ W',PlS qb bX bY bF yl base J (d++L) W' hp1∧(∀ j∈W',j∈W∨hp.length≤j)
 t:∀ j∈tc,j=mb∨j∈T∨j∈W
 y:L=[]∨yl∈tc
 len:hp.length≤hp1.length
 m:∀ j,j<n0→M (d++L) j→M d j∨j∈tc
 p:PlE (fun b=>base≤b∧b<hp.length∧b∉W) hp1 p pv
theorem yiv (c:PlX l call' qb mb bX bY bF yl n0 base T J E M)(p:List Int)(hO:∀ x,POnC l call qb mb bX bY bF yl n0 base T J E M (p++[x])){d:List (List Int)}{W:List Nat}{hp:List AB}{pv:AV}(hA:PlS qb bX bY bF yl base J d W hp){L:List (List Int)}{hp1:List AB}{tc:List Nat}(h:PInv qb mb bX bY bF yl n0 base T J M p pv d W hp L hp1 tc)(x:Int)(hpre:(d++L)++Ld.tailP l (p++[x]) <+: Ld.rights l){G:List AB}{q:Nat}{K:List AB}(hG:G=hp1++K)(hq1:hp1.length≤q)(hq2:G[q]?=some (.cells (ints (p++[x])))):
  ∃ b hp' tc',call (.fn (.func 121) [] [.ptr bX 0,.ptr bY 0,.ptr bF 0]) [.sl q 0 (p.length+1) 1] G=some (.ret (.bool b),hp',tc')∧hp.length≤hp'.length∧(b=true→∀ tc1,(∀ j,j∈tc1↔(j∈tc'∧j<hp.length)∨j∈tc)→PInv qb mb bX bY bF yl n0 base T J M p pv d W hp (L++Ld.tailP l (p++[x])) hp' tc1)∧(b=false→∀ tc1,(∀ j,j∈tc1↔(j∈tc'∧j<hp.length)∨j∈tc)→POnQ l qb mb bX bY bF yl n0 base T J E M p pv d W hp false hp' tc1):=by
 obtain ⟨W',k1,k3⟩:=h.s
 have hbl:=hA.len c
 have h4:=h.len
 have hS:PlS qb bX bY bF yl base J (d++L) W' G:=by rw[hG];exact k1.app c K
 have hplen:(p++[x]).length=p.length+1:=by simp
 have hbd:=c.bd _ _ _ k1.j
 have hqW:q∉W':=fun hh=>by have:=hbd q hh;omega
 obtain ⟨b,hp',tc',c1,c2,c3,c4,c5⟩:=hO x (d++L) W' G (.sl q 0 (p++[x]).length 1) hS (.some q (by simp) ⟨by omega,hqW⟩ hq2) hpre
 rw[hplen] at c1
 have hl':=c2.len
 have hGl:hp1.length≤G.length:=by rw[hG];simp
 have lT:yl<hp.length:=by have:=c.hT _ c.hlT;have:=c.e4;omega
 have tcs:∀ tc1:List Nat,(∀ j,j∈tc1↔(j∈tc'∧j<hp.length)∨j∈tc)→∀ j∈tc1,j=mb∨j∈T∨j∈W:=by
  intro tc1 ht j hj
  rcases (ht j).1 hj with ⟨h1,h2⟩|h1
  ·rcases c3 j h1 with h|h|h
   ·exact .inl h
   ·exact .inr (.inl h)
   ·rcases k3 j h with h|h
    ·exact .inr (.inr h)
    ·omega
  ·exact h.t j h1
 refine ⟨b,hp',tc',c1,by omega,fun hb tc1 ht=>?_,fun hb tc1 ht=>?_⟩
 ·obtain ⟨W2,q1,q3,q4,q5⟩:=c4 hb
  refine ⟨⟨W2,by rw[← List.append_assoc];exact q1,fun j hj=>?_⟩,tcs tc1 ht,?_,by omega,fun j h1 h2=>?_,?_⟩
  ·rcases q3 j hj with h|h|h
   ·exact k3 j h
   ·exact .inr (by omega)
   ·simp only[refs,List.mem_singleton] at h
    exact .inr (by omega)
  ·rcases h.y with k5|k5
   ·rcases q4 with q4|q4
    ·exact .inl (by rw[k5,q4];rfl)
    ·exact .inr ((ht _).2 (.inl ⟨q4,lT⟩))
   ·exact .inr ((ht _).2 (.inr k5))
  ·rw[← List.append_assoc] at h2
   rcases q5 j h1 h2 with g|g
   ·exact (h.m j h1 g).imp id fun h=>(ht _).2 (.inr h)
   ·exact .inr ((ht _).2 (.inl ⟨g,by have:=c.e4;omega⟩))
  ·have h6:=c.xm
   have h44:=c.e4
   refine h.p.keep (fun _ _ h=>h) fun b x hb hx=>?_
   have hx2:G[b]?=some x:=by rw[hG,List.getElem?_append_left (get_lt hx)];exact hx
   refine c2.at hx2 fun hh=>?_
   rcases c3 b hh with h|h|h
   ·omega
   ·have:=c.hT b h;omega
   ·rcases k3 b h with h|h
    ·exact hb.2.2 h
    ·omega
 ·obtain ⟨⟨d',g1,g2,g3⟩,g4⟩:=c5 hb
  exact And.intro (tcs tc1 ht) (And.intro (fun h=>by cases h) fun _=>⟨⟨d',g1,g2,fun j h1 h2=>(g3 j h1 h2).elim (fun g=>(h.m j h1 g).imp id fun h=>(ht _).2 (.inr h)) fun g=>.inr ((ht _).2 (.inl ⟨g,by have:=c.e4;omega⟩))⟩,(ht _).2 (.inl ⟨g4,lT⟩)⟩)
theorem yjw (hC:C.calm=true)(hCl:ClonePC call)(c:PlX l call' qb mb bX bY bF yl n0 base T J E M)(hv:LdVal l)(p:List Int)(hn:p.length<l.carts.length)(hO:∀ x,POnC l call qb mb bX bY bF yl n0 base T J E M (p++[x]))(d:List (List Int))(W:List Nat)(hp:List AB)(pv:AV)(hA:PlS qb bX bY bF yl base J d W hp)(hpv:PlE (fun b=>base≤b∧b∉W) hp p pv)(hpre:d++Ld.tailP l p <+: Ld.rights l):
  Wb C call hp af121 [pv,.ptr bX 0,.ptr bY 0,.ptr bF 0]
   (fun v hp' tc=>∃ b,v=.bool b∧POnQ l qb mb bX bY bF yl n0 base T J E M p pv d W hp b hp' tc):=by
 have hc5:=hv.well.carts
 have hgv:l.carts[p.length]?=some l.carts[p.length]:=List.getElem?_eq_getElem hn
 have hdu:=hv.due _ (List.getElem_mem hn)
 have hgd:l.carts.getD p.length default=l.carts[p.length]:=by rw[List.getD_eq_getElem?_getD,hgv];rfl
 have htl:=Ld.tailP_step hn
 rw[hgd] at htl
 generalize l.carts[p.length]=cc at hgv hdu htl
 obtain ⟨hd0,hd1⟩:=hdu
 have hlen:=Ld.days_len l hd0 hd1
 have hget:=fun i (h:i<(Ld.daysOf l cc).length)=>Ld.days_get l cc h
 obtain ⟨g,hg⟩:∃ g:Int→List (List Int),g=fun x=>Ld.tailP l (p++[x]):=⟨_,rfl⟩
 rw[← hg] at htl
 generalize Ld.daysOf l cc=D at hlen hget htl
 have hI0:PInv qb mb bX bY bF yl n0 base T J M p pv d W hp ((D.take 0).flatMap g) hp []:=by
  refine ⟨⟨W,by simpa using hA,fun j hj=>.inl hj⟩,by simp,.inl rfl,Nat.le_refl _,fun j _ h=>.inl (by simpa using h),hpv.keep (fun b hb h=>⟨h.1,hb,h.2⟩) fun _ _ _ h=>h⟩
 have hfacts:∀ L hp1 tc,PInv qb mb bX bY bF yl n0 base T J M p pv d W hp L hp1 tc→Bk hp1 bX (.cells [.ptr qb 0])∧Bk hp1 qb (.cells (loadCs l++[.map mb]))∧Bk hp1 bF (.cells [.fn (.func 121) [] [.ptr bX 0,.ptr bY 0,.ptr bF 0]])∧hp.length≤hp1.length∧PlE (fun _=>True) hp1 p pv:=by
  intro L hp1 tc h
  obtain ⟨W',k1,_⟩:=h.s
  exact ⟨bk' k1.x,bk' (c.hJ _ _ _ k1.j).q,bk' k1.fn,h.len,h.p.keep (fun _ _ _=>trivial) fun _ _ _ h=>h⟩
 have hstep:∀ i hp1 tc,i<D.length→PInv qb mb bX bY bF yl n0 base T J M p pv d W hp ((D.take i).flatMap g) hp1 tc→∀ {G:List AB} {q:Nat} {K:List AB},G=hp1++K→hp1.length≤q→G[q]?=some (.cells (ints (p++[(i:Int) - 1]))) →
   ∃ b hp' tc',call (.fn (.func 121) [] [.ptr bX 0,.ptr bY 0,.ptr bF 0]) [.sl q 0 (p.length+1) 1] G=some (.ret (.bool b),hp',tc')∧hp.length≤hp'.length∧(b=true→∀ tc1,(∀ j,j∈tc1↔(j∈tc'∧j<hp.length)∨j∈tc)→PInv qb mb bX bY bF yl n0 base T J M p pv d W hp ((D.take (i+1)).flatMap g) hp' tc1)∧(b=false→∀ tc1,(∀ j,j∈tc1↔(j∈tc'∧j<hp.length)∨j∈tc)→POnQ l qb mb bX bY bF yl n0 base T J E M p pv d W hp false hp' tc1):=by
  intro i hp1 tc hi h G q K hG hq1 hq2
  rw[Clm.flat_succ g (hget i hi)]
  have:=yiv c p hO hA h ((i:Int) - 1) ?_ hG hq1 hq2
  ·rw[hg] at *;exact this
  ·rw[List.append_assoc]
   refine List.IsPrefix.trans ((List.prefix_append_right_inj d).2 ?_) hpre
   rw[htl]
   have hp0:=Clm.pre_flat g (hget i hi) (List.prefix_refl _)
   rw[hg] at hp0 ⊢
   exact hp0
 have hfin:∀ hp1 tc,PInv qb mb bX bY bF yl n0 base T J M p pv d W hp ((D.take D.length).flatMap g) hp1 tc→POnQ l qb mb bX bY bF yl n0 base T J E M p pv d W hp true hp1 tc:=by
  intro hp1 tc h
  rw[List.take_length,← htl] at h
  obtain ⟨W',k1,k3⟩:=h.s
  exact And.intro h.t (And.intro (fun _=>⟨W',k1,fun j hj=>(k3 j hj).imp id .inl,h.y,h.m⟩) (fun h=>by cases h))
 have hbx:¬ ((p.length:Int)=l.carts.length):=by omega
 have hbe:((p.length:Int)==l.carts.length)=false:=beq_false_of_ne hbx
 have hlt:(p.length:Int)<l.carts.length:=by omega
 have hgv':=ge_of hgv
 have hp1000:p.length≤1000:=by omega
 have hbound:p.length+1≤bound:=by unfold bound;omega
 have hDl:D.length≤1000:=by have:=hv.d1;omega
 have hil:(ints p).length=p.length:=by simp[ints]
 have hins:∀ x,ints (p++[x])=ints p++[.int .i64 x]:=fun x=>by simp[ints]
 obtain ⟨⟨x0,x1,x2,x3,x4,x5⟩,⟨q0,q1,q2,q3,q4,q5⟩,_⟩:=hfacts _ _ _ hI0
 have hdays:=hv.d1
 have HS:=hideP (And.intro hstep (And.intro hfacts (And.intro hfin hI0)))
 have HP:=hideP (And.intro hlen (And.intro hdays (And.intro hd1 hd0)))
 have hins':=hideP hins
 have HD:=hideP hDl
 clear hstep hfacts hfin hI0 hget htl hg hA hO hpre c hlen hdays hd0 hd1 hins hDl hv hc5
 have hshape:(pv=.nils∧p=[])∨∃ b,pv=.sl b 0 p.length 1∧p≠[]:=by
  cases hpv with
  |none h=>exact .inl ⟨rfl,h⟩
  |some b h0 _ h=>exact .inr ⟨b,rfl,h0⟩
 clear hgd
 rcases hshape with ⟨hs,hp0⟩|⟨b0,hs,hp0⟩
 ·subst hs
  subst hp0
  clear hpv
  unfold Wb Wa af121 Zq Zr Zu Zm Zl Zo Zd Zh Zk Zc Za Zb Zf Zj Zt Zn Zi Zy Zw
  simp only[zipI,loadCs,List.cons_append,List.nil_append,List.length_nil,Int.natCast_zero] at *
  have hbe':((0:Int)==l.carts.length)=false:=hbe
  have hlt':(0:Int)<l.carts.length:=hlt
  have hgv2:∀ (h':0<l.carts.length),l.carts[0]=cc:=hgv'
  have hne:¬ (0:Int)=l.carts.length:=hbx
  refine gA ?_
  clear x0 x1 x2 x3 x4 x5 q0 q1 q2 q3 q4 q5
  with_reducible refine zan hC D.length (by have:=HD.out;unfold fuelL;omega) (fun i st=>∃ x hp1 tc,x=(i:Int) - 1∧PInv qb mb bX bY bF yl n0 base T J M [] .nils d W hp ((D.take i).flatMap g) hp1 tc∧st={ tm:=tmA 58 [(6,.int .i64 x),(3,.ptr bF 0),(1,.ptr bX 0),(0,.nils)],df:=[],hp:=hp1,tc:=tc }) ?_ ?_ ?_
  ·refine ⟨_,_,_,rfl,HS.out.2.2.2,?_⟩
   exact invP
  ·rintro i st hi ⟨x,hp1,tc,hx,hV,rfl⟩
   obtain ⟨⟨x0,x1,x2,x3,x4,x5⟩,⟨q0,q1,q2,q3,q4,q5⟩,⟨f0,f1,f2,f3,f4,f5⟩,hl1,hE⟩:=HS.out.2.1 _ _ _ hV
   obtain ⟨b,hp',tc',c1,c2,c3,c4⟩:=HS.out.1 i hp1 tc hi hV (G:=hp1++[.cells [.int .i64 x],.cells [.int .i64 x]]) (q:=hp1.length+1) rfl (by omega) (by rw[hins'.out,hx];simp[ints])
   have hcl:=hCl.1
   obtain ⟨hDl,hday,hdu,hdu0⟩:=HP.out
   have hx1:x<l.days:=by omega
   have hx2:¬ (cc.due<x):=by omega
   have hw:IntKind.i64.wrap (x+1)=x+1:=zaf (by omega) (by omega)
   have hbf:¬ (bF=hp1.length+1):=by omega
   have hbf2:¬ (hp1.length+1=bF):=by omega
   have HC:=hideP (And.intro c2 (And.intro c3 c4))
   have hxn:(x != -1)=false∨(x != -1)=true:=by cases x != -1<;>simp
   have hnx:((i+1:Nat):Int) - 1=x+1:=by omega
   have HN:=hideP hnx
   have hb1:1≤bound:=by unfold bound;omega
   simp only[Nat.zero_add] at c1
   clear hE hV c2 c3 c4 hx hDl hday hdu hdu0 hl1 hnx
   rcases hxn with hxn|hxn
   all_goals
    cases b with
    |true=>
     refine gT ?_
     have hn:=HC.out.2.1 rfl (List.filter (fun x=>decide (x<hp.length)) tc'++tc) fun j=>by simp
     with_reducible refine ⟨_,_,_,HN.out.symm,hn,?_⟩
     refine st_is ?_ rfl rfl rfl
     simp[zag,zal]
    |false=>
     refine gT ?_
     have hn:=HC.out.2.2 rfl (List.filter (fun x=>decide (x<hp.length)) tc'++tc) fun j=>by simp
     exact zac (v:=.bool false) (.inl rfl) rfl HC.out.1 endvP ⟨false,rfl,hn⟩
  ·rintro st ⟨x,hp1,tc,hx,hV,rfl⟩
   obtain ⟨⟨x0,x1,x2,x3,x4,x5⟩,⟨q0,q1,q2,q3,q4,q5⟩,_,hl1,hE⟩:=HS.out.2.1 _ _ _ hV
   have hF:=HS.out.2.2.1 hp1 tc hV
   obtain ⟨hDl,hday,hdu,hdu0⟩:=HP.out
   have hxn:(x != -1)=true:=bne_iff_ne.2 (by omega)
   have hx2:cc.due<x:=by omega
   have HF:=hideP hF
   have HL:=hideP hl1
   clear hE hV hx hDl hday hdu hdu0 hl1 hF
   by_cases hx1:x<l.days
   all_goals
    refine gT ?_
    exact zac (v:=.bool true) (.inl rfl) rfl HL.out endvP ⟨true,rfl,HF.out⟩
 ·subst hs
  have hX:∃ cs,hp[b0]?=some (.cells cs):=by cases hpv with|some _ _ _ h=>exact ⟨_,h⟩
  obtain ⟨cs0,hX⟩:=hX
  obtain ⟨u0,u1,u2,u3,u4,u5⟩:=bk' hX
  have HPV:=hideP (And.intro hpv hp0)
  clear hpv hX hp0
  unfold Wb Wa af121 Zq Zr Zu Zm Zl Zo Zd Zh Zk Zc Za Zb Zf Zj Zt Zn Zi Zy Zw
  simp only[zipI,loadCs,List.cons_append,List.nil_append] at *
  refine gA ?_
  clear x0 x1 x2 x3 x4 x5 q0 q1 q2 q3 q4 q5 u0 u1 u2 u3 u4 u5
  with_reducible refine zan hC D.length (by have:=HD.out;unfold fuelL;omega) (fun i st=>∃ x hp1 tc,x=(i:Int) - 1∧PInv qb mb bX bY bF yl n0 base T J M p (.sl b0 0 p.length 1) d W hp ((D.take i).flatMap g) hp1 tc∧st={ tm:=tmA 58 [(6,.int .i64 x),(3,.ptr bF 0),(1,.ptr bX 0),(0,.sl b0 0 p.length 1)],df:=[],hp:=hp1,tc:=tc }) ?_ ?_ ?_
  ·refine ⟨_,_,_,rfl,HS.out.2.2.2,?_⟩
   exact invP
  ·rintro i st hi ⟨x,hp1,tc,hx,hV,rfl⟩
   obtain ⟨⟨x0,x1,x2,x3,x4,x5⟩,⟨q0,q1,q2,q3,q4,q5⟩,⟨f0,f1,f2,f3,f4,f5⟩,hl1,hE⟩:=HS.out.2.1 _ _ _ hV
   have hb0:hp1[b0]?=some (.cells (ints p)):=by cases hE with|some _ _ _ h=>exact h
   obtain ⟨u0,u1,u2,u3,u4,u5⟩:=bk' hb0
   obtain ⟨b,hp',tc',c1,c2,c3,c4⟩:=HS.out.1 i hp1 tc hi hV (G:=hp1++[.cells [.int .i64 x],.dead,.dead,.cells (ints p++[.int .i64 x])]) (q:=hp1.length+3) rfl (by omega) (by rw[hins'.out,hx];simp)
   have hcl:call (.fn (.func 63) [] []) [.sl b0 0 p.length 1] (hp1++[.cells [.int .i64 x]])=some (.ret (.sl (hp1.length+2) 0 p.length 1),hp1++[.cells [.int .i64 x],.dead,.cells (ints p)],[]):=by
    have h:=hCl.2 (hp1++[.cells [.int .i64 x]]) p b0 HPV.out.2 hp1000 (u2 _)
    rw[List.length_append,List.append_assoc] at h
    exact h
   obtain ⟨hDl,hday,hdu,hdu0⟩:=HP.out
   have hx1:x<l.days:=by omega
   have hx2:¬ (cc.due<x):=by omega
   have hw:IntKind.i64.wrap (x+1)=x+1:=zaf (by omega) (by omega)
   have hnp:¬ (hp1.length+2<hp.length):=by omega
   have hbf:¬ (bF=hp1.length+2):=by omega
   have hbf2:¬ (hp1.length+2=bF):=by omega
   have HC:=hideP (And.intro c2 (And.intro c3 c4))
   have HX:=hideP hx
   have hxn:(x != -1)=false∨(x != -1)=true:=by cases x != -1<;>simp
   have hnx:((i+1:Nat):Int) - 1=x+1:=by omega
   have HN:=hideP hnx
   clear hE hV hb0 c2 c3 c4 hx hDl hday hdu hdu0 hl1 hnx
   generalize ints p=cs at *
   rcases hxn with hxn|hxn
   all_goals
    cases b with
    |true=>
     refine gT ?_
     have hn:=HC.out.2.1 rfl (List.filter (fun x=>decide (x<hp.length)) tc'++tc) fun j=>by simp
     with_reducible refine ⟨_,_,_,HN.out.symm,hn,?_⟩
     refine st_is ?_ rfl rfl rfl
     simp[zag,zal]
    |false=>
     refine gT ?_
     have hn:=HC.out.2.2 rfl (List.filter (fun x=>decide (x<hp.length)) tc'++tc) fun j=>by simp
     exact zac (v:=.bool false) (.inl rfl) rfl HC.out.1 endvP ⟨false,rfl,hn⟩
  ·rintro st ⟨x,hp1,tc,hx,hV,rfl⟩
   obtain ⟨⟨x0,x1,x2,x3,x4,x5⟩,⟨q0,q1,q2,q3,q4,q5⟩,_,hl1,hE⟩:=HS.out.2.1 _ _ _ hV
   have hb0:hp1[b0]?=some (.cells (ints p)):=by cases hE with|some _ _ _ h=>exact h
   obtain ⟨u0,u1,u2,u3,u4,u5⟩:=bk' hb0
   have hF:=HS.out.2.2.1 hp1 tc hV
   obtain ⟨hDl,hday,hdu,hdu0⟩:=HP.out
   have hxn:(x != -1)=true:=bne_iff_ne.2 (by omega)
   have hx2:cc.due<x:=by omega
   have HF:=hideP hF
   have HL:=hideP hl1
   clear hE hV hb0 hx hDl hday hdu hdu0 hl1 hF
   by_cases hx1:x<l.days
   all_goals
    refine gT ?_
    exact zac (v:=.bool true) (.inl rfl) rfl HL.out endvP ⟨true,rfl,HF.out⟩
end
theorem yis {C:Cfg}(hC:C.calm=true)(hwh:∀ f,C.whole f=true){l:Ld.Lo}(hv:LdVal l)(h0:Has C 121 af121)(hCl:∀ n,ClonePC (Ev.call C (n+1))){qb mb bX bY bF yl n0 base:Nat}{T:List Nat}{J:List (List Int)→List Nat→List AB→Prop}{E:List (List Int)→List AB→Prop}{M:List (List Int)→Nat→Prop}{m:Nat}
  (hR:RightC (Ev.call C m) l) (c:PlX l (Ev.call C m) qb mb bX bY bF yl n0 base T J E M):∀ (k:Nat) (p:List Int),p.length+k=l.carts.length→POnC l (Ev.call C (m+k+1)) qb mb bX bY bF yl n0 base T J E M p:=by
 have main:∀ (k:Nat) (p:List Int),p.length+k=l.carts.length→(0<k→∀ x,POnC l (Ev.call C (m+k)) qb mb bX bY bF yl n0 base T J E M (p++[x]))→POnC l (Ev.call C (m+k+1)) qb mb bX bY bF yl n0 base T J E M p:=by
  intro k p hk hO d W hp pv hA hpv hpre
  obtain ⟨v, hp1, tc, H', c1, ⟨b, rfl, q1, q2, q3⟩, c3, c4, c5, c6⟩ := zcw (first := []) (captured := [.ptr bX 0, .ptr bY 0, .ptr bF 0]) (args := [pv]) (H := hp) (n := m + k) (Q := fun v hp' tc => ∃ b, v = .bool b ∧ POnQ l qb mb bX bY bF yl n0 base T J E M p pv d W hp b hp' tc) hC hwh h0 (Nat.le_of_ble_eq_true rfl) (by
   by_cases hk0:k=0
   ·subst hk0
    exact on_end c hR p (by omega) d W hp pv hA hpv hpre
   ·obtain ⟨k',rfl⟩:∃ k',k=k'+1:=⟨k - 1,by omega⟩
    exact yjw hC (hCl (m+k')) c hv p (by omega) (hO (by omega)) d W hp pv hA hpv hpre)
  refine ⟨b,H',tc,c1,c4,?_⟩
  by_cases ht:tc=[]
  ·have hH:H'=hp:=c6 rfl ht
   subst hH
   refine And.intro q1 (And.intro (fun hb=>?_) (fun hb=>?_))
   ·obtain ⟨W',_,_,k4,_⟩:=q2 hb
    have k4:Ld.tailP l p=[]:=k4.resolve_right (by rw[ht];simp)
    exact ⟨W,by rw[k4,List.append_nil];exact hA,fun j hj=>.inl hj,.inl k4,fun j _ h=>.inl (by rwa [k4,List.append_nil] at h)⟩
   ·have:=(q3 hb).2;rw[ht] at this;cases this
  ·have hH:H'=hp1:=c5 (.inr ht)
   subst hH
   exact And.intro q1 (And.intro q2 q3)
 intro k
 induction k with
 |zero=>exact fun p hn=>main 0 p hn fun h=>by omega
 |succ k ih=>exact fun p hn=>main (k+1) p hn fun _ x=>ih (p++[x]) (by rw[List.length_append,List.length_singleton];omega)
def PlPre (qb mb bX:Nat)(H:List AB)(T:List Nat):Prop:=H[bX]?=some (.cells [.ptr qb 0])∧bX∉T∧bX≠qb∧bX≠mb
theorem yiu (C:Cfg)(call:CallF)(l:Ld.Lo)(qb mb bX yl:Nat)(H:List AB)(T:List Nat)(J:List (List Int)→List Nat→List AB→Prop)(E:List (List Int)→List AB→Prop)(M:List (List Int)→Nat→Prop)
  (hT:∀ j∈T,j<H.length) (hlT:yl∈T) (hx:H[bX]?=some (.cells [.ptr qb 0]))
  (call':CallF) (c:PlX l call' qb mb bX H.length (H.length+1) yl H.length (H.length+2) T J E M) (hJ0:J [] [] H) (hM:∀ j,¬ M [] j) (hO:POnC l call qb mb bX H.length (H.length+1) yl H.length (H.length+2) T J E M []):
  Wb C call H af120 [.yield yl,.ptr bX 0]
   ((ItPost2 H yl [mb] T J E M (Ld.rights l))):=by
 obtain ⟨G,hG⟩:∃ G:List AB,G=H++[.cells [.yield yl],.cells [.fn (.func 121) [] [.ptr bX 0,.ptr H.length 0,.ptr (H.length+1) 0]]]:=⟨_,rfl⟩
 have hS:PlS qb bX H.length (H.length+1) yl (H.length+2) J [] [] G:=by
  refine ⟨by rw[hG,List.getElem?_append_left (get_lt hx)];exact hx,by rw[hG];simp,by rw[hG];simp,?_,by simp⟩
  refine c.ys.stable _ _ _ _ hJ0 (fun j hj _ _=>by rw[hG,List.getElem?_append_left hj]) ?_
  rw[hG];exact (c.hJ _ _ _ hJ0).app _
 have ht0:Ld.tailP l []=Ld.rights l:=Ld.tailP_nil l
 obtain ⟨b,hp',tc',c1,c2,c3,c4,c5⟩:=hO [] [] G .nils hS (.none rfl) (by rw[ht0];exact List.prefix_refl _)
 rw[ht0] at c4
 have hlen:H.length≤hp'.length:=by have:=c2.len;rw[hG] at this;simp at this;omega
 have hpost:ItPost2 H yl [mb] T J E M (Ld.rights l) (.tup []) hp' (tc'.filter (·<H.length)):=by
  refine ⟨rfl,fun j hj=>?_,?_⟩
  ·obtain ⟨h1,h2⟩:=List.mem_filter.1 hj
   rcases c3 j h1 with h|h|h
   ·rw[h];simp
   ·exact List.mem_append_right _ h
   ·cases h
  ·cases b with
   |true=>
    obtain ⟨W',k1,k3,k4,k5⟩:=c4 rfl
    refine .inl ⟨W',fun j hj=>?_,by simpa using k1.j,k4.imp id fun h=>List.mem_filter.2 ⟨h,by simpa using hT yl hlT⟩,fun j h1 h2=>List.mem_filter.2 ⟨(k5 j h1 (by simpa using h2)).resolve_left (hM j),by simpa using h1⟩⟩
    have:=k1.w j hj
    omega
   |false=>
    obtain ⟨⟨d',h1,h2,h4⟩,h3⟩:=c5 rfl
    exact .inr ⟨d',h1,h2,List.mem_filter.2 ⟨h3,by simpa using hT yl hlT⟩,fun j g1 g2=>List.mem_filter.2 ⟨(h4 j g1 g2).resolve_left (hM j),by simpa using g1⟩⟩
 have HP:=hideP hpost
 rw[hG] at c1
 clear hpost c2 c3 c4 c5 hS hG hO c hx hJ0
 unfold Wb Wa af120 Zq Zl Zo Zs Zt
 simp only[zipI]
 refine gA ?_
 exact zac (.inr rfl) rfl hlen (by simp only[resL];rfl) HP.out
def PlansI (C:Cfg)(m k:Nat)(l:Ld.Lo):Prop:=∀ qb mb bX,IterV C m k 120 [] [.ptr bX 0] argP refs True (Ld.rights l) [mb] (Qx l qb mb) (PlPre qb mb bX)
theorem yev {C:Cfg}(hC:C.calm=true)(hwh:∀ f,C.whole f=true){l:Ld.Lo}(hv:LdVal l)(h0:Has C 121 af121)(h1:Has C 120 af120)(hCl:∀ n,ClonePC (Ev.call C (n+1)))(m:Nat)(hR:RightC (Ev.call C m) l):PlansI C m (m+l.carts.length+2) l:=by
 intro qb mb bX
 refine yfn (n:=m+l.carts.length+1) hC hwh h1.ext h1.exth h1.fns (Nat.le_of_ble_eq_true rfl) ?_
 intro H yl T J E M ⟨p1,p2,p3,p4⟩ h2 h3 h4 h5 h7 h8 h6
 have hx:=h5 _ _ _ h4
 have c:PlX l (Ev.call C m) qb mb bX H.length (H.length+1) yl H.length (H.length+2) T J E M:=⟨h6,h5,h2,h3,get_lt p1,p2,rfl,rfl,rfl,⟨p3,p4⟩,⟨hx.ql,hx.ml⟩,h8 trivial⟩
 exact yiu C _ l qb mb bX yl H T J E M h2 h3 p1 _ c h4 h7 (yis hC hwh hv h0 hCl hR c l.carts.length [] (by simp))
def LsB (H:List AB)(p:List Int)(v:AV):Prop:=(v=.nils∧p=[])∨∃ b,v=.sl b 0 p.length 1∧H[b]?=some (.cells (ints p))
theorem yec (p:List Int){i:Nat}(hi:i<p.length):(p.take (i+1)).foldl (·+·) 0=(p.take i).foldl (·+·) 0+p.getD i 0:=by
 rw[List.take_add_one,List.foldl_append,List.getElem?_eq_getElem hi,List.getD_eq_getElem?_getD,List.getElem?_eq_getElem hi];rfl
def LsumC (call:CallF):Prop:=∀ (H:List AB) (p:List Int) (v:AV),p.length≤1000→(∀ x∈p,0≤x∧x≤1000000)→LsB H p v→call (.fn (.func 122) [] []) [v] H=some (.ret (.int .i64 (p.foldl (·+·) 0)),H,[])
theorem sum_bd:∀ (p:List Int),(∀ x∈p,0≤x∧x≤1000000)→∀ i,0≤(p.take i).foldl (·+·) 0∧(p.take i).foldl (·+·) 0≤1000000 * (i:Int):=by
 intro p h i
 induction i with
 |zero=>simp
 |succ i ih=>
  by_cases hi:i<p.length
  ·rw[yec p hi]
   have:=h (p.getD i 0) (by rw[List.getD_eq_getElem?_getD,List.getElem?_eq_getElem hi];exact List.getElem_mem _)
   omega
  ·rw[List.take_of_length_le (by omega)] at ih ⊢
   omega
theorem yja (C:Cfg)(hC:C.calm=true)(call:CallF)(H:List AB)(p:List Int)(v:AV)(hp5:p.length≤1000)(hx:∀ x∈p,0≤x∧x≤1000000)(hv:LsB H p v):Wb C call H af122 [v]
  (fun w _hp tc=>w=.int .i64 (p.foldl (·+·) 0)∧tc=[]):=by
 have hbd:=sum_bd p hx
 have hst:=fun i (hi:i<p.length)=>yec p hi
 have hfin:(p.take p.length).foldl (·+·) 0=p.foldl (·+·) 0:=by rw[List.take_length]
 have hia:=fun i (hi:i<p.length)=>ybh p hi
 have hil:(ints p).length=p.length:=by simp[ints]
 rcases hv with ⟨hs,h0⟩|⟨b,hs,hb⟩
 ·subst hs h0
  clear hbd hst hfin hia hil hx hp5
  unfold Wb Wa af122 Zq Zu Zm Zl Zo Za Zb Zj Zt Zn
  simp only[zipI]
  refine gA ?_
  with_reducible refine zan hC 0 (by unfold fuelL;omega) (fun i st=>st={ tm:=tmA 16 [(7,.int .i64 0),(6,.int .i64 0),(5,.nils),(2,.int .i64 0)],df:=[],hp:=H,tc:=[] }) ?_ ?_ ?_
  ·(exact invP)
  ·intro i st hi;omega
  ·rintro st rfl
   refine gA ?_
   exact zac (v:=.int .i64 0) (.inl rfl) rfl (by simp) endvP ⟨rfl,rfl⟩
 ·subst hs
  obtain ⟨y0,y1,y2,y3,y4,y5⟩:=bk' hb
  unfold Wb Wa af122 Zq Zu Zm Zl Zo Za Zb Zj Zt Zn
  simp only[zipI]
  generalize ints p=cs at *
  have HA:=hideP (And.intro hbd (And.intro hst (And.intro hfin hia)))
  clear hbd hst hfin hia hx hb
  generalize p.length=n at *
  refine gA ?_
  with_reducible refine zan hC n (by unfold fuelL;omega) (fun i st=>st={ tm:=tmA 16 [(7,.int .i64 i),(6,.int .i64 n),(5,.sl b 0 n 1),(2,.int .i64 ((p.take i).foldl (·+·) 0))],df:=[],hp:=H,tc:=[] }) ?_ ?_ ?_
  ·(exact invP)
  ·rintro i st hi rfl
   obtain ⟨hbd,hst,_,hia⟩:=HA.out
   have h1:=hbd i
   have h2:=hbd (i+1)
   have h3:=hst i hi
   have h4:=hia i hi
   have h4':=ge_of h4
   have h5:i<cs.length:=by omega
   have h6:(i:Int)<n:=by omega
   rw[h3] at h2
   rw[h3]
   generalize (p.take i).foldl (·+·) 0=s at *
   generalize p.getD i 0=x at *
   have hw:IntKind.i64.wrap (s+x)=s+x:=zaf (by omega) (by omega)
   have hw2:IntKind.i64.wrap ((i:Int)+1)=(i:Int)+1:=zaf (by omega) (by omega)
   clear hbd hst hia h1 h2 h3
   refine gA ?_
   refine st_is ?_ rfl rfl rfl
   simp[zag,zal]
  ·rintro st rfl
   refine gA ?_
   exact zac (v:=.int .i64 ((p.take n).foldl (·+·) 0)) (.inl rfl) rfl (by simp) endvP ⟨by rw[HA.out.2.2.1],rfl⟩
theorem yho {C:Cfg}{n0:Nat}(hC:C.calm=true)(hwh:∀ f,C.whole f=true)(h0:Has C 122 af122):LsumC (Ev.call C (n0+1)):=by
 intro H p v hp5 hx hv
 obtain ⟨w,hp,tc,G,c1,⟨rfl,rfl⟩,k1,k2,c3,c4⟩:=zcw (first:=[]) (captured:=[]) (args:=[v]) (H:=H) hC hwh h0 (le' rfl) (yja C hC (Ev.call C n0) H p v hp5 hx hv)
 have hG:G=H:=c4 rfl rfl
 subst hG
 exact c1
def LixC (call:CallF):Prop:=∀ (H:List AB) (p:List Int) (v:AV) (x:Int),p.length≤1000→LsB H p v→∃ i:Int,call (.fn (.func 124) [] []) [v,.int .i64 x] H=some (.ret (.int .i64 i),H,[])∧decide (0≤i)=p.any (·==x)
theorem yjo (p:List Int)(P:Int→Bool){i:Nat}(hi:i<p.length)(h:(p.take i).any P=false):(p.take (i+1)).any P=P (p.getD i 0):=by
 rw[List.take_add_one,List.any_append,h,List.getElem?_eq_getElem hi,List.getD_eq_getElem?_getD,List.getElem?_eq_getElem hi]
 simp
theorem yjz (C:Cfg)(hC:C.calm=true)(call:CallF)(H:List AB)(p:List Int)(v:AV)(x:Int)(hp5:p.length≤1000)(hv:LsB H p v):Wb C call H af124 [v,.int .i64 x]
  (fun w _hp tc=>(∃ i:Int,w=.int .i64 i∧decide (0≤i)=p.any (·==x))∧tc=[]):=by
 have hia:=fun i (hi:i<p.length)=>ybh p hi
 have hil:(ints p).length=p.length:=by simp[ints]
 have hst:=fun i (hi:i<p.length) h=>yjo p (·==x) hi h
 have hfin:(p.take p.length).any (·==x)=p.any (·==x):=by rw[List.take_length]
 have hlast:∀ i,i<p.length→(p.take (i+1)).any (·==x)=true→p.any (·==x)=true:=fun i hi h=>by
  rw[← List.take_append_drop (i+1) p,List.any_append,h];rfl
 rcases hv with ⟨hs,h0⟩|⟨b,hs,hb⟩
 ·subst hs h0
  clear hst hfin hia hil hp5 hlast
  unfold Wb Wa af124 Zq Zu Zm Zl Zo Za Zb Zj Zt Zn
  simp only[zipI]
  refine gA ?_
  with_reducible refine zan hC 0 (by unfold fuelL;omega) (fun i st=>st={ tm:=tmA 19 [(8,.int .i64 0),(7,.int .i64 0),(1,.int .i64 x),(0,.nils)],df:=[],hp:=H,tc:=[] }) ?_ ?_ ?_
  ·(exact invP)
  ·intro i st hi;omega
  ·rintro st rfl
   refine gA ?_
   exact zac (v:=.int .i64 (-1)) (.inl rfl) rfl (by simp) endvP ⟨⟨_,rfl,rfl⟩,rfl⟩
 ·subst hs
  obtain ⟨y0,y1,y2,y3,y4,y5⟩:=bk' hb
  unfold Wb Wa af124 Zq Zu Zm Zl Zo Za Zb Zj Zt Zn
  simp only[zipI]
  generalize ints p=cs at *
  have HA:=hideP (And.intro hlast (And.intro hst (And.intro hfin hia)))
  clear hlast hst hfin hia hb
  generalize p.length=n at *
  refine gA ?_
  with_reducible refine zan hC n (by unfold fuelL;omega) (fun i st=>(p.take i).any (·==x)=false∧st={ tm:=tmA 19 [(8,.int .i64 i),(7,.int .i64 n),(1,.int .i64 x),(0,.sl b 0 n 1)],df:=[],hp:=H,tc:=[] }) ?_ ?_ ?_
  ·refine ⟨rfl,?_⟩
   exact invP
  ·rintro i st hi ⟨h1,rfl⟩
   obtain ⟨hlast,hst,_,hia⟩:=HA.out
   have h2:=hst i hi h1
   have h3:=hlast i hi
   have h4:=hia i hi
   have h4':=ge_of h4
   have h5:i<cs.length:=by omega
   have h6:(i:Int)<n:=by omega
   rw[h2] at h3
   generalize p.getD i 0=y at *
   have hw2:IntKind.i64.wrap ((i:Int)+1)=(i:Int)+1:=zaf (by omega) (by omega)
   by_cases hy:y=x
   ·subst hy
    have HL:=hideP (h3 (by simp))
    clear hlast hst hia h1 h2 h3
    refine gA ?_
    exact zac (v:=.int .i64 i) (.inl rfl) rfl (by simp) endvP ⟨⟨i,rfl,by rw[HL.out];simp⟩,rfl⟩
   ·have hyb:(x==y)=false:=beq_false_of_ne (Ne.symm hy)
    have HL:=hideP (h2.trans (show (y==x)=false from beq_false_of_ne hy))
    clear hlast hst hia h1 h2 h3 hy
    refine gA ?_
    refine ⟨HL.out,st_is ?_ rfl rfl rfl⟩
    simp[zag,zal]
  ·rintro st ⟨h1,rfl⟩
   have h2:=HA.out.2.2.1
   rw[h1] at h2
   have HL:=hideP h2
   clear h1 h2
   refine gA ?_
   exact zac (v:=.int .i64 (-1)) (.inl rfl) rfl (by simp) endvP ⟨⟨-1,rfl,by rw[← HL.out];rfl⟩,rfl⟩
theorem yjc {C:Cfg}{n0:Nat}(hC:C.calm=true)(hwh:∀ f,C.whole f=true)(h0:Has C 124 af124):LixC (Ev.call C (n0+1)):=by
 intro H p v x hp5 hv
 obtain ⟨w,hp,tc,G,c1,⟨⟨i,rfl,hi⟩,rfl⟩,k1,k2,c3,c4⟩:=zcw (first:=[]) (captured:=[]) (args:=[v,.int .i64 x]) (H:=H) hC hwh h0 (le' rfl) (yjz C hC (Ev.call C n0) H p v x hp5 hv)
 have hG:G=H:=c4 rfl rfl
 subst hG
 exact ⟨i,c1,hi⟩
def LhasC (call:CallF):Prop:=∀ (H:List AB) (p:List Int) (v:AV) (x:Int),p.length≤1000→LsB H p v→call (.fn (.func 68) [] []) [v,.int .i64 x] H=some (.ret (.bool (p.any (·==x))),H,[])
theorem yjd (C:Cfg)(call:CallF)(H:List AB)(v:AV)(x i:Int)(b:Bool)(hi:decide (0≤i)=b)(hc:call (.fn (.func 124) [] []) [v,.int .i64 x] H=some (.ret (.int .i64 i),H,[])):Wb C call H af68 [v,.int .i64 x]
  (fun w _hp tc=>w=.bool b∧tc=[]):=by
 unfold Wb Wa af68 Zq Zm Zo Zc Zb Zt Zy
 simp only[zipI]
 refine gA ?_
 exact zac (v:=.bool b) (.inl rfl) rfl (by simp) endvP ⟨rfl,by simp⟩
theorem yhu {C:Cfg}{n0:Nat}(hC:C.calm=true)(hwh:∀ f,C.whole f=true)(h0:Has C 68 af68)(hI:LixC (Ev.call C n0)):LhasC (Ev.call C (n0+1)):=by
 intro H p v x hp5 hv
 obtain ⟨i,hc,hi⟩:=hI H p v x hp5 hv
 obtain ⟨w,hp,tc,G,c1,⟨rfl,rfl⟩,k1,k2,c3,c4⟩:=zcw (first:=[]) (captured:=[]) (args:=[v,.int .i64 x]) (H:=H) hC hwh h0 (le' rfl) (yjd C (Ev.call C n0) H v x i _ hi hc)
 have hG:G=H:=c4 rfl rfl
 subst hG
 exact c1
def LmaxC (call:CallF):Prop:=∀ (H:List AB) (p:List Int) (b:Nat),p.length≤1000→p≠[]→H[b]?=some (.cells (ints p))→call (.fn (.func 69) [] []) [.sl b 0 p.length 1] H=some (.ret (.int .i64 (p.foldl max (p.getD 0 0))),H,[])
theorem yiz (p:List Int)(s:Int){i:Nat}(hi:i<p.length):(p.take (i+1)).foldl max s=max ((p.take i).foldl max s) (p.getD i 0):=by
 rw[List.take_add_one,List.foldl_append,List.getElem?_eq_getElem hi,List.getD_eq_getElem?_getD,List.getElem?_eq_getElem hi];rfl
theorem yjb (C:Cfg)(hC:C.calm=true)(call:CallF)(H:List AB)(p:List Int)(b:Nat)(hp5:p.length≤1000)(h0:p≠[])(hb:H[b]?=some (.cells (ints p))):Wb C call H af69 [.sl b 0 p.length 1]
  (fun w _hp tc=>w=.int .i64 (p.foldl max (p.getD 0 0))∧tc=[]):=by
 have hia:=fun i (hi:i<p.length)=>ybh p hi
 have hil:(ints p).length=p.length:=by simp[ints]
 have hpos:0<p.length:=List.length_pos_iff.2 h0
 have hst:=fun i (hi:i<p.length)=>yiz p (p.getD 0 0) hi
 have hfin:(p.take p.length).foldl max (p.getD 0 0)=p.foldl max (p.getD 0 0):=by rw[List.take_length]
 have hone:(p.take 1).foldl max (p.getD 0 0)=p.getD 0 0:=by
  cases p with
  |nil=>exact absurd rfl h0
  |cons a p=>simp
 have hat0:=hia 0 hpos
 obtain ⟨y0,y1,y2,y3,y4,y5⟩:=bk' hb
 unfold Wb Wa af69 Zq Zu Zm Zl Zo Za Zb Zj Zt Zn
 simp only[zipI]
 generalize ints p=cs at *
 generalize hx0:p.getD 0 0=x0 at *
 have HA:=hideP (And.intro hone (And.intro hst (And.intro hfin hia)))
 clear hone hst hfin hia hb h0 hx0
 generalize hn:p.length=n at *
 have Hn:=hideP hn
 clear hn
 have hat1:=ge_of hat0
 have hcl:0<cs.length:=by omega
 have hn1:¬ ((n:Int)<1):=by omega
 have hn2:(0:Int)<n:=by omega
 have hn3:¬ (n=0):=by omega
 refine gA ?_
 with_reducible refine zan hC (n - 1) (by unfold fuelL;omega) (fun i st=>st={ tm:=tmA 25 [(4,.int .i64 ((i:Int)+1)),(3,.int .i64 ((p.take (i+1)).foldl max x0)),(0,.sl b 0 n 1)],df:=[],hp:=H,tc:=[] }) ?_ ?_ ?_
 ·rw[HA.out.1]
  exact invP
 ·rintro i st hi rfl
  obtain ⟨_,hst,_,hia⟩:=HA.out
  have hi1:i+1<n:=by omega
  have h3:=hst (i+1) hi1
  have h4:=hia (i+1) hi1
  have h4':=ge_of h4
  have h5:i+1<cs.length:=by omega
  have h6:(i:Int)+1<n:=by omega
  rw[h3]
  generalize (p.take (i+1)).foldl max x0=s at *
  generalize p.getD (i+1) 0=x at *
  have hw2:IntKind.i64.wrap ((i:Int)+1+1)=(i:Int)+1+1:=zaf (by omega) (by omega)
  have hnn:¬ ((i:Int)+1<0):=by omega
  have hnn2:0≤(i:Int)+1:=by omega
  have htn:((i:Int)+1).toNat=i+1:=by omega
  clear hst hia h3
  refine gA ?_
  refine st_is ?_ rfl rfl rfl
  simp[zag,zal]
 ·rintro st rfl
  have h6:¬ (((n - 1:Nat):Int)+1<n):=by omega
  have h7:n - 1+1=n:=by omega
  rw[h7]
  have hf:=HA.out.2.2.1
  rw[hf]
  refine gA ?_
  exact zac (.inl rfl) rfl (by simp) (by simp only[resL,resOf,zaa];simp[*,resV]) ⟨rfl,rfl⟩
theorem yhr {C:Cfg}{n0:Nat}(hC:C.calm=true)(hwh:∀ f,C.whole f=true)(h0:Has C 69 af69):LmaxC (Ev.call C (n0+1)):=by
 intro H p b hp5 hp0 hv
 obtain ⟨w,hp,tc,G,c1,⟨rfl,rfl⟩,k1,k2,c3,c4⟩:=zcw (first:=[]) (captured:=[]) (args:=[.sl b 0 p.length 1]) (H:=H) hC hwh h0 (le' rfl) (yjb C hC (Ev.call C n0) H p b hp5 hp0 hv)
 have hG:G=H:=c4 rfl rfl
 subst hG
 exact c1
end Ro
end Ev
namespace Ld
def carL (l:Lo)(p:List Int)(i:Nat):List Int:=(List.range i).filterMap fun i=>if p.getD i 0=-1 then none else some (l.carts.getD i default).load
theorem carL_succ (l:Lo)(p:List Int)(i:Nat):carL l p (i+1)=carL l p i++if p.getD i 0=-1 then [] else [(l.carts.getD i default).load]:=by
 unfold carL
 rw[List.range_succ,List.filterMap_append]
 congr 1
 by_cases h:p.getD i 0=-1
 ·rw[if_pos h];simp only[List.filterMap_cons,List.filterMap_nil,if_pos h]
 ·rw[if_neg h];simp only[List.filterMap_cons,List.filterMap_nil,if_neg h]
theorem carries_carL (l:Lo)(p:List Int):carries l p=(carL l p l.carts.length).foldl (·+·) 0:=by
 have:∀ n,(((List.range n).map fun i=>if p.getD i 0=-1 then 0 else (l.carts.getD i default).load).foldl (·+·) 0:Int)=(carL l p n).foldl (·+·) 0:=by
  intro n
  induction n with
  |zero=>rfl
  |succ n ih=>
   rw[List.range_succ,List.map_append,List.foldl_append,ih,carL_succ,List.foldl_append]
   by_cases h:p.getD n 0=-1
   ·rw[if_pos h];simp only[List.map_cons,List.map_nil,if_pos h,List.foldl_cons,List.foldl_nil];omega
   ·rw[if_neg h];simp only[List.map_cons,List.map_nil,if_neg h,List.foldl_cons,List.foldl_nil]
 exact this _
theorem carL_mem {l:Lo}{p:List Int}{n:Nat}(hn:n≤l.carts.length){x:Int}(h:x∈carL l p n):∃ c∈l.carts,x=c.load:=by
 unfold carL at h
 obtain ⟨i,hi,h2⟩:=List.mem_filterMap.1 h
 have hi:=List.mem_range.1 hi
 split at h2
 ·cases h2
 ·refine ⟨l.carts.getD i default,?_,(Option.some.inj h2).symm⟩
  rw[List.getD_eq_getElem?_getD,List.getElem?_eq_getElem (by omega)]
  exact List.getElem_mem _
theorem carL_len (l:Lo)(p:List Int)(n:Nat):(carL l p n).length≤n:=by
 unfold carL
 have:=List.length_filterMap_le (fun i=>if p.getD i 0=-1 then none else some (l.carts.getD i default).load) (List.range n)
 rwa [List.length_range] at this
end Ld
namespace Ev
namespace Ro
open K
attribute [local simp] ev1 wantG spineK spine float xnew xval xeff zab zae zau zah zai addFl cellsOf pickC alive slLen slFt binI maxA maxK minA minK aeqK aeqS AV.cells spA zad fillA setAt bitsI nat_nn zav AV.plain apart
set_option maxRecDepth 100000
set_option maxHeartbeats 4000000
def GoesC (call:CallF):Prop:=∀ (H:List AB) (p:List Int) (b i:Nat),i<p.length→p.length≤1000→H[b]?=some (.cells (ints p))→call (.fn (.func 87) [] []) [.sl b 0 p.length 1,.int .i64 i] H=some (.ret (.bool (!(p.getD i 0==-1))),H,[])∧call (.fn (.func 87) [.sl b 0 p.length 1] []) [.int .i64 i] H=some (.ret (.bool (!(p.getD i 0==-1))),H,[])
theorem yeg (C:Cfg)(call:CallF)(H:List AB)(p:List Int)(b i:Nat)(hi:i<p.length)(_hp5:p.length≤1000)(hb:H[b]?=some (.cells (ints p))):Wb C call H af87 [.sl b 0 p.length 1,.int .i64 i]
  (fun v _hp tc=>v=.bool (!(p.getD i 0==-1))∧tc=[]):=by
 obtain ⟨y0,y1,y2,y3,y4,y5⟩:=bk' hb
 have hil:(ints p).length=p.length:=by simp[ints]
 have h4:=ybh p hi
 have h4':=ge_of h4
 have h5:i<(ints p).length:=by omega
 have h6:(i:Int)<p.length:=by omega
 generalize ints p=cs at *
 generalize p.getD i 0=x at *
 generalize p.length=n at *
 clear hb
 obtain ⟨bb,hbb⟩:∃ bb,(x != -1)=bb:=⟨_,rfl⟩
 have hbn:(!(x==-1))=bb:=hbb
 rw[hbn]
 clear hbn
 unfold Wb Wa af87 Zq Zm Zl Zo Zb Zj Zy
 simp only[zipI]
 refine gA ?_
 exact zac (v:=.bool bb) (.inl rfl) rfl (by simp) endvP ⟨rfl,rfl⟩
theorem ycc {C:Cfg}{n0:Nat}(hC:C.calm=true)(hwh:∀ f,C.whole f=true)(h0:Has C 87 af87):GoesC (Ev.call C (n0+1)):=by
 intro H p b i hi hp5 hb
 constructor
 ·obtain ⟨w,hp,tc,G,c1,⟨rfl,rfl⟩,k1,k2,c3,c4⟩:=zcw (first:=[]) (captured:=[]) (args:=[.sl b 0 p.length 1,.int .i64 i]) (H:=H) hC hwh h0 (le' rfl) (yeg C (Ev.call C n0) H p b i hi hp5 hb)
  have hG:G=H:=c4 rfl rfl
  subst hG
  exact c1
 ·obtain ⟨w,hp,tc,G,c1,⟨rfl,rfl⟩,k1,k2,c3,c4⟩:=zcw (first:=[.sl b 0 p.length 1]) (captured:=[]) (args:=[.int .i64 i]) (H:=H) hC hwh h0 (le' rfl) (yeg C (Ev.call C n0) H p b i hi hp5 hb)
  have hG:G=H:=c4 rfl rfl
  subst hG
  exact c1
def LsO (n:Nat)(H:List AB)(p:List Int)(v:AV):Prop:=(v=.nils∧p=[])∨∃ b,v=.sl b 0 p.length 1∧n≤b∧H[b]?=some (.cells (ints p))
theorem LsO.ls {n:Nat}{H:List AB}{p:List Int}{v:AV}(h:LsO n H p v):LsB H p v:=h.imp id fun ⟨b,h1,_,h2⟩=>⟨b,h1,h2⟩
theorem ydv (C:Cfg)(hC:C.calm=true)(call:CallF)(hG:GoesC call)(hS:LsumC call)(l:Ld.Lo)(hv:LdVal l)(H:List AB)(qb mb:Nat)(hQ:Qx l qb mb H)(p:List Int)(pv:AV)(hpl:p.length=l.carts.length)(hpv:argP p pv H):Wb C call H af62 [.ptr qb 0,pv]
  (fun v _hp tc=>v=.int .i64 (Ld.carries l p)∧tc=[]):=by
 rw[Ld.carries_carL]
 obtain ⟨q0,q1,q2,q3,q4,q5⟩:=bk' hQ.q
 have hc5:=hv.well.carts
 have hld:∀ x∈Ld.carL l p l.carts.length,0≤x∧x≤1000000:=fun x hx=>by
  obtain ⟨c,hc,rfl⟩:=Ld.carL_mem (Nat.le_refl _) hx
  exact ⟨hv.ld c hc,(hv.well.ld c hc).2⟩
 have hsl:∀ n,(Ld.carL l p n).length≤n:=Ld.carL_len l p
 have hpb:l.carts.length≠0→∃ b,pv=.sl b 0 p.length 1∧H[b]?=some (.cells (ints p)):=fun h=>by
  cases hpv with
  |none h0=>subst h0;exact absurd hpl.symm h
  |some b _ _ h=>exact ⟨b,rfl,h⟩
 have hgt:∀ i,i<l.carts.length→l.carts[i]?=some (l.carts.getD i default):=fun i hi=>by rw[List.getD_eq_getElem?_getD,List.getElem?_eq_getElem hi];rfl
 have HA:=hideP (And.intro hG (And.intro hS (And.intro hld (And.intro hsl (And.intro hpb hgt)))))
 have HP:=hideP hpl
 clear hG hS hld hsl hpb hgt hQ hv hpv hpl
 unfold Wb Wa af62 Zq Zu Zm Zl Zo Zs Zc Za Zb Zf Zg Zj Zt Zn Zi
 simp only[zipI,loadCs,List.cons_append,List.nil_append] at *
 refine gA ?_
 clear q0 q1 q2 q3 q4 q5
 with_reducible refine zan hC l.carts.length (by unfold fuelL;omega) (fun i st=>∃ lv hp,LsO H.length hp (Ld.carL l p i) lv∧Kp [] H hp∧st={ tm:=tmA 33 [(17,.int .i64 i),(16,.int .i64 l.carts.length),(15,.vs 2 (l.carts.map cE)),(6,.fn (.func 87) [pv] []),(5,lv)],df:=[],hp:=hp,tc:=[] }) ?_ ?_ ?_
 ·refine ⟨.nils,H,.inl ⟨rfl,rfl⟩,Kp.refl _ _,?_⟩
  exact invP
 ·rintro i st hi ⟨lv,hp,hL,hK,rfl⟩
  obtain ⟨hG,hS,hld,hsl,hpb,hgt⟩:=HA.out
  obtain ⟨b,rfl,hb⟩:=hpb (by omega)
  have hgv:=hgt i hi
  have hl1:=hsl i
  have hs:=Ld.carL_succ l p i
  generalize l.carts.getD i default=c at *
  have hgv':=ge_of hgv
  have h6:(i:Int)<l.carts.length:=by omega
  have hcg:=fun K=>(hG (hp++K) p b i (by have:=HP.out;omega) (by have:=HP.out;omega) (by rw[List.getElem?_append_left (by have:=get_lt hb;have:=hK.len;omega)];exact hK.at hb (by simp))).2
  have hw2:IntKind.i64.wrap ((i:Int)+1)=(i:Int)+1:=zaf (by omega) (by omega)
  have hlen:=hK.len
  clear hG hS hld hsl hpb hgt
  by_cases hx:p.getD i 0=-1
  ·rw[if_pos hx,List.append_nil] at hs
   have hxb:(!(p.getD i 0==-1))=false:=by rw[hx];rfl
   simp only[hxb] at hcg
   have HH:=hideP (And.intro hL (And.intro hK hs))
   clear hL hK hs hx hxb
   refine gS ?_
   obtain ⟨hL,hK,hs⟩:=HH.out
   rw[hs]
   have hap:=Kp.app (S:=[]) hp [.cells [.int .i64 c.load,.int .i64 c.due]]
   refine ⟨lv,_,hL.imp id fun ⟨b,h1,h2,h3⟩=>⟨b,h1,h2,hap.at h3 (by simp)⟩,hK.trans hap,st_is ?_ rfl rfl rfl⟩
   simp[zag,zal]
  ·rw[if_neg hx] at hs
   have hxb:(!(p.getD i 0==-1))=true:=by simpa using hx
   simp only[hxb] at hcg
   have hb1:1≤bound:=by unfold bound;omega
   rcases hL with ⟨rfl,h0⟩|⟨b1,rfl,h1,h2⟩
   ·rw[h0,List.nil_append] at hs
    have HH:=hideP (And.intro hK hs)
    clear hK hs hx hxb h0
    refine gS ?_
    obtain ⟨hK,hs⟩:=HH.out
    rw[hs]
    refine ⟨_,hp++[.cells [.int .i64 c.load,.int .i64 c.due],.cells [.int .i64 c.load],.cells [.int .i64 c.load]],.inr ⟨hp.length+2,rfl,by omega,by simp[ints]⟩,hK.trans (Kp.app _ _),st_is ?_ rfl ?_ rfl⟩
    ·simp[zag,zal]
    ·simp
   ·have hil:(ints (Ld.carL l p i)).length=(Ld.carL l p i).length:=by simp[ints]
    have hip:=zfn (Ld.carL l p i)
    have hb2:(Ld.carL l p i).length+1≤bound:=by unfold bound;omega
    have hsi:ints (Ld.carL l p (i+1))=ints (Ld.carL l p i)++[.int .i64 c.load]:=by rw[hs];simp[ints]
    have hsn:(Ld.carL l p (i+1)).length=(Ld.carL l p i).length+1:=by rw[hs];simp
    have hnb:¬ (b1<H.length):=by omega
    obtain ⟨z0,z1,z2,z3,z4,z5⟩:=bk' h2
    have HH:=hideP (And.intro hK (And.intro hsi (And.intro hsn h1)))
    clear hK hs hx hxb hsi hsn h2
    generalize ints (Ld.carL l p i)=cs at *
    generalize (Ld.carL l p i).length=n at *
    refine gS ?_
    obtain ⟨hK,hsi,hsn,h1⟩:=HH.out
    refine ⟨_,hp.set b1 .dead++[.cells [.int .i64 c.load,.int .i64 c.due],.cells [.int .i64 c.load],.cells (cs++[.int .i64 c.load])],.inr ⟨hp.length+2,by rw[hsn],by omega,by rw[hsi];simp⟩,?_,st_is ?_ rfl ?_ ?_⟩
    ·refine ⟨by simp;omega,fun j hj _=>?_⟩
     rw[List.getElem?_append_left (by simp;omega),List.getElem?_set_ne (by omega)]
     exact hK.get j hj (by simp)
    ·simp[zag,zal]
    ·simp
    ·simp
 ·rintro st ⟨lv,hp,hL,hK,rfl⟩
  obtain ⟨hG,hS,hld,hsl,hpb,hgt⟩:=HA.out
  have hcs:=hS hp _ lv (by have:=hsl l.carts.length;omega) hld hL.ls
  have hlen:=hK.len
  have HH:=hideP hlen
  have hsl2:IsSl lv:=by
   rcases hL with ⟨rfl,_⟩|⟨b,rfl,_⟩<;>constructor
  clear hG hS hld hsl hpb hgt hL hK hlen
  generalize (Ld.carL l p l.carts.length).foldl (·+·) 0=s at *
  cases hsl2
  all_goals
   refine gA ?_
   exact zac (v:=.int .i64 s) (.inl rfl) rfl HH.out endvP ⟨rfl,by simp⟩
def CarriesC (call:CallF)(l:Ld.Lo):Prop:=∀ (H:List AB) (qb mb:Nat),Qx l qb mb H→∀ (p:List Int) (pv:AV),p.length=l.carts.length→argP p pv H→call (.fn (.func 62) [.ptr qb 0] []) [pv] H=some (.ret (.int .i64 (Ld.carries l p)),H,[])
theorem ydc {C:Cfg}{n0:Nat}(hC:C.calm=true)(hwh:∀ f,C.whole f=true)(h0:Has C 62 af62){l:Ld.Lo}(hv:LdVal l)(hG:GoesC (Ev.call C n0))(hS:LsumC (Ev.call C n0)):CarriesC (Ev.call C (n0+1)) l:=by
 intro H qb mb hQ p pv hpl hpv
 obtain ⟨w,hp,tc,G,c1,⟨rfl,rfl⟩,k1,k2,c3,c4⟩:=zcw (first:=[.ptr qb 0]) (captured:=[]) (args:=[pv]) (H:=H) hC hwh h0 (le' rfl) (ydv C hC (Ev.call C n0) hG hS l hv H qb mb hQ p pv hpl hpv)
 have hG:G=H:=c4 rfl rfl
 subst hG
 exact c1
end Ro
end Ev
namespace Ld
theorem mostL_snoc (f:List Int→Int)(p:List Int):∀ (L:List (List Int)) (b:Option (List Int × Int)),mostL f (L++[p]) b=match mostL f L b with
  |none=>some (p,f p)
  |some c=>if c.2<f p then some (p,f p) else some c
 |[],none=>rfl
 |[],some c=>by
   show (mostL f [] (if c.2<f p then some (p,f p) else some c))=_
   by_cases h:c.2<f p
   ·rw[if_pos h];simp only[mostL,if_pos h]
   ·rw[if_neg h];simp only[mostL,if_neg h]
 |q::L,none=>by rw[List.cons_append,mostL,mostL];exact mostL_snoc f p L _
 |q::L,some c=>by rw[List.cons_append,mostL,mostL];exact mostL_snoc f p L _
end Ld
namespace Ev
namespace Ro
open K
attribute [local simp] ev1 wantG spineK spine float xnew xval xeff zab zae zau zah zai addFl cellsOf pickC alive slLen slFt binI maxA maxK minA minK aeqK aeqS AV.cells spA zad fillA setAt bitsI nat_nn zav AV.plain apart
set_option maxRecDepth 100000
set_option maxHeartbeats 4000000
def MeasC (call:CallF)(l:Ld.Lo)(qb mb b4:Nat)(x4:AB)(f:AV)(F:List Int→Int):Prop:=∀ G,Qx l qb mb G→G[b4]?=some x4→∀ p,p∈Ld.rights l→∀ pv,argP p pv G→call f [pv] G=some (.ret (.int .i64 (F p)),G,[])
def MoJ (F:List Int→Int)(f:AV)(b4:Nat)(x4:AB)(o:Nat)(d:List (List Int))(W:List Nat)(G:List AB):Prop:=
 G[o]? = some (.cells [f]) ∧ G[b4]? = some x4 ∧ (∀ j ∈ W, j < G.length) ∧ ((Ld.mostL F d none = none ∧ G[o + 1]? = some (.cells [.nils]) ∧ G[o + 2]? = some (.cells [.int .i64 0]) ∧ G[o + 3]? = some (.cells [.bool false])) ∨
   ∃ q n qv,Ld.mostL F d none=some (q,n)∧G[o+1]?=some (.cells [qv])∧G[o+2]?=some (.cells [.int .i64 n])∧G[o+3]?=some (.cells [.bool true])∧argP q qv G∧∀ j∈refs qv,j∈W)
theorem argP.at {q:List Int}{qv:AV}{G G':List AB}(h:argP q qv G)(k:∀ j∈refs qv,j<G.length→G'[j]?=G[j]?):argP q qv G':=by
 cases h with
 |none h=>exact .none h
 |some b h0 _ h=>exact .some b h0 trivial ((k b (by simp[refs]) (get_lt h)).trans h)
theorem argP.lt {q:List Int}{qv:AV}{G:List AB}(h:argP q qv G):∀ j∈refs qv,j<G.length:=by
 cases h with
 |none h=>simp[refs]
 |some b h0 _ h=>intro j hj;simp only[refs,List.mem_singleton] at hj;rw[hj];exact get_lt h
theorem argP.isSl {q:List Int}{qv:AV}{G:List AB}(h:argP q qv G):IsSl qv:=by cases h<;>constructor
theorem zud (C:Cfg)(hC:C.calm=true)(hwh:∀ f,C.whole f=true)(n0 m:Nat)(l:Ld.Lo)(hI:PlansI C (n0+1) m l)(qb mb b4 bX:Nat)(x4:AB)(f:AV)(F:List Int→Int)(hM:MeasC (Ev.call C n0) l qb mb b4 x4 f F)(H:List AB)(hQ:Qx l qb mb H)(hx4:H[b4]?=some x4)(h4m:b4≠mb)(hX:H[bX]?=some (.cells [.ptr qb 0]))(hX2:bX≠qb∧bX≠mb):
  Wb C (Ev.call C m) H af60 [.fn (.func 120) [] [.ptr bX 0],.agg [f]]
   (fun w hp tc=>(∀ j∈tc,j=mb)∧Qx l qb mb hp∧∃ q n qv,w=.tup [qv,.int .i64 n,.bool true]∧Ld.mostL F (Ld.rights l) none=some (q,n)∧argP q qv hp∧∀ j∈refs qv,H.length≤j):=by
 have hq:=hQ.ql
 have hm:=hQ.ml
 have h4:=get_lt hx4
 have hXl:=get_lt hX
 have hne:=hQ.ne
 obtain ⟨hXq,hXm⟩:=hX2
 have HX:=hideP (And.intro hQ (And.intro hI (And.intro hM (And.intro hx4 hX))))
 clear hQ hI hM hx4 hX
 unfold Wb Wa af60 Zq Zr Zu Zm Zl Zo Zs Ze Zk Za Zf Zt Zi Zw
 simp only[zipI] at *
 refine gA ?_
 obtain ⟨hQ,hI,hM,hx4,hX⟩:=HX.out
 refine ycd hC hwh (hI qb mb bX) (by simp[zab]) rfl [H.length+1,H.length+2,H.length+3] (by simp) (by intro j hj;simp at hj ⊢;omega)
  (fun d W G=>MoJ F f b4 x4 H.length d W G) (fun _ _ _=>False) (fun _ d W G hJ=>hJ.2.2.1) (fun rz=>?_) (fun G G' hY k=>?_) (fun rz=>?_) (fun rz=>?_) (fun d W G G' hJ hW k=>?_) (fun e d G G' hE k=>hE.elim) ?_ ?_ (fun _ _ _ _ _ _ _ _ _ _ _ hE=>hE.elim)
 ·refine ⟨by rw[List.append_assoc,List.getElem?_append_left hXl];exact hX,by simp;omega,hXq,hXm⟩
 ·simp only[List.length_append,List.length_cons,List.length_nil,Nat.zero_add,Nat.add_assoc,Nat.reduceAdd] at k
  exact hY.sm (k _ (by omega) (by omega)) (k _ (by omega) (by omega))
 ·exact ⟨by simp,by rw[List.append_assoc,List.getElem?_append_left h4];exact hx4,by simp,.inl ⟨rfl,by simp,by simp,by simp⟩⟩
 ·rw[List.append_assoc];exact hQ.app _
 ·simp only[List.length_append,List.length_cons,List.length_nil,Nat.zero_add,Nat.add_assoc,Nat.reduceAdd] at k hW
  obtain ⟨g1,g2,g3,g4⟩:=hJ
  have kk:∀ {j x},j<H.length+4→j≠mb→G[j]?=some x→G'[j]?=some x:=fun h1 h2 h3=>(k _ (get_lt h3) (.inl (by omega)) (by simpa using h2) (by omega)).trans h3
  have kw:∀ j∈W,G'[j]?=G[j]?:=fun j hj=>k j (g3 j hj) (.inr hj) (by have:=hW j hj;simp;omega) (by have:=hW j hj;omega)
  refine ⟨kk (by omega) (by omega) g1,kk (by omega) h4m g2,fun j hj=>?_,?_⟩
  ·have h1:=kw j hj
   rw[List.getElem?_eq_getElem (g3 j hj)] at h1
   exact get_lt h1
  ·rcases g4 with ⟨e,a1,a2,a3⟩|⟨q,n,qv,e,a1,a2,a3,a4,a5⟩
   ·exact .inl ⟨e,kk (by omega) (by omega) a1,kk (by omega) (by omega) a2,kk (by omega) (by omega) a3⟩
   ·exact .inr ⟨q,n,qv,e,kk (by omega) (by omega) a1,kk (by omega) (by omega) a2,kk (by omega) (by omega) a3,a4.at fun j hj _=>kw j (a5 j hj),a5⟩
 ·rintro d s W G rz pv hpv hrv hpr ⟨g1,g2,g3,g4⟩ hY hK hlG hWb
  simp only[List.length_append,List.length_cons,List.length_nil,Nat.zero_add,Nat.add_assoc,Nat.reduceAdd] at hlG hWb hK hrv ⊢
  rw[setP1]
  have hsm:s∈Ld.rights l:=hpr.subset (by simp)
  have hsn:=Ld.mostL_snoc F s d none
  have hpl:=hpv.lt
  have hisl:=hpv.isSl
  refine gA ?_
  refine ⟨trivial,trivial,?_⟩
  obtain ⟨G2,hG2,z1,z2,z3,z4⟩:=zdg (G:=G) (l:=H.length+5) (.loop rz) (by omega)
  rw[← hG2]
  clear hG2
  have zz:∀ {j x},j≠H.length+5→G[j]?=some x→HB G2 j x:=fun h1 h2=>hb ((z3 _ h1).trans h2)
  have hY2:Qx l qb mb G2:=hY.sm (z3 _ (by omega)) (z3 _ (by omega))
  have hpv2:argP s pv G2:=hpv.at fun j hj _=>z3 _ (by have:=hrv j hj;omega)
  have hcall:=hM G2 hY2 (zz (by omega) g2).get s hsm pv hpv2
  have hwl:∀ j∈W++refs pv,j<G2.length:=fun j hj=>by
   rcases List.mem_append.1 hj with h|h
   ·have:=g3 j h;omega
   ·have:=hpl j h;omega
  have hb4G:=(zz (by omega) g2).get
  have hoG:=(zz (by omega) g1).get
  have hWr:∀ j∈W++refs pv,j∈W∨G.length≤j∨j∈refs pv:=fun j hj=>(List.mem_append.1 hj).imp id .inr
  -- the best one is the new one
  have hnew:Ld.mostL F (d++[s]) none=some (s,F s)→MoJ F f b4 x4 H.length (d++[s]) (W++refs pv) (((G2.set (H.length+1) (.cells [pv])).set (H.length+2) (.cells [.int .i64 (F s)])).set (H.length+3) (.cells [.bool true])):=fun he=>by
   have ne:∀ {j x},j≠H.length+1→j≠H.length+2→j≠H.length+3→G2[j]?=some x→(((G2.set (H.length+1) (.cells [pv])).set (H.length+2) (.cells [.int .i64 (F s)])).set (H.length+3) (.cells [.bool true]))[j]?=some x:=fun h1 h2 h3 h4=>by
    rw[List.getElem?_set_ne (by omega),List.getElem?_set_ne (by omega),List.getElem?_set_ne (by omega)];exact h4
   refine ⟨ne (by omega) (by omega) (by omega) hoG,ne (by omega) (by omega) (by omega) hb4G,fun j hj=>by simpa using hwl j hj,.inr ⟨s,F s,pv,he,?_,?_,?_,?_,fun j hj=>List.mem_append_right _ hj⟩⟩
   ·rw[List.getElem?_set_ne (by omega),List.getElem?_set_ne (by omega),List.getElem?_set_self (by omega)]
   ·rw[List.getElem?_set_ne (by omega),List.getElem?_set_self (by simp;omega)]
   ·rw[List.getElem?_set_self (by simp;omega)]
   ·refine hpv2.at fun j hj hl=>?_
    have:=hrv j hj
    rw[List.getElem?_set_ne (by omega),List.getElem?_set_ne (by omega),List.getElem?_set_ne (by omega)]
  have h5n:(((G2.set (H.length+1) (.cells [pv])).set (H.length+2) (.cells [.int .i64 (F s)])).set (H.length+3) (.cells [.bool true]))[H.length+5]?=some (.loop rz):=by
   rw[List.getElem?_set_ne (by omega),List.getElem?_set_ne (by omega),List.getElem?_set_ne (by omega)];exact z2
  have hYn:Qx l qb mb (((G2.set (H.length+1) (.cells [pv])).set (H.length+2) (.cells [.int .i64 (F s)])).set (H.length+3) (.cells [.bool true])):=hY2.sm (by rw[List.getElem?_set_ne (by omega),List.getElem?_set_ne (by omega),List.getElem?_set_ne (by omega)]) (by rw[List.getElem?_set_ne (by omega),List.getElem?_set_ne (by omega),List.getElem?_set_ne (by omega)])
  have HN:=hideP (And.intro hnew (And.intro h5n (And.intro hYn hWr)))
  obtain ⟨A0,A1,A2⟩:=zz (by omega) g1
  have gl0:H.length<G.length:=by omega
  have gl1:H.length+1<G.length:=by omega
  have gl2:H.length+2<G.length:=by omega
  have gl3:H.length+3<G.length:=by omega
  rcases g4 with ⟨e,a1,a2,a3⟩|⟨q,n,qv,e,a1,a2,a3,a4,a5⟩
  ·rw[e] at hsn
   dsimp only at hsn
   obtain ⟨B0,B1,B2⟩:=zz (by omega) a1
   obtain ⟨C0,C1,C2⟩:=zz (by omega) a2
   obtain ⟨D0,D1,D2⟩:=zz (by omega) a3
   have HS:=hideP hsn
   generalize F s=k at *
   clear hnew h5n hYn hWr hsn e a1 a2 a3 g1 g2 g3 hpr hY hK hWb hpv hpv2 hrv hY2 hb4G hoG hwl hpl hM hI hQ hx4 hX zz hsm HX z2 z3
   cases hisl
   all_goals
    refine gC ?_
    obtain ⟨hnew,h5n,hYn,hWr⟩:=HN.out
    refine ⟨by simp,h5n,fun j hj=>?_,hYn,fun _=>⟨_,hWr,hnew HS.out⟩,fun h=>absurd rfl h,fun _ _ h=>h.elim⟩
    simp at hj ⊢
    omega
  ·rw[e] at hsn
   dsimp only at hsn
   obtain ⟨B0,B1,B2⟩:=zz (by omega) a1
   obtain ⟨C0,C1,C2⟩:=zz (by omega) a2
   obtain ⟨D0,D1,D2⟩:=zz (by omega) a3
   by_cases hk:n<F s
   ·rw[if_pos hk] at hsn
    have HS:=hideP hsn
    generalize F s=k at *
    clear hnew h5n hYn hWr hsn e a1 a2 a3 a4 a5 g1 g2 g3 hpr hY hK hWb hpv hpv2 hrv hY2 hb4G hoG hwl hpl hM hI hQ hx4 hX zz hsm HX z2 z3
    cases hisl
    all_goals
     refine gC ?_
     obtain ⟨hnew,h5n,hYn,hWr⟩:=HN.out
     refine ⟨by simp,h5n,fun j hj=>?_,hYn,fun _=>⟨_,hWr,hnew HS.out⟩,fun h=>absurd rfl h,fun _ _ h=>h.elim⟩
     simp at hj ⊢
     omega
   ·rw[if_neg hk] at hsn
    have hsame:MoJ F f b4 x4 H.length (d++[s]) W G2:=⟨hoG,hb4G,fun j hj=>by have:=g3 j hj;omega,.inr ⟨q,n,qv,hsn,(zz (by omega) a1).get,(zz (by omega) a2).get,(zz (by omega) a3).get,a4.at fun j hj _=>z3 _ (by have:=hWb j (a5 j hj);omega),a5⟩⟩
    have HS:=hideP (And.intro hsame (And.intro z2 hY2))
    generalize F s=k at *
    clear hsame hnew h5n hYn hWr hsn e a1 a2 a3 a4 a5 g1 g2 g3 hpr hY hK hWb hpv hpv2 hrv hY2 hb4G hoG hwl hpl hM hI hQ hx4 hX zz hsm HX z2 z3
    cases hisl
    all_goals
     refine gC ?_
     obtain ⟨hsame,z2,hY2⟩:=HS.out
     refine ⟨by simp,z2,fun j hj=>?_,hY2,fun _=>⟨W,fun j hj=>.inl hj,hsame⟩,fun h=>absurd rfl h,fun _ _ h=>h.elim⟩
     simp at hj ⊢
     omega
 ·rintro H' tc W h1 h2 hY h4' h5 h6 ⟨g1,g2,g3,g4⟩
  simp only[List.length_append,List.length_cons,List.length_nil,Nat.zero_add,Nat.add_assoc,Nat.reduceAdd,List.append_nil] at h1 h4' h5 h6 ⊢
  rcases g4 with ⟨e,_⟩|⟨q,n,qv,e,a1,a2,a3,a4,a5⟩
  ·obtain ⟨A,p,B,_,e2,_⟩:=Ld.mostL_none F (List.ne_nil_of_mem (Ld.stay_right l))
   rw[e] at e2;cases e2
  ·have hrq:∀ j∈refs qv,H.length+6≤j:=fun j hj=>h6 j (a5 j hj)
   have hisl:=a4.isSl
   obtain ⟨B0,B1,B2⟩:=hb a1
   obtain ⟨C0,C1,C2⟩:=hb a2
   obtain ⟨D0,D1,D2⟩:=hb a3
   have hg:∀ j x y z u,j≠H.length+1→j≠H.length+2→j≠H.length+3→j≠H.length+4→(((((H'.set (H.length+1) x).set (H.length+2) y).set (H.length+3) z).set (H.length+4) u))[j]?=H'[j]?:=fun j x y z u q1 q2 q3 q4=>by rw[List.getElem?_set_ne (by omega),List.getElem?_set_ne (by omega),List.getElem?_set_ne (by omega),List.getElem?_set_ne (by omega)]
   have HR:=hideP (And.intro h1 (And.intro h4' (And.intro hY (And.intro e (And.intro a4 (And.intro hrq hg))))))
   clear h1 h2 hY h4' h6 g1 g2 g3 e a1 a2 a3 a4 a5 hrq hM hI hQ hx4 hX HX hg
   cases hisl
   all_goals
    refine gC ?_
    obtain ⟨h1,h4',hY,e,a4,hrq,hg⟩:=HR.out
    refine zbn (v:=.tup [_,.int .i64 n,.bool true]) (.inl rfl) rfl (by simp only;rw[List.getElem?_set_ne (by omega),List.getElem?_set_ne (by omega),List.getElem?_set_ne (by omega)];exact h4') (by omega) (by simp;omega) (by simp only[zai];simp only[resL,resOf,zaa];simp[resV,pickC,B1,C1,D1]) ⟨fun j hj=>?_,hY.sm (hg _ _ _ _ _ (by omega) (by omega) (by omega) (by omega)) (hg _ _ _ _ _ (by omega) (by omega) (by omega) (by omega)),q,n,_,rfl,e,a4.at fun j hj _=>hg _ _ _ _ _ (by have:=hrq j hj;omega) (by have:=hrq j hj;omega) (by have:=hrq j hj;omega) (by have:=hrq j hj;omega),fun j hj=>by have:=hrq j hj;omega⟩
    simp at hj
    have:=h1 j hj.1 (by omega)
    simp at this
    omega
def MostLC (call call0:CallF)(l:Ld.Lo):Prop:=∀ (H:List AB) (qb mb b4 bX:Nat) (x4:AB) (f:AV) (F:List Int→Int),MeasC call0 l qb mb b4 x4 f F→Qx l qb mb H→H[b4]?=some x4→b4≠mb→H[bX]?=some (.cells [.ptr qb 0])→bX≠qb∧bX≠mb →
 ∃ H' tc q n qv,call (.fn (.func 60) [] []) [.fn (.func 120) [] [.ptr bX 0],.agg [f]] H=some (.ret (.tup [qv,.int .i64 n,.bool true]),H',tc)∧(∀ j∈tc,j=mb)∧Kp tc H H'∧Qx l qb mb H'∧Ld.mostL F (Ld.rights l) none=some (q,n)∧argP q qv H'∧∀ j∈refs qv,H.length≤j
theorem yff {C:Cfg}{n0 m:Nat}(hC:C.calm=true)(hwh:∀ f,C.whole f=true)(h0:Has C 60 af60){l:Ld.Lo}(hI:PlansI C (n0+1) m l):MostLC (Ev.call C (m+1)) (Ev.call C n0) l:=by
 intro H qb mb b4 bX x4 f F hM hQ hx4 h4m hX hX2
 obtain ⟨w,hp,tc,G,c1,⟨c2,c5,q,n,qv,rfl,e,a4,a5⟩,k1,k2,c3,c4⟩:=zcw (first:=[]) (captured:=[]) (args:=[.fn (.func 120) [] [.ptr bX 0],.agg [f]]) (H:=H) (n:=m) hC hwh h0 (le' rfl) (zud C hC hwh n0 m l hI qb mb b4 bX x4 f F hM H hQ hx4 h4m hX hX2)
 by_cases ht:refs qv=[]∧tc=[]
 ·have hG:G=H:=c4 (by simp[refs,refsL,ht.1]) ht.2
  subst hG
  refine ⟨G,tc,q,n,qv,c1,c2,k2,hQ,e,?_,a5⟩
  cases a4 with
  |none h=>exact .none h
  |some b _ _ _=>have:=ht.1;simp[refs] at this
 ·have hG : G = hp := c3 (by
   by_cases h:tc=[]
   ·refine .inl fun h2=>ht ⟨?_,h⟩
    simp only[refs,refsL,List.append_eq_nil_iff] at h2
    exact h2.1
   ·exact .inr h)
  subst hG
  exact ⟨G,tc,q,n,qv,c1,c2,k2,c5,e,a4,a5⟩
theorem ybw (b:Int):∀ (p:List Int) (s:Int),s≤b→(∀ x∈p,x≤b)→s≤p.foldl max s∧p.foldl max s≤b
 |[],s,h,_=>⟨Int.le_refl _,h⟩
 |x::p,s,h,hp=>by
  have:=ybw b p (max s x) (by have:=hp x (by simp);omega) fun y hy=>hp y (by simp[hy])
  simp only[List.foldl_cons]
  omega
theorem yim (C:Cfg)(call:CallF)(hI:LhasC call)(hMx:LmaxC call)(l:Ld.Lo)(hv:LdVal l)(H:List AB)(qb mb b4:Nat)(hQ:Qx l qb mb H)(h4:H[b4]?=some (.cells [.ptr qb 0]))(p:List Int)(pv:AV)(hp5:p.length≤900)(hpd:∀ x∈p,x≤100)(hpv:argP p pv H):Wb C call H af67 [pv,.ptr b4 0]
  (fun v _hp tc=>v=.int .i64 (Ld.soon l p)∧tc=[]):=by
 obtain ⟨q0,q1,q2,q3,q4,q5⟩:=bk' hQ.q
 obtain ⟨x0,x1,x2,x3,x4,x5⟩:=bk' h4
 have hc := hI H p pv (-1) (by omega) (by
  cases hpv with
  |none h=>exact .inl ⟨rfl,h⟩
  |some b _ _ h=>exact .inr ⟨b,rfl,h⟩)
 have hd:=hv.d1
 have hd0:=hv.d0
 unfold Ld.soon
 cases ha:p.any (·==-1) with
 |true=>
  rw[ha] at hc
  rw[if_pos rfl]
  have hisl:=hpv.isSl
  clear hI hMx hv hQ h4 hpv hpd ha
  unfold Wb Wa af67 Zq Zr Zu Zm Zl Zo Zd Zc Za Zf Zt Zn Zi
  simp only[zipI,loadCs,List.cons_append,List.nil_append] at *
  cases hisl
  all_goals
   refine gA ?_
   exact zac (v:=.int .i64 (-1)) (.inl rfl) rfl (by simp) endvP ⟨rfl,by simp⟩
 |false=>
  rw[ha] at hc
  rw[if_neg (by decide)]
  have hb1:1+p.length≤bound:=by unfold bound;omega
  have hb2:1≤bound:=by unfold bound;omega
  have hm:=hMx (H++[.dead,.cells (.int .i64 0::ints p)]) (0::p) (H.length+1) (by simp;omega) (by simp) (by simp[ints])
  have hm2:call (.fn (.func 69) [] []) [.sl (H.length+1) 0 (1+p.length) 1] (H++[.dead,.cells (.int .i64 0::ints p)])=some (.ret (.int .i64 (p.foldl max 0)),H++[.dead,.cells (.int .i64 0::ints p)],[]):=by
   rw[Nat.add_comm 1 p.length];exact hm
  have hbd:=ybw 100 p 0 (by omega) hpd
  have hip:=zfn p
  have hil:(ints p).length=p.length:=by simp[ints]
  have hsh:(pv=.nils∧p=[])∨∃ b,pv=.sl b 0 p.length 1∧H[b]?=some (.cells (ints p)):=by
   cases hpv with
   |none h=>exact .inl ⟨rfl,h⟩
   |some b _ _ h=>exact .inr ⟨b,rfl,h⟩
  have hmx:max 0 (p.foldl max 0)=p.foldl max 0:=by omega
  rw[hmx]
  have hgt:¬ (p.foldl max 0<0):=by omega
  have hw:IntKind.i64.wrap (l.days - p.foldl max 0)=l.days - p.foldl max 0:=zaf (by omega) (by omega)
  have hnb:¬ (b4=H.length):=by omega
  have hnb2:¬ (H.length=b4):=by omega
  have hnq:¬ (qb=H.length):=by omega
  have hnq2:¬ (H.length=qb):=by omega
  clear hI hMx hv hQ h4 hpv hpd ha hm
  unfold Wb Wa af67 Zq Zr Zu Zm Zl Zo Zd Zc Za Zf Zt Zn Zi
  simp only[zipI,loadCs,List.cons_append,List.nil_append] at *
  rcases hsh with ⟨rfl,rfl⟩|⟨b,rfl,hb⟩
  ·simp only[ints,List.map_nil,List.foldl_nil,List.length_nil,Nat.add_zero] at *
   have hw0:IntKind.i64.wrap l.days=l.days:=zaf (by omega) (by omega)
   clear hmx hw hbd hgt
   have hsn:∀ K,slCells 1 K .nils=some []:=fun _=>rfl
   refine gC ?_
   exact zac (v:=.int .i64 (l.days - 0)) (.inl rfl) rfl (by simp) endvP ⟨rfl,by simp⟩
  ·obtain ⟨u0,u1,u2,u3,u4,u5⟩:=bk' hb
   have ht:List.take p.length (ints p)=ints p:=by rw[← hil,List.take_length]
   have hbn:¬ (b=H.length):=by omega
   have hbn2:¬ (H.length=b):=by omega
   generalize ints p=cs at *
   generalize p.foldl max 0=z at *
   generalize p.length=n at *
   clear hb
   refine gC ?_
   exact zac (v:=.int .i64 (l.days - z)) (.inl rfl) rfl (by simp) endvP ⟨rfl,by simp⟩
theorem ybp {l:Ld.Lo}(hv:LdVal l){p:List Int}(h:p∈Ld.rights l):p.length=l.carts.length∧∀ x∈p,-1≤x∧x<l.days:=by
 have:=(Ld.rights_plan h).1
 unfold Ld.isPlan at this
 simp only[Bool.and_eq_true,decide_eq_true_eq,List.all_eq_true,Bool.or_eq_true,Ld.isDay] at this
 have hd:=hv.d0
 refine ⟨this.1,fun x hx=>?_⟩
 rcases this.2 x hx with h|h<;>omega
theorem ygv {C:Cfg}{n0:Nat}(hC:C.calm=true)(hwh:∀ f,C.whole f=true)(h0:Has C 67 af67){l:Ld.Lo}(hv:LdVal l)(hI:LhasC (Ev.call C n0))(hMx:LmaxC (Ev.call C n0))(qb mb b4:Nat):MeasC (Ev.call C (n0+1)) l qb mb b4 (.cells [.ptr qb 0]) (.fn (.func 67) [] [.ptr b4 0]) (Ld.soon l):=by
 intro H hQ h4 p hp pv hpv
 obtain ⟨e,hb⟩:=ybp hv hp
 have hc5:=hv.well.carts
 have hd:=hv.d1
 obtain ⟨w,hp,tc,G,c1,⟨rfl,rfl⟩,k1,k2,c3,c4⟩:=zcw (first:=[]) (captured:=[.ptr b4 0]) (args:=[pv]) (H:=H) hC hwh h0 (le' rfl) (yim C (Ev.call C n0) hI hMx l hv H qb mb b4 hQ h4 p pv (by omega) (fun x hx=>by have:=hb x hx;omega) hpv)
 have hG:G=H:=c4 rfl rfl
 subst hG
 exact c1
theorem ydb {call:CallF}{l:Ld.Lo}(hv:LdVal l)(hc:CarriesC call l)(qb mb b4:Nat)(x4:AB):MeasC call l qb mb b4 x4 (.fn (.func 62) [.ptr qb 0] []) (Ld.carries l):=
 fun H hQ _ p hp pv hpv=>hc H qb mb hQ p pv (ybp hv hp).1 hpv
end Ro
end Ev
def andn (a b:Nat):Nat:=a ^^^ (a&&&b)
theorem zff (a b i:Nat):(andn a b).testBit i=(a.testBit i&&!b.testBit i):=by
 unfold andn
 rw[Nat.testBit_xor,Nat.testBit_and]
 cases a.testBit i<;>cases b.testBit i<;>rfl
theorem zwk (a b:Nat):andn a b≤a:=by
 refine Nat.le_of_testBit ?_
 intro i h
 rw[zff] at h
 simp at h;exact h.1
namespace Clm
theorem setOf_or (p:Nat→Bool){n v:Nat}(hv:v<n):setOf p n ||| 2 ^ v=setOf (fun u=>p u || decide (u=v)) n:=by
 refine Nat.eq_of_testBit_eq fun i=>?_
 rw[Nat.testBit_or,setOf_bit,setOf_bit,Nat.testBit_two_pow]
 by_cases h:i=v
 ·subst h;simp[hv]
 ·have:¬ v=i:=fun e=>h e.symm
  simp[h,this]
theorem setOf_andn (p:Nat→Bool)(n v:Nat):andn (setOf p n) (2 ^ v)=setOf (fun u=>p u&&!decide (u=v)) n:=by
 refine Nat.eq_of_testBit_eq fun i=>?_
 rw[zff,setOf_bit,setOf_bit,Nat.testBit_two_pow]
 by_cases h:i=v
 ·subst h;simp
 ·have:¬ v=i:=fun e=>h e.symm
  simp[h,this]
theorem setOf_congr {p q:Nat→Bool}{n:Nat}(h:∀ u,u<n→p u=q u):setOf p n=setOf q n:=by
 refine Nat.eq_of_testBit_eq fun i=>?_
 rw[setOf_bit,setOf_bit]
 by_cases hi:i<n
 ·rw[h i hi]
 ·simp[hi]
theorem setOf_true (n:Nat):setOf (fun _=>true) n=2 ^ n - 1:=by
 refine Nat.eq_of_testBit_eq fun i=>?_
 rw[setOf_bit,Nat.testBit_two_pow_sub_one];simp
theorem setOf_false (n:Nat):setOf (fun _=>false) n=0:=by
 refine Nat.eq_of_testBit_eq fun i=>?_
 rw[setOf_bit];simp
end Clm
namespace Ev
namespace K
theorem zlo {d:Nat}(h:d≤40):IntKind.i64.wrap (1 * 2 ^ (min ((d:Int).toNat) IntKind.i64.bits))=((2 ^ d:Nat):Int)∧IntKind.i64.wrap (2 ^ (min ((d:Int).toNat) IntKind.i64.bits))=((2 ^ d:Nat):Int)∧IntKind.i64.wrap (2 ^ (min d IntKind.i64.bits))=((2 ^ d:Nat):Int):=by
 have hb:IntKind.i64.bits=64:=rfl
 have h1:min ((d:Int).toNat) IntKind.i64.bits=d:=by rw[hb];omega
 have h1':min d IntKind.i64.bits=d:=by rw[hb];omega
 have h2:(2:Int) ^ d=((2 ^ d:Nat):Int):=by simp
 have h3:2 ^ d≤2 ^ 40:=Nat.pow_le_pow_right (by decide) h
 have h4:∀ q:Nat,q≤2 ^ 40→IntKind.i64.wrap (q:Int)=q:=by
  intro q hq
  exact zaf (by omega) (by omega)
 rw[h1,h1',Int.one_mul,h2]
 exact ⟨h4 _ h3,h4 _ h3,h4 _ h3⟩
theorem zdh {a:Nat}(h:a<2 ^ 62):(BitVec.ofInt IntKind.i64.bits (a:Int)).toNat=a:=by
 have hb:IntKind.i64.bits=64:=rfl
 rw[hb,BitVec.toNat_ofInt];omega
theorem or_i64 {a b:Nat}(ha:a<2 ^ 62)(hb:b<2 ^ 62):IntKind.i64.wrap ((BitVec.ofInt IntKind.i64.bits (a:Int) ||| BitVec.ofInt IntKind.i64.bits (b:Int)).toNat)=((a ||| b:Nat):Int):=by
 rw[BitVec.toNat_or,zdh ha,zdh hb]
 have:=Nat.or_lt_two_pow ha hb
 exact zaf (by omega) (by omega)
theorem zyx {a b:Nat}(ha:a<2 ^ 62)(hb:b<2 ^ 62):IntKind.i64.wrap ((BitVec.ofInt IntKind.i64.bits (a:Int)&&&~~~ BitVec.ofInt IntKind.i64.bits (b:Int)).toNat)=((andn a b:Nat):Int):=by
 have e:(BitVec.ofInt IntKind.i64.bits (a:Int)&&&~~~ BitVec.ofInt IntKind.i64.bits (b:Int)).toNat=andn a b:=by
  refine Nat.eq_of_testBit_eq fun i=>?_
  rw[BitVec.toNat_and,Nat.testBit_and,zdh ha,zff]
  rw[BitVec.testBit_toNat,BitVec.getLsbD_not,← BitVec.testBit_toNat,zdh hb]
  by_cases hi:i<IntKind.i64.bits
  ·simp[hi]
  ·have:a.testBit i=false:=Nat.testBit_lt_two_pow (Nat.lt_of_lt_of_le ha (Nat.pow_le_pow_right (by decide) (by have hb:IntKind.i64.bits=64:=rfl;omega)))
   simp[this]
 rw[e]
 have:=zwk a b
 exact zaf (by omega) (by omega)
theorem bit_i64 {n d:Nat}(hn:n<2 ^ 62)(hd:d≤64):IntKind.i64.wrap ((BitVec.ofInt IntKind.i64.bits ((n:Int).fdiv (2 ^ (min ((d:Int).toNat) IntKind.i64.bits)))&&&BitVec.ofInt IntKind.i64.bits 1).toNat)=if n.testBit d then 1 else 0:=by
 have hb:IntKind.i64.bits=64:=rfl
 have hf:((n:Int).fdiv (2 ^ d))=((n / 2 ^ d:Nat):Int):=by
  rw[Int.fdiv_eq_ediv_of_nonneg _ (Int.pow_nonneg (by decide))];simp
 rw[show min ((d:Int).toNat) IntKind.i64.bits=d by rw[hb];omega,hf,hb]
 have h0:n / 2 ^ d≤n:=Nat.div_le_self _ _
 rw[Nat.testBit_eq_decide_div_mod_eq]
 generalize n / 2 ^ d=q at h0 ⊢
 have h1:(BitVec.ofInt 64 (q:Int)).toNat=q:=by
  rw[BitVec.toNat_ofInt];omega
 have h2:(BitVec.ofInt 64 1).toNat=1:=by decide
 rw[BitVec.toNat_and,h1,h2,Nat.and_one_is_mod]
 by_cases hm:q % 2=1
 ·rw[hm];rfl
 ·rw[show q % 2=0 by omega];rfl
end K
end Ev
namespace Ld
def goneS (n:Nat)(is:List Int→Bool)(d:List (List Int)):Nat:=Clm.setOf (fun i=>d.any fun p=>is p&&goesB p i) n
def goneI (n:Nat)(is:List Int→Bool)(d:List (List Int))(p:List Int)(k:Nat):Nat:=Clm.setOf (fun i=>(d.any fun p=>is p&&goesB p i) || (decide (i<k)&&goesB p i)) n
theorem goneI_zero (n:Nat)(is:List Int→Bool)(d:List (List Int))(p:List Int):goneI n is d p 0=goneS n is d:=by
 unfold goneI goneS
 refine Clm.setOf_congr fun u _=>?_
 simp
theorem goneI_succ {n:Nat}(is:List Int→Bool)(d:List (List Int))(p:List Int){k:Nat}(hk:k<n):goneI n is d p (k+1)=if goesB p k then goneI n is d p k ||| 2 ^ k else goneI n is d p k:=by
 unfold goneI
 by_cases h:goesB p k=true
 ·rw[if_pos h,Clm.setOf_or _ hk]
  refine Clm.setOf_congr fun u _=>?_
  by_cases hu:u=k
  ·subst hu;simp[h]
  ·have:(u<k+1)=(u<k):=by simp;omega
   simp[hu,this]
 ·rw[if_neg h]
  refine Clm.setOf_congr fun u _=>?_
  by_cases hu:u=k
  ·subst hu;simp[h]
  ·have:(u<k+1)=(u<k):=by simp;omega
   simp[this]
theorem goneI_end (n:Nat)(is:List Int→Bool)(d:List (List Int)){p:List Int}(hp:is p=true):goneI n is d p n=goneS n is (d++[p]):=by
 unfold goneI goneS
 refine Clm.setOf_congr fun u hu=>?_
 simp[hu,hp]
theorem goneS_no (n:Nat)(is:List Int→Bool)(d:List (List Int)){p:List Int}(hp:is p=false):goneS n is (d++[p])=goneS n is d:=by
 unfold goneS
 refine Clm.setOf_congr fun u hu=>?_
 simp[hp]
theorem goneS_all (l:Lo)(is:List Int→Bool):goneS l.carts.length is (rights l)=goneR l is:=rfl
end Ld
namespace Ev
namespace Ro
open K
attribute [local simp] ev1 wantG spineK spine float xnew xval xeff zab zae zau zah zai addFl cellsOf pickC alive slLen slFt binI maxA maxK minA minK aeqK aeqS AV.cells spA zad fillA setAt bitsI nat_nn zav AV.plain apart
set_option maxRecDepth 100000
set_option maxHeartbeats 4000000
def AskC (call:CallF)(l:Ld.Lo)(qb mb b4:Nat)(x4:AB)(f:AV)(is:List Int→Bool):Prop:=∀ G,Qx l qb mb G→G[b4]?=some x4→∀ p,p∈Ld.rights l→∀ pv,argP p pv G→call f [pv] G=some (.ret (.bool (is p)),G,[])
def PlansC (call:CallF):Prop:=∀ (H:List AB) (qb:Nat),call (.fn (.func 61) [] []) [.ptr qb 0] H=some (.ret (.fn (.func 120) [] [.ptr H.length 0]),H++[.cells [.ptr qb 0]],[])
theorem yhb (C:Cfg)(call:CallF)(H:List AB)(qb:Nat):Wb C call H af61 [.ptr qb 0]
  (fun v hp tc=>v=.fn (.func 120) [] [.ptr H.length 0]∧tc=[]∧hp=H++[.cells [.ptr qb 0]]):=by
 unfold Wb Wa af61 Zq Zm Zo Zt
 simp only[zipI]
 refine gA ?_
 exact zac (v:=.fn (.func 120) [] [.ptr H.length 0]) (.inl rfl) rfl (by simp) endvP ⟨rfl,rfl,rfl⟩
theorem yew {C:Cfg}{n0:Nat}(hC:C.calm=true)(hwh:∀ f,C.whole f=true)(h0:Has C 61 af61):PlansC (Ev.call C (n0+1)):=by
 intro H qb
 obtain ⟨w,hp,tc,G,c1,⟨rfl,rfl,h3⟩,k1,k2,c3,c4⟩:=zcw (first:=[]) (captured:=[]) (args:=[.ptr qb 0]) (H:=H) hC hwh h0 (le' rfl) (yhb C (Ev.call C n0) H qb)
 have hG:G=hp:=c3 (.inl (by simp[refs,refsL]))
 rw[hG,h3] at c1
 exact c1
def GoJ (n:Nat)(is:List Int→Bool)(f:AV)(b4:Nat)(x4:AB)(o:Nat)(d:List (List Int))(W:List Nat)(G:List AB):Prop:=
 W=[]∧G[o]?=some (.cells [f])∧G[b4]?=some x4∧G[o+1]?=some (.cells [.int .i64 (Ld.goneS n is d:Nat)])∧G[o+2]?=some (.cells [.fn (.func 87) [] []])
theorem yia (C:Cfg)(hC:C.calm=true)(hwh:∀ f,C.whole f=true)(n0 m:Nat)(l:Ld.Lo)(hv:LdVal l)(hP:PlansC (Ev.call C m))(hI:PlansI C (n0+1) m l)(hGo:GoesC (Ev.call C n0))(qb mb b4:Nat)(x4:AB)(fl:Fn)(fa fb:List AV)(is:List Int→Bool)(hM:AskC (Ev.call C n0) l qb mb b4 x4 (.fn fl fa fb) is)(H:List AB)(hQ:Qx l qb mb H)(hx4:H[b4]?=some x4)(h4m:b4≠mb):
  Wb C (Ev.call C m) H af80 [.ptr qb 0,.fn fl fa fb]
   (fun w hp tc=>w=.int .i64 (Ld.goneR l is:Nat)∧(∀ j∈tc,j=mb)∧Qx l qb mb hp):=by
 have hq:=hQ.ql
 have hm:=hQ.ml
 have h4:=get_lt hx4
 have hne:=hQ.ne
 have hc5:=hv.well.carts
 have hP1:=hP (H++[.cells [.fn fl fa fb],.cells [.int .i64 0],.cells [.fn (.func 87) [] []]]) qb
 simp only[List.length_append,List.length_cons,List.length_nil,Nat.zero_add,Nat.reduceAdd,List.append_assoc,List.cons_append,List.nil_append] at hP1
 have HX:=hideP (And.intro hQ (And.intro hI (And.intro hM (And.intro hx4 (And.intro hGo hv)))))
 clear hQ hI hM hx4 hGo hP hv
 unfold Wb Wa af80 Zq Zu Zm Zl Zo Zs Zd Ze Zc Za Zb Zt Zn Zi
 simp only[zipI] at *
 refine gA ?_
 obtain ⟨hQ,hI,hM,hx4,hGo,hv⟩:=HX.out
 have hns:Ld.goneS l.carts.length is []=0:=Clm.setOf_false _
 refine ycd hC hwh (hI qb mb (H.length+3)) (by simp[zab]) rfl [H.length+1] (by simp) (by intro j hj;simp at hj ⊢;omega)
  (fun d W G=>GoJ l.carts.length is (.fn fl fa fb) b4 x4 H.length d W G) (fun _ _ _=>False) (fun _ d W G hJ j hj=>?_) (fun rz=>?_) (fun G G' hY k=>?_) (fun rz=>?_) (fun rz=>?_) (fun d W G G' hJ hW k=>?_) (fun e d G G' hE k=>hE.elim) ?_ ?_ (fun _ _ _ _ _ _ _ _ _ _ _ hE=>hE.elim)
 ·rw[hJ.1] at hj;cases hj
 ·refine ⟨by simp,by simp;omega,by omega,by omega⟩
 ·simp only[List.length_append,List.length_cons,List.length_nil,Nat.zero_add,Nat.add_assoc,Nat.reduceAdd] at k
  exact hY.sm (k _ (by omega) (by omega)) (k _ (by omega) (by omega))
 ·exact ⟨rfl,by simp,by rw[List.append_assoc,List.getElem?_append_left h4];exact hx4,by rw[hns];simp,by simp⟩
 ·rw[List.append_assoc];exact hQ.app _
 ·simp only[List.length_append,List.length_cons,List.length_nil,Nat.zero_add,Nat.add_assoc,Nat.reduceAdd] at k hW
  obtain ⟨g1,g2,g3,g4,g5⟩:=hJ
  have kk:∀ {j x},j<H.length+4→j≠mb→G[j]?=some x→G'[j]?=some x:=fun h1 h2 h3=>(k _ (get_lt h3) (.inl (by omega)) (by simpa using h2) (by omega)).trans h3
  exact ⟨g1,kk (by omega) (by omega) g2,kk (by omega) h4m g3,kk (by omega) (by omega) g4,kk (by omega) (by omega) g5⟩
 ·rintro d s W G rz pv hpv hrv hpr ⟨rfl,g1,g2,g3,g4⟩ hY hK hlG hWb
  simp only[List.length_append,List.length_cons,List.length_nil,Nat.zero_add,Nat.add_assoc,Nat.reduceAdd] at hlG hWb hK hrv ⊢
  rw[setP1]
  have hsm:s∈Ld.rights l:=hpr.subset (by simp)
  obtain ⟨hsl,-⟩:=ybp hv hsm
  have hisl:=hpv.isSl
  refine gA ?_
  refine ⟨trivial,trivial,?_⟩
  obtain ⟨G2,hG2,z1,z2,z3,z4⟩:=zdg (G:=G) (l:=H.length+5) (.loop rz) (by omega)
  rw[← hG2]
  clear hG2
  have zz:∀ {j x},j≠H.length+5→G[j]?=some x→HB G2 j x:=fun h1 h2=>hb ((z3 _ h1).trans h2)
  have hY2:Qx l qb mb G2:=hY.sm (z3 _ (by omega)) (z3 _ (by omega))
  have hpv2:argP s pv G2:=hpv.at fun j hj _=>z3 _ (by have:=hrv j hj;omega)
  have hcall:=hM G2 hY2 (zz (by omega) g2).get s hsm pv hpv2
  have hb4G:=(zz (by omega) g2).get
  have hoG:=(zz (by omega) g1).get
  have hsG:=(zz (by omega) g3).get
  have hgG:=(zz (by omega) g4).get
  obtain ⟨A0,A1,A2⟩:=zz (by omega) g1
  have gl0:H.length<G.length:=by omega
  cases hi:is s with
  |false=>
   rw[hi] at hcall
   have hno:=Ld.goneS_no l.carts.length is d hi
   have hJ2:GoJ l.carts.length is (.fn fl fa fb) b4 x4 H.length (d++[s]) [] G2:=⟨rfl,hoG,hb4G,by rw[hno];exact hsG,hgG⟩
   have HS:=hideP (And.intro hJ2 (And.intro z2 hY2))
   clear hJ2 hno g1 g2 g3 g4 hpr hY hK hWb hpv hpv2 hrv hY2 hb4G hoG hsG hgG hM hI hQ hx4 zz hsm HX z2 z3 hi hsl hns hv hGo hP1
   cases hisl
   all_goals
    refine gC ?_
    obtain ⟨hJ2,z2,hY2⟩:=HS.out
    refine ⟨by simp,z2,fun j hj=>?_,hY2,fun _=>⟨[],by simp,hJ2⟩,fun h=>absurd rfl h,fun _ _ h=>h.elim⟩
    simp at hj ⊢
    omega
  |true=>
   rw[hi] at hcall
   have hsh:(pv=.nils∧l.carts.length=0)∨∃ b,pv=.sl b 0 s.length 1∧b<G2.length∧G2[b]?=some (.cells (ints s))∧H.length+6≤b:=by
    cases hpv2 with
    |none h=>exact .inl ⟨rfl,by rw[← hsl,h];rfl⟩
    |some b _ _ h=>exact .inr ⟨b,rfl,get_lt h,h,by simpa [refs] using hrv⟩
   have hgoes:∀ K,(∀ b,b≠H.length+1→K[b]?=G2[b]?)→∀ i,i<l.carts.length→(Ev.call C n0) (.fn (.func 87) [] []) [pv,.int .i64 i] K=some (.ret (.bool (Ld.goesB s i)),K,[]):=by
    intro K hK i hi
    rcases hsh with ⟨_,h⟩|⟨b,rfl,_,h,hb6⟩
    ·omega
    ·exact (hGo K s b i (by omega) (by omega) ((hK b (by omega)).trans h)).1
   have hsl2:pv=.nils∧(l.carts.length:Int)=0∨∃ b,pv=.sl b 0 l.carts.length 1∧b<G2.length∧(∃ cs,G2[b]?=some (.cells cs)):=by
    rcases hsh with ⟨h1,h2⟩|⟨b,h1,h2,h3,_⟩
    ·exact .inl ⟨h1,by omega⟩
    ·exact .inr ⟨b,by rw[h1,hsl],h2,_,h3⟩
   have hend:=Ld.goneI_end l.carts.length is d hi
   have hz:=Ld.goneI_zero l.carts.length is d s
   have hstep:=fun k hk=>Ld.goneI_succ (n:=l.carts.length) is d s (k:=k) hk
   have hlt:=fun k=>Clm.setOf_lt (fun i=>(d.any fun p=>is p&&Ld.goesB p i) || (decide (i<k)&&Ld.goesB s i)) l.carts.length
   have hp2:2 ^ l.carts.length≤2 ^ 5:=Nat.pow_le_pow_right (by decide) hc5
   have HS:=hideP (And.intro hend (And.intro hz (And.intro hstep (And.intro (show ∀ k,Ld.goneI l.carts.length is d s k<2 ^ l.carts.length from hlt) (And.intro hgoes (And.intro hY2 (And.intro z2 (And.intro hoG (And.intro hb4G (And.intro hsG hgG))))))))))
   clear hend hz hstep hlt hgoes g1 g2 g3 g4 hpr hY hK hWb hpv hpv2 hrv hY2 hb4G hoG hsG hgG hM hI hQ hx4 zz hsm HX z2 z3 hi hsl hns hv hGo hP1 hsh hisl
   rcases hsl2 with ⟨hs,h0⟩|⟨b,hs,hb1,cs,hb2⟩
   case' inr=>have hbG:b<G.length:=by omega
   all_goals
    subst hs
    refine gC ?_
    with_reducible refine zan hC l.carts.length (by unfold fuelL;omega) (fun i st=>∃ hp tc,(∀ j∈tc,j=H.length+1∨j=H.length+5)∧(∀ b,b≠H.length+1→hp[b]?=G2[b]?)∧hp[H.length+1]?=some (.cells [.int .i64 (Ld.goneI l.carts.length is d s i:Nat)])∧hp.length=G2.length∧∃ (nn:Int) (pw:AV),nn=l.carts.length∧(∀ K,(∀ b,b≠H.length+1→K[b]?=G2[b]?)→∀ i,i<l.carts.length→(Ev.call C n0) (.fn (.func 87) [] []) [pw,.int .i64 i] K=some (.ret (.bool (Ld.goesB s i)),K,[]))∧st={ tm:=tmA 30 [(17,.int .i64 i),(16,.int .i64 nn),(6,pw),(5,.ptr (H.length+2) 0),(4,.ptr (H.length+1) 0)],df:=[],hp:=hp,tc:=tc }) ?_ ?_ ?_
    ·obtain ⟨hend,hz,hstep,hlt,hgoes,hY2,z2,hoG,hb4G,hsG,hgG⟩:=HS.out
     first
      |exact ⟨G2,_,by intro j hj;simp at hj;omega,fun _ _=>rfl,by rw[hz];exact hsG,rfl,0,.nils,h0.symm,hgoes,st_is (by simp[zag,zal]) rfl rfl rfl⟩
      |exact ⟨G2,_,by intro j hj;simp at hj;omega,fun _ _=>rfl,by rw[hz];exact hsG,rfl,l.carts.length,.sl b 0 l.carts.length 1,rfl,hgoes,st_is (by simp[zag,zal]) rfl rfl rfl⟩
    ·rintro i st hi ⟨hp,tc,t1,t2,t3,t4,nn,pw,hnn,hgo,rfl⟩
     obtain ⟨hend,hz,hstep,hlt,hgoes,hY2,z2,hoG,hb4G,hsG,hgG⟩:=HS.out
     have hi1:(i:Int)<nn:=by omega
     have hc1:=hgo hp t2 i hi
     have hw2:IntKind.i64.wrap ((i:Int)+1)=(i:Int)+1:=zaf (by omega) (by omega)
     have hs1:=hstep i hi
     have hl1:=hlt i
     have g2:=t2 (H.length+2) (by omega)
     rw[hgG] at g2
     obtain ⟨A0,A1,A2⟩:=hb g2
     obtain ⟨B0,B1,B2⟩:=hb t3
     have gl1:H.length+1<G.length:=by omega
     have gl2:H.length+2<G.length:=by omega
     have HT:=hideP (And.intro t1 (And.intro t2 (And.intro t4 (And.intro hnn (And.intro hgo hs1)))))
     cases hgb:Ld.goesB s i with
     |false=>
      rw[hgb] at hc1
      have HG:=hideP hgb
      clear hend hz hstep hlt hgoes hY2 z2 hoG hb4G hsG hgG t1 t2 t3 g2 hs1 hl1 hgo hnn hgb
      refine gC ?_
      obtain ⟨t1,t2,t4,hnn,hgo,hs1⟩:=HT.out
      rw[HG.out,if_neg (by decide)] at hs1
      refine ⟨hp,_,t1,t2,by rw[hs1];exact B0,t4,nn,pw,hnn,hgo,st_is ?_ rfl rfl rfl⟩
      simp[zag,zal]
     |true=>
      rw[hgb] at hc1
      obtain ⟨s1,s2,s3⟩:=zlo (d:=i) (by omega)
      have hpi:2 ^ i≤2 ^ 5:=Nat.pow_le_pow_right (by decide) (by omega)
      have o1:=or_i64 (a:=Ld.goneI l.carts.length is d s i) (b:=2 ^ i) (by omega) (by omega)
      rw[hgb,if_pos rfl] at hs1
      have HG:=hideP hs1
      generalize Ld.goneI l.carts.length is d s i=A at *
      generalize 2 ^ i=P at s1 s2 s3 o1 HG
      simp at o1
      have HT:=hideP HT.out
      clear hend hz hstep hlt hgoes hY2 z2 hoG hb4G hsG hgG t1 t2 t3 g2 hs1 hl1 hgo hnn hgb hpi hp2
      refine gC ?_
      obtain ⟨t1,t2,t4,hnn,hgo,_⟩:=HT.out
      refine ⟨hp.set (H.length+1) (.cells [.int .i64 (A ||| P:Nat)]),_,?_,fun b hb=>by rw[List.getElem?_set_ne (Ne.symm hb)];exact t2 b hb,by rw[HG.out,List.getElem?_set_self B1],by simpa using t4,nn,pw,hnn,hgo,st_is ?_ rfl rfl rfl⟩
      ·intro j hj
       simp at hj
       rcases hj with h|h
       ·omega
       ·exact t1 j h
      ·simp[zag,zal]
    ·rintro st ⟨hp,tc,t1,t2,t3,t4,nn,pw,hnn,hgo,rfl⟩
     obtain ⟨hend,hz,hstep,hlt,hgoes,hY2,z2,hoG,hb4G,hsG,hgG⟩:=HS.out
     have hi1:¬ ((l.carts.length:Int)<nn):=by omega
     first|(have hi2:¬ ((0:Int)<nn):=by omega)|skip
     have HT:=hideP (And.intro t1 (And.intro t2 (And.intro t3 t4)))
     clear hend hz hstep hlt hgoes hY2 z2 hoG hb4G hsG hgG t1 t2 t3 hgo hnn
     refine gC ?_
     obtain ⟨t1,t2,t3,t4⟩:=HT.out
     obtain ⟨hend,hz,hstep,hlt,hgoes,hY2,z2,hoG,hb4G,hsG,hgG⟩:=HS.out
     refine ⟨by simp,(t2 _ (by omega)).trans z2,fun j hj=>?_,hY2.sm (t2 _ (by omega)) (t2 _ (by omega)),fun _=>⟨[],by simp,rfl,(t2 _ (by omega)).trans hoG,(t2 _ (by omega)).trans hb4G,by rw[← hend];exact t3,(t2 _ (by omega)).trans hgG⟩,fun h=>absurd rfl h,fun _ _ h=>h.elim⟩
     have:=t1 j hj
     simp
     omega
 ·rintro H' tc W h1 h2 hY h4' h5 h6 ⟨g1,g2,g3,g4,g5⟩
  simp only[List.length_append,List.length_cons,List.length_nil,Nat.zero_add,Nat.add_assoc,Nat.reduceAdd,List.append_nil] at h1 h4' h5 h6 ⊢
  rw[Ld.goneS_all] at g4
  obtain ⟨B0,B1,B2⟩:=hb g4
  have hg:∀ j x y,j≠H.length+1→j≠H.length+4→((H'.set (H.length+1) x).set (H.length+4) y)[j]?=H'[j]?:=fun j x y q1 q2=>by rw[List.getElem?_set_ne (by omega),List.getElem?_set_ne (by omega)]
  have HR:=hideP (And.intro h1 (And.intro h4' (And.intro hY hg)))
  generalize Ld.goneR l is=A at *
  clear h1 h2 hY h4' h6 g1 g2 g3 g4 g5 hM hI hQ hx4 HX hg hGo hv hns hP1
  refine gC ?_
  obtain ⟨h1,h4',hY,hg⟩:=HR.out
  refine zbn (v:=.int .i64 A) (.inl rfl) rfl (by simp only;rw[List.getElem?_set_ne (by omega)];exact h4') (by omega) (by simp;omega) (by simp only;simp only[resL,resOf,zaa];simp[resV,pickC,B1]) ⟨rfl,fun j hj=>?_,hY.sm (hg _ _ _ (by omega) (by omega)) (hg _ _ _ (by omega) (by omega))⟩
  simp at hj
  have:=h1 j hj.1 (by omega)
  simp at this
  omega
def GoneC (call call0:CallF)(l:Ld.Lo):Prop:=∀ (H:List AB) (qb mb b4:Nat) (x4:AB) (fl:Fn) (fa fb:List AV) (is:List Int→Bool),AskC call0 l qb mb b4 x4 (.fn fl fa fb) is→Qx l qb mb H→H[b4]?=some x4→b4≠mb →
 ∃ H' tc,call (.fn (.func 80) [] []) [.ptr qb 0,.fn fl fa fb] H=some (.ret (.int .i64 (Ld.goneR l is:Nat)),H',tc)∧(∀ j∈tc,j=mb)∧Kp tc H H'∧Qx l qb mb H'
theorem yib {C:Cfg}{n0 m:Nat}(hC:C.calm=true)(hwh:∀ f,C.whole f=true)(h0:Has C 80 af80){l:Ld.Lo}(hv:LdVal l)(hP:PlansC (Ev.call C m))(hI:PlansI C (n0+1) m l)(hGo:GoesC (Ev.call C n0)):GoneC (Ev.call C (m+1)) (Ev.call C n0) l:=by
 intro H qb mb b4 x4 fl fa fb is hM hQ hx4 h4m
 obtain ⟨w,hp,tc,G,c1,⟨rfl,c2,c5⟩,k1,k2,c3,c4⟩:=zcw (first:=[]) (captured:=[]) (args:=[.ptr qb 0,.fn fl fa fb]) (H:=H) (n:=m) hC hwh h0 (le' rfl) (yia C hC hwh n0 m l hv hP hI hGo qb mb b4 x4 fl fa fb is hM H hQ hx4 h4m)
 by_cases ht:tc=[]
 ·have hG:G=H:=c4 rfl ht
  subst hG
  exact ⟨G,tc,c1,c2,k2,hQ⟩
 ·have hG:G=hp:=c3 (.inr ht)
  subst hG
  exact ⟨G,tc,c1,c2,k2,c5⟩
def MulC (call:CallF)(n:Nat):Prop:=∀ H,call (.fn (.func 125) [] []) [.int .u64 1,.int .u64 n] H=some (.ret (.tup [.int .u64 0,.int .u64 n]),H,[])
theorem yhj (C:Cfg)(call:CallF)(n:Nat)(hn:n=1∨n=2∨n=3∨n=4)(H:List AB):Wb C call H af153 [.int .u64 1,.int .u64 n]
  (fun v _hp tc=>v=.tup [.int .u64 0,.int .u64 n]∧tc=[]):=by
 unfold Wb Wa af153 Zq Zm Zo Za Zt
 simp only[zipI]
 have w1:IntKind.u64.wrap 0=0:=by decide
 have w2:IntKind.u64.wrap 1=1:=by decide
 have w3:IntKind.u64.wrap 2=2:=by decide
 have w4:IntKind.u64.wrap 3=3:=by decide
 have w5:IntKind.u64.wrap 4=4:=by decide
 have b1:IntKind.u64.bits=64:=rfl
 rcases hn with rfl|rfl|rfl|rfl
 all_goals
  simp only[Int.cast_ofNat_Int]
  refine gA ?_
  exact zac (.inl rfl) rfl (by simp) (by simp only[resL,resOf,zaa];simp[*,resV]) ⟨rfl,rfl⟩
theorem yjx (C:Cfg)(call:CallF)(n:Nat)(H:List AB)(h:call (.fn (.func 153) [] []) [.int .u64 1,.int .u64 n] H=some (.ret (.tup [.int .u64 0,.int .u64 n]),H,[])):Wb C call H af125 [.int .u64 1,.int .u64 n]
  (fun v _hp tc=>v=.tup [.int .u64 0,.int .u64 n]∧tc=[]):=by
 unfold Wb Wa af125 Zq Zm Zo Zc Zx Zt Zy
 simp only[zipI]
 refine gA ?_
 try ((with_reducible apply zam);(focus exact rfl);(refine gA ?_))
 exact zac (v:=.tup [.int .u64 0,.int .u64 n]) (.inl rfl) rfl (by simp) endvP ⟨rfl,by simp⟩
theorem yiy {C:Cfg}{n0:Nat}(hC:C.calm=true)(hwh:∀ f,C.whole f=true)(h0:Has C 125 af125)(h1:Has C 153 af153)(n:Nat)(hn:n=1∨n=2∨n=3∨n=4):MulC (Ev.call C (n0+2)) n:=by
 intro H
 have h:Ev.call C (n0+1) (.fn (.func 153) [] []) [.int .u64 1,.int .u64 n] H=some (.ret (.tup [.int .u64 0,.int .u64 n]),H,[]):=by
  obtain ⟨w,hp,tc,G,c1,⟨rfl,rfl⟩,k1,k2,c3,c4⟩:=zcw (first:=[]) (captured:=[]) (args:=[.int .u64 1,.int .u64 n]) (H:=H) hC hwh h1 (le' rfl) (yhj C (Ev.call C n0) n hn H)
  have hG:G=H:=c4 rfl rfl
  subst hG
  exact c1
 obtain ⟨w,hp,tc,G,c1,⟨rfl,rfl⟩,k1,k2,c3,c4⟩:=zcw (first:=[]) (captured:=[]) (args:=[.int .u64 1,.int .u64 n]) (H:=H) hC hwh h0 (le' rfl) (yjx C (Ev.call C (n0+1)) n H h)
 have hG:G=H:=c4 rfl rfl
 subst hG
 exact c1
def RepC (call:CallF):Prop:=∀ (n:Nat),n=1∨n=2∨n=3∨n=4→∀ (H:List AB) (b:Nat),H[b]?=some (.cells [.int .i64 (-1)])→call (.fn (.func 74) [] []) [.sl b 0 1 1,.int .i64 n] H=some (.ret (.sl H.length 0 n 1),H++[.cells (List.replicate n (.int .i64 (-1)))],[])
theorem yjt (C:Cfg)(hC:C.calm=true)(call:CallF)(n:Nat)(hn:n=1∨n=2∨n=3∨n=4)(hM:MulC call n)(H:List AB)(b:Nat)(hb:H[b]?=some (.cells [.int .i64 (-1)])):Wb C call H af74 [.sl b 0 1 1,.int .i64 n]
  (fun v hp tc=>v=.sl H.length 0 n 1∧tc=[]∧hp=H++[.cells (List.replicate n (.int .i64 (-1)))]):=by
 obtain ⟨y0,y1,y2,y3,y4,y5⟩:=bk' hb
 clear hb
 have w2:IntKind.u64.wrap 1=1:=by decide
 have w3:IntKind.u64.wrap 2=2:=by decide
 have w4:IntKind.u64.wrap 3=3:=by decide
 have w5:IntKind.u64.wrap 4=4:=by decide
 have v2:IntKind.i64.wrap 1=1:=by decide
 have v3:IntKind.i64.wrap 2=2:=by decide
 have v4:IntKind.i64.wrap 3=3:=by decide
 have v5:IntKind.i64.wrap 4=4:=by decide
 have hbd:4≤bound:=by unfold bound;omega
 have hbd1:1≤bound:=by unfold bound;omega
 have hbd2:2≤bound:=by unfold bound;omega
 have hbd3:3≤bound:=by unfold bound;omega
 have hbi:(4:Int)≤bound:=by omega
 have hbi1:(1:Int)≤bound:=by omega
 have hbi2:(2:Int)≤bound:=by omega
 have hbi3:(3:Int)≤bound:=by omega
 unfold MulC at hM
 unfold Wb Wa af74 Zq Zu Zm Zo Zd Zk Zc Za Zb Zx Zt Zi Zw
 simp only[zipI]
 rcases hn with rfl|rfl|rfl|rfl
 all_goals
  simp only[Int.cast_ofNat_Int] at hM ⊢
  refine gB ?_
 ·with_reducible refine zan hC 0 (by unfold fuelL;omega) (fun i st=>st={ tm:=tmA 48 [(8,.int .i64 (1)),(7,.sl H.length 0 1 1)],df:=[],hp:=H++[.cells ([.int .i64 (-1)])],tc:=[] }) ?_ ?_ ?_
  ·refine st_is ?_ rfl ?_ rfl
   ·simp[zag,zal]
   ·rfl
  ·rintro i st hi rfl
   omega
  ·rintro st rfl
   simp only[List.replicate]
   refine gC ?_
   exact zac (v:=.sl H.length 0 1 1) (.inl rfl) rfl (by simp) endvP ⟨rfl,rfl,rfl⟩
 ·with_reducible refine zan hC 1 (by unfold fuelL;omega) (fun i st=>st={ tm:=tmA 48 [(8,.int .i64 (((i+1:Nat):Int))),(7,.sl H.length 0 2 1)],df:=[],hp:=H++[.cells (List.replicate (i+1) (.int .i64 (-1))++List.replicate (1 - i) (.int .i64 0))],tc:=[] }) ?_ ?_ ?_
  ·refine st_is ?_ rfl ?_ rfl
   ·simp[zag,zal]
   ·rfl
  ·rintro i st hi rfl
   match i,hi with
   |0,_=>
    simp only[List.replicate,List.cons_append,List.nil_append,List.append_nil,Nat.reduceSub,Nat.reduceAdd,Int.cast_ofNat_Int,Nat.zero_add]
    refine gV ?_
    refine st_is ?_ rfl ?_ ?_
    ·simp[zag,zal]
    ·simp
    ·simp
  ·rintro st rfl
   simp only[List.replicate,List.append_nil,Nat.reduceSub,Nat.reduceAdd,Int.cast_ofNat_Int]
   refine gC ?_
   exact zac (v:=.sl H.length 0 2 1) (.inl rfl) rfl (by simp) endvP ⟨rfl,rfl,rfl⟩
 ·with_reducible refine zan hC 2 (by unfold fuelL;omega) (fun i st=>st={ tm:=tmA 48 [(8,.int .i64 (((i+1:Nat):Int))),(7,.sl H.length 0 3 1)],df:=[],hp:=H++[.cells (List.replicate (i+1) (.int .i64 (-1))++List.replicate (2 - i) (.int .i64 0))],tc:=[] }) ?_ ?_ ?_
  ·refine st_is ?_ rfl ?_ rfl
   ·simp[zag,zal]
   ·rfl
  ·rintro i st hi rfl
   match i,hi with
   |0,_|1,_=>
    simp only[List.replicate,List.cons_append,List.nil_append,List.append_nil,Nat.reduceSub,Nat.reduceAdd,Int.cast_ofNat_Int,Nat.zero_add]
    refine gV ?_
    refine st_is ?_ rfl ?_ ?_
    ·simp[zag,zal]
    ·simp
    ·simp
  ·rintro st rfl
   simp only[List.replicate,List.append_nil,Nat.reduceSub,Nat.reduceAdd,Int.cast_ofNat_Int]
   refine gC ?_
   exact zac (v:=.sl H.length 0 3 1) (.inl rfl) rfl (by simp) endvP ⟨rfl,rfl,rfl⟩
 ·with_reducible refine zan hC 2 (by unfold fuelL;omega) (fun i st=>st={ tm:=tmA 48 [(8,.int .i64 (((2 ^ i:Nat):Int))),(7,.sl H.length 0 4 1)],df:=[],hp:=H++[.cells (List.replicate (2 ^ i) (.int .i64 (-1))++List.replicate (4 - 2 ^ i) (.int .i64 0))],tc:=[] }) ?_ ?_ ?_
  ·refine st_is ?_ rfl ?_ rfl
   ·simp[zag,zal]
   ·rfl
  ·rintro i st hi rfl
   match i,hi with
   |0,_|1,_=>
    simp only[List.replicate,List.cons_append,List.nil_append,List.append_nil,Nat.reduceSub,Nat.reduceAdd,Nat.reducePow,Int.cast_ofNat_Int,Nat.zero_add]
    refine gV ?_
    refine st_is ?_ rfl ?_ ?_
    ·simp[zag,zal]
    ·simp
    ·simp
  ·rintro st rfl
   simp only[List.replicate,List.append_nil,Nat.reduceSub,Nat.reducePow,Int.cast_ofNat_Int]
   refine gC ?_
   exact zac (v:=.sl H.length 0 4 1) (.inl rfl) rfl (by simp) endvP ⟨rfl,rfl,rfl⟩
theorem yir {C:Cfg}{n0:Nat}(hC:C.calm=true)(hwh:∀ f,C.whole f=true)(h0:Has C 74 af74)(hM:∀ n,n=1∨n=2∨n=3∨n=4→MulC (Ev.call C n0) n):RepC (Ev.call C (n0+1)):=by
 intro n hn H b hb
 obtain ⟨w,hp,tc,G,c1,⟨rfl,rfl,h3⟩,k1,k2,c3,c4⟩:=zcw (first:=[]) (captured:=[]) (args:=[.sl b 0 1 1,.int .i64 n]) (H:=H) hC hwh h0 (le' rfl) (yjt C hC (Ev.call C n0) n hn (hM n hn) H b hb)
 have hG:G=hp:=c3 (.inl (by simp[refs]))
 rw[hG,h3] at c1
 exact c1
def WeakR (call:CallF):Prop:=∀ (H:List AB) (v:AV) (r:Rd.Road),roadOf H v=some r→call (.fn (.func 112) [] []) [v] H=some (.ret (.tup [.int .i64 (if Rd.errR r true=0 then Rd.weakR r else 0),.int .i64 (Rd.errR r true)]),H,[])
def stopL (e:Int):AV:=.iface 131 (.agg [.int .i64 e])
def LOpenQ (l:Ld.Lo)(is:Bool)(H:List AB)(x:CRes)(hp:List AB)(tc:List Nat):Prop:=
 tc=[]∧((Ld.valid l=false∧x=.pan (stopL 1))∨(Ld.valid l=true∧is=false∧x=.pan (stopL 2))∨(Ld.valid l=true∧is=true∧∃ qb mb,x=.ret (.ptr qb 0)∧Kp [] H hp∧Qx l qb mb hp∧H.length≤qb∧H.length≤mb))
def lheadOk (l:Ld.Lo):Bool:=decide (Rd.errR l.road true=0)&&decide (l.road.events.length≤2)&&decide (1≤l.days∧l.days≤4)&&decide (l.carts.length≤4)
theorem yhn (l:Ld.Lo):Ld.valid l=(lheadOk l&&l.carts.all (Ld.okCart l)):=rfl
theorem yfh (C:Cfg)(hC:C.calm=true)(call:CallF)(hM:LmustC call)(hW:LwithinC call)(hWk:WeakR call)(l:Ld.Lo)(hbig:l.road.parts.length≤40∧l.road.events.length≤50∧l.carts.length≤1000)(hD:l.days≤4→1≤l.days→LisDayC call l)(H:List AB)(F:AV)(is:Bool)(hF:Ld.valid l=true→∀ G qb mb,Kp [] H G→Qx l qb mb G→call F [.ptr qb 0] G=some (.ret (.bool is),G,[])):
  Wa C call H af50 [.agg (loadCs l),F]
   (Fin C H.length af50 (LOpenQ l is H)):=by
 have hmt:=hM.t
 have hmf:=hM.f
 obtain ⟨hb1,hb2,hb3⟩:=hbig
 have hwk:=fun G=>hWk G (.agg (roadCs l.road)) l.road (zit G l.road hb1 hb2)
 have hw1:=fun H=>hW H l.days 1 4
 have hv:=yhn l
 unfold lheadOk at hv
 have HH:=hideP (And.intro hF (And.intro hD (And.intro hW hb3)))
 clear hF hD hW hM hWk hb1 hb2
 generalize Rd.errR l.road true=er at *
 generalize Rd.weakR l.road=wk at *
 generalize hwz:(if er=0 then wk else 0)=wz at *
 clear hwz
 unfold Wa af50 Zq Zu Zm Zl Zo Zs Zh Zc Za Zb Zf Zg Zx Zj Zt Zn Zi Zy
 simp only[zipI,loadCs,roadCs] at *
 by_cases h1:er=0
 ·by_cases h2:l.road.events.length≤2
  ·have h2':(l.road.events.length:Int)≤2:=by omega
   by_cases h3:1≤l.days∧l.days≤4
   ·rw[decide_eq_true h3] at hw1
    by_cases h4:l.carts.length≤4
    ·have h4':(l.carts.length:Int)≤4:=by omega
     rw[decide_eq_true h1,decide_eq_true h2,decide_eq_true h3,decide_eq_true h4] at hv
     simp only[Bool.true_and] at hv
     have HV:=hideP hv
     subst h1
     clear hv h2
     refine gD ?_
     clear hw1 hwk
     have hQ0:Qx l (H.length+2) (H.length+1) (H++[.cells [.vs 7 (l.road.parts.map ptE),.vs 7 (l.road.events.map evE),.int .i64 l.days,.vs 2 (l.carts.map cE)],.map [],.cells [.vs 7 (l.road.parts.map ptE),.vs 7 (l.road.events.map evE),.int .i64 l.days,.vs 2 (l.carts.map cE),.map (H.length+1)]]):=
      ⟨by omega,by simp[loadCs],[],by simp,fun p hp=>by cases hp⟩
     with_reducible refine zan hC l.carts.length (by unfold fuelL;omega) (fun i st=>∃ hp,Kp [] H hp∧Qx l (H.length+2) (H.length+1) hp∧(∀ j c,j<i→l.carts[j]?=some c→Ld.okCart l c=true)∧st={ tm:=tmA 64 [(44,.int .i64 i),(43,.int .i64 l.carts.length),(42,.vs 2 (l.carts.map cE)),(7,.ptr (H.length+2) 0),(1,F)],df:=[],hp:=hp,tc:=[] }) ?_ ?_ ?_
     ·refine ⟨_,Kp.app _ _,hQ0,by simp,?_⟩
      exact invP
     ·clear hQ0
      rintro i st hi ⟨hp,hK,hQ,hok,rfl⟩
      obtain ⟨hF,hD,hW,_⟩:=HH.out
      have hgp:l.carts[i]?=some l.carts[i]:=List.getElem?_eq_getElem hi
      have hmem:=List.getElem_mem hi
      generalize l.carts[i]=c at hgp hmem
      have hgp':=ge_of hgp
      have e5:(i:Int)<l.carts.length:=by omega
      have hwi:IntKind.i64.wrap ((i:Int)+1)=(i:Int)+1:=zaf (by omega) (by omega)
      have hwl:=fun K=>hW K c.load 0 60
      have hdy:=hD h3.2 h3.1 (hp++[.cells [.int .i64 c.load,.int .i64 c.due]]) (H.length+2) (H.length+1) (hQ.app _) c.due
      have hbad:Ld.okCart l c=false→Ld.valid l=false:=fun h=>by
       rw[HV.out,Bool.eq_false_iff]
       intro ha
       have:=List.all_eq_true.1 ha c hmem
       rw[h] at this;cases this
      have hokc:Ld.okCart l c=(decide (0≤c.load∧c.load≤60)&&Ld.isDay l c.due):=rfl
      have hlen:=hK.len
      have HB:=hideP (And.intro hbad (And.intro hok (And.intro hK (And.intro hQ (And.intro hokc hgp)))))
      clear hF hD hW hbad hok hK hQ hokc hmem HH HV h3 hgp
      by_cases hl:0≤c.load∧c.load≤60
      ·rw[decide_eq_true hl] at hwl
       cases hd:Ld.isDay l c.due with
       |true=>
        rw[hd] at hdy
        have HD:=hideP hd
        clear hd
        refine gX ?_
        obtain ⟨hbad,hok,hK,hQ,hokc,hgp⟩:=HB.out
        refine ⟨hp++[.cells [.int .i64 c.load,.int .i64 c.due]],hK.trans (Kp.app _ _),hQ.app _,fun j c' hj hc'=>?_,?_⟩
        ·by_cases hji:j=i
         ·subst hji
          rw[hgp] at hc'
          obtain rfl:=Option.some.inj hc'
          rw[hokc,decide_eq_true hl,HD.out];rfl
         ·exact hok j c' (by omega) hc'
        ·refine st_is ?_ rfl rfl rfl
         simp[zag,zal]
       |false=>
        rw[hd] at hdy
        have HD:=hideP hd
        clear hd
        refine gX ?_
        obtain ⟨hbad,hok,hK,hQ,hokc,hgp⟩:=HB.out
        exact zbw rfl (by simp;omega) ⟨rfl,.inl ⟨hbad (by rw[hokc,HD.out];simp),rfl⟩⟩
      ·rw[decide_eq_false hl] at hwl
       clear hdy
       refine gX ?_
       obtain ⟨hbad,hok,hK,hQ,hokc,hgp⟩:=HB.out
       exact zbw rfl (by simp;omega) ⟨rfl,.inl ⟨hbad (by rw[hokc,decide_eq_false hl];rfl),rfl⟩⟩
     ·clear hQ0
      rintro st ⟨hp,hK,hQ,hok,rfl⟩
      obtain ⟨hF,hD,hW,_⟩:=HH.out
      have hval:Ld.valid l=true:=by
       rw[HV.out,List.all_eq_true]
       intro c hc
       obtain ⟨j,hj⟩:=List.mem_iff_getElem?.1 hc
       exact hok j c (List.getElem?_eq_some_iff.1 hj).1 hj
      have hcl:=hF hval hp (H.length+2) (H.length+1) hK hQ
      have hlen:=hK.len
      have HB:=hideP (And.intro hval (And.intro hK hQ))
      clear hF hD hW hval hK hQ hok HH HV h3
      cases is with
      |true=>
       refine gD ?_
       obtain ⟨hval,hK,hQ⟩:=HB.out
       exact zmg (v:=.ptr (H.length+2) 0) (.inl rfl) rfl (by simp only;omega) (by simp only[resL,resOf,zaa];simp[*,resV]) ⟨rfl,.inr (.inr ⟨hval,rfl,_,_,rfl,hK,hQ,by omega,by omega⟩)⟩
      |false=>
       refine gD ?_
       exact zbw rfl (by simp only;omega) ⟨rfl,.inr (.inl ⟨HB.out.1,rfl,rfl⟩)⟩
    ·have h4':¬ (l.carts.length:Int)≤4:=by omega
     rw[decide_eq_false h4,Bool.and_false,Bool.false_and] at hv
     have HV:=hideP hv
     subst h1
     clear hv h2
     refine gD ?_
     exact zbw rfl (by simp) ⟨rfl,.inl ⟨HV.out,rfl⟩⟩
   ·rw[decide_eq_false h3] at hw1
    rw[decide_eq_false h3,Bool.and_false,Bool.false_and,Bool.false_and] at hv
    have HV:=hideP hv
    subst h1
    clear hv h2
    refine gD ?_
    exact zbw rfl (by simp) ⟨rfl,.inl ⟨HV.out,rfl⟩⟩
  ·have h2':¬ (l.road.events.length:Int)≤2:=by omega
   rw[decide_eq_false h2,Bool.and_false,Bool.false_and,Bool.false_and,Bool.false_and] at hv
   have HV:=hideP hv
   subst h1
   clear hv
   refine gD ?_
   exact zbw rfl (by simp) ⟨rfl,.inl ⟨HV.out,rfl⟩⟩
 ·have h1':(er==0)=false:=beq_false_of_ne h1
  rw[decide_eq_false h1,Bool.false_and,Bool.false_and,Bool.false_and,Bool.false_and] at hv
  have HV:=hideP hv
  clear hv
  refine gD ?_
  exact zbw rfl (by simp) ⟨rfl,.inl ⟨HV.out,rfl⟩⟩
def LOpenC (call call0:CallF)(l:Ld.Lo):Prop:=∀ (H:List AB) (F:AV) (is:Bool),(Ld.valid l=true→∀ G qb mb,Kp [] H G→Qx l qb mb G→call0 F [.ptr qb 0] G=some (.ret (.bool is),G,[])) →
 (∃ e,(Ld.valid l=false∧e=1∨Ld.valid l=true∧is=false∧e=2)∧call (.fn (.func 50) [] []) [.agg (loadCs l),F] H=some (.pan (stopL e),H,[])) ∨
 (Ld.valid l=true∧is=true∧∃ H' qb mb,call (.fn (.func 50) [] []) [.agg (loadCs l),F] H=some (.ret (.ptr qb 0),H',[])∧Kp [] H H'∧Qx l qb mb H'∧H.length≤qb∧H.length≤mb)
theorem yfi {C:Cfg}{n0:Nat}(hC:C.calm=true)(h0:Has C 50 af50)(hM:LmustC (Ev.call C n0))(hW:LwithinC (Ev.call C n0))(hWk:WeakR (Ev.call C n0)){l:Ld.Lo}(hbig:l.road.parts.length≤40∧l.road.events.length≤50∧l.carts.length≤1000)(hD:l.days≤4→1≤l.days→LisDayC (Ev.call C n0) l):LOpenC (Ev.call C (n0+1)) (Ev.call C n0) l:=by
 intro H F is hF
 obtain ⟨x,hp,tc,H',c1,⟨rfl,c2⟩,c5,c6,c7⟩:=zdl (n:=n0) (first:=[]) (captured:=[]) (args:=[.agg (loadCs l),F]) (H:=H) hC h0 (le' rfl) (yfh C hC _ hM hW hWk l hbig hD H F is hF)
 rcases c2 with ⟨h1,rfl⟩|⟨h1,h2,rfl⟩|⟨h1,h2,qb,mb,rfl,h3,h4,h5,h6⟩
 ·exact .inl ⟨1,.inl ⟨h1,rfl⟩,by rw[c7 rfl rfl] at c1;exact c1⟩
 ·exact .inl ⟨2,.inr ⟨h1,h2,rfl⟩,by rw[c7 rfl rfl] at c1;exact c1⟩
 ·have he:=lft_eq (v:=.ptr qb 0) c5 h3 c6 (.inl (by simp[refs]))
  subst he
  exact .inr ⟨h1,h2,H',qb,mb,c1,h3,h4,h5,h6⟩
def IsFnL (call:CallF)(l:Ld.Lo)(F:AV)(is:Bool)(H:List AB):Prop:=Ld.valid l=true→∀ G qb mb,Kp [] H G→Qx l qb mb G→call F [.ptr qb 0] G=some (.ret (.bool is),G,[])
def errL (l:Ld.Lo)(is:Bool):Int:=if Ld.valid l=true then (if is=true then 0 else 2) else 1
theorem ybn {l:Ld.Lo}{is:Bool}{e:Int}(h:Ld.valid l=false∧e=1∨Ld.valid l=true∧is=false∧e=2):errL l is=e∧(Ld.valid l&&is)=false:=by
 unfold errL
 rcases h with ⟨h,rfl⟩|⟨h1,h2,rfl⟩
 ·rw[h];exact ⟨rfl,rfl⟩
 ·rw[h1,h2];exact ⟨rfl,rfl⟩
def checkRV (l : Ld.Lo) (p : List Int) : AV := if (Ld.valid l && Ld.isPlan l p) = true then (match Ld.brokenR l p with
 |none=>.tup [.int .i64 0,.int .i64 0,.int .i64 4]
 |some (i,r)=>.tup [.int .i64 i,.int .i64 r,.int .i64 0]) else .tup [.int .i64 0,.int .i64 0,.int .i64 (errL l (Ld.isPlan l p))]
theorem yfx (C:Cfg)(call call0:CallF)(l:Ld.Lo)(hdf:C.dfk 48=some (131,true))(hO:LOpenC call call0 l)(hB:Ld.valid l=true→BrokenX call l)(hM:LmustC call)(p:List Int)
  (hF:IsFnL call0 l (.fn (.func 51) [] [.ptr 1 0]) (Ld.isPlan l p) [.cells (loadCs l),.cells [.vs 1 (ints p)],.cells [.int .i64 0]]) (hpl:Ld.valid l=true→Ld.isPlan l p=true→p.length≤l.carts.length):
  Wa C call [] af14 [.agg (loadCs l),.vs 1 (ints p)]
   (Fin C ([]:List AB).length af14 (Ans (checkRV l p))):=by
 have hmt:=hM.t
 have hmf:=hM.f
 have ho:=hO [.cells (loadCs l),.cells [.vs 1 (ints p)],.cells [.int .i64 0]] _ _ hF
 unfold checkRV
 unfold Wa af14 Zq Zm Zl Zo Zs Zc Zb Zg Zx Zt Zn Zi
 rcases ho with ⟨e,h1,h2⟩|⟨h1,h2,H',qb,mb,h3,h4,h5,h6,h7⟩
 ·obtain ⟨h8,h9⟩:=ybn h1
  rw[h9,if_neg (by decide),h8]
  clear hO hB hF hpl h1 h8 h9 hM
  unfold stopL at h2
  simp only[zipI,loadCs] at *
  refine gD ?_
  refine zbl (v:=.tup [.int .i64 0,.int .i64 0,.int .i64 e]) hdf rfl (by simp only;rfl) (by simp only[resL,resOf,zaa];simp[resV,pickC]) ⟨by simp,by simp⟩
 ·rw[h1,h2,Bool.true_and,if_pos rfl]
  obtain ⟨H2,tc2,c1,c2,c3,c4⟩:=hB h1 H' qb mb h5 p (.vs 1 (ints p)) (hpl h1 h2) .vs
  have e1:H'[1]?=some (.cells [.vs 1 (ints p)]):=h4.at rfl (by simp)
  have e2:H2[2]?=some (.cells [.int .i64 0]):=c3.at (h4.at rfl (by simp)) fun h=>by have:=c2 _ h;simp at h7;omega
  obtain ⟨a0,a1,a2,a3,a4,a5⟩:=bk' e1
  obtain ⟨b0,b1,b2,b3,b4,b5⟩:=bk' e2
  have hnum:∀ i r,Ld.brokenR l p=some (i,r)→r=1∨r=2:=fun i r h=>ydy _ _ i r h
  unfold brkV at c1
  clear hO hB hF hpl h1 h2 h4 h5 h6 h7 hM c2 c3 c4 e1
  simp only[zipI,loadCs] at *
  cases hb:Ld.brokenR l p with
  |none=>
   rw[hb] at c1
   simp only at c1 ⊢
   refine gD ?_
   refine zbl (v:=.tup [.int .i64 0,.int .i64 0,.int .i64 4]) hdf rfl (by simp only;exact e2) (by simp only[resL,resOf,zaa];simp[resV,pickC,List.getElem?_set_self (get_lt e2)]) ⟨by simp,by simp⟩
  |some x=>
   obtain ⟨i,r⟩:=x
   rw[hb] at c1
   simp only at c1 ⊢
   have hr:=hnum i r hb
   clear hnum hb
   rcases hr with rfl|rfl
   ·(refine gA ?_)
    refine zdk (v:=.tup [.int .i64 i,.int .i64 1,.int .i64 0]) (.inl rfl) hdf rfl (by simp) (by simp only[resL,resOf,zaa];simp[resV,pickC,b0]) ⟨rfl,by simp⟩
   ·(refine gA ?_)
    refine zdk (v:=.tup [.int .i64 i,.int .i64 2,.int .i64 0]) (.inl rfl) hdf rfl (by simp) (by simp only[resL,resOf,zaa];simp[resV,pickC,b0]) ⟨rfl,by simp⟩
def PlanQ (l:Ld.Lo)(x:CRes)(hp:List AB)(tc:List Nat):Prop:=tc=[]∧∃ pv,x=.ret (.tup [pv,.int .i64 (if Ld.valid l=true then (Ld.planR l).2 else 0),.int .i64 (errL l true)])∧PlE (fun _=>True) hp (if Ld.valid l=true then (Ld.planR l).1 else []) pv
theorem yhc (C:Cfg)(call call0 call1:CallF)(l:Ld.Lo)(hdf:C.dfk 58=some (131,true))(hO:LOpenC call call0 l)(hP:PlansC call)(hMo:Ld.valid l=true→MostLC call call1 l)(hMe:Ld.valid l=true→∀ qb mb b4 x4,MeasC call1 l qb mb b4 x4 (.fn (.func 62) [.ptr qb 0] []) (Ld.carries l))(hCl:ClonePC call)(hbd:Ld.valid l=true→l.carts.length≤4)
  (hF:IsFnL call0 l (.fn (.func 59) [] []) true [.cells (loadCs l),.cells [.int .i64 0]]):
  Wa C call [] af16 [.agg (loadCs l)]
   (Fin C ([]:List AB).length af16 (PlanQ l)):=by
 have ho:=hO [.cells (loadCs l),.cells [.int .i64 0]] _ _ hF
 unfold PlanQ
 unfold Wa af16 Zq Zm Zo Zs Zc Zg Zx Zt Zn Zi
 rcases ho with ⟨e,h1,h2⟩|⟨h1,_,H',qb,mb,h3,h4,h5,h6,h7⟩
 ·obtain ⟨h8,h9⟩:=ybn h1
  rw[Bool.and_true] at h9
  rw[h9,if_neg (by decide),if_neg (by decide),h8]
  clear hO hMo hMe hF h1 h8 h9 hP hCl hbd
  unfold stopL at h2
  simp only[zipI,loadCs] at *
  refine gD ?_
  refine zbl (v:=.tup [.nils,.int .i64 0,.int .i64 e]) hdf rfl (by simp only;rfl) (by simp only[resL,resOf,zaa];simp[resV,pickC]) ⟨by simp,_,rfl,.none rfl⟩
 ·have herr:errL l true=0:=by unfold errL;rw[h1];rfl
  rw[h1,if_pos rfl,if_pos rfl,herr]
  have hP1:=hP H' qb
  have hQ2:Qx l qb mb (H'++[.cells [.ptr qb 0]]):=h5.app _
  have hql:=h5.ql
  have hml:=h5.ml
  obtain ⟨H2,tc2,q,n,qv,c1,c2,c3,c4,c5,c6,c7⟩:=hMo h1 (H'++[.cells [.ptr qb 0]]) qb mb qb H'.length _ _ _ (hMe h1 qb mb qb _) hQ2 hQ2.q h5.ne (by simp) ⟨by omega,by omega⟩
  have e2:H2[1]?=some (.cells [.int .i64 0]):=c3.at (by rw[List.getElem?_append_left (by have:=h4.len;simp at this;omega)];exact h4.at rfl (by simp)) fun h=>by have:=c2 _ h;simp at h7;omega
  have hpr:Ld.planR l=(q,n):=by unfold Ld.planR;rw[c5];rfl
  rw[hpr]
  have hqm:q∈Ld.rights l:=by
   obtain ⟨A,p,B,e,e2,_⟩:=Ld.mostL_none (Ld.carries l) (List.ne_nil_of_mem (Ld.stay_right l))
   rw[c5] at e2
   obtain ⟨rfl,_⟩:=Prod.mk.inj (Option.some.inj e2)
   rw[e];simp
  have hq4:q.length≤4:=by
   have:=(Ld.rights_plan hqm).1
   unfold Ld.isPlan at this
   simp only[Bool.and_eq_true,decide_eq_true_eq] at this
   have:=hbd h1
   omega
  obtain ⟨b0,b1,b2,b3,b4,b5⟩:=bk' e2
  have hcl1:=hCl.1 H2
  have hcl2:=fun b h=>hCl.2 H2 q b h (by omega)
  have hsh:(qv=.nils∧q=[])∨∃ b,qv=.sl b 0 q.length 1∧q≠[]∧H2[b]?=some (.cells (ints q)):=by
   cases c6 with
   |none h=>exact .inl ⟨rfl,h⟩
   |some b h0 _ h=>exact .inr ⟨b,rfl,h0,h⟩
  clear hO hMo hMe hF h1 h4 h5 h6 h7 hP hCl hbd c2 c3 c4 c5 c6 c7 hQ2 hql hml herr hpr hqm hq4
  simp only[zipI,loadCs] at *
  rcases hsh with ⟨rfl,rfl⟩|⟨b,rfl,hq0,hq1⟩
  ·clear hcl2
   refine gA ?_
   refine zdk (v:=.tup [.nils,.int .i64 n,.int .i64 0]) (.inl rfl) hdf rfl (by simp) (by simp only[resL,resOf,zaa];simp[resV,pickC,b0]) ⟨by simp,_,rfl,.none rfl⟩
  ·have hc:=hcl2 b hq0 hq1
   have HH:=hideP hq0
   clear hcl1 hcl2 hq0 hq1
   refine gA ?_
   refine zdk (v:=.tup [.sl (H2.length+1) 0 q.length 1,.int .i64 n,.int .i64 0]) (.inl rfl) hdf rfl (by simp) (by simp only[resL,resOf,zaa];simp[resV,pickC,b0]) ⟨by simp,_,rfl,.some _ HH.out trivial ?_⟩
   show (H2.set 1 _++[.dead,.cells (ints q)])[H2.length+1]?=_
   rw[List.getElem?_append_right (by simp)]
   simp
def allRV (l:Ld.Lo):AV:=if Ld.valid l=true then (match Ld.allR l with|none=>.tup [.int .i64 0,.int .i64 4]|some n=>.tup [.int .i64 n,.int .i64 0]) else .tup [.int .i64 0,.int .i64 (errL l true)]
theorem yjq (C:Cfg)(call call0 call1:CallF)(l:Ld.Lo)(hdf:C.dfk 66=some (131,true))(hO:LOpenC call call0 l)(hP:PlansC call)(hMo:Ld.valid l=true→MostLC call call1 l)(hMe:Ld.valid l=true→∀ qb mb b4,MeasC call1 l qb mb b4 (.cells [.ptr qb 0]) (.fn (.func 67) [] [.ptr b4 0]) (Ld.soon l))(hM:LmustC call)(hbd:Ld.valid l=true→1≤l.days∧l.days≤4)
  (hF:IsFnL call0 l (.fn (.func 59) [] []) true [.cells (loadCs l),.cells [.int .i64 0]]):
  Wa C call [] af18 [.agg (loadCs l)]
   (Fin C ([]:List AB).length af18 (Ans (allRV l))):=by
 have hmt:=hM.t
 have hmf:=hM.f
 have ho:=hO [.cells (loadCs l),.cells [.int .i64 0]] _ _ hF
 unfold allRV
 unfold Wa af18 Zq Zm Zl Zo Zs Zc Za Zb Zf Zg Zx Zt Zn Zi
 rcases ho with ⟨e,h1,h2⟩|⟨h1,_,H',qb,mb,h3,h4,h5,h6,h7⟩
 ·obtain ⟨h8,h9⟩:=ybn h1
  rw[Bool.and_true] at h9
  rw[h9,if_neg (by decide),h8]
  clear hO hMo hMe hF h1 h8 h9 hP hbd hM
  unfold stopL at h2
  simp only[zipI,loadCs] at *
  refine gD ?_
  refine zbl (v:=.tup [.int .i64 0,.int .i64 e]) hdf rfl (by simp only;rfl) (by simp only[resL,resOf,zaa];simp[resV,pickC]) ⟨by simp,by simp⟩
 ·rw[h1,if_pos rfl]
  have hP1:=hP (H'++[.cells [.ptr qb 0]]) qb
  simp only[List.append_assoc,List.cons_append,List.nil_append,List.length_append,List.length_cons,List.length_nil,Nat.zero_add] at hP1
  have hQ2:Qx l qb mb (H'++[.cells [.ptr qb 0],.cells [.ptr qb 0]]):=h5.app _
  have hql:=h5.ql
  have hml:=h5.ml
  obtain ⟨H2,tc2,q,n,qv,c1,c2,c3,c4,c5,c6,c7⟩:=hMo h1 (H'++[.cells [.ptr qb 0],.cells [.ptr qb 0]]) qb mb H'.length (H'.length+1) _ _ _ (hMe h1 qb mb H'.length) hQ2 (by simp) (by omega) (by simp) ⟨by omega,by omega⟩
  have hl2:2≤H'.length:=by have:=h4.len;simpa using this
  have e2:H2[1]?=some (.cells [.int .i64 0]):=c3.at (by rw[List.getElem?_append_left (by omega)];exact h4.at rfl (by simp)) fun h=>by have:=c2 _ h;simp at h7;omega
  have e3:H2[H'.length]?=some (.cells [.ptr qb 0]):=c3.at (by simp) fun h=>by have:=c2 _ h;omega
  have har:Ld.allR l=if 0≤n then some (l.days - n) else none:=by unfold Ld.allR;rw[c5];rfl
  obtain ⟨hd0,hd1⟩:=hbd h1
  have hn:n≤l.days∧-1≤n∨n < -1:=by
   obtain ⟨A,p,B,e,e2,_⟩:=Ld.mostL_none (Ld.soon l) (List.ne_nil_of_mem (Ld.stay_right l))
   rw[c5] at e2
   obtain ⟨rfl,rfl⟩:=Prod.mk.inj (Option.some.inj e2)
   unfold Ld.soon
   split<;>omega
  obtain ⟨b0,b1,b2,b3,b4,b5⟩:=bk' e2
  obtain ⟨f0,f1,f2,f3,f4,f5⟩:=bk' e3
  obtain ⟨k0,k1,k2,k3,k4,k5⟩:=bk' c4.q
  rw[har]
  have hisl:=c6.isSl
  clear hO hMo hMe hF h1 h4 h5 h6 h7 hP hbd c2 c3 c4 c5 c6 c7 hQ2 hql hml har hM
  simp only[zipI,loadCs,List.cons_append,List.nil_append] at *
  by_cases h0:0≤n
  ·rw[if_pos h0]
   dsimp only
   have hw:IntKind.i64.wrap (l.days - n)=l.days - n:=zaf (by omega) (by omega)
   clear hn hd0 hd1
   cases hisl
   all_goals
    refine gA ?_
    refine zdk (v:=.tup [.int .i64 (l.days - n),.int .i64 0]) (.inl rfl) hdf rfl (by simp) (by simp only[resL,resOf,zaa];simp[resV,pickC,b0]) ⟨rfl,by simp⟩
  ·rw[if_neg h0]
   dsimp only
   have h0':(n≥0)=False:=by simp;omega
   clear hn hd0 hd1
   cases hisl
   all_goals
    refine gD ?_
    refine zbl (v:=.tup [.int .i64 0,.int .i64 4]) hdf rfl (by simp only;exact e2) (by simp only[resL,resOf,zaa];simp[resV,pickC,List.getElem?_set_self (get_lt e2)]) ⟨by simp,by simp⟩
end Ro
end Ev
namespace Ld
open Rd (Evt Tr restE passE addR All Tru endR sunk rested Fine)
theorem only_len (l:Lo)(i:Nat)(d:Int):(only l i d).length=l.carts.length:=by simp[only]
theorem ybq (l:Lo){i j:Nat}(hj:j<l.carts.length)(d:Int):(only l i d).getD j 0=if j=i then d else -1:=by
 unfold only
 by_cases h:j=i
 ·subst h
  rw[if_pos rfl,yio _ (by simpa using hj)]
 ·rw[if_neg h,yip _ h]
  simp[List.getD_eq_getElem?_getD,hj]
theorem yey (l:Lo){i:Nat}(hi:i<l.carts.length){d:Int}(h0:0≤d)(h3:d<4):order (only l i d)=[i]:=by
 refine ycp (yce (only l i d)) (ybi _) (by simp) fun x=>?_
 rw[mem_order_iff,only_len,List.mem_singleton]
 constructor
 ·rintro ⟨h1,h2,h4⟩
  rw[ybq l h1] at h2
  by_cases h:x=i
  ·exact h
  ·rw[if_neg h] at h2;omega
 ·rintro rfl
  rw[ybq l hi,if_pos rfl]
  exact ⟨hi,h0,h3⟩
theorem yfp {r:Rd.Road}(d load:Int):Holds r [] d load↔Rd.sureR r d load=true:=by
 rw[Rd.sure_iff]
 unfold Holds
 refine forall_congr' fun ls=>forall_congr' fun _=>forall_congr' fun i=>forall_congr' fun _=>forall_congr' fun p=>forall_congr' fun h=>forall_congr' fun _=>?_
 rw[simD,Int.sub_zero]
 omega
theorem yet {l:Lo}(hv:Vl l){i:Nat}(hi:i<l.carts.length){d:Int}(h0:0≤d)(h3:d<4):right l (only l i d)=true↔d≤(l.carts.getD i default).due∧Rd.sureR l.road d (l.carts.getD i default).load=true:=by
 rw[ydf hv (only_len l i d),yey l hi h0 h3,← yfp]
 constructor
 ·intro H
  have:=H [] i [] rfl
  rwa [ybq l hi,if_pos rfl] at this
 ·intro H A j B e
  cases A with
  |nil=>
   obtain ⟨rfl,_⟩:=List.cons.inj e
   rw[ybq l hi,if_pos rfl]
   exact H
  |cons a A=>have:=congrArg List.length e;simp at this
end Ld
end Go.Proofs.YtfpepkbflnendaaGreat
