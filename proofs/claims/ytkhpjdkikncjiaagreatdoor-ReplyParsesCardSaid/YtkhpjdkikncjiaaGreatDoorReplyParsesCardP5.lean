/- Own texts for this claim: Lib, Pri, Ref6, R12, Q12, P12, Rep, Tape, Bas, Spl, Mrk, Mrk2, B64, Key, Q10, Uri, Tab, Http, Pct, Sgn, Pct2, Qry, Unl. -/
import Derived.Test.YtkhpjdkikncjiaaGreatDoorReplyParsesCardP3
import Derived.Test.YtkhpjdkikncjiaaGreatDoorReplyParsesCardP4
import Derived.Lib.Small
import Derived.Lib.Join
import Derived.Lib.ItoaNum
import Derived.Lib.IndexMore
import Derived.Lib.SplitLaws
set_option linter.all false
section
open Go Go.Sv Go.RowKit
namespace Go.Proofs
theorem lib_FormatBool {G:Nat→Option (List Cell)} (b:Bool):Pur Tryz.prog G 165 [.c (.bool b)] [.c (.str (Lib.formatBool b))]:=by
 refine Pur.of_below rfl ?_
 intro D ρ w vs h1 _ _ _
 obtain ⟨u,rfl,hu⟩:=h1.one
 have hu:u = .bool b:=hu
 subst hu
 refine (Tryz.strconv_FormatBool b w).mono ?_
 rintro e w' ⟨rfl,rfl⟩
 exact ⟨_,rfl,rfl,Below.refl _ _⟩
theorem lib_Join {G:Nat→Option (List Cell)} (xs:List (List UInt8)) (sep:List UInt8) (hN:xs.length≤140737488355328) (hlen:(Lib.join xs sep).length≤140737488355328) :
  Pur Tryz.prog G 167 [.c (.sl 1 xs.length (fun i j=>nthD [.str (xs.getD i [])] j)),.c (.str sep)] [.c (.str (Lib.join xs sep))]:=by
 refine Pur.of_below rfl ?_
 intro D ρ w vs h1 _ _ ha
 obtain ⟨u,v,rfl,hu,hv⟩:=h1.two
 have hv:v = .string ⟨sep.toArray⟩:=hv
 subst hv
 have hu:∃ a cap,u = .slice a xs.length cap∧xs.length≤cap∧cap≤maxLen∧((a=none∧cap=0)∨∃ b o,a=some ⟨b,o,none⟩∧∀ i,i<xs.length→∀ j,j<1→∃ u,D b (o+i*1+j)=some u∧Den D rho0 (nthD [.str (xs.getD i [])] j) u):=hu
 obtain ⟨a,cap,rfl,h2,h3,h4⟩:=hu
 by_cases h0:xs=[]
 ·subst h0
  refine (Tryz.strings_Join_none a cap _ w).mono ?_
  rintro e w' ⟨rfl,rfl⟩
  exact ⟨_,rfl,rfl,Below.refl _ _⟩
 ·have hpos:0<xs.length:=List.length_pos_iff.2 h0
  rcases h4 with ⟨rfl,rfl⟩ | ⟨b,o,rfl,h4⟩
  ·omega
  ·have hcells:∀ (j:Nat) x,(xs.map fun l=>(⟨l.toArray⟩:ByteArray))[j]?=some x→w.cell? ⟨b,o+j,none⟩=some (.string x):=by
    intro j x hx
    rw [List.getElem?_map,Option.map_eq_some_iff] at hx
    obtain ⟨l,hl,rfl⟩:=hx
    have hj:j<xs.length:=by
     rcases Nat.lt_or_ge j xs.length with h | h
     ·exact h
     ·rw [List.getElem?_eq_none h] at hl;cases hl
    obtain ⟨u,hu,hd⟩:=h4 j hj 0 oM
    have hd:u = .string ⟨(xs.getD j []).toArray⟩:=hd
    subst hd
    have:=ha _ _ _ hu
    rw [Nat.mul_one,Nat.add_zero] at this
    rw [this,List.getD_eq_getElem?_getD,hl]
    rfl
   have hmm:(xs.map fun l=>(⟨l.toArray⟩:ByteArray)).map (·.data.toList)=xs:=by
    rw [List.map_map]
    conv=>rhs;rw [← List.map_id xs]
    exact List.map_congr_left (fun l _=>by simp)
   have hb:b<w.heap.size:=by
    obtain ⟨u,hu,_⟩:=h4 0 hpos 0 oM
    exact heap_of_cell (ha _ _ _ hu)
   have:=Tryz.strings_Join b o cap (xs.map fun l=>(⟨l.toArray⟩:ByteArray)) ⟨sep.toArray⟩ w hcells hb (by simpa using hN) (by simpa using h2) (by rw [hmm];exact hlen)
   rw [hmm,List.length_map] at this
   refine this.mono ?_
   rintro e w' ⟨rfl,hbl⟩
   exact ⟨_,rfl,rfl,hbl⟩
theorem tabIs {P:Program} {G:Nat→Option (List Cell)} {D:Dat} {w:World} {g:Nat} {name:String} {k:IntKind} {zs:List Int} (hg:P.globalNamed name=some g) (hG:G g=some (zs.map fun z => .int k z)) (hne:zs≠[])
  (h1:GlobOk G D) (h2:GlobW G w) (h3:Agree D w):Lib.TabIs P w name k zs:=by
 obtain ⟨arr,e,fz,q1,q2⟩:=h2 g _ hG (by simpa using hne)
 unfold Lib.TabIs World.var?
 rw [hg]
 simp only [Option.bind_some,q1,Option.some.injEq]
 apply Array.ext_getElem?
 intro j
 rw [List.length_map] at q2
 rcases Nat.lt_or_ge j zs.length with hj | hj
 ·obtain ⟨u,hu,hd⟩:=h1 g _ hG j (.int k zs[j]) (by simp [hj])
  have hd:u = .int k zs[j]:=hd
  subst hd
  have:=h3 _ _ _ hu
  simp only [World.cell?,q1,Option.isSome_none,Bool.false_eq_true,if_false] at this
  rw [this]
  simp [hj]
 ·rw [Array.getElem?_eq_none oM,Array.getElem?_eq_none (by simpa using hj)]
theorem below_grow (w:World) (k:Nat) (os:Array Obj):Below w.heap.size w (Go.Sort.grow (w.drewN k) os):=by
 refine ⟨rfl,rfl,rfl,?_,?_⟩
 ·simp [Go.Sort.grow]
 ·intro b hb
  simp [Go.Sort.grow,Array.getElem?_append,hb]
theorem lib_Itoa {G:Nat→Option (List Cell)} (gp:Nat) (hg:Tryz.prog.globalNamed "internal/strconv.uint64pow10" = some gp) (hG:G gp=some (Lib.pow10Tab.map fun z => .int .u64 z)) (n:Int) (h0 : -9223372036854775808≤n) (h1:n≤9223372036854775807) :
  Pur Tryz.prog G 112 [.c (.int .i64 n)] [.c (.str (Lib.itoa n))]:=by
 refine Pur.of_below rfl ?_
 intro D ρ w vs hv k1 k2 k3
 obtain ⟨u,rfl,hu⟩:=hv.one
 have hu:u = .int .i64 n:=hu
 subst hu
 refine (Tryz.strconv_Itoa n h0 h1 w (tabIs hg hG dC k1 k2 k3)).mono ?_
 rintro e w' ⟨rfl,k,os,rfl⟩
 exact ⟨_,rfl,rfl,below_grow w k os⟩
end Go.Proofs
end
section
open Go Go.Sv
namespace Go.Proofs.Tw
attribute [local irreducible] Wp FinQ resV Ent Pur Go.Sv.Fn Sat0
set_option maxRecDepth 100000
variable {G:Nat→Option (List Cell)}
mutual
def printJ:JV→List UInt8
 | .mk k b n s ns ks=>if k==1 then [110,117,108,108] else if k==2 then Lib.formatBool b else if k==3 then Lib.itoa n else if k==4 then quotedT s else
  if k==6 then (123::Lib.join (partsJ k ns ks) [44])++[125] else (91::Lib.join (partsJ k ns ks) [44])++[93]
def partsJ:Int→List (List UInt8)→List JV→List (List UInt8)
 | _,_,[]=>[]
 | k,ns,x::r=>(if k==6 then quotedT (ns.headD [])++[58]++printJ x else printJ x)::partsJ k ns.tail r
end
def partAt (v:JV) (i:Nat):List UInt8:=if v.kind==6 then quotedT (v.names.getD i [])++[58]++printJ (v.kids.getD i .nil) else printJ (v.kids.getD i .nil)
def parts (v:JV) (k:Nat):List (List UInt8):=(List.range k).map (partAt v)
theorem partsJ_eq (k:Int):∀ (ks:List JV) (ns:List (List UInt8)),partsJ k ns ks=(List.range ks.length).map (fun i=>if k==6 then quotedT (ns.getD i [])++[58]++printJ (ks.getD i .nil) else printJ (ks.getD i .nil))
 | [],ns=>by rw [partsJ]; rfl
 | x::r,ns=>by
  rw [partsJ,partsJ_eq k r ns.tail,List.length_cons,List.range_succ_eq_map,List.map_cons,List.map_map]
  congr 1
  ·cases ns<;>rfl
  ·apply List.map_congr_left
   intro i _
   cases ns<;>simp [List.getD]
theorem printJ_eq (v:JV):printJ v=if v.kind==1 then [110,117,108,108] else if v.kind==2 then Lib.formatBool v.b else if v.kind==3 then Lib.itoa v.n else if v.kind==4 then quotedT v.s else
  if v.kind==6 then (123::Lib.join (parts v v.kids.length) [44])++[125] else (91::Lib.join (parts v v.kids.length) [44])++[93]:=by
 cases v;rw [printJ,partsJ_eq];rfl
theorem join_part {x:List UInt8} {xs:List (List UInt8)} (sep:List UInt8) (h:x∈xs):x.length≤(Lib.join xs sep).length:=by
 cases xs with
 | nil=>simp at h
 | cons y r =>
  rw [Lib.join_cons,List.length_append]
  rcases List.mem_cons.1 h with rfl | h
  ·omega
  ·have:x.length≤(Lib.joinTail sep r).length:=by
    unfold Lib.joinTail
    induction r with
    | nil=>simp at h
    | cons z t ih =>
     simp only [List.map_cons,List.flatten_cons,List.length_append]
     rcases List.mem_cons.1 h with rfl | h
     ·omega
     ·have:=ih (by simp [h]) h;omega
   omega
inductive Fit:JV→Prop
 | mk {v:JV} (h2:v.kids.length≤1000000000000) (h6:v.kind=6→v.kids.length≤v.names.length) (h0 : -4611686018427387904≤v.n) (h1:v.n≤4611686018427387904) (hp:(printJ v).length≤140737488355328) (h3:∀ x∈v.kids,Fit x):Fit v
def strsF (l:List (List UInt8)):Nat→Nat→Cell:=fun i _ => .str (l.getD i [])
theorem parts_succ (v:JV) (k:Nat):parts v (k+1)=parts v k++[partAt v k]:=by unfold parts;rw [List.range_succ,List.map_append];rfl
theorem strs_app {e:TypeId} {k:Nat} (l:List (List UInt8)) (x:List UInt8) (hk:k=l.length):BlkEqv (.row e 1 (k+1) (catF k (strsF l) (fun i j=>nthD [.str x] ((0+i)*1+j)))) (.row e 1 (k+1) (strsF (l++[x]))):=by
 refine BlkEqv.row_ext rfl fun i hi j hj => ?_
 subst hk
 unfold catF
 split
 ·rename_i h;simp only [strsF,List.getD,List.getElem?_append,h,if_true]
 ·obtain ⟨h1,rfl⟩:i=l.length∧j=0:=by omega
  subst h1
  rw [Nat.sub_self]
  simp only [strsF,List.getD,List.getElem?_append,Nat.lt_irrefl,if_false,Nat.sub_self]
  rfl
theorem parts_len (v:JV) (k:Nat):k=(parts v k).length:=by simp [parts]
theorem strs_sl {v:JV} {k m:Nat} (h:k=m):∀ i,i<k→∀ j,j<1→strsF (parts v k) (0+i) j=nthD [.str ((parts v m).getD i [])] j:=by
 intro i hi j hj
 obtain rfl:j=0:=by omega
 subst h
 rw [Nat.zero_add];rfl
def priInv (v:JV) (k:Nat):St:=⟨[(1,.v (.c (.ptr 0 0))),(3,.v (.c (.row 1 1 0 k))),(28,.v (.c (.sl 6 v.kids.length (kidC v.kids)))),(29,.v (.c (.int .i64 (v.kids.length:Int)))),(30,.v (.c (.int .i64 (k:Int))))],[(0,.box 30 (encJ v)),(1,.row 9 1 k (strsF (parts v k)))],16⟩
theorem prints_ok (gp:Nat) (hg:Tryz.prog.globalNamed "internal/strconv.uint64pow10" = some gp) (hG:G gp=some (Lib.pow10Tab.map fun z => .int .u64 z)) {v:JV} (hf:Fit v):Pur Tryz.prog G 118 [.agg (encJ v)] [.c (.str (printJ v))]:=by
 induction hf with
 | mk h2 h6 h0 h1 hp h3 ih =>
 rename_i v
 rw [printJ_eq] at hp ⊢
 refine zp Tryz.func118 ?_
 refine z0 [] [] ?_
 refine zc (v.kind==1) (fun h => ?_) (fun h => ?_)
 ·refine z0 [] [] ?_
  exact zS [.c (.str [110,117,108,108])] (by rw [if_pos h])
 rw [if_neg (by simp [h])] at hp
 have k1:=h
 refine z0 [] [] ?_
 refine zc (v.kind==2) (fun h => ?_) (fun h => ?_)
 ·refine z0 [(5,{cs:=[(2,pc (lib_FormatBool v.b))]})] [] ?_
  exact zS [.c (.str (Lib.formatBool v.b))] (by rw [if_neg (by simp [k1]),if_pos h])
 rw [if_neg (by simp [h])] at hp
 have k2:=h
 refine z0 [] [] ?_
 refine zc (v.kind==3) (fun h => ?_) (fun h => ?_)
 ·refine z0 [(7,{cs:=[(2,pc (lib_Itoa gp hg hG v.n oM oM))]})] [] ?_
  exact zS [.c (.str (Lib.itoa v.n))] (by rw [if_neg (by simp [k1]),if_neg (by simp [k2]),if_pos h])
 rw [if_neg (by simp [h])] at hp
 have k3:=h
 refine z0 [] [] ?_
 refine zc (v.kind==4) (fun h => ?_) (fun h => ?_)
 ·rw [if_pos h] at hp
  refine z0 [(9,{cs:=[(2,pc (quoted_ok v.s hp))]})] [] ?_
  exact zS [.c (.str (quotedT v.s))] (by rw [if_neg (by simp [k1]),if_neg (by simp [k2]),if_neg (by simp [k3]),if_pos h])
 rw [if_neg (by simp [h])] at hp
 have k4:=h
 refine z0 [] [] ?_
 refine Wp.loopK kR (priInv v) (fun k=>k≤v.kids.length) (fun k=>v.kids.length-k) 0 (Ent.trans (Ent.empT (t:=3) (sz:=1) (e:=9) (f:=strsF []) dC kR rfl) (Ent.of [(1,272)] kR kR kR trivial)) (Nat.zero_le _) ?_
 intro k L hk again
 refine z0 [] [] ?_
 refine zc (decide ((k:Int)<(v.kids.length:Int))) (fun h => ?_) (fun h => ?_)
 ·have hk':k<v.kids.length:=by simpa using h
  have hin:0≤(k:Int)∧(k:Int)<(v.kids.length:Int):=by omega
  have hm:v.kids.getD k .nil∈v.kids:=by simp [List.getD,hk']
  have hpart:(partAt v k).length+2≤140737488355328:=by
   have:=join_part [44] (x:=partAt v k) (xs:=parts v v.kids.length) (List.mem_map.2 ⟨k,by simpa using hk',rfl⟩)
   split at hp<;>simp only [List.length_append,List.length_cons,List.length_nil] at hp<;>omega
  refine zg [(13,{fm:=[(2,.agg (encJ (v.kids.getD k .nil)))]}),(14,{cs:=[(1,pc (ih _ hm))]})] [] [0≤(k:Int)∧(k:Int)<(v.kids.length:Int),EqvD (.agg [kidC v.kids k 0,kidC v.kids k 1,kidC v.kids k 2,kidC v.kids k 3,kidC v.kids k 4,kidC v.kids k 5]) (.agg (encJ (v.kids.getD k .nil)))] ⟨hin,kid_den hk'⟩ ?_
  refine zc (v.kind==6) (fun h => ?_) (fun h => ?_)
  ·have hp1:partAt v k=(quotedT (v.names.getD k [])++[58])++printJ (v.kids.getD k .nil):=by unfold partAt;rw [if_pos h]
   have hq:(quotedT (v.names.getD k [])).length≤140737488355328:=by rw [hp1] at hpart;simp only [List.length_append] at hpart;omega
   have hin2:0≤(k:Int)∧(k:Int)<(v.names.length:Int):=by have:=h6 (by simpa using h);omega
   have hb:BlkEqv (.row 9 1 (k+1) (catF k (strsF (parts v k)) (fun i j=>nthD [.str ((quotedT (v.names.getD k [])++[58])++printJ (v.kids.getD k .nil))] ((0+i)*1+j)))) (.row 9 1 (k+1) (strsF (parts v (k+1)))):=by
    rw [parts_succ,hp1];exact strs_app _ _ (parts_len v k)
   rw [hp1] at hpart
   simp only [List.length_append,List.length_cons,List.length_nil] at hpart
   refine zg [(16,{cs:=[(5,pc (quoted_ok (v.names.getD k []) hq))]}),(17,{bs:=[(3,.row 9 1 (k+1) (strsF (parts v (k+1))))]})] [] [0≤(k:Int)∧(k:Int)<(v.names.length:Int),(quotedT (v.names.getD k [])).length+1≤9223372036854775807,(quotedT (v.names.getD k [])++[58]).length+(printJ (v.kids.getD k .nil)).length≤9223372036854775807,(k+1)*16≤140737488355328,BlkEqv (.row 9 1 (k+1) (catF k (strsF (parts v k)) (fun i j=>nthD [.str ((quotedT (v.names.getD k [])++[58])++printJ (v.kids.getD k .nil))] ((0+i)*1+j)))) (.row 9 1 (k+1) (strsF (parts v (k+1)))),k≤k,1≤1,inR .i64 ((k:Int)+1)] ⟨hin2,by omega,by simp only [List.length_append,List.length_cons,List.length_nil];omega,by omega,hb,Nat.le_refl _,Nat.le_refl _,i6⟩ ?_
   exact za [(1,432)] (again _ (k+1) hk' (by show v.kids.length-(k+1)<v.kids.length-k;omega))
  ·have hp1:partAt v k=printJ (v.kids.getD k .nil):=by unfold partAt;rw [if_neg (by simp [h])]
   have hb:BlkEqv (.row 9 1 (k+1) (catF k (strsF (parts v k)) (fun i j=>nthD [.str (printJ (v.kids.getD k .nil))] ((0+i)*1+j)))) (.row 9 1 (k+1) (strsF (parts v (k+1)))):=by
    rw [parts_succ,hp1];exact strs_app _ _ (parts_len v k)
   refine zg [(17,{bs:=[(3,.row 9 1 (k+1) (strsF (parts v (k+1))))]})] [] [(k+1)*16≤140737488355328,BlkEqv (.row 9 1 (k+1) (catF k (strsF (parts v k)) (fun i j=>nthD [.str (printJ (v.kids.getD k .nil))] ((0+i)*1+j)))) (.row 9 1 (k+1) (strsF (parts v (k+1)))),k≤k,1≤1,inR .i64 ((k:Int)+1)] ⟨by omega,hb,Nat.le_refl _,Nat.le_refl _,i6⟩ ?_
   exact za [(1,272)] (again _ (k+1) hk' (by show v.kids.length-(k+1)<v.kids.length-k;omega))
 ·have hke:k=v.kids.length:=by simp at h;omega
  refine Wp.ent' kR (Ent.pubT (e:=9) (id:=1) (t:=3) (off:=0) (m:=k) (n:=k) (f:=strsF (parts v k)) (m':=(parts v v.kids.length).length) (f':=fun i j=>nthD [.str ((parts v v.kids.length).getD i [])] j) kR kR oM (by simp [parts,hke]) (strs_sl hke) rfl) ?_
  have hj:(Lib.join (parts v v.kids.length) [44]).length+2≤140737488355328:=by
   split at hp<;>simp only [List.length_append,List.length_cons,List.length_nil] at hp<;>omega
  have hj2:∀ c:UInt8,(c::Lib.join (parts v v.kids.length) [44]).length+1≤9223372036854775807:=fun c=>by simp only [List.length_cons];omega
  refine z0 [(19,{cs:=[(1,pc (lib_Join (parts v v.kids.length) [44] (by rw [← parts_len];omega) oM))]})] [] ?_
  refine zc (v.kind==6) (fun h => ?_) (fun h => ?_)
  ·refine zg [] [] [1+(Lib.join (parts v v.kids.length) [44]).length≤9223372036854775807,(123::Lib.join (parts v v.kids.length) [44]).length+1≤9223372036854775807] ⟨by omega,hj2 _⟩ ?_
   exact zS [.c (.str ((123::Lib.join (parts v v.kids.length) [44])++[125]))] (by rw [if_neg (by simp [k1]),if_neg (by simp [k2]),if_neg (by simp [k3]),if_neg (by simp [k4]),if_pos h])
  ·refine zg [] [] [1+(Lib.join (parts v v.kids.length) [44]).length≤9223372036854775807,(91::Lib.join (parts v v.kids.length) [44]).length+1≤9223372036854775807] ⟨by omega,hj2 _⟩ ?_
   exact zS [.c (.str ((91::Lib.join (parts v v.kids.length) [44])++[93]))] (by rw [if_neg (by simp [k1]),if_neg (by simp [k2]),if_neg (by simp [k3]),if_neg (by simp [k4]),if_neg (by simp [h])])
def printT (v:JV):List UInt8:=if mayJ v 0 then printJ v else []
theorem Print_ok (gp:Nat) (hg:Tryz.prog.globalNamed "internal/strconv.uint64pow10" = some gp) (hG:G gp=some (Lib.pow10Tab.map fun z => .int .u64 z)) {v:JV} (hs:Small v) (hf:mayJ v 0=true→Fit v):Pur Tryz.prog G 66 [.agg (encJ v)] [.c (.str (printT v))]:=by
 refine zp Tryz.func66 ?_
 refine z0 [(1,{cs:=[(1,pc (May_ok hs))]})] [] ?_
 refine zc (!(mayJ v 0)) (fun h => ?_) (fun h => ?_)
 ·refine z0 [] [] ?_
  exact zS [.c (.str [])] (by unfold printT;rw [if_neg (by simpa using h)])
 ·have hm:mayJ v 0=true:=by simpa using h
  refine z0 [(3,{cs:=[(1,pc (prints_ok gp hg hG (hf hm)))]})] [] ?_
  exact zS [.c (.str (printJ v))] (by unfold printT;rw [if_pos hm])
end Go.Proofs.Tw
end
section
open Go Go.Sv
namespace Go.Proofs.Tw
attribute [local irreducible] Wp FinQ resV Ent Pur Go.Sv.Fn Sat0
set_option maxRecDepth 100000
variable {G:Nat→Option (List Cell)}
def moreB (s:List UInt8) (i:Nat):Bool:=cond (cond (decide ((i:Int)≥(s.length:Int))) true (decide (((s.getD i 0).toNat:Int)<128))) true (decide (((s.getD i 0).toNat:Int)>191))
def moreT (s:List UInt8) (i:Nat):Int:=if moreB s i then -1 else ((s.getD i 0).toNat:Int)-128
def fB1 (c a:Int):Bool:=cond (cond (decide (c≥194)) (decide (c<224)) false) (decide (a≥0)) false
def fB2 (c a b:Int):Bool:=cond (cond (cond (decide (c≥224)) (decide (c<240)) false) (decide (a≥0)) false) (decide (b≥0)) false
def r3 (c a b:Int):Int:=(c-224)*4096+a*64+b
def fC2 (r:Int):Bool:=cond (decide (r≥2048)) (cond (decide (r<55296)) true (decide (r>57343))) false
def fB3 (c a b d:Int):Bool:=cond (cond (cond (cond (decide (c≥240)) (decide (c<245)) false) (decide (a≥0)) false) (decide (b≥0)) false) (decide (d≥0)) false
def r4 (c a b d:Int):Int:=(c-240)*262144+a*4096+b*64+d
def fC3 (r:Int):Bool:=cond (decide (r≥65536)) (decide (r≤1114111)) false
def firstT (c a b d:Int):Int×Int:=if c<128 then (c,1) else if fB1 c a then ((c-192)*64+a,2) else if fB2 c a b then (if fC2 (r3 c a b) then (r3 c a b,3) else (65533,1)) else if fB3 c a b d then (if fC3 (r4 c a b d) then (r4 c a b d,4) else (65533,1)) else (65533,1)
theorem get_mk (s:List UInt8) (k:Nat):(⟨s.toArray⟩:ByteArray).get! k=s.getD k 0:=by
 simp only [ByteArray.get!,List.getD]
 rw [getElem!_def]
 cases h:s[k]? with
 | none=>simp [h]; rfl
 | some x=>simp [h]
theorem more_cases (s:List UInt8) (k:Nat):let x:=(s.getD k 0).toNat
  (k<s.length∧x / 64=2∧moreT s k=((x%64:Nat):Int))∨((¬ k<s.length∨x / 64≠2)∧moreT s k = -1):=by
 intro x
 have hx:x<256:=UInt8.toNat_lt _
 unfold moreT moreB
 by_cases h1:k<s.length
 ·have e1:decide ((k:Int)≥(s.length:Int))=false:=by simp;omega
  rw [e1]
  by_cases h2:x / 64=2
  ·have e2:decide (((s.getD k 0).toNat:Int)<128)=false:=by simp only [decide_eq_false_iff_not];omega
   have e3:decide (((s.getD k 0).toNat:Int)>191)=false:=by simp only [decide_eq_false_iff_not];omega
   rw [e2,e3]
   refine .inl ⟨h1,h2,?_⟩
   show ((s.getD k 0).toNat:Int)-128=_
   omega
  ·refine .inr ⟨.inr h2,?_⟩
   rw [if_pos]
   by_cases h3:x<128
   ·have e2:decide (((s.getD k 0).toNat:Int)<128)=true:=by simp only [decide_eq_true_eq];omega
    rw [e2];rfl
   ·have e3:decide (((s.getD k 0).toNat:Int)>191)=true:=by simp only [decide_eq_true_eq];omega
    rw [e3];cases decide (((s.getD k 0).toNat:Int)<128)<;>rfl
 ·refine .inr ⟨.inl h1,?_⟩
  have e1:decide ((k:Int)≥(s.length:Int))=true:=by simp;omega
  rw [e1];rfl
theorem first_eq (s:List UInt8) (hs:s≠[]):firstT ((s.getD 0 0).toNat:Int) (moreT s 1) (moreT s 2) (moreT s 3)=(runeAt s 0,(runeW s 0:Int)):=by
 unfold runeAt runeW Utf8.decode
 have hsz:(⟨s.toArray⟩:ByteArray).size=s.length:=size_mk s
 simp only [get_mk,Nat.zero_add,hsz]
 have m1:=more_cases s 1
 have m2:=more_cases s 2
 have m3:=more_cases s 3
 generalize (s.getD 0 0)=c0,(s.getD 1 0)=c1,(s.getD 2 0)=c2,(s.getD 3 0)=c3 at *
 have hc:c0.toNat<256:=UInt8.toNat_lt _
 generalize c0.toNat=c,c1.toNat=x1,c2.toNat=x2,c3.toNat=x3 at *
 simp only at m1 m2 m3
 generalize moreT s 1=a,moreT s 2=b,moreT s 3=d at *
 have q1:(decide (1<s.length)&&x1 / 64==2)=decide (0≤a):=by
  rcases m1 with ⟨h1,h2,h3⟩ | ⟨h1,h3⟩
  ·rw [h3];simp [h1,h2];omega
  ·rcases h1 with h1 | h1<;>simp [h1,h3]
 have q2:(decide (2<s.length)&&x2 / 64==2)=decide (0≤b):=by
  rcases m2 with ⟨h1,h2,h3⟩ | ⟨h1,h3⟩
  ·rw [h3];simp [h1,h2];omega
  ·rcases h1 with h1 | h1<;>simp [h1,h3]
 have q3:(decide (3<s.length)&&x3 / 64==2)=decide (0≤d):=by
  rcases m3 with ⟨h1,h2,h3⟩ | ⟨h1,h3⟩
  ·rw [h3];simp [h1,h2];omega
  ·rcases h1 with h1 | h1<;>simp [h1,h3]
 rw [q1,q2,q3]
 have ha:0≤a→a=((x1%64:Nat):Int):=by intro h;rcases m1 with ⟨_,_,h3⟩ | ⟨_,h3⟩<;>omega
 have hb:0≤b→b=((x2%64:Nat):Int):=by intro h;rcases m2 with ⟨_,_,h3⟩ | ⟨_,h3⟩<;>omega
 have hd:0≤d→d=((x3%64:Nat):Int):=by intro h;rcases m3 with ⟨_,_,h3⟩ | ⟨_,h3⟩<;>omega
 clear m1 m2 m3 q1 q2 q3
 unfold firstT fB1 fB2 fB3 fC2 fC3 r3 r4 Utf8.valid Utf8.runeError
 by_cases p1:c<128
 ·rw [if_pos oM,if_pos p1];simp
 rw [if_neg oM,if_neg p1]
 have e1:∀ p q:Bool,cond p q false=(p&&q):=by intro p q;cases p<;>rfl
 have e2:∀ p q:Bool,cond p true q=(p||q):=by intro p q;cases p<;>rfl
 simp only [e1,e2,Bool.and_eq_true,Bool.or_eq_true,decide_eq_true_eq,beq_iff_eq,ge_iff_le,gt_iff_lt]
 repeat' split
 all_goals simp only [Prod.mk.injEq]
 all_goals (first | (exfalso;omega) | (constructor<;>omega) | skip)
theorem wrap64 {n:Int} (h1 : -9223372036854775808≤n) (h2:n≤9223372036854775807):IntKind.i64.wrap n=n:=by
 simp [IntKind.wrap,IntKind.signed,IntKind.bits]
 omega
theorem byte_lt (s:List UInt8) (i:Nat):((s.getD i 0).toNat:Int)<256:=by have:=UInt8.toNat_lt (s.getD i 0);omega
theorem more_ok (s:List UInt8) (i:Nat) (hi:i<10):Pur Tryz.prog G 254 [.c (.str s),.c (.int .i64 (i:Int))] [.c (.int .i64 (moreT s i))]:=by
 refine zp Tryz.func254 ?_
 have hb:=byte_lt s i
 have h0:0≤((s.getD i 0).toNat:Int):=Int.natCast_nonneg _
 refine zg [] [] [decide ((i:Int)≥(s.length:Int))=false→0≤(i:Int)∧(i:Int)<(s.length:Int),cond (decide ((i:Int)≥(s.length:Int))) true (decide (((s.getD i 0).toNat:Int)<128))=false→0≤(i:Int)∧(i:Int)<(s.length:Int)] ⟨fun h=>by simp at h;omega,fun h=>by cases h1:decide ((i:Int)≥(s.length:Int)) with | true=>rw [h1] at h;cases h | false=>simp at h1;omega⟩ ?_
 refine zc (moreB s i) (fun h => ?_) (fun h => ?_)
 ·refine z0 [] [] ?_
  exact zS [.c (.int .i64 (-1))] (by unfold moreT;rw [if_pos h])
 ·have hi2:(i:Int)<(s.length:Int):=by
   unfold moreB at h
   cases h1:decide ((i:Int)≥(s.length:Int)) with
   | true=>rw [h1] at h; cases h
   | false=>simp at h1; omega
  refine zg [] [] [0≤(i:Int)∧(i:Int)<(s.length:Int),inR .i64 (IntKind.i64.wrap ((s.getD i 0).toNat:Int)-128)] ⟨⟨by omega,hi2⟩,by rw [wrap64 oM oM];exact i6⟩ ?_
  exact zS [.c (.int .i64 (IntKind.i64.wrap ((s.getD i 0).toNat:Int)-128))] (by unfold moreT;rw [if_neg (by simp [h]),wrap64 oM oM])
theorem more_rng (s:List UInt8) (i:Nat) : -1≤moreT s i∧moreT s i≤63:=by
 have:=more_cases s i
 simp only at this
 rcases this with ⟨_,_,h⟩ | ⟨_,h⟩<;>omega
theorem first_gen (s:List UInt8) (hl:0<s.length) (c a b d:Int) (hc:c=((s.getD 0 0).toNat:Int)) (a1 : -1≤a) (a2:a≤63) (b1 : -1≤b) (b2:b≤63) (d1 : -1≤d) (d2:d≤63)
  (ca:Pur Tryz.prog G 254 [.c (.str s),.c (.int .i64 1)] [.c (.int .i64 a)]) (cb:Pur Tryz.prog G 254 [.c (.str s),.c (.int .i64 2)] [.c (.int .i64 b)])
  (cd:Pur Tryz.prog G 254 [.c (.str s),.c (.int .i64 3)] [.c (.int .i64 d)]) :
  Pur Tryz.prog G 217 [.c (.str s)] [.c (.int .i64 (firstT c a b d).1),.c (.int .i64 (firstT c a b d).2)]:=by
 have hb:=byte_lt s 0
 have h0:0≤((s.getD 0 0).toNat:Int):=Int.natCast_nonneg _
 have ew:IntKind.i64.wrap ((s.getD 0 0).toNat:Int)=c:=by rw [hc];exact wrap64 oM oM
 have c1:0≤c:=by omega
 have c2:c<256:=by omega
 refine zp Tryz.func217 ?_
 refine zg [(1,{fm:=[(2,.c (.int .i64 c))]}),(2,{cs:=[(1,pc ca),(3,pc cb),(5,pc cd)]})] [] [0≤(0:Int)∧(0:Int)<(s.length:Int),EqvI (.c (.int .i64 (IntKind.i64.wrap ((s.getD 0 0).toNat:Int)))) (.c (.int .i64 c)),EqvD (.c (.int .i64 (IntKind.i64.wrap ((s.getD 0 0).toNat:Int)))) (.c (.int .i64 c))] ⟨⟨by omega,by omega⟩,fun _ _=>trivial,by rw [ew];exact fun _ _ _ h=>h⟩ ?_
 unfold firstT
 refine zc (decide (c<128)) (fun h => ?_) (fun h => ?_)
 ·have p1:c<128:=by simpa using h
  refine z0 [] [] ?_
  exact zS [.c (.int .i64 c),.c (.int .i64 1)] (by rw [if_pos p1])
 have p1:¬ c<128:=by simpa using h
 refine z0 [] [] ?_
 refine zc (fB1 c a) (fun h => ?_) (fun h => ?_)
 ·refine zg [] [] [inR .i64 (c-192),inR .i64 ((c-192)*64),inR .i64 ((c-192)*64+a)] ⟨i6,i6,i6⟩ ?_
  exact zS [.c (.int .i64 ((c-192)*64+a)),.c (.int .i64 2)] (by rw [if_neg p1,if_pos h])
 have p2:=h
 refine z0 [] [] ?_
 refine zc (fB2 c a b) (fun h => ?_) (fun h => ?_)
 ·have p3:=h
  refine zg [] [] [inR .i64 (c-224),inR .i64 ((c-224)*4096),inR .i64 (a*64),inR .i64 ((c-224)*4096+a*64),inR .i64 ((c-224)*4096+a*64+b)] ⟨i6,i6,i6,i6,i6⟩ ?_
  refine zc (fC2 (r3 c a b)) (fun h => ?_) (fun h => ?_)
  ·refine z0 [] [] ?_
   exact zS [.c (.int .i64 (r3 c a b)),.c (.int .i64 3)] (by rw [if_neg p1,if_neg (by simp [p2]),if_pos p3,if_pos h])
  ·refine z0 [] [] ?_
   exact zS [.c (.int .i64 65533),.c (.int .i64 1)] (by rw [if_neg p1,if_neg (by simp [p2]),if_pos p3,if_neg (by simp [h])])
 have p3:=h
 refine z0 [] [] ?_
 refine zc (fB3 c a b d) (fun h => ?_) (fun h => ?_)
 ·have p4:=h
  refine zg [] [] [inR .i64 (c-240),inR .i64 ((c-240)*262144),inR .i64 (a*4096),inR .i64 ((c-240)*262144+a*4096),inR .i64 (b*64),inR .i64 ((c-240)*262144+a*4096+b*64),inR .i64 ((c-240)*262144+a*4096+b*64+d)] ⟨i6,i6,i6,i6,i6,i6,i6⟩ ?_
  refine zc (fC3 (r4 c a b d)) (fun h => ?_) (fun h => ?_)
  ·refine z0 [] [] ?_
   exact zS [.c (.int .i64 (r4 c a b d)),.c (.int .i64 4)] (by rw [if_neg p1,if_neg (by simp [p2]),if_neg (by simp [p3]),if_pos p4,if_pos h])
  ·refine z0 [] [] ?_
   exact zS [.c (.int .i64 65533),.c (.int .i64 1)] (by rw [if_neg p1,if_neg (by simp [p2]),if_neg (by simp [p3]),if_pos p4,if_neg (by simp [h])])
 ·refine z0 [] [] ?_
  exact zS [.c (.int .i64 65533),.c (.int .i64 1)] (by rw [if_neg p1,if_neg (by simp [p2]),if_neg (by simp [p3]),if_neg (by simp [h])])
theorem first_ok (s:List UInt8) (hs:s≠[]):Pur Tryz.prog G 217 [.c (.str s)] [.c (.int .i64 (runeAt s 0)),.c (.int .i64 (runeW s 0:Int))]:=by
 obtain ⟨r1,r2⟩:=more_rng s 1
 obtain ⟨r3,r4⟩:=more_rng s 2
 obtain ⟨r5,r6⟩:=more_rng s 3
 have:=first_gen (G:=G) s (List.length_pos_iff.2 hs) _ _ _ _ rfl r1 r2 r3 r4 r5 r6 (more_ok s 1 oM) (more_ok s 2 oM) (more_ok s 3 oM)
 rw [first_eq s hs] at this
 exact this
theorem runeW_le (s:List UInt8) (pos:Nat):runeW s pos≤4:=by
 unfold runeW Utf8.decode
 simp only
 repeat' split
 all_goals (show _≤4;simp)
theorem rune_drop (s:List UInt8) (pos:Nat):runeAt (s.drop pos) 0=runeAt s pos∧runeW (s.drop pos) 0=runeW s pos:=by
 unfold runeAt runeW Utf8.decode
 have e1:(⟨(s.drop pos).toArray⟩:ByteArray).size=s.length-pos:=by rw [size_mk];simp
 have e2:(⟨s.toArray⟩:ByteArray).size=s.length:=size_mk s
 have e3:∀ k,(s.drop pos).getD k 0=s.getD (pos+k) 0:=by intro k;simp [List.getD]
 have e4:∀ k,decide (0+k<s.length-pos)=decide (pos+k<s.length):=by intro k;apply decide_eq_decide.2;omega
 simp only [get_mk,e1,e2,e3,Nat.zero_add]
 have e5:∀ k,decide (k<s.length-pos)=decide (pos+k<s.length):=by intro k;apply decide_eq_decide.2;omega
 simp only [e5,and_self]
theorem valid6_ok (s:List UInt8) (hm:s.length<4611686018427387904):Pur Tryz.prog G 175 [.c (.str s)] [.c (.bool (validT s))]:=by
 refine zp Tryz.func175 ?_
 refine z0 [] [] ?_
 refine zl (fun (x:Nat×Nat)=>⟨[(0,.v (.c (.str s))),(3,.v (.c (.int .i64 (x.1:Int))))],[],0⟩) (fun x=>validT s=validN s x.2 x.1∧s.length-x.1≤x.2∧x.1≤s.length+4) (fun x=>x.2) (0,s.length) ⟨rfl,Nat.le_refl _,Nat.zero_le _⟩ ?_
 rintro ⟨pos,n⟩ L ⟨h1,h2,h3⟩ again
 simp only at h1 h2 h3
 refine z0 [] [] ?_
 refine zc (decide ((pos:Int)<(s.length:Int))) (fun h => ?_) (fun h => ?_)
 ·have hp:pos<s.length:=by simpa using h
  obtain ⟨n,rfl⟩:∃ m,n=m+1:=⟨n-1,by omega⟩
  have hne:s.drop pos≠[]:=by intro e;have:=congrArg List.length e;simp at this;omega
  have hw:=runeW_pos s pos
  simp only [validN,if_pos hp] at h1
  have hf:=first_ok (G:=G) (s.drop pos) hne
  rw [(rune_drop s pos).1,(rune_drop s pos).2] at hf
  have hsl:(s.take s.length).drop pos=s.drop pos:=by rw [List.take_length]
  refine zg [(3,{fm:=[(2,.c (.str (s.drop pos)))],cs:=[(3,pc hf)]})] [] [EqvI (.c (.str ((s.take s.length).drop pos))) (.c (.str (s.drop pos))),EqvD (.c (.str ((s.take s.length).drop pos))) (.c (.str (s.drop pos))),0≤(pos:Int)∧(pos:Int)≤(s.length:Int)∧(s.length:Int)≤(s.length:Int)] ⟨fun _ _=>trivial,by rw [hsl];exact fun _ _ _ h=>h,by omega,by omega,by omega⟩ ?_
  refine zc (runeAt s pos==65533) (fun h => ?_) (fun h => ?_)
  ·refine z0 [] [] ?_
   exact zS [.c (.bool false)] (by rw [h1,if_pos h])
  ·have hw4:=runeW_le s pos
   refine zg [] [] [inR .i64 ((pos:Int)+(runeW s pos:Int))] (i6) ?_
   exact za [] (again _ (pos+runeW s pos,n) ⟨by rw [h1,if_neg (by simp [h])],by simp only;omega,by simp only;omega⟩ (by simp only;omega))
 ·refine z0 [] [] ?_
  exact zS [.c (.bool true)] (by rw [h1];have:¬ pos<s.length:=by { simp at h;omega };cases n<;>simp [validN,this])
end Go.Proofs.Tw
end
section
open Go Go.Sv
namespace Go.Proofs.Tw
attribute [local irreducible] Wp FinQ resV Ent Pur Go.Sv.Fn Sat0
set_option maxRecDepth 100000
variable {G:Nat→Option (List Cell)}
def twiceT (l:List (List UInt8)) (i:Nat):Bool:=(l.take i).contains (l.getD i [])
theorem twice_true {l:List (List UInt8)} {k i:Nat} (hk:k<i) (hi:i<l.length) (h:l.getD k []==l.getD i []):twiceT l i=true:=by
 unfold twiceT
 rw [List.contains_iff_mem]
 have:l.getD k []=l.getD i []:=by simpa using h
 rw [← this]
 rw [List.mem_take_iff_getElem]
 exact ⟨k,by omega,by simp [List.getD,show k<l.length from by omega]⟩
theorem twice_false {l:List (List UInt8)} {i:Nat} (hi:i<l.length) (h:∀ k,k<i→(l.getD k []==l.getD i [])=false):twiceT l i=false:=by
 unfold twiceT
 cases hc:(l.take i).contains (l.getD i []) with
 | false=>rfl
 | true =>
  rw [List.contains_iff_mem,List.mem_take_iff_getElem] at hc
  obtain ⟨k,hk,e⟩:=hc
  have:=h k oM
  rw [beq_eq_false_iff_ne] at this
  exact absurd (by simpa [List.getD,show k<l.length from by omega] using e) this
theorem twice_ok (l:List (List UInt8)) (i:Nat) (hi:i<l.length) (hl:l.length<4611686018427387904):Pur Tryz.prog G 176 [.c (encS l),.c (.int .i64 (i:Int))] [.c (.bool (twiceT l i))]:=by
 refine zp Tryz.func176 ?_
 refine z0 [] [] ?_
 refine zl (fun k:Nat=>⟨[(0,.v (.c (encS l))),(1,.v (.c (.int .i64 (i:Int)))),(5,.v (.c (.int .i64 (k:Int))))],[],0⟩) (fun k=>k≤i∧∀ j,j<k→(l.getD j []==l.getD i [])=false) (fun k=>i-k) 0 ⟨Nat.zero_le _,fun j hj=>absurd hj (Nat.not_lt_zero j)⟩ ?_
 rintro k L ⟨hk,hall⟩ again
 refine z0 [] [] ?_
 refine zc (decide ((k:Int)<(i:Int))) (fun h => ?_) (fun h => ?_)
 ·have hk':k<i:=by simpa using h
  refine zg [] [] [0≤(k:Int)∧(k:Int)<(l.length:Int),0≤(i:Int)∧(i:Int)<(l.length:Int)] ⟨by omega,by show 0≤(i:Int)∧(i:Int)<(l.length:Int);omega⟩ ?_
  refine zc (l.getD k []==l.getD i []) (fun h => ?_) (fun h => ?_)
  ·refine z0 [] [] ?_
   exact zS [.c (.bool true)] (by rw [twice_true hk' hi h])
  ·refine zg [] [] [inR .i64 ((k:Int)+1)] (i6) ?_
   exact za [] (again _ (k+1) ⟨hk',up1 hall h⟩ (by show i-(k+1)<i-k;omega))
 ·refine z0 [] [] ?_
  exact zS [.c (.bool false)] (by rw [twice_false hi (fun j hj=>hall j (by simp at h;omega))])
def x2 (v:JV):Bool:=cond (a1 v) true (cond (v.kind != 2) v.b false)
def x3 (v:JV):Bool:=cond (x2 v) true (cond (v.kind != 3) (v.n != 0) false)
def k6 (v:JV):Bool:=v.kind==6
end Go.Proofs.Tw
end
section
open Go Go.Sv
namespace Go.Proofs.Tw
attribute [local irreducible] Wp FinQ resV Ent Pur Go.Sv.Fn Sat0
set_option maxRecDepth 100000
variable {G:Nat→Option (List Cell)}
end Go.Proofs.Tw
end
section
open Go Go.Sv
namespace Go.Proofs.Tw
attribute [local irreducible] Wp FinQ resV Ent Pur Go.Sv.Fn Sat0
set_option maxRecDepth 100000
variable {G:Nat→Option (List Cell)}
theorem dec_len (m:Nat):(Lib.decDigits m).length≤m+1:=by
 induction m using Nat.strongRecOn with
 | _ m ih =>
 rw [Lib.decDigits]
 split
 ·simp
 ·rename_i h
  have:=ih (m / 10) oM
  simp only [List.length_append,List.length_cons,List.length_nil];omega
theorem dec_len2 (m:Nat) (h:10≤m*10):(Lib.decDigits m).length≤m:=by
 rw [Lib.decDigits]
 split
 ·simp;omega
 ·have:=dec_len (m / 10)
  simp only [List.length_append,List.length_cons,List.length_nil];omega
theorem dig_nat (m:Nat):m<9223372036854775808→Pur Tryz.prog G 130 [.c (.int .i64 (m:Int))] [.c (.str (Lib.decDigits m))]:=by
 induction m using Nat.strongRecOn with
 | _ m ih =>
 intro hm
 refine zp Tryz.func130 ?_
 refine z0 [] [] ?_
 refine zc (decide ((m:Int)<0)) (fun h => ?_) (fun h => ?_)
 ·simp at h
  omega
 refine z0 [] [] ?_
 refine zc (decide ((m:Int)<10)) (fun h => ?_) (fun h => ?_)
 ·have h10:m<10:=by simp at h;omega
  have e1:IntKind.u8.wrap (48+(m:Int))=((UInt8.ofNat (48+m)).toNat:Int):=by rw [wrap8 oM oM,UInt8.toNat_ofNat',Nat.mod_eq_of_lt oM];omega
  have e2:byteL (rowB [UInt8.ofNat (48+m)]) 0 1=Lib.decDigits m:=by rw [byteL_B (n:=1) [UInt8.ofNat (48+m)] rfl,Lib.decDigits_one h10]
  refine zg [(4,{fm:=[(2,.c (.int .u8 ((UInt8.ofNat (48+m)).toNat:Int))),(4,.c (.str (Lib.decDigits m)))]})] [] [inR .i64 (48+(m:Int)),EqvI (.c (.int .u8 (IntKind.u8.wrap (48+(m:Int))))) (.c (.int .u8 ((UInt8.ofNat (48+m)).toNat:Int))),EqvD (.c (.int .u8 (IntKind.u8.wrap (48+(m:Int))))) (.c (.int .u8 ((UInt8.ofNat (48+m)).toNat:Int))),EqvI (.c (.str (byteL (rowB [UInt8.ofNat (48+m)]) 0 1))) (.c (.str (Lib.decDigits m))),EqvD (.c (.str (byteL (rowB [UInt8.ofNat (48+m)]) 0 1))) (.c (.str (Lib.decDigits m))),0+1≤1,areBytes (rowB [UInt8.ofNat (48+m)]) 0 1] ⟨i6,fun _ _=>trivial,by rw [e1];exact fun _ _ _ h=>h,fun _ _=>trivial,by rw [e2];exact fun _ _ _ h=>h,Nat.le_refl _,areBytes_B _ rfl⟩ ?_
  exact zr
 ·have h10:¬ m<10:=by simp at h;omega
  have hd:Lib.decDigits m=Lib.decDigits (m / 10)++[UInt8.ofNat (48+m%10)]:=by conv=>lhs;rw [Lib.decDigits,dif_neg h10]
  have hq:IntKind.i64.wrap ((m:Int).tdiv 10)=((m / 10:Nat):Int):=by
   rw [Int.tdiv_eq_ediv_of_nonneg oM,wrap64 (n:=(m:Int) / 10) oM oM];omega
  have hr:(m:Int).tmod 10=((m%10:Nat):Int):=by rw [Int.tmod_eq_emod_of_nonneg oM];omega
  have e1:IntKind.u8.wrap (48+(m:Int).tmod 10)=((UInt8.ofNat (48+m%10)).toNat:Int):=by rw [hr,wrap8 (n:=48+((m%10:Nat):Int)) oM oM,UInt8.toNat_ofNat',Nat.mod_eq_of_lt (a:=48+m%10) (b:=2^8) oM];omega
  have e2:byteL (rowB [UInt8.ofNat (48+m%10)]) 0 1=[UInt8.ofNat (48+m%10)]:=byteL_B _ rfl
  have hlen:(Lib.decDigits (m / 10)).length≤m / 10+1:=dec_len _
  have hle:(Lib.decDigits (m / 10)).length+1≤9223372036854775807:=by omega
  refine zg [(5,{fm:=[(1,.c (.int .i64 ((m / 10:Nat):Int))),(6,.c (.int .u8 ((UInt8.ofNat (48+m%10)).toNat:Int))),(8,.c (.str [UInt8.ofNat (48+m%10)]))],cs:=[(2,pc (ih (m / 10) oM oM))]})] [] [EqvI (.c (.int .i64 (IntKind.i64.wrap ((m:Int).tdiv 10)))) (.c (.int .i64 ((m / 10:Nat):Int))),EqvD (.c (.int .i64 (IntKind.i64.wrap ((m:Int).tdiv 10)))) (.c (.int .i64 ((m / 10:Nat):Int))),(10:Int)≠0,(10:Int)≠0,inR .i64 (48+(m:Int).tmod 10),EqvI (.c (.int .u8 (IntKind.u8.wrap (48+(m:Int).tmod 10)))) (.c (.int .u8 ((UInt8.ofNat (48+m%10)).toNat:Int))),EqvD (.c (.int .u8 (IntKind.u8.wrap (48+(m:Int).tmod 10)))) (.c (.int .u8 ((UInt8.ofNat (48+m%10)).toNat:Int))),EqvI (.c (.str (byteL (rowB [UInt8.ofNat (48+m%10)]) 0 1))) (.c (.str [UInt8.ofNat (48+m%10)])),EqvD (.c (.str (byteL (rowB [UInt8.ofNat (48+m%10)]) 0 1))) (.c (.str [UInt8.ofNat (48+m%10)])),0+1≤1,areBytes (rowB [UInt8.ofNat (48+m%10)]) 0 1,(Lib.decDigits (m / 10)).length+1≤9223372036854775807] ⟨fun _ _=>trivial,by rw [hq];exact fun _ _ _ h=>h,by decide,by decide,by rw [hr];exact i6,fun _ _=>trivial,by rw [e1];exact fun _ _ _ h=>h,fun _ _=>trivial,by rw [e2];exact fun _ _ _ h=>h,Nat.le_refl _,areBytes_B _ rfl,hle⟩ ?_
  exact zS [.c (.str (Lib.decDigits (m / 10)++[UInt8.ofNat (48+m%10)]))] (by rw [hd])
theorem digits_ok (n:Int) (h0 : -4611686018427387904≤n) (h1:n≤4611686018427387904):Pur Tryz.prog G 130 [.c (.int .i64 n)] [.c (.str (Lib.itoa n))]:=by
 by_cases hn:n<0
 ·have hm:=dig_nat (G:=G) n.natAbs oM
  rw [show ((n.natAbs:Nat):Int)=0-n from by omega] at hm
  have hl:=dec_len n.natAbs
  refine zp Tryz.func130 ?_
  refine z0 [] [] ?_
  refine zc (decide (n<0)) (fun h => ?_) (fun h => ?_)
  ·have hl2:1+(Lib.decDigits n.natAbs).length≤9223372036854775807:=by have:=dec_len2 n.natAbs oM;omega
   refine zg [(2,{cs:=[(2,pc hm)]})] [] [inR .i64 (0-n),1+(Lib.decDigits n.natAbs).length≤9223372036854775807] ⟨i6,hl2⟩ ?_
   exact zS [.c (.str (45::Lib.decDigits n.natAbs))] (by unfold Lib.itoa;rw [if_pos hn])
  ·simp at h;omega
 ·have hm:=dig_nat (G:=G) n.toNat oM
  rw [show ((n.toNat:Nat):Int)=n from by omega] at hm
  rw [show Lib.itoa n=Lib.decDigits n.toNat from by unfold Lib.itoa;rw [if_neg hn]]
  exact hm
end Go.Proofs.Tw
end
section
open Go Go.Sv
namespace Go.Proofs.Tw
attribute [local irreducible] Wp FinQ resV Ent Pur Go.Sv.Fn Sat0
set_option maxRecDepth 100000
variable {G:Nat→Option (List Cell)}
def CEq (x y:Cell):Prop:=∀ D ρ u,Den D ρ x u→Den D ρ y u
theorem CEq.rfl' {x:Cell}:CEq x x:=fun _ _ _ h=>h
theorem CEq.nil {sz:Nat} {f:Nat→Nat→Cell}:CEq .nilsl (.sl sz 0 f):=by
 intro D ρ u h
 have h:u = .slice none 0 0:=h
 subst h
 exact ⟨none,0,rfl,Nat.le_refl _,by unfold maxLen;omega,.inl ⟨rfl,rfl⟩⟩
inductive CEqs:List Cell→List Cell→Prop
 | nil:CEqs [] []
 | cons {x y:Cell} {l l':List Cell} (h:CEq x y) (t:CEqs l l'):CEqs (x::l) (y::l')
theorem CEqs.len {l l':List Cell} (h:CEqs l l'):l.length=l'.length:=by
 induction h with
 | nil=>rfl
 | cons _ _ ih=>simp [ih]
theorem agg_eqv {l l':List Cell} (h:CEqs l l'):EqvD (.agg l) (.agg l'):=by
 intro D ρ u hd
 obtain ⟨us,e,hs,hx⟩:=hd
 have hl:=h.len
 refine ⟨us,e,by rw [hs,hl],fun j y hj => ?_⟩
 have:∀ (l l':List Cell),CEqs l l'→∀ (j:Nat) (y:Cell),l'[j]?=some y→∃ x,l[j]?=some x∧CEq x y:=by
  intro l l' h
  induction h with
  | nil=>intro j y hj; simp at hj
  | cons h1 h2 ih =>
   intro j y hj
   cases j with
   | zero=>simp at hj; subst hj; exact ⟨_,by simp,h1⟩
   | succ j=>simp at hj; obtain ⟨x,hx,hc⟩:=ih j y hj; exact ⟨x,by simpa using hx,hc⟩
 obtain ⟨x,hxl,hc⟩:=this l l' h j y hj
 obtain ⟨v,hv,hd⟩:=hx j x hxl
 exact ⟨v,hv,hc _ _ _ hd⟩
theorem EqvI.flatA {v:V1} {l:List Cell} (h:flats l=true):EqvI v (.agg l):=fun S _=>flats_inS h S
structure FT where (name value:List UInt8)
def FT.nil:FT:=⟨[],[]⟩
def encF (x:FT):List Cell:=[.str x.name,.str x.value]
def encH (l:List FT):Cell := .sl 2 l.length (fun i j=>nthD (encF (l.getD i .nil)) j)
structure RT where
 (status:Int) (head:List FT) (body:List UInt8)
def encT (r:RT):List Cell:=[.int .i64 r.status,encH r.head,.str r.body]
def eqF (x y:FT):Bool:=(x.name==y.name)&&((x.value==y.value)&&true)
def sameF (a b:List FT):Bool := !((a.length:Int) != (b.length:Int))&&(List.range a.length).all (fun i=>eqF (a.getD i .nil) (b.getD i .nil))
def same_inv (a b:List FT) (k:Nat):St:=⟨[(0,.v (.c (encH a))),(1,.v (.c (encH b))),(5,.v (.c (.int .i64 (k:Int))))],[],0⟩
theorem same_ok (a b:List FT) (ha:a.length<4611686018427387904):Pur Tryz.prog G 78 [.c (encH a),.c (encH b)] [.c (.bool (sameF a b))]:=by
 refine zp Tryz.func78 ?_
 refine z0 [] [] ?_
 refine zc ((a.length:Int) != (b.length:Int)) (fun h => ?_) (fun h => ?_)
 ·refine z0 [] [] ?_
  exact zS [.c (.bool false)] (by rw [sameF,h];rfl)
 ·refine z0 [] [] ?_
  have hl:a.length=b.length:=by simp at h;omega
  refine zl (same_inv a b) (fun k=>k≤a.length∧∀ i,i<k→eqF (a.getD i .nil) (b.getD i .nil)=true) (fun k=>a.length-k) 0 ⟨Nat.zero_le _,fun i hi=>absurd hi (Nat.not_lt_zero i)⟩ ?_
  rintro k L ⟨hk,hall⟩ again
  have hne:=h
  refine z0 [] [] ?_
  refine zc (decide ((k:Int)<(a.length:Int))) (fun h => ?_) (fun h => ?_)
  ·have hk':k<a.length:=by simpa using h
   refine zg [] [] [0≤(k:Int)∧(k:Int)<(a.length:Int),0≤(k:Int)∧(k:Int)<(b.length:Int)] ⟨by omega,by show 0≤(k:Int)∧(k:Int)<(b.length:Int);omega⟩ ?_
   refine zc (!(eqF (a.getD k .nil) (b.getD k .nil))) (fun h => ?_) (fun h => ?_)
   ·refine z0 [] [] ?_
    exact zS [.c (.bool false)] (by rw [sameF,all_range_false hk' (by simpa using h)];simp)
   ·refine zg [] [] [inR .i64 ((k:Int)+1)] (i6) ?_
    exact za [] (again _ (k+1) ⟨hk',up1 hall (by simpa using h)⟩ (by show a.length-(k+1)<a.length-k;omega))
  ·refine z0 [] [] ?_
   exact zS [.c (.bool true)] (by rw [sameF,hne,all_range_true (fun i hi=>hall i (by simp at h;omega))];rfl)
theorem sameF_refl (a:List FT):sameF a a=true:=by
 unfold sameF
 rw [all_range_true (fun i _=>by unfold eqF;simp)]
 simp
def rowsL:List (Int×List UInt8×Int):=[
 (9,[105,110,118,97,108,105,100,95,99,108,105,101,110,116],401),(11,[117,110,115,117,112,112,111,114,116,101,100,95,114,101,115,112,111,110,115,101,95,116,121,112,101],400),(12,[105,110,118,97,108,105,100,95,115,99,111,112,101],400),(13,[105,110,118,97,108,105,100,95,103,114,97,110,116],400),(19,[117,110,115,117,112,112,111,114,116,101,100,95,103,114,97,110,116,95,116,121,112,101],400),(14,[108,111,103,105,110,95,114,101,113,117,105,114,101,100],401),
 (15,[97,99,99,101,115,115,95,100,101,110,105,101,100],403),(18,[110,111,116,95,102,111,117,110,100],404),(17,[109,101,116,104,111,100,95,110,111,116,95,97,108,108,111,119,101,100],405),(4,[116,111,111,95,108,97,114,103,101],413),(16,[116,101,109,112,111,114,97,114,105,108,121,95,117,110,97,118,97,105,108,97,98,108,101],503)]
def rowNil:Int×List UInt8×Int:=(0,[],0)
def encR (r:Int×List UInt8×Int):List Cell:=[.int .i64 r.1,.str r.2.1,.int .i64 r.2.2]
def rowsC:List Cell:=rowsL.flatMap encR
def ofT (e:Int):Int×List UInt8×Int:=match rowsL.find? (fun r=>r.1==e) with
 | some r=>r
 | none=>(e,[105,110,118,97,108,105,100,95,114,101,113,117,101,115,116],400)
theorem row_at:∀ k:Nat,k<11→[nthD rowsC (k*3),nthD rowsC (k*3+1),nthD rowsC (k*3+2)]=encR (rowsL.getD k rowNil):=by
 intro k hk
 obtain rfl | rfl | rfl | rfl | rfl | rfl | rfl | rfl | rfl | rfl | rfl:k=0∨k=1∨k=2∨k=3∨k=4∨k=5∨k=6∨k=7∨k=8∨k=9∨k=10:=by omega
 all_goals rfl
theorem of_some {e:Int} {k:Nat} (hk:k<11) (hall:∀ i,i<k→((rowsL.getD i rowNil).1==e)=false) (h:((rowsL.getD k rowNil).1==e)=true):ofT e=rowsL.getD k rowNil:=by
 unfold ofT
 have:rowsL.find? (fun r=>r.1==e)=some (rowsL.getD k rowNil):=by
  rw [List.find?_eq_some_iff_getElem]
  refine ⟨h,k,hk,by rw [List.getD,List.getElem?_eq_getElem (show k<rowsL.length from hk)];rfl,fun j hj => ?_⟩
  have:=hall j hj
  simpa [List.getD,show j<rowsL.length from Nat.lt_trans hj hk] using this
 rw [this]
theorem of_none {e:Int} (hall:∀ i,i<11→((rowsL.getD i rowNil).1==e)=false):ofT e=(e,[105,110,118,97,108,105,100,95,114,101,113,117,101,115,116],400):=by
 unfold ofT
 have:rowsL.find? (fun r=>r.1==e)=none:=by
  rw [List.find?_eq_none]
  intro x hx
  obtain ⟨i,hi,rfl⟩:=List.getElem_of_mem hx
  have:=hall i hi
  simpa [List.getD,hi] using this
 rw [this]
def Gd:Nat→Option (List Cell)
 | 0=>some rowsC
 | 3=>some (Lib.pow10Tab.map fun z => .int .u64 z)
 | _=>none
def ofInv (e:Int) (k:Nat):St:=⟨[(0,.v (.c (.int .i64 e))),(2,.v (.c (.ptr 0 0))),(5,.v (.agg rowsC)),(6,.v (.c (.int .i64 (k:Int))))],[(0,.box 140 [.int .i64 0,.str [],.int .i64 0])],16⟩
theorem of_ok (e:Int):Pur Tryz.prog Gd 99 [.c (.int .i64 e)] [.agg (encR (ofT e))]:=by
 refine zp Tryz.func99 ?_
 refine z0 [] [] ?_
 refine zl (ofInv e) (fun k=>k≤11∧∀ i,i<k→((rowsL.getD i rowNil).1==e)=false) (fun k=>11-k) 0 ⟨Nat.zero_le _,fun i hi=>absurd hi (Nat.not_lt_zero i)⟩ ?_
 rintro k L ⟨hk,hall⟩ again
 refine z0 [] [] ?_
 refine zc (decide ((k:Int)<11)) (fun h => ?_) (fun h => ?_)
 ·have hk':k<11:=by simp at h;omega
  have hin:0≤(k:Int)∧(k:Int)<((11:Nat):Int):=by omega
  refine zg [(3,{fm:=[(0,.agg (encR (rowsL.getD k rowNil)))]})] [] [EqvI (.agg [nthD rowsC (k*3),nthD rowsC (k*3+1),nthD rowsC (k*3+2)]) (.agg (encR (rowsL.getD k rowNil))),EqvD (.agg [nthD rowsC (k*3),nthD rowsC (k*3+1),nthD rowsC (k*3+2)]) (.agg (encR (rowsL.getD k rowNil))),0≤(k:Int)∧(k:Int)<((11:Nat):Int)] ⟨EqvI.flatA rfl,by rw [row_at k hk'];exact fun _ _ _ h=>h,hin⟩ ?_
  refine zc ((rowsL.getD k rowNil).1==e) (fun h => ?_) (fun h => ?_)
  ·rw [of_some hk' hall h]
   refine z0 [] [] ?_
   exact zr
  ·refine zg [] [] [inR .i64 ((k:Int)+1)] (i6) ?_
   exact za [] (again _ (k+1) ⟨hk',up1 hall h⟩ (by show 11-(k+1)<11-k;omega))
 ·rw [of_none (fun i hi=>hall i (by simp at h;omega))]
  refine z0 [] [] ?_
  exact zr
def wordT (e:Int):List UInt8:=(ofT e).2.1
def statT (e:Int):Int:=(ofT e).2.2
theorem Word_ok (e:Int):Pur Tryz.prog Gd 44 [.c (.int .i64 e)] [.c (.str (wordT e))]:=by
 refine zp Tryz.func44 ?_
 refine z0 [(1,{cs:=[(1,pc (of_ok e))]})] [] ?_
 exact zr
theorem Status_ok (e:Int):Pur Tryz.prog Gd 45 [.c (.int .i64 e)] [.c (.int .i64 (statT e))]:=by
 refine zp Tryz.func45 ?_
 refine z0 [(1,{cs:=[(1,pc (of_ok e))]})] [] ?_
 exact zr
theorem of_hit:∀ k:Nat,k<11→ofT (rowsL.getD k rowNil).1=rowsL.getD k rowNil:=by decide
theorem of_miss {e:Int} (h:∀ k:Nat,k<11→(e==(rowsL.getD k rowNil).1)=false):ofT e=(e,[105,110,118,97,108,105,100,95,114,101,113,117,101,115,116],400):=of_none fun i hi=>by
 have:=h i hi
 rw [beq_eq_false_iff_ne] at this ⊢
 exact fun e=>this e.symm
def textJ (s:List UInt8):JV := .mk 4 false 0 s [] []
def objJ (ns:List (List UInt8)) (ks:List JV):JV := .mk 6 false 0 [] ns ks
theorem flatA {l:List Cell} (h:flats l=true):∀ S (j:Nat) (x:Cell),l[j]?=some x→x.inS S:=fun S=>flats_inS h S
def rawText (s:List UInt8):List Cell:=[.int .i64 4,.bool false,.int .i64 0,.str s,.nilsl,.nilsl]
theorem text_eqv (s:List UInt8):EqvD (.agg (rawText s)) (.agg (encJ (textJ s))):=agg_eqv (.cons CEq.rfl' (.cons CEq.rfl' (.cons CEq.rfl' (.cons CEq.rfl' (.cons CEq.nil (.cons CEq.nil .nil))))))
theorem text_ok (s:List UInt8):Pur Tryz.prog G 68 [.c (.str s)] [.agg (encJ (textJ s))]:=by
 refine zp Tryz.func68 ?_
 refine zg [(1,{fm:=[(1,.agg (encJ (textJ s)))]})] [] [EqvI (.agg (rawText s)) (.agg (encJ (textJ s))),EqvD (.agg (rawText s)) (.agg (encJ (textJ s)))] ⟨EqvI.flatA rfl,text_eqv s⟩ ?_
 exact zr
theorem S_ok (s:List UInt8):Pur Tryz.prog G 50 [.c (.str s)] [.agg (encJ (textJ s))]:=by
 refine zp Tryz.func50 ?_
 refine zg [(1,{fm:=[(1,.agg (encJ (textJ s)))]})] [] [EqvI (.agg (rawText s)) (.agg (encJ (textJ s))),EqvD (.agg (rawText s)) (.agg (encJ (textJ s)))] ⟨EqvI.flatA rfl,text_eqv s⟩ ?_
 exact zr
theorem kept_ok:Pur Tryz.prog G 65 [] [.agg (encF ⟨[99,97,99,104,101,45,99,111,110,116,114,111,108],[110,111,45,115,116,111,114,101]⟩)]:=by
 refine zp Tryz.func65 ?_
 refine z0 [] [] ?_
 exact zr
def jsonH:List FT:=[⟨[99,111,110,116,101,110,116,45,116,121,112,101],[97,112,112,108,105,99,97,116,105,111,110,47,106,115,111,110]⟩,⟨[99,97,99,104,101,45,99,111,110,116,114,111,108],[110,111,45,115,116,111,114,101]⟩]
def jsonT (v:JV):RT:=⟨200,jsonH,printT v⟩
theorem flat_get {α:Type} (enc:α→List Cell) (d:α) {sz:Nat} (hs:∀ x,(enc x).length=sz):∀ (l:List α) (i:Nat),i<l.length→∀ j,j<sz→nthD (l.flatMap enc) (i*sz+j)=nthD (enc (l.getD i d)) j
 | [],i,h,_,_=>by simp at h
 | x::r,0,_,j,hj=>by
  simp only [nthD,nth_eq,List.flatMap_cons,Nat.zero_mul,Nat.zero_add]
  rw [List.getElem?_append_left (by rw [hs];exact hj)];rfl
 | x::r,i+1,h,j,hj=>by
  have ih:=flat_get enc d hs r i (by simpa using h) j hj
  simp only [nthD,nth_eq,List.flatMap_cons] at ih ⊢
  rw [List.getElem?_append_right (by rw [hs,Nat.add_mul];omega),hs,show (i+1)*sz+j-sz=i*sz+j from by rw [Nat.add_mul];omega]
  exact ih
theorem Json_ok {v:JV} (hs:Small v) (hf:mayJ v 0=true→Fit v):Pur Tryz.prog Gd 16 [.agg (encJ v)] [.agg (encT (jsonT v))]:=by
 refine zp Tryz.func16 ?_
 refine zg [(1,{fm:=[(2,.c (encH jsonH))],cs:=[(1,pc kept_ok),(4,pc (Print_ok (G:=Gd) 3 kR rfl hs hf))]})] [] [EqvI (.c (.sl 2 2 (fun i j=>nthD (jsonH.flatMap encF) (i*2+j)))) (.c (encH jsonH)),EqvD (.c (.sl 2 2 (fun i j=>nthD (jsonH.flatMap encF) (i*2+j)))) (.c (encH jsonH))] ⟨fun _ _=>trivial,EqvD.sl rfl (fun i hi j hj=>flat_get encF .nil (fun _=>rfl) jsonH i hi j hj)⟩ ?_
 exact zr
def errJ (w:List UInt8):JV:=objJ [[101,114,114,111,114]] [textJ w]
def failT (e:Int):RT:=⟨statT e,jsonH,printT (errJ (wordT e))⟩
theorem strs_new (l:List (List UInt8)):EqvD (.c (.sl 1 l.length (fun i j=>nthD (l.map Cell.str) (i*1+j)))) (.c (encS l)):=by
 refine EqvD.sl rfl fun i hi j hj => ?_
 obtain rfl:j=0:=by omega
 show nthD (l.map Cell.str) (i*1+0)=nthD [.str (l.getD i [])] 0
 rw [show i*1+0=i from by omega]
 simp [nthD,nth_eq,List.getD,hi]
theorem kids_new (ks:List JV):EqvD (.c (.sl 6 ks.length (fun i j=>nthD (ks.flatMap encJ) (i*6+j)))) (.c (.sl 6 ks.length (kidC ks))):=by
 refine EqvD.sl rfl fun i hi j hj => ?_
 rw [flat_get encJ .nil (fun _=>rfl) ks i hi j hj]
 unfold kidC
 rw [cellsL_eq ks i hi]
theorem word_short (e:Int):(wordT e).length≤30:=by
 unfold wordT
 by_cases q:∃ k,k<11∧e=(rowsL.getD k rowNil).1
 ·obtain ⟨k,hk,rfl⟩:=q
  rw [of_hit k hk]
  have:∀ k:Nat,k<11→(rowsL.getD k rowNil).2.1.length≤30:=by decide
  exact this k hk
 ·rw [of_miss (fun k hk=>by rw [beq_eq_false_iff_ne];exact fun h=>q ⟨k,hk,h⟩)]
  show List.length _≤30
  simp
theorem quoted_len (s:List UInt8):(quotedT s).length≤6*s.length+2:=by
 unfold quotedT
 have:(s.flatMap qByte).length≤6*s.length:=by
  induction s with
  | nil=>simp
  | cons c r ih =>
   have:(qByte c).length≤6:=by unfold qByte;split<;>(try split)<;>simp
   simp only [List.flatMap_cons,List.length_append,List.length_cons];omega
 simp only [List.length_cons,List.length_append,List.length_nil];omega
theorem text_print (w:List UInt8):printJ (textJ w)=quotedT w:=by rw [printJ_eq];rfl
theorem err_print (w:List UInt8):printJ (errJ w)=(123::((quotedT [101,114,114,111,114]++[58])++quotedT w))++[125]:=by
 rw [printJ_eq]
 show (123::Lib.join (parts (errJ w) 1) [44])++[125]=_
 have:parts (errJ w) 1=[(quotedT [101,114,114,111,114]++[58])++quotedT w]:=by
  show [partAt (errJ w) 0]=_
  unfold partAt
  rw [if_pos (by rfl)]
  show [(quotedT [101,114,114,111,114]++[58])++printJ (textJ w)]=_
  rw [text_print]
 rw [this,Lib.join_one]
theorem text_small (w:List UInt8):Small (textJ w) := .mk (by show 0<_;omega) (by show 0<_;omega) (by intro x hx;cases hx)
theorem err_small (w:List UInt8):Small (errJ w) := .mk (by show 1<_;omega) (by show 1<_;omega) (by intro x hx;rcases List.mem_singleton.1 hx with rfl;exact text_small w)
theorem text_fit (w:List UInt8) (hw:w.length≤1000000):Fit (textJ w) := .mk (by show 0≤_;omega) (by intro h;have h:(4:Int)=6:=h;omega) (by show _≤(0:Int);omega) (by show (0:Int)≤_;omega) (by rw [text_print];have:=quoted_len w;omega) (by intro x hx;cases hx)
theorem err_fit (w:List UInt8) (hw:w.length≤1000000):Fit (errJ w):=by
 have h1:=quoted_len w
 have h2:(quotedT [101,114,114,111,114]).length=7:=by decide
 refine .mk (by show 1≤_;omega) (by intro h;show 1≤1;omega) (by show _≤(0:Int);omega) (by show (0:Int)≤_;omega) ?_ (by intro x hx;rcases List.mem_singleton.1 hx with rfl;exact text_fit w hw)
 rw [err_print]
 simp only [List.length_append,List.length_cons,List.length_nil,h2];omega
theorem Fail_ok (e:Int):Pur Tryz.prog Gd 18 [.c (.int .i64 e)] [.agg (encT (failT e))]:=by
 have hw:=word_short e
 refine zp Tryz.func18 ?_
 refine zg [(1,{fm:=[(0,.c (encS [[101,114,114,111,114]])),(4,.c (.sl 6 1 (kidC [textJ (wordT e)])))],cs:=[(2,pc (Word_ok e)),(3,pc (text_ok (wordT e))),(6,pc (Json_ok (err_small (wordT e)) (fun _=>err_fit _ oM)))]}),(2,{cs:=[(1,pc (Status_ok e))]})] [] [EqvI (.c (.sl 1 1 (fun i j=>nthD ([[101,114,114,111,114]].map .str) (i*1+j)))) (.c (encS [[101,114,114,111,114]])),EqvD (.c (.sl 1 1 (fun i j=>nthD ([[101,114,114,111,114]].map .str) (i*1+j)))) (.c (encS [[101,114,114,111,114]])),EqvI (.c (.sl 6 1 (fun i j=>nthD ([textJ (wordT e)].flatMap encJ) (i*6+j)))) (.c (.sl 6 1 (kidC [textJ (wordT e)]))),EqvD (.c (.sl 6 1 (fun i j=>nthD ([textJ (wordT e)].flatMap encJ) (i*6+j)))) (.c (.sl 6 1 (kidC [textJ (wordT e)])))] ⟨fun _ _=>trivial,strs_new [[101,114,114,111,114]],fun _ _=>trivial,kids_new [textJ (wordT e)]⟩ ?_
 exact zr
def docNs:List (List UInt8):=[[105,115,115,117,101,114],[112,117,115,104,101,100,95,97,117,116,104,111,114,105,122,97,116,105,111,110,95,114,101,113,117,101,115,116,95,101,110,100,112,111,105,110,116],[97,117,116,104,111,114,105,122,97,116,105,111,110,95,101,110,100,112,111,105,110,116],[116,111,107,101,110,95,101,110,100,112,111,105,110,116],[105,110,116,114,111,115,112,101,99,116,105,111,110,95,101,110,100,112,111,105,110,116],[114,101,118,111,99,97,116,105,111,110,95,101,110,100,112,111,105,110,116],[114,101,113,117,105,114,101,95,112,117,115,104,101,100,95,97,117,116,104,111,114,105,122,97,116,105,111,110,95,114,101,113,117,101,115,116,115],[97,117,116,104,111,114,105,122,97,116,105,111,110,95,114,101,115,112,111,110,115,101,95,105,115,115,95,112,97,114,97,109,101,116,101,114,95,115,117,112,112,111,114,116,101,100],[99,111,100,101,95,99,104,97,108,108,101,110,103,101,95,109,101,116,104,111,100,115,95,115,117,112,112,111,114,116,101,100]]
def trueJ:JV := .mk 2 true 0 [] [] []
def listJ (ks:List JV):JV := .mk 5 false 0 [] [] ks
def docB (name:List UInt8):List UInt8:=[104,116,116,112,115,58,47,47]++name
def docKs (name:List UInt8):List JV:=[textJ (docB name),textJ (docB name++[47,112,97,114]),textJ (docB name++[47,97,117,116,104,111,114,105,122,101]),textJ (docB name++[47,116,111,107,101,110]),textJ (docB name++[47,105,110,116,114,111,115,112,101,99,116]),textJ (docB name++[47,114,101,118,111,107,101]),trueJ,trueJ,listJ [textJ [83,50,53,54]]]
def docJ (name:List UInt8):JV:=objJ docNs (docKs name)
def rawTrue:List Cell:=[.int .i64 2,.bool true,.int .i64 0,.str [],.nilsl,.nilsl]
theorem yes_ok:Pur Tryz.prog G 100 [] [.agg (encJ trueJ)]:=by
 refine zp Tryz.func100 ?_
 refine zg [(1,{fm:=[(0,.agg (encJ trueJ))]})] [] [EqvI (.agg rawTrue) (.agg (encJ trueJ)),EqvD (.agg rawTrue) (.agg (encJ trueJ))] ⟨EqvI.flatA rfl,agg_eqv (.cons CEq.rfl' (.cons CEq.rfl' (.cons CEq.rfl' (.cons CEq.rfl' (.cons CEq.nil (.cons CEq.nil .nil))))))⟩ ?_
 exact zr
def rawList (ks:List JV):List Cell:=[.int .i64 5,.bool false,.int .i64 0,.str [],.nilsl,.sl 6 ks.length (kidC ks)]
theorem Doc_ok (name:List UInt8) (hn:name.length≤1000000):Pur Tryz.prog G 46 [.c (.str name)] [.agg (encJ (docJ name))]:=by
 have hb:(docB name).length=8+name.length:=by unfold docB;simp;omega
 refine zp Tryz.func46 ?_
 refine zg [(2,{fm:=[(0,.c (encS docNs)),(21,.c (.sl 6 1 (kidC [textJ [83,50,53,54]]))),(22,.agg (encJ (listJ [textJ [83,50,53,54]]))),(23,.c (.sl 6 9 (kidC (docKs name))))],cs:=[(2,pc (text_ok (docB name))),(5,pc (text_ok (docB name++[47,112,97,114]))),(8,pc (text_ok (docB name++[47,97,117,116,104,111,114,105,122,101]))),(11,pc (text_ok (docB name++[47,116,111,107,101,110]))),(14,pc (text_ok (docB name++[47,105,110,116,114,111,115,112,101,99,116]))),(17,pc (text_ok (docB name++[47,114,101,118,111,107,101]))),(18,pc yes_ok),(19,pc yes_ok),(20,pc (text_ok [83,50,53,54]))]})] [] [8+name.length≤9223372036854775807,EqvI (.c (.sl 1 9 (fun i j=>nthD (docNs.map .str) (i*1+j)))) (.c (encS docNs)),EqvD (.c (.sl 1 9 (fun i j=>nthD (docNs.map .str) (i*1+j)))) (.c (encS docNs)),(docB name).length+4≤9223372036854775807,(docB name).length+10≤9223372036854775807,(docB name).length+6≤9223372036854775807,(docB name).length+11≤9223372036854775807,(docB name).length+7≤9223372036854775807,EqvI (.c (.sl 6 1 (fun i j=>nthD ([textJ [83,50,53,54]].flatMap encJ) (i*6+j)))) (.c (.sl 6 1 (kidC [textJ [83,50,53,54]]))),EqvD (.c (.sl 6 1 (fun i j=>nthD ([textJ [83,50,53,54]].flatMap encJ) (i*6+j)))) (.c (.sl 6 1 (kidC [textJ [83,50,53,54]]))),EqvI (.agg (rawList [textJ [83,50,53,54]])) (.agg (encJ (listJ [textJ [83,50,53,54]]))),EqvD (.agg (rawList [textJ [83,50,53,54]])) (.agg (encJ (listJ [textJ [83,50,53,54]]))),EqvI (.c (.sl 6 9 (fun i j=>nthD ((docKs name).flatMap encJ) (i*6+j)))) (.c (.sl 6 9 (kidC (docKs name)))),EqvD (.c (.sl 6 9 (fun i j=>nthD ((docKs name).flatMap encJ) (i*6+j)))) (.c (.sl 6 9 (kidC (docKs name))))] ⟨by omega,fun _ _=>trivial,strs_new docNs,by omega,by omega,by omega,by omega,by omega,fun _ _=>trivial,kids_new [textJ [83,50,53,54]],EqvI.flatA rfl,agg_eqv (.cons CEq.rfl' (.cons CEq.rfl' (.cons CEq.rfl' (.cons CEq.rfl' (.cons CEq.nil (.cons CEq.rfl' .nil)))))),fun _ _=>trivial,kids_new (docKs name)⟩ ?_
 exact zr
end Go.Proofs.Tw
end
section
open Go Go.Sv Go.RowKit
namespace Go.Proofs.Tw
attribute [local irreducible] Wp FinQ resV Ent Pur Go.Sv.Fn Sat0
set_option maxRecDepth 100000
set_option maxHeartbeats 4000000
variable {G:Nat→Option (List Cell)}
def intsF (l:List Int):Nat→Nat→Cell:=fun i _ => .int .i64 (l.getD i 0)
def tapeB (l:List Int) (a:Nat):Blk := .box 26 [.sl 1 l.length (intsF l),.int .i64 (a:Int)]
def withT (at_ n:Int):Int:=if at_.tmod n<0 then at_.tmod n+n else at_.tmod n
theorem tmod_lo (a n:Int) (hn:0<n) : -n<a.tmod n:=by
 rcases Int.lt_or_le a 0 with h | h
 ·have:=Int.tmod_lt_of_pos (-a) hn
  rw [Int.neg_tmod] at this
  omega
 ·have:=Int.tmod_nonneg n h
  omega
theorem withT_rng (a n:Int) (hn:0<n):0≤withT a n∧withT a n<n:=by
 unfold withT
 have h1:=Int.tmod_lt_of_pos a hn
 have h2:=tmod_lo a n hn
 split<;>omega
theorem within1_ok (a n:Int) (hn:0<n) (hm:n≤9223372036854775807):Pur Tryz.prog G 101 [.c (.int .i64 a),.c (.int .i64 n)] [.c (.int .i64 (withT a n))]:=by
 refine zp Tryz.func101 ?_
 have h1:=Int.tmod_lt_of_pos a hn
 have h2:=tmod_lo a n hn
 refine zg [] [] [n=(0:Int)→False] ((show n=(0:Int)→False from oM)) ?_
 refine zc (decide (a.tmod n<(0:Int))) (fun h0 => ?_) (fun h0 => ?_)
 ·have g0:=of_decide_eq_true h0
  refine zg [] [] [IntKind.i64.min≤a.tmod n+n∧a.tmod n+n≤IntKind.i64.max] (i6) ?_
  exact zS [.c (.int .i64 (a.tmod n+n))] (by simp [withT, *];done)
 ·have g0:=of_decide_eq_false h0
  refine z0 [] [] ?_
  exact zS [.c (.int .i64 (a.tmod n))] (by simp [withT, *];done)
theorem more1_ok (l:List Int) (a:Nat):FnB Tryz.prog G 42 [tapeB l a] [.c (.ptr 0 0)] [.c (.bool (decide (a<l.length)))] [(0,tapeB l a)]:=by
 refine zf Tryz.func42 ?_
 refine z0 [] [] ?_
 refine Wp.ret' kR ?_
 exact FinQ.blkE (rs':=[V1.c (Cell.bool (decide ((↑a:Int)<(↑l.length:Int))))]) (hout':=[(0,tapeB l a)]) (by simp) [] kR kR kR kR kR trivial
def nextV (l:List Int) (a:Nat) (n:Int):Int:=cond (cond (!decide ((a:Int)<(l.length:Int))) true (decide (n<1))) 0 (withT (l.getD a 0) n)
def nextA (l:List Int) (a:Nat) (n:Int):Nat:=cond (cond (!decide ((a:Int)<(l.length:Int))) true (decide (n<1))) a (a+1)
theorem next_ok (l:List Int) (a:Nat) (n:Int) (hl:l.length≤9223372036854775807) (hm:n≤9223372036854775807):FnB Tryz.prog G 47 [tapeB l a] [.c (.ptr 0 0),.c (.int .i64 n)] [.c (.int .i64 (nextV l a n))] [(0,tapeB l (nextA l a n))]:=by
 refine zf Tryz.func47 ?_
 refine z0 [(1,{cs:=[(1,cb [0] (more1_ok l a))]})] [] ?_
 refine zc (bif !decide (a<l.length) then true else decide (n<(1:Int))) (fun h0 => ?_) (fun h0 => ?_)
 ·have g0:=h0
  simp at g0
  refine z0 [] [] ?_
  refine Wp.ret' kR ?_
  exact FinQ.blkE (rs':=[V1.c (Cell.int .i64 (0:Int))]) (hout':=[(0,Blk.box 26 [Cell.sl (1:Nat) l.length (intsF l),Cell.int .i64 (↑a:Int)])]) (by simp [nextV,tapeB,nextA,h0]) [] kR kR kR kR kR trivial
 ·have g0:=h0
  simp at g0
  refine zg [(4,{cs:=[(12,pc (within1_ok (l.getD a (0:Int)) n oM aS))],fm:=[(10,.c (.int .i64 (l.getD a 0)))]})] [] [inR .i64 ((a:Int)+1),inR .i64 ((a:Int)+1-1),(0:Int)≤(a:Int)+(1:Int)-(1:Int)∧(a:Int)+(1:Int)-(1:Int)<(l.length:Int),EqvD (.c (.int .i64 (l.getD ((a:Int)+(1:Int)-(1:Int)).toNat (0:Int)))) (.c (.int .i64 (l.getD a (0:Int))))] ⟨i6,i6,oM,(show EqvD (.c (.int .i64 (l.getD ((↑a:Int)+(1:Int)-(1:Int)).toNat (0:Int)))) (.c (.int .i64 (l.getD a (0:Int)))) from (by simp;exact fun _ _ _ h=>h))⟩ ?_
  refine Wp.ret' kR ?_
  exact FinQ.blkE (rs':=[V1.c (Cell.int .i64 (withT (l.getD a (0:Int)) n))]) (hout':=[(0,Blk.box 26 [Cell.sl (1:Nat) l.length (intsF l),Cell.int .i64 ((↑a:Int)+(1:Int))])]) (by simp [nextV,tapeB,nextA,h0]) [] kR kR kR kR kR trivial
theorem nextV_rng (l:List Int) (a:Nat) (n:Int) (hn:0<n):0≤nextV l a n∧nextV l a n<n:=by
 unfold nextV
 have:=withT_rng (l.getD a 0) n hn
 cases (cond (!decide ((a:Int)<(l.length:Int))) true (decide (n<1))) with
 | true=>show 0≤(0:Int)∧(0:Int)<n; omega
 | false=>exact this
theorem pick_ok (ss:List (List UInt8)) (l:List Int) (a:Nat) (hl:l.length≤9223372036854775807) (hs:ss.length<4611686018427387904):FnB Tryz.prog G 43 [tapeB l a] [.c (.ptr 0 0),.c (.sl 1 ss.length (strsF ss))] [.c (.str (ss.getD (nextV l a ss.length).toNat []))] [(0,tapeB l (nextA l a ss.length))]:=by
 refine zf Tryz.func43 ?_
 have hr:=fun h=>nextV_rng l a ss.length h
 refine z0 [] [] ?_
 refine zc ((↑ss.length:Int)==(0:Int)) (fun h0 => ?_) (fun h0 => ?_)
 ·have g0:=eq_of_beq h0
  refine z0 [] [] ?_
  refine Wp.ret' kR ?_
  exact FinQ.blkE (rs':=[V1.c (Cell.str [])]) (hout':=[(0,Blk.box 26 [Cell.sl (1:Nat) l.length (intsF l),Cell.int .i64 (↑a:Int)])]) (by simp_all [nextV,tapeB,nextA]) [] kR kR kR kR kR trivial
 ·have g0:=ne_of_beq_false h0
  refine zg [(3,{cs:=[(4,cb [0] (next_ok l a (ss.length:Int) aS oM))]})] [] [(0:Int)≤nextV l a (ss.length:Int)∧nextV l a (ss.length:Int)<(ss.length:Int)] ((show (0:Int)≤nextV l a (↑ss.length:Int)∧nextV l a (↑ss.length:Int)<(↑ss.length:Int) from oM)) ?_
  exact zb []
theorem byte_all (p:UInt8→Bool) (h:(List.range 256).all (fun n=>p (UInt8.ofNat n))=true) (c:UInt8):p c=true:=by
 have:=List.all_eq_true.1 h c.toNat (List.mem_range.2 (UInt8.toNat_lt c))
 rwa [UInt8.ofNat_toNat] at this
theorem by_all (p q:UInt8→Bool) (h:(List.range 256).all (fun n=>p (UInt8.ofNat n)==q (UInt8.ofNat n))=true):∀ c:UInt8,[V1.c (Cell.bool (p c))]=[V1.c (Cell.bool (q c))]:=by
 intro c
 have h':p c=q c:=eq_of_beq (byte_all (fun c=>p c==q c) h c)
 rw [h']
theorem by_fun (p q:UInt8→Bool) (h:(List.range 256).all (fun n=>p (UInt8.ofNat n)==q (UInt8.ofNat n))=true) (c:UInt8):p c=q c :=
 eq_of_beq (byte_all (fun c=>p c==q c) h c)
theorem by_b {a b:Bool} (h:a=b):[V1.c (Cell.bool a)]=[V1.c (Cell.bool b)]:=by rw [h]
def greatB (c:UInt8):Bool:=65≤c&&c≤90
def smallB (c:UInt8):Bool:=97≤c&&c≤122
def digitB (c:UInt8):Bool:=48≤c&&c≤57
def letterB (c:UInt8):Bool:=greatB c||smallB c
def plainB (c:UInt8):Bool:=letterB c||digitB c||[45,46,95,126].contains c
def tokenB (c:UInt8):Bool:=letterB c||digitB c||[33,35,36,37,38,39,42,43,45,46,94,95,124,126,96].contains c
def seenB (c:UInt8):Bool:=32≤c&&c≤126
theorem great_ok (c:UInt8):Pur Tryz.prog G 146 [.c (.int .u8 (c.toNat:Int))] [.c (.bool (greatB c))]:=by
 refine zp Tryz.func146 ?_
 refine z0 [] [] ?_
 exact zS [.c (.bool (bif decide ((↑c.toNat:Int)≥(65:Int)) then decide ((↑c.toNat:Int)≤(90:Int)) else false))] (by revert c;refine by_all _ _ ?_;kernel_rfl)
theorem small_ok (c:UInt8):Pur Tryz.prog G 147 [.c (.int .u8 (c.toNat:Int))] [.c (.bool (smallB c))]:=by
 refine zp Tryz.func147 ?_
 refine z0 [] [] ?_
 exact zS [.c (.bool (bif decide ((↑c.toNat:Int)≥(97:Int)) then decide ((↑c.toNat:Int)≤(122:Int)) else false))] (by revert c;refine by_all _ _ ?_;kernel_rfl)
theorem digit_ok (c:UInt8):Pur Tryz.prog G 109 [.c (.int .u8 (c.toNat:Int))] [.c (.bool (digitB c))]:=by
 refine zp Tryz.func109 ?_
 refine z0 [] [] ?_
 exact zS [.c (.bool (bif decide ((↑c.toNat:Int)≥(48:Int)) then decide ((↑c.toNat:Int)≤(57:Int)) else false))] (by revert c;refine by_all _ _ ?_;kernel_rfl)
theorem digit6_ok (c:UInt8):Pur Tryz.prog G 125 [.c (.int .u8 (c.toNat:Int))] [.c (.bool (digitB c))]:=by
 refine zp Tryz.func125 ?_
 refine z0 [] [] ?_
 exact zS [.c (.bool (bif decide ((↑c.toNat:Int)≥(48:Int)) then decide ((↑c.toNat:Int)≤(57:Int)) else false))] (by revert c;refine by_all _ _ ?_;kernel_rfl)
theorem letter6_ok (c:UInt8):Pur Tryz.prog G 218 [.c (.int .u8 (c.toNat:Int))] [.c (.bool (letterB c))]:=by
 refine zp Tryz.func218 ?_
 refine z0 [] [] ?_
 exact zS [.c (.bool (bif bif decide ((↑c.toNat:Int)≥(65:Int)) then decide ((↑c.toNat:Int)≤(90:Int)) else false then true else bif decide ((↑c.toNat:Int)≥(97:Int)) then decide ((↑c.toNat:Int)≤(122:Int)) else false))] (by revert c;refine by_all _ _ ?_;kernel_rfl)
theorem seen1_ok (c:UInt8):Pur Tryz.prog G 110 [.c (.int .u8 (c.toNat:Int))] [.c (.bool (seenB c))]:=by
 refine zp Tryz.func110 ?_
 refine z0 [] [] ?_
 exact zS [.c (.bool (bif decide ((↑c.toNat:Int)≥(32:Int)) then decide ((↑c.toNat:Int)≤(126:Int)) else false))] (by revert c;refine by_all _ _ ?_;kernel_rfl)
theorem lib_IndexByte {G:Nat→Option (List Cell)} (s:List UInt8) (c:UInt8):Pur Tryz.prog G 189 [.c (.str s),.c (.int .u8 (c.toNat:Int))] [.c (.int .i64 (Lib.indexByte s c))]:=by
 refine Pur.of_below rfl ?_
 intro D ρ w vs h1 _ _ _
 obtain ⟨u,v,rfl,hu,hv⟩:=h1.two
 have hu:u = .string ⟨s.toArray⟩:=hu
 have hv:v = .int .u8 (c.toNat:Int):=hv
 subst hu hv
 refine (Go.Proofs.Tryz.strings_IndexByte ⟨s.toArray⟩ (c.toNat:Int) w).mono ?_
 rintro e w' ⟨rfl,rfl⟩
 exact ⟨_,rfl,by simp [ResDen,DenV,Den],Below.refl _ _⟩
theorem token1_ok (c:UInt8):Pur Tryz.prog G 199 [.c (.int .u8 (c.toNat:Int))] [.c (.bool (tokenB c))]:=by
 refine zp Tryz.func199 ?_
 refine z0 [(1,{cs:=[(1,pc (great_ok c)),(4,pc (small_ok c)),(8,pc (digit_ok c)),(12,pc (lib_IndexByte [(33:UInt8),35,36,37,38,39,42,43,45,46,94,95,124,126,96] c))]})] [] ?_
 exact zS [.c (.bool (bif bif bif greatB c then true else smallB c then true else digitB c then true else decide (Lib.indexByte [(33:UInt8),35,36,37,38,39,42,43,45,46,94,95,124,126,96] c≥(0:Int))))] (by revert c;refine by_all _ _ ?_;kernel_rfl)
theorem ibeq (a b:UInt8):((a.toNat:Int)==(b.toNat:Int))=(a==b):=by
 rw [Bool.eq_iff_iff,beq_iff_eq,beq_iff_eq,Int.ofNat_inj,UInt8.toNat_inj]
theorem dropS (l:List UInt8) (k:Nat) (h:k<l.length):l.drop k=l.getD k 0::l.drop (k+1):=by
 rw [List.getD_eq_getElem?_getD,List.getElem?_eq_getElem h];exact List.drop_eq_getElem_cons h
theorem in6_ok (c:UInt8) (s:List UInt8) (hl:s.length<4611686018427387904):Pur Tryz.prog G 127 [.c (.int .u8 (c.toNat:Int)),.c (.str s)] [.c (.bool (s.contains c))]:=by
 refine zp Tryz.func127 ?_
 refine z0 [] [] ?_
 refine zl (fun (k:Nat)=>⟨[(0,.v (.c (.int .u8 (↑c.toNat:Int)))),(1,.v (.c (.str s))),(5,.v (.c (.int .i64 (k:Int))))],[],32⟩) (fun k=>k≤s.length∧s.contains c=(s.drop k).contains c) (fun k=>s.length-k) 0 ⟨Nat.zero_le _,rfl⟩ ?_
 intro k L ⟨hk,hq⟩ again
 rcases Nat.lt_or_ge k s.length with hlt | hge
 ·rw [dropS s k hlt,List.contains_cons] at hq
  refine zg [] [true] [decide ((k:Int)<(s.length:Int))=true,(0:Int)≤(k:Int)∧(k:Int)<(s.length:Int)] ⟨sO,(show (0:Int)≤(↑k:Int)∧(↑k:Int)<(↑s.length:Int) from oM)⟩ ?_
  refine zc ((↑(s.getD k (0:UInt8)).toNat:Int)==(↑c.toNat:Int)) (fun h0 => ?_) (fun h0 => ?_)
  ·have g0:=eq_of_beq h0
   refine z0 [] [] ?_
   exact zS [.c (.bool true)] (by rw [ibeq] at h0;rw [hq,eq_of_beq h0];simp)
  ·have g0:=ne_of_beq_false h0
   refine zg [] [] [inR .i64 ((k:Int)+1)] (i6) ?_
   exact za [] (again _ (k+1) ⟨hlt,(by rw [ibeq] at h0;rw [hq,show (c==s.getD k 0)=false from by rw [beq_eq_false_iff_ne] at h0 ⊢;exact fun e=>h0 e.symm];rfl)⟩ oM)
 ·obtain rfl:k=s.length:=by omega
  rw [List.drop_length] at hq
  refine zg [] [false] [decide ((s.length:Int)<(s.length:Int))=false] ((show decide ((↑s.length:Int)<(↑s.length:Int))=false from (by simp;done))) ?_
  exact zS [.c (.bool false)] (by simp_all;done)
theorem plain6_ok (c:UInt8):Pur Tryz.prog G 177 [.c (.int .u8 (c.toNat:Int))] [.c (.bool (plainB c))]:=by
 refine zp Tryz.func177 ?_
 have hl:([45,46,95,126]:List UInt8).length<4611686018427387904:=by decide
 refine z0 [(1,{cs:=[(1,pc (letter6_ok c)),(4,pc (digit6_ok c)),(8,pc (in6_ok c [(45:UInt8),46,95,126] aS))]})] [] ?_
 exact zr
theorem All_tok (s:List UInt8) (hl:s.length<4611686018427387904):Pur Tryz.prog G 108 [.c (.str s),.c (.clo 199 0 (fun _=>none) (fun _ _ => .nilif))] [.c (.bool (s.all tokenB))]:=by
 refine zp Tryz.func108 ?_
 refine z0 [] [] ?_
 refine zl (fun (k:Nat)=>⟨[(0,.v (.c (.str s))),(1,.v (.c (.clo 199 (0:Nat) (fun _=>none) fun _ _ => .nilif))),(7,.v (.c (.int .i64 (↑s.length:Int)))),(8,.v (.c (.int .i64 (k:Int))))],[],32⟩) (fun k=>k≤s.length∧s.all tokenB=(s.drop k).all tokenB) (fun k=>s.length-k) 0 ⟨Nat.zero_le _,rfl⟩ ?_
 intro k L ⟨hk,hq⟩ again
 rcases Nat.lt_or_ge k s.length with hlt | hge
 ·rw [dropS s k hlt,List.all_cons] at hq
  refine zg [(4,{cs:=[(4,pc (token1_ok (s.getD k (0:UInt8))))]})] [true] [decide ((k:Int)<(s.length:Int))=true,(0:Int)≤(k:Int)∧(k:Int)<(s.length:Int)] ⟨sO,(show (0:Int)≤(↑k:Int)∧(↑k:Int)<(↑s.length:Int) from oM)⟩ ?_
  refine zc (!tokenB (s.getD k (0:UInt8))) (fun h0 => ?_) (fun h0 => ?_)
  ·have g0:=h0
   simp at g0
   refine z0 [] [] ?_
   exact zS [.c (.bool false)] (by simp_all;done)
  ·have g0:=h0
   simp at g0
   refine zg [] [] [inR .i64 ((k:Int)+1)] (i6) ?_
   exact za [] (again _ (k+1) (⟨aS,(by simp_all<;>omega)⟩) oM)
 ·obtain rfl:k=s.length:=by omega
  rw [List.drop_length] at hq
  refine zg [] [false] [decide ((s.length:Int)<(s.length:Int))=false] ((show decide ((↑s.length:Int)<(↑s.length:Int))=false from (by simp;done))) ?_
  exact zS [.c (.bool true)] (by simp [*];done)
theorem All_seen (s:List UInt8) (hl:s.length<4611686018427387904):Pur Tryz.prog G 108 [.c (.str s),.c (.clo 110 0 (fun _=>none) (fun _ _ => .nilif))] [.c (.bool (s.all seenB))]:=by
 refine zp Tryz.func108 ?_
 refine z0 [] [] ?_
 refine zl (fun (k:Nat)=>⟨[(0,.v (.c (.str s))),(1,.v (.c (.clo 110 (0:Nat) (fun _=>none) fun _ _ => .nilif))),(7,.v (.c (.int .i64 (↑s.length:Int)))),(8,.v (.c (.int .i64 (k:Int))))],[],32⟩) (fun k=>k≤s.length∧s.all seenB=(s.drop k).all seenB) (fun k=>s.length-k) 0 ⟨Nat.zero_le _,rfl⟩ ?_
 intro k L ⟨hk,hq⟩ again
 rcases Nat.lt_or_ge k s.length with hlt | hge
 ·rw [dropS s k hlt,List.all_cons] at hq
  refine zg [(4,{cs:=[(4,pc (seen1_ok (s.getD k (0:UInt8))))]})] [true] [decide ((k:Int)<(s.length:Int))=true,(0:Int)≤(k:Int)∧(k:Int)<(s.length:Int)] ⟨sO,(show (0:Int)≤(↑k:Int)∧(↑k:Int)<(↑s.length:Int) from oM)⟩ ?_
  refine zc (!seenB (s.getD k (0:UInt8))) (fun h0 => ?_) (fun h0 => ?_)
  ·have g0:=h0
   simp at g0
   refine z0 [] [] ?_
   exact zS [.c (.bool false)] (by simp_all;done)
  ·have g0:=h0
   simp at g0
   refine zg [] [] [inR .i64 ((k:Int)+1)] (i6) ?_
   exact za [] (again _ (k+1) (⟨aS,(by simp_all<;>omega)⟩) oM)
 ·obtain rfl:k=s.length:=by omega
  rw [List.drop_length] at hq
  refine zg [] [false] [decide ((s.length:Int)<(s.length:Int))=false] ((show decide ((↑s.length:Int)<(↑s.length:Int))=false from (by simp;done))) ?_
  exact zS [.c (.bool true)] (by simp [*];done)
def tokenT (s:List UInt8):Bool := !(s==[])&&s.all tokenB
def foldB (c:UInt8):UInt8:=if greatB c then c+32 else c
def foldT (s:List UInt8):List UInt8:=s.map foldB
def foldN (s:List UInt8) (k:Nat):List UInt8:=(s.take k).map foldB++s.drop k
theorem token_ok (s:List UInt8) (hl:s.length<4611686018427387904):Pur Tryz.prog G 158 [.c (.str s)] [.c (.bool (tokenT s))]:=by
 refine zp Tryz.func158 ?_
 refine z0 [(1,{cs:=[(4,pc (All_tok s aS))]})] [] ?_
 exact zS [.c (.bool (bif !s==[] then s.all tokenB else false))] (by simp [tokenT];done)
theorem seen_ok (s:List UInt8) (hl:s.length<4611686018427387904):Pur Tryz.prog G 59 [.c (.str s)] [.c (.bool (s.all seenB))]:=by
 refine zp Tryz.func59 ?_
 refine z0 [(1,{cs:=[(1,pc (All_seen s aS))]})] [] ?_
 exact zr
theorem foldN_len (s:List UInt8) (k:Nat):(foldN s k).length=s.length:=by
 unfold foldN;simp;omega
theorem foldN_at (s:List UInt8) (k:Nat) (h:k<s.length):(foldN s k).getD k 0=s.getD k 0:=by
 unfold foldN
 simp only [List.getD,List.getElem?_append]
 rw [if_neg sO]
 simp [Nat.min_eq_left (Nat.le_of_lt h)]
theorem foldN_succ (s:List UInt8) (k:Nat) (h:k<s.length):foldN s (k+1)=(foldN s k).set k (foldB (s.getD k 0)):=by
 unfold foldN
 rw [List.take_succ_eq_append_getElem h,List.map_append]
 simp [List.set_append,Nat.min_eq_left (Nat.le_of_lt h),List.getD,h]
 rw [dropS s k h,List.set_cons_zero]
theorem foldN_end (s:List UInt8):foldN s s.length=foldT s:=by simp [foldN,foldT]
theorem great_32 (c:UInt8) (h:greatB c=true):IntKind.u8.wrap (IntKind.u8.wrap ((c.toNat:Int)-65)+97)=((foldB c).toNat:Int):=by
 have:∀ c:UInt8,(!(greatB c)||IntKind.u8.wrap (IntKind.u8.wrap ((c.toNat:Int)-65)+97)==((foldB c).toNat:Int))=true:=byte_all _ kR
 have:=this c
 rw [h] at this
 exact eq_of_beq this
theorem fold_ok (s:List UInt8) (hl:s.length≤140737488355328):Pur Tryz.prog G 157 [.c (.str s)] [.c (.str (foldT s))]:=by
 refine zp Tryz.func157 ?_
 refine zg [] [] [s.length≤140737488355328] hl ?_
 refine zl (fun (k:Nat)=>⟨[(3,.v (.c (.row (1:Nat) (32:Nat) (0:Nat) s.length))),(8,.v (.c (.row (1:Nat) (32:Nat) (0:Nat) s.length))),(9,.v (.c (.int .i64 (↑s.length:Int)))),(10,.v (.c (.int .i64 (k:Int))))],[(32,.row 5 (1:Nat) s.length (bytesF (foldN s k)))],112⟩) (fun k=>k≤s.length) (fun k=>s.length-k) 0 (Nat.zero_le _) ?_
 intro k L hk again
 rcases Nat.lt_or_ge k s.length with hlt | hge
 ·have e1:EqvD (V1.c (Cell.int .u8 (((foldN s k).getD (0+k) 0).toNat:Int))) (.c (.int .u8 ((s.getD k 0).toNat:Int))):=eqvD_of (by rw [Nat.zero_add,foldN_at s k hlt])
  have e2:greatB (s.getD k 0)=true→BlkEqv (.row 5 1 s.length (rowSet (bytesF (foldN s k)) (0+k) 0 1 [.int .u8 (IntKind.u8.wrap (IntKind.u8.wrap (((s.getD k 0).toNat:Int)-65)+97))])) (.row 5 1 s.length (bytesF (foldN s (k+1)))):=fun h=>by
   rw [foldN_succ s k hlt]
   exact bytes_set _ _ (great_32 _ h) (by rw [foldN_len];exact hlt)
  have e3:greatB (s.getD k 0)=false→foldN s k=foldN s (k+1):=fun h=>by
   rw [foldN_succ s k hlt,← foldN_at s k hlt,foldB,foldN_at s k hlt,if_neg (by rw [h];decide),← foldN_at s k hlt]
   rw [List.getD_eq_getElem?_getD,List.getElem?_eq_getElem (by rw [foldN_len];exact hlt)]
   simp
  by_cases hg:greatB (s.getD k 0)=true
  ·have e2:=e2 hg
   refine Wp.go (mx:=true) (fun _=>mixed) [(4,{fm:=[(2,.c (.int .u8 ((s.getD k 0).toNat:Int)))]}),(6,{bs:=[(6,Blk.row 5 1 s.length (bytesF (foldN s (k+1))))]}),(5,{cs:=[(1,pc (great_ok (s.getD k (0:UInt8))))]})] 100 [true,true] [decide ((↑k:Int)<(↑s.length:Int))=true,(0:Int)≤(↑k:Int)∧(↑k:Int)<(↑s.length:Int),(0:Nat)+k<s.length,EqvD (V1.c (Cell.int .u8 (↑((foldN s k).getD ((0:Nat)+k) (0:UInt8)).toNat:Int))) (V1.c (Cell.int .u8 (↑(s.getD k (0:UInt8)).toNat:Int))),greatB (s.getD k (0:UInt8))=true,(0:Int)≤(↑k:Int)∧(↑k:Int)<(↑s.length:Int),BlkEqv (Blk.row 5 (1:Nat) s.length fun (i j:Nat)=>if i=(0:Nat)+k∧(0:Nat)≤j∧j<(1:Nat) then nthD (V1.c (Cell.int .u8 (IntKind.u8.wrap (IntKind.u8.wrap ((↑(s.getD k (0:UInt8)).toNat:Int)-(65:Int))+(97:Int))))).cells (j-(0:Nat)) else Cell.int .u8 (↑((foldN s k).getD i (0:UInt8)).toNat:Int)) (Blk.row 5 (1:Nat) s.length (bytesF (foldN s (k+(1:Nat))))),(0:Nat)+k<s.length,inR IntKind.i64 ((↑k:Int)+(1:Int))] (by kernel_rfl) (by kernel_rfl) (by kernel_rfl) ⟨(by simp;omega),(by omega),(by omega),(by assumption),(by assumption),(by omega),(by assumption),(by omega),inR64 (by omega) (by omega)⟩ ?_
   exact za [] (again _ (k+1) aS oM)
  ·have hg:greatB (s.getD k 0)=false:=by simpa using hg
   rw [e3 hg] at e1 ⊢
   refine zg [(4,{fm:=[(2,.c (.int .u8 ((s.getD k 0).toNat:Int)))]}),(5,{cs:=[(1,pc (great_ok (s.getD k (0:UInt8))))]})] [true,false] [decide ((k:Int)<(s.length:Int))=true,(0:Int)≤(k:Int)∧(k:Int)<(s.length:Int),0+k<s.length,EqvD (.c (.int .u8 (↑((foldN s (k+(1:Nat))).getD ((0:Nat)+k) (0:UInt8)).toNat:Int))) (.c (.int .u8 (↑(s.getD k (0:UInt8)).toNat:Int))),greatB (s.getD k (0:UInt8))=false,inR .i64 ((k:Int)+1)] ⟨sO,oM,oM,aS,aS,i6⟩ ?_
   exact za [] (again _ (k+1) aS oM)
 ·obtain rfl:k=s.length:=by omega
  have ee:byteL (bytesF (foldN s s.length)) 0 s.length=foldT s:=by rw [byteL_F _ (by rw [foldN_len]),foldN_end]
  refine zg [] [false] [decide ((s.length:Int)<(s.length:Int))=false,0+s.length≤s.length,areBytes (bytesF (foldN s s.length)) 0 s.length] ⟨(by simp;done),oM,areBytes_F _ _ _⟩ ?_
  exact zS [.c (.str (byteL (bytesF (foldN s s.length)) (0:Nat) s.length))] (by simp [*];done)
theorem occ_at (s sep:List UInt8) (k:Nat) (hk:k+sep.length≤s.length):Lib.occAt s sep k=(List.drop k (List.take (k+sep.length) s)==sep):=by
 rw [Lib.occAt_iff_take s sep k hk,List.take_drop]
theorem occ_none {s sep:List UInt8} (hs:sep≠[]) {k:Nat} (hk:¬ (k+sep.length≤s.length)) (hall:∀ j,j<k→Lib.occAt s sep j=false):Lib.index s sep = -1:=by
 refine Lib.index_none fun j hj => ?_
 rcases Nat.lt_or_ge j k with h | h
 ·exact hall j h
 ·cases hq:Lib.occAt s sep j with
  | false=>rfl
  | true =>
   rcases Lib.occAt_room hq with h' | h'
   ·omega
   ·exact (hs h').elim
theorem cut6_ok (s sep:List UInt8) (hl:s.length<4611686018427387904) (hs:sep≠[]) (hn:sep.length<1000):Pur Tryz.prog G 72 [.c (.str s),.c (.str sep)] [.c (.str (Lib.cut s sep).1),.c (.str (Lib.cut s sep).2.1),.c (.bool (Lib.cut s sep).2.2)]:=by
 refine zp Tryz.func72 ?_
 refine z0 [] [] ?_
 refine zl (fun (k:Nat)=>⟨[(0,.v (.c (.str s))),(1,.v (.c (.str sep))),(7,.v (.c (.int .i64 (k:Int))))],[],64⟩) (fun k=>k≤s.length∧∀ j,j<k→Lib.occAt s sep j=false) (fun k=>s.length-k) 0 ⟨Nat.zero_le _,fun _ h=>absurd h (Nat.not_lt_zero _)⟩ ?_
 intro k L ⟨hk,hall⟩ again
 have hp:0<sep.length:=List.length_pos_iff.2 hs
 by_cases hlt:k+sep.length≤s.length
 ·have ho:=occ_at s sep k hlt
  cases hq:Lib.occAt s sep k with
  | true =>
   have hi:=Lib.index_first hk hq hall
   have hc:Lib.cut s sep=(s.take k,s.drop (k+sep.length),true):=by
    unfold Lib.cut;rw [hi];simp
   rw [hc]
   rw [hq] at ho
   have ho:=ho.symm
   refine zg [] [true,true] [inR .i64 ((k:Int)+(sep.length:Int)),decide ((k:Int)+(sep.length:Int)≤(s.length:Int))=true,inR .i64 ((k:Int)+(sep.length:Int)),(0:Int)≤Int.ofNat k∧Int.ofNat k≤Int.ofNat (k+sep.length)∧Int.ofNat (k+sep.length)≤(s.length:Int),(List.drop (Int.ofNat k).toNat (List.take (Int.ofNat (k+sep.length)).toNat s)==sep)=true,(0:Int)≤Int.ofNat (0)∧Int.ofNat (0)≤Int.ofNat k∧Int.ofNat k≤(s.length:Int),inR .i64 ((k:Int)+(sep.length:Int)),(0:Int)≤Int.ofNat (k+sep.length)∧Int.ofNat (k+sep.length)≤Int.ofNat s.length∧Int.ofNat s.length≤(s.length:Int)] ⟨i6,sO,i6,⟨(by simp;done),⟨sO,sO⟩⟩,aS,⟨dC,⟨(by simp;done),sO⟩⟩,i6,⟨sO,⟨sO,(by simp;done)⟩⟩⟩ ?_
   exact zS [.c (.str (List.drop (0:Nat) (List.take (Int.ofNat k).toNat s))),.c (.str (List.drop (Int.ofNat (k+sep.length)).toNat (List.take (Int.ofNat s.length).toNat s))),.c (.bool true)] (by simp only [Int.ofNat_eq_natCast,Int.toNat_natCast,List.take_length,List.drop_zero])
  | false =>
   have hall':=up1 hall hq
   rw [hq] at ho
   have ho:=ho.symm
   refine zg [] [true,false] [inR .i64 ((k:Int)+(sep.length:Int)),decide ((k:Int)+(sep.length:Int)≤(s.length:Int))=true,inR .i64 ((k:Int)+(sep.length:Int)),(0:Int)≤Int.ofNat k∧Int.ofNat k≤Int.ofNat (k+sep.length)∧Int.ofNat (k+sep.length)≤(s.length:Int),(List.drop (Int.ofNat k).toNat (List.take (Int.ofNat (k+sep.length)).toNat s)==sep)=false,inR .i64 ((k:Int)+1)] ⟨i6,sO,i6,⟨(by simp;done),⟨sO,sO⟩⟩,aS,i6⟩ ?_
   exact za [] (again _ (k+1) (⟨oM,aS⟩) oM)
 ·have hi:=occ_none hs hlt hall
  have hc:Lib.cut s sep=(s,[],false):=by
   unfold Lib.cut;rw [hi];rfl
  rw [hc]
  refine zg [] [false] [inR .i64 ((k:Int)+(sep.length:Int)),decide ((k:Int)+(sep.length:Int)≤(s.length:Int))=false] ⟨i6,(show decide ((↑k:Int)+(↑sep.length:Int)≤(↑s.length:Int))=false from sO)⟩ ?_
  exact zr
theorem below_drew (w:World) (n:Nat):Below w.heap.size w (w.drewN n):=⟨rfl,rfl,rfl,Nat.le_refl _,fun _ _=>rfl⟩
theorem size_lt (s:List UInt8):(⟨s.toArray⟩:ByteArray).size=s.length:=size_mk s
theorem glob_one {D:Dat} {w:World} {g:Nat} {x:Cell} (hG:G g=some [x]) (k1:GlobOk G D) (k3:Agree D w):∃ u,w.cell? ⟨g,0,none⟩=some u∧Den D rho0 x u:=by
 obtain ⟨u,hu,hd⟩:=k1 g _ hG 0 x rfl
 exact ⟨u,k3 _ _ _ hu,hd⟩
theorem lib_Cut {m:Int} (hG:G 1=some [.int .i64 m]) (s p:List UInt8) (hl:s.length<4294967281):Pur Tryz.prog G 56 [.c (.str s),.c (.str p)] [.c (.str (Lib.cut s p).1),.c (.str (Lib.cut s p).2.1),.c (.bool (Lib.cut s p).2.2)]:=by
 refine Pur.of_below rfl ?_
 intro D ρ w vs h1 k1 _ k3
 obtain ⟨u,v,rfl,hu,hv⟩:=h1.two
 have hu:u = .string ⟨s.toArray⟩:=hu
 have hv:v = .string ⟨p.toArray⟩:=hv
 subst hu hv
 obtain ⟨x,hx,hd⟩:=glob_one hG k1 k3
 have hd:x = .int .i64 m:=hd
 subst hd
 refine (Go.Proofs.Tryz.strings_Cut ⟨s.toArray⟩ ⟨p.toArray⟩ m w (by rw [size_lt];exact hl) hx).mono ?_
 rintro e w' ⟨rfl,n,rfl⟩
 refine ⟨_,rfl,⟨_,rfl,rfl,fun j x hj => ?_⟩,below_drew _ _⟩
 match j,hj with
 | 0,hj=>simp at hj; subst hj; exact ⟨_,rfl,rfl⟩
 | 1,hj=>simp at hj; subst hj; exact ⟨_,rfl,rfl⟩
 | 2,hj=>simp at hj; subst hj; exact ⟨_,rfl,rfl⟩
 | j+3,hj=>simp at hj
theorem lib_Split {m:Int} (hG:G 1=some [.int .i64 m]) (s p:List UInt8) (hl:s.length<4294967281) (hp:1≤p.length):Pur Tryz.prog G 145 [.c (.str s),.c (.str p)] [.c (.sl 1 (Lib.split s p).length (strsF (Lib.split s p)))]:=by
 have hsz:(Lib.splitB ⟨p.toArray⟩ 0 (Lib.countB ⟨s.toArray⟩ ⟨p.toArray⟩) ⟨s.toArray⟩).length=Lib.countB ⟨s.toArray⟩ ⟨p.toArray⟩+1:=Lib.splitB_all _ (by rw [size_lt];exact hp) 0 _ _ rfl
 have hdat:(Lib.splitB ⟨p.toArray⟩ 0 (Lib.countB ⟨s.toArray⟩ ⟨p.toArray⟩) ⟨s.toArray⟩).map (·.data.toList)=Lib.split s p:=by rw [Lib.splitB_data];rfl
 have hlen:(Lib.split s p).length=Lib.countB ⟨s.toArray⟩ ⟨p.toArray⟩+1:=by rw [← hdat,List.length_map,hsz]
 have hcl:=Lib.countB_le ⟨p.toArray⟩ (by rw [size_lt];exact hp) s.length ⟨s.toArray⟩ (by rw [size_lt];exact Nat.le_refl _)
 rw [size_lt] at hcl
 refine Pur.of_alloc (by rw [hlen];unfold maxLen;omega) ?_
 intro D ρ w vs h1 k1 _ k3
 obtain ⟨u,v,rfl,hu,hv⟩:=h1.two
 have hu:u = .string ⟨s.toArray⟩:=hu
 have hv:v = .string ⟨p.toArray⟩:=hv
 subst hu hv
 obtain ⟨x,hx,hd⟩:=glob_one hG k1 k3
 have hd:x = .int .i64 m:=hd
 subst hd
 refine (Go.Proofs.Tryz.strings_Split ⟨s.toArray⟩ ⟨p.toArray⟩ m w (by rw [size_lt];exact hl) hx (by rw [size_lt];exact hp)).mono ?_
 rintro e w' ⟨rfl,rfl⟩
 refine ⟨_,_,by rw [hlen],rfl,by simp [hsz,hlen],fun i hi => ?_⟩
 have hi':i<(Lib.splitB ⟨p.toArray⟩ 0 (Lib.countB ⟨s.toArray⟩ ⟨p.toArray⟩) ⟨s.toArray⟩).length:=by rw [hsz,← hlen];exact hi
 refine ⟨.string (Lib.splitB ⟨p.toArray⟩ 0 (Lib.countB ⟨s.toArray⟩ ⟨p.toArray⟩) ⟨s.toArray⟩)[i],by simp [hi'],fun D => ?_⟩
 have:(Lib.split s p).getD i []=(Lib.splitB ⟨p.toArray⟩ 0 (Lib.countB ⟨s.toArray⟩ ⟨p.toArray⟩) ⟨s.toArray⟩)[i].data.toList:=by
  rw [← hdat];simp [List.getD,hi']
 show _=Value.string ⟨((Lib.split s p).getD i []).toArray⟩
 rw [this]
def encN (k:Int):List Cell:=[.int .i64 2,.int .i64 k,.str [],.nilsl]
theorem N_ok (k:Int):Pur Tryz.prog G 52 [.c (.int .i64 k)] [.agg (encN k)]:=by
 refine zp Tryz.func52 ?_
 refine z0 [] [] ?_
 exact zr
theorem kids2_ok:Pur Tryz.prog G 221 [.c (.int .i64 2)] [.c (.int .i64 0)]:=by
 refine zp Tryz.func221 ?_
 refine zg [] [false,true] [((2:Int)==(1:Int))=false,((2:Int)==(2:Int))=true] ⟨rfl,rfl⟩ ?_
 exact zr
theorem walkN_ok (k:Int) (h0:0≤k) (h1:k≤1073741824):Pur Tryz.prog G 180 [.agg (encN k),.c (.int .i64 1),.c (.int .i64 64)] [.c (.int .i64 63)]:=by
 refine zp Tryz.func180 ?_
 have a1:decide (k<0)=false:=by simp;omega
 have a2:decide (k>1073741824)=false:=by simp;omega
 refine zg [(1,{cs:=[(9,pc kids2_ok)]})] [false] [(bif bif bif bif bif bif bif decide ((64:Int)<(1:Int)) then true else decide ((1:Int)>(16:Int)) then true else (0:Int) != (0:Int) then true else bif (2:Int) != (1:Int) then !([]:List UInt8)==[] else false then true else decide ((↑([]:List UInt8).length:Int)>(1024:Int)) then true else bif (2:Int) != (2:Int) then k != (0:Int) else false then true else decide (k<(0:Int)) then true else decide (k>(1073741824:Int)))=false,inR .i64 (64-1)] ⟨sO,i6⟩ ?_
 refine zl (fun (_:Nat)=>⟨[(1,.v (.c (.int .i64 1))),(2,.v (.c (.int .i64 ((64:Int)-1)))),(3,.v (.c (.ptr 0 0))),(7,.v (.c (.int .i64 0)))],[(0,.box 64 (encN k))],912⟩) (fun _=>True) (fun k=>k) 0 trivial ?_
 intro _ L _ again
 refine zg [] [false] [(bif decide ((0:Int)<(0:Int)) then decide ((64:Int)-(1:Int)≥(0:Int)) else false)=false] rfl ?_
 exact zr
theorem MayN_ok (k:Int) (h0:0≤k) (h1:k≤1073741824):Pur Tryz.prog G 133 [.agg (encN k)] [.c (.bool true)]:=by
 refine zp Tryz.func133 ?_
 have c:=walkN_ok (G:=G) k h0 h1
 refine z0 [(1,{cs:=[(1,pc c)]})] [] ?_
 exact zr
def byteN (k:Int) (j:Nat):UInt8:=UInt8.ofNat (IntKind.u8.wrap (k.fdiv (2^(8*(3-j))))).toNat
theorem byteN_eq (k:Int) (j:Nat):IntKind.u8.wrap (k.fdiv (2^(8*(3-j))))=((byteN k j).toNat:Int):=by
 unfold byteN
 generalize k.fdiv (2^(8*(3-j)))=x
 have h:0≤IntKind.u8.wrap x∧IntKind.u8.wrap x<256:=by simp [IntKind.wrap,IntKind.bits,IntKind.signed];omega
 obtain ⟨y,hy⟩:=Int.eq_ofNat_of_zero_le h.1
 rw [hy] at h ⊢
 simp only [Int.toNat_natCast]
 have:(UInt8.ofNat y).toNat=y:=by simp;omega
 rw [this]
def numInv (k:Int) (x:Nat×Nat×List UInt8):St:=match x.1 with
 | 0=>⟨[(0,TV.v (V1.c (Cell.row 1 0 0 x.2.1))),(1,TV.v (V1.c (Cell.int .i64 k))),(7,TV.v (V1.c (Cell.int .i64 (3-(x.1:Int)))))],[(0,Blk.row 5 1 x.2.1 (bytesF x.2.2))],65⟩
 | _+1=>⟨[(0,TV.v (V1.c (Cell.row 1 49 0 x.2.1))),(1,TV.v (V1.c (Cell.int .i64 k))),(7,TV.v (V1.c (Cell.int .i64 (3-(x.1:Int)))))],[(49,Blk.row 5 1 x.2.1 (bytesF x.2.2))],65⟩
theorem num_ok (n:Nat) (l:List UInt8) (hn:n=l.length) (hm:n≤1000) (k:Int):FnB Tryz.prog G 181 [.row 5 1 n (bytesF l)] [.c (.row 1 0 0 n),.c (.int .i64 k),.c (.int .i64 4)] [.c (.row 1 1 0 (n+1+1+1+1))] [(1,.row 5 1 (n+1+1+1+1) (bytesF ((((l++[byteN k 0])++[byteN k 1])++[byteN k 2])++[byteN k 3])))]:=by
 refine zf Tryz.func181 ?_
 refine zg [] [] [inR .i64 (4-1)] (inR64 dC dC) ?_
 refine zl (numInv k) (fun x=>x=(0,n,l)∨x=(1,n+1,(l++[byteN k 0]))∨x=(2,n+1+1,((l++[byteN k 0])++[byteN k 1]))∨x=(3,n+1+1+1,(((l++[byteN k 0])++[byteN k 1])++[byteN k 2]))∨x=(4,n+1+1+1+1,((((l++[byteN k 0])++[byteN k 1])++[byteN k 2])++[byteN k 3]))) (fun x=>4-x.1) (0,n,l) (Or.inl rfl) ?_
 intro x L hx again
 rcases hx with rfl | rfl | rfl | rfl | rfl
 ·have hl:n=(l).length:=by simp [hn]
  have e1:BlkEqv (.row 5 1 (n+1) (catF (n) (bytesF l) (fun i j=>nthD [.int .u8 (IntKind.u8.wrap (k.fdiv (2^(8*(3-0)))))] ((0+i)*1+j)))) (.row 5 1 (n+1) (bytesF (l++[byteN k 0]))):=by
   rw [byteN_eq k 0];exact bytes_app l [byteN k 0] hl
  have hnx:((1,n+1,(l++[byteN k 0])):Nat×Nat×List UInt8)=(1,n+1,(l++[byteN k 0])):=rfl
  refine zg [(4,{bs:=[(7,.row 5 1 (n+1) (bytesF (l++[byteN k 0])))]})] [true] [decide ((3:Int)-(↑(0:Nat):Int)≥(0:Int))=true,inR .i64 ((8:Int)*((3:Int)-(↑(0:Nat):Int))),(0:Int)≤(8:Int)*((3:Int)-(↑(0:Nat):Int)),(n+1)*1≤140737488355328,BlkEqv (.row 5 (1:Nat) (n+(1:Nat)) (catF n (bytesF l) fun i j=>nthD [.int .u8 (IntKind.u8.wrap (k.fdiv ((2:Int)^(24:Nat))))] (((0:Nat)+i)*(1:Nat)+j))) (.row 5 (1:Nat) (n+(1:Nat)) (bytesF (l++[byteN k (0:Nat)]))),n≤n,0+1≤1,inR .i64 ((3:Int)-(↑(0:Nat):Int)-(1:Int))] ⟨rfl,i6,oM,oM,aS,oM,oM,i6⟩ ?_
  exact za [(49,209)] (again _ (1,n+1,(l++[byteN k 0])) (by simp;done) oM)
 ·have hl:n+1=((l++[byteN k 0])).length:=by simp [hn]
  have e1:BlkEqv (.row 5 1 (n+1+1) (catF (n+1) (bytesF (l++[byteN k 0])) (fun i j=>nthD [.int .u8 (IntKind.u8.wrap (k.fdiv (2^(8*(3-1)))))] ((0+i)*1+j)))) (.row 5 1 (n+1+1) (bytesF ((l++[byteN k 0])++[byteN k 1]))):=by
   rw [byteN_eq k 1];exact bytes_app (l++[byteN k 0]) [byteN k 1] hl
  have hnx:((2,n+1+1,((l++[byteN k 0])++[byteN k 1])):Nat×Nat×List UInt8)=(2,n+1+1,((l++[byteN k 0])++[byteN k 1])):=rfl
  refine zg [(4,{bs:=[(7,.row 5 1 (n+1+1) (bytesF ((l++[byteN k 0])++[byteN k 1])))]})] [true] [decide ((3:Int)-(↑(1:Nat):Int)≥(0:Int))=true,inR .i64 ((8:Int)*((3:Int)-(↑(1:Nat):Int))),(0:Int)≤(8:Int)*((3:Int)-(↑(1:Nat):Int)),(n+1+1)*1≤140737488355328,BlkEqv (.row 5 (1:Nat) (n+(1:Nat)+(1:Nat)) (catF (n+(1:Nat)) (bytesF (l++[byteN k (0:Nat)])) fun i j=>nthD [.int .u8 (IntKind.u8.wrap (k.fdiv ((2:Int)^(16:Nat))))] (((0:Nat)+i)*(1:Nat)+j))) (.row 5 (1:Nat) (n+(1:Nat)+(1:Nat)) (bytesF (l++[byteN k (0:Nat)]++[byteN k (1:Nat)]))),n+1≤n+1,0+1≤1,inR .i64 ((3:Int)-(↑(1:Nat):Int)-(1:Int))] ⟨rfl,i6,oM,oM,aS,oM,oM,i6⟩ ?_
  exact za [(49,209)] (again _ (2,n+1+1,((l++[byteN k 0])++[byteN k 1])) (by simp;done) oM)
 ·have hl:n+1+1=(((l++[byteN k 0])++[byteN k 1])).length:=by simp [hn]
  have e1:BlkEqv (.row 5 1 (n+1+1+1) (catF (n+1+1) (bytesF ((l++[byteN k 0])++[byteN k 1])) (fun i j=>nthD [.int .u8 (IntKind.u8.wrap (k.fdiv (2^(8*(3-2)))))] ((0+i)*1+j)))) (.row 5 1 (n+1+1+1) (bytesF (((l++[byteN k 0])++[byteN k 1])++[byteN k 2]))):=by
   rw [byteN_eq k 2];exact bytes_app ((l++[byteN k 0])++[byteN k 1]) [byteN k 2] hl
  have hnx:((3,n+1+1+1,(((l++[byteN k 0])++[byteN k 1])++[byteN k 2])):Nat×Nat×List UInt8)=(3,n+1+1+1,(((l++[byteN k 0])++[byteN k 1])++[byteN k 2])):=rfl
  refine zg [(4,{bs:=[(7,.row 5 1 (n+1+1+1) (bytesF (((l++[byteN k 0])++[byteN k 1])++[byteN k 2])))]})] [true] [decide ((3:Int)-(↑(2:Nat):Int)≥(0:Int))=true,inR .i64 ((8:Int)*((3:Int)-(↑(2:Nat):Int))),(0:Int)≤(8:Int)*((3:Int)-(↑(2:Nat):Int)),(n+1+1+1)*1≤140737488355328,BlkEqv (.row 5 (1:Nat) (n+(1:Nat)+(1:Nat)+(1:Nat)) (catF (n+(1:Nat)+(1:Nat)) (bytesF (l++[byteN k (0:Nat)]++[byteN k (1:Nat)])) fun i j=>nthD [.int .u8 (IntKind.u8.wrap (k.fdiv ((2:Int)^(8:Nat))))] (((0:Nat)+i)*(1:Nat)+j))) (.row 5 (1:Nat) (n+(1:Nat)+(1:Nat)+(1:Nat)) (bytesF (l++[byteN k (0:Nat)]++[byteN k (1:Nat)]++[byteN k (2:Nat)]))),n+1+1≤n+1+1,0+1≤1,inR .i64 ((3:Int)-(↑(2:Nat):Int)-(1:Int))] ⟨rfl,i6,oM,oM,aS,oM,oM,i6⟩ ?_
  exact za [(49,209)] (again _ (3,n+1+1+1,(((l++[byteN k 0])++[byteN k 1])++[byteN k 2])) (by simp;done) oM)
 ·have hl:n+1+1+1=((((l++[byteN k 0])++[byteN k 1])++[byteN k 2])).length:=by simp [hn]
  have e1:BlkEqv (.row 5 1 (n+1+1+1+1) (catF (n+1+1+1) (bytesF (((l++[byteN k 0])++[byteN k 1])++[byteN k 2])) (fun i j=>nthD [.int .u8 (IntKind.u8.wrap (k.fdiv (2^(8*(3-3)))))] ((0+i)*1+j)))) (.row 5 1 (n+1+1+1+1) (bytesF ((((l++[byteN k 0])++[byteN k 1])++[byteN k 2])++[byteN k 3]))):=by
   rw [byteN_eq k 3];exact bytes_app (((l++[byteN k 0])++[byteN k 1])++[byteN k 2]) [byteN k 3] hl
  have hnx:((4,n+1+1+1+1,((((l++[byteN k 0])++[byteN k 1])++[byteN k 2])++[byteN k 3])):Nat×Nat×List UInt8)=(4,n+1+1+1+1,((((l++[byteN k 0])++[byteN k 1])++[byteN k 2])++[byteN k 3])):=rfl
  refine zg [(4,{bs:=[(7,.row 5 1 (n+1+1+1+1) (bytesF ((((l++[byteN k 0])++[byteN k 1])++[byteN k 2])++[byteN k 3])))]})] [true] [decide ((3:Int)-(↑(3:Nat):Int)≥(0:Int))=true,inR .i64 ((8:Int)*((3:Int)-(↑(3:Nat):Int))),(0:Int)≤(8:Int)*((3:Int)-(↑(3:Nat):Int)),(n+1+1+1+1)*1≤140737488355328,BlkEqv (.row 5 (1:Nat) (n+(1:Nat)+(1:Nat)+(1:Nat)+(1:Nat)) (catF (n+(1:Nat)+(1:Nat)+(1:Nat)) (bytesF (l++[byteN k (0:Nat)]++[byteN k (1:Nat)]++[byteN k (2:Nat)])) fun i j=>nthD [.int .u8 (IntKind.u8.wrap (k.fdiv ((2:Int)^(0:Nat))))] (((0:Nat)+i)*(1:Nat)+j))) (.row 5 (1:Nat) (n+(1:Nat)+(1:Nat)+(1:Nat)+(1:Nat)) (bytesF (l++[byteN k (0:Nat)]++[byteN k (1:Nat)]++[byteN k (2:Nat)]++[byteN k (3:Nat)]))),n+1+1+1≤n+1+1+1,0+1≤1,inR .i64 ((3:Int)-(↑(3:Nat):Int)-(1:Int))] ⟨rfl,i6,oM,oM,aS,oM,oM,i6⟩ ?_
  exact za [(49,209)] (again _ (4,n+1+1+1+1,((((l++[byteN k 0])++[byteN k 1])++[byteN k 2])++[byteN k 3])) (by simp;done) oM)
 ·refine zg [] [false] [decide ((3:Int)-(↑(4:Nat):Int)≥(0:Int))=false] rfl ?_
  exact zb [49]
def keyB (k:Int):List UInt8:=((([2]++[byteN k 0])++[byteN k 1])++[byteN k 2])++[byteN k 3]
theorem putN_ok (k:Int):FnB Tryz.prog G 134 [] [.c .nilsl,.agg (encN k)] [.c (.row 1 0 0 5)] [(0,.row 5 1 5 (bytesF (keyB k)))]:=by
 refine zf Tryz.func134 ?_
 have e1:BlkEqv (.row 5 1 1 (catF 0 (fun _ _ => .nilif) (fun i j=>nthD [.int .u8 (IntKind.u8.wrap 2)] ((0+i)*1+j)))) (.row 5 1 1 (bytesF [2])):=by
  refine BlkEqv.row_ext rfl fun i hi j hj => ?_
  obtain ⟨rfl,rfl⟩:i=0∧j=0:=by omega
  rfl
 have c:FnB Tryz.prog G 181 [.row 5 1 1 (bytesF [2])] [.c (.row 1 0 0 1),.c (.int .i64 k),.c (.int .i64 4)] [.c (.row 1 1 0 5)] [(1,.row 5 1 5 (bytesF (keyB k)))]:=num_ok 1 [2] rfl dC k
 refine zg [(1,{bs:=[(5,.row 5 1 1 (bytesF [2]))]}),(6,{cs:=[(3,cb [112] c)]})] [false,true] [1≤140737488355328,BlkEqv (.row 5 (1:Nat) (1:Nat) (catF (0:Nat) (fun (x x_1:Nat) => .nilif) fun i j=>nthD [.int .u8 (IntKind.u8.wrap (2:Int))] (((0:Nat)+i)*(1:Nat)+j))) (.row 5 (1:Nat) (1:Nat) (bytesF [(2:UInt8)])),0+1≤1,((2:Int)==(1:Int))=false,((2:Int)==(2:Int))=true] ⟨oM,aS,oM,rfl,rfl⟩ ?_
 refine zl (fun (_:Nat)=>⟨[(0,.v (.c (.row 1 288 0 5))),(3,.v (.c (.ptr 0 0))),(5,.v (.c (.int .i64 0)))],[(0,.box 64 (encN k)),(288,.row 5 1 5 (bytesF (keyB k)))],336⟩) (fun _=>True) (fun k=>k) 0 trivial ?_
 intro _ L _ again
 refine zg [] [false] [decide ((0:Int)<(0:Int))=false] rfl ?_
 exact zb [288]
def sgs:List UInt8:=[65,66,67,68,69,70,71,72,73,74,75,76,77,78,79,80,81,82,83,84,85,86,87,88,89,90,97,98,99,100,101,102,103,104,105,106,107,108,109,110,111,112,113,114,115,116,117,118,119,120,121,122,48,49,50,51,52,53,54,55,56,57,45,95]
def v3 (b:List UInt8) (i:Nat):Nat→Int
 | 0=>0
 | k+1=>if i+k<b.length then v3 b i k*256+((b.getD (i+k) 0).toNat:Int) else v3 b i k*256
def n3 (b:List UInt8) (i:Nat):Nat→Nat
 | 0=>0
 | k+1=>if i+k<b.length then n3 b i k+1 else n3 b i k
theorem n3_le (b:List UInt8) (i:Nat):∀ k,n3 b i k≤k
 | 0=>Nat.le_refl _
 | k+1=>by have:=n3_le b i k; unfold n3; split<;>omega
theorem v3_lt (b:List UInt8) (i:Nat):∀ k,k≤3→0≤v3 b i k∧v3 b i k<256^k
 | 0,_=>⟨Int.le_refl 0,Int.zero_lt_one⟩
 | k+1,h=>by
  have:=v3_lt b i k oM
  have hc:=UInt8.toNat_lt (b.getD (i+k) 0)
  have hp:(256:Int)^(k+1)=256^k*256:=Int.pow_succ _ _
  unfold v3;rw [hp];split<;>omega
def encO (b:List UInt8):Nat×Option (Nat×List UInt8)→St
 | (g,none)=>⟨[(0,.v (.c (.sl 1 b.length (bytesF b)))),(3,.v (.c .nilsl)),(4,.v (.c (.int .i64 ((3*g:Nat):Int))))],[],48⟩
 | (g,some (n,l))=>⟨[(0,.v (.c (.sl 1 b.length (bytesF b)))),(3,.v (.c (.row 1 40 0 n))),(4,.v (.c (.int .i64 ((3*g:Nat):Int))))],[(40,.row 5 1 n (bytesF l))],48⟩
def enc1 (b:List UInt8) (g:Nat) (o:Option (Nat×List UInt8)) (x:Nat×Int×Nat):St:=match o with
 | none=>⟨[(0,.v (.c (.sl 1 b.length (bytesF b)))),(3,.v (.c .nilsl)),(4,.v (.c (.int .i64 ((3*g:Nat):Int)))),(5,.v (.c (.int .i64 x.2.1))),(6,.v (.c (.int .i64 (x.2.2:Int)))),(7,.v (.c (.int .i64 (x.1:Int))))],[],400⟩
 | some (n,l)=>⟨[(0,.v (.c (.sl 1 b.length (bytesF b)))),(3,.v (.c (.row 1 40 0 n))),(4,.v (.c (.int .i64 ((3*g:Nat):Int)))),(5,.v (.c (.int .i64 x.2.1))),(6,.v (.c (.int .i64 (x.2.2:Int)))),(7,.v (.c (.int .i64 (x.1:Int))))],[(40,.row 5 1 n (bytesF l))],400⟩
def enc2 (b:List UInt8) (g:Nat) (v:Int) (m:Nat):Nat×Option (Nat×List UInt8)→St
 | (k,none)=>⟨[(0,.v (.c (.sl 1 b.length (bytesF b)))),(3,.v (.c .nilsl)),(4,.v (.c (.int .i64 ((3*g:Nat):Int)))),(5,.v (.c (.int .i64 v))),(6,.v (.c (.int .i64 (m:Int)))),(8,.v (.c (.int .i64 (k:Int))))],[],800⟩
 | (k,some (n,l))=>⟨[(0,.v (.c (.sl 1 b.length (bytesF b)))),(3,.v (.c (.row 1 40 0 n))),(4,.v (.c (.int .i64 ((3*g:Nat):Int)))),(5,.v (.c (.int .i64 v))),(6,.v (.c (.int .i64 (m:Int)))),(8,.v (.c (.int .i64 (k:Int))))],[(40,.row 5 1 n (bytesF l))],800⟩
def six (v:Int) (k:Nat):Int:=(v.fdiv (2^(18-6*k)))%64
def sgn6 (v:Int) (k:Nat):UInt8:=sgs.getD (six v k).toNat 0
def sgs6 (v:Int):Nat→List UInt8
 | 0=>[]
 | k+1=>sgs6 v k++[sgn6 v k]
def grp (b:List UInt8) (g:Nat):List UInt8:=sgs6 (v3 b (3*g) 3) (n3 b (3*g) 3+1)
def encG (b:List UInt8):Nat→List UInt8
 | 0=>[]
 | g+1=>encG b g++grp b g
def enc8 (b:List UInt8):List UInt8:=encG b ((b.length+2) / 3)
def encOF (b:List UInt8):Nat×Option (Nat×List UInt8)→Prop
 | (g,none)=>g=0
 | (g,some (n,l))=>0<g∧3*g<b.length+3∧l=encG b g∧n=l.length∧n≤4*g
def enc1F (b:List UInt8) (g:Nat) (x:Nat×Int×Nat):Prop:=x.1≤3∧x.2.1=v3 b (3*g) x.1∧x.2.2=n3 b (3*g) x.1
def enc2F (b:List UInt8) (g:Nat) (v:Int) (m:Nat):Nat×Option (Nat×List UInt8)→Prop
 | (k,none)=>k=0∧g=0
 | (k,some (n,l))=>k≤m+1∧l=encG b g++sgs6 v k∧n=l.length∧n+(m+1-k)≤4*(g+1)
theorem v3_16 (b:List UInt8) (i k:Nat) (h:k≤3):0≤v3 b i k∧v3 b i k<16777216:=by
 have:=v3_lt b i k h
 have:k=0∨k=1∨k=2∨k=3:=by omega
 rcases this with rfl | rfl | rfl | rfl<;>simp at *<;>omega
theorem wrap_b (c:UInt8):IntKind.i64.wrap ((c.toNat:Nat):Int)=((c.toNat:Nat):Int):=eq_of_beq (byte_all (fun c=>IntKind.i64.wrap ((c.toNat:Nat):Int)==((c.toNat:Nat):Int)) kR c)
theorem v3_in (b:List UInt8) (i k:Nat) (h:i+k<b.length):v3 b i k*256+IntKind.i64.wrap ((b.getD ((i:Int)+(k:Int)).toNat 0).toNat:Int)=v3 b i (k+1):=by
 have e:((i:Int)+(k:Int)).toNat=i+k:=by omega
 rw [wrap_b,e,v3,if_pos h]
theorem bits63 (x:Int) (h:0≤x∧x<2^62):bitsI .and .i64 x 63=x%64:=by
 obtain ⟨n,rfl⟩:=Int.eq_ofNat_of_zero_le h.1
 have e:(BitVec.ofInt 64 (n:Int) &&& BitVec.ofInt 64 63).toNat=n%64:=by
  rw [BitVec.toNat_and]
  have e1:(BitVec.ofInt 64 (n:Int)).toNat=n:=by
   rw [BitVec.toNat_ofInt];omega
  have e2:(BitVec.ofInt 64 63).toNat=2^6-1:=rfl
  rw [e1,e2,Nat.and_two_pow_sub_one_eq_mod]
 show IntKind.i64.wrap ((BitVec.ofInt 64 (n:Int) &&& BitVec.ofInt 64 63).toNat)=_
 rw [e]
 simp [IntKind.wrap,IntKind.bits,IntKind.signed]
 omega
theorem six_is (v:Int) (k:Nat) (hk:k≤3) (hv:0≤v∧v<16777216):bitsI .and .i64 (v.fdiv (2^min (18-6*(k:Int)).toNat IntKind.i64.bits)) 63=six v k:=by
 have e:min (18-6*(k:Int)).toNat IntKind.i64.bits=18-6*k:=by show min _ 64=_;omega
 rw [e,bits63];· rfl
 have h1:(0:Int)≤2^(18-6*k):=Int.le_of_lt (Int.pow_pos dC)
 rw [Int.fdiv_eq_ediv_of_nonneg _ h1]
 exact ⟨Int.ediv_nonneg hv.1 h1,Int.lt_of_le_of_lt (Int.ediv_le_self _ hv.1) oM⟩
theorem row_new (x:Int) (c:UInt8) (hx:x=(c.toNat:Int)):BlkEqv (.row 5 1 1 (catF 0 (fun _ _ => .nilif) (fun i j=>nthD [.int .u8 x] ((0+i)*1+j)))) (.row 5 1 1 (bytesF [c])):=by
 subst hx
 refine BlkEqv.row_ext rfl fun i hi j hj => ?_
 obtain ⟨rfl,rfl⟩:i=0∧j=0:=by omega
 rfl
theorem enc8_ok (b:List UInt8) (hl:b.length≤30000000000000):Pur Tryz.prog G 41 [.c (.sl 1 b.length (bytesF b))] [.c (.str (enc8 b))]:=by
 refine zp Tryz.func41 ?_
 refine z0 [] [] ?_
 refine zl (encO b) (encOF b) (fun x=>b.length+3-3*x.1) (0,none) rfl ?_
 rintro ⟨g,_ | ⟨n,l⟩⟩ L hf again0
 ·rcases hf with rfl
  rcases Nat.lt_or_ge (3*0) b.length with hlt | hge
  ·have ht:decide ((↑(3*0):Int)<(↑b.length:Int))=true:=by simp;omega
   refine zg [] [true] [decide ((↑(3*0):Int)<(b.length:Int))=true] ht ?_
   refine zl (enc1 b 0 none) (enc1F b 0) (fun x=>3-x.1) (0,0,0) ⟨Nat.zero_le _,rfl,rfl⟩ ?_
   rintro ⟨k,v,m⟩ L1 ⟨hk,hv,hm⟩ again
   have hm3:=n3_le b (3*0) k
   have hv3:=v3_16 b (3*0) k hk
   have hv4:=v3_16 b (3*0) (k+1)
   have hin:=v3_in b (3*0) k
   simp only [] at hk hv hm
   rw [← hv] at hv3 hin
   rw [← hm] at hm3
   rcases Nat.lt_or_ge k 3 with hk3 | hk3
   ·have h3:decide ((k:Int)<3)=true:=by simp;omega
    have hv5:=hv4 hk3
    clear hv4 ht
    have r1:inR .i64 (v*256):=i6
    have r2:inR .i64 ((m:Int)+1):=i6
    rcases Nat.lt_or_ge (3*0+k) b.length with hc | hc
    ·have hin:=hin hc
     rw [← hin] at hv5
     have r3:inR .i64 (v*256+IntKind.i64.wrap ((b.getD (((3*0:Nat):Int)+(k:Int)).toNat 0).toNat:Int)):=i6
     have hnx:enc1F b 0 (k+1,v*256+IntKind.i64.wrap ((b.getD (((3*0:Nat):Int)+(k:Int)).toNat 0).toNat:Int),m+1):=⟨hk3,hin,by show m+1=_;rw [hm,n3,if_pos hc]⟩
     have hc2:decide (((3*0:Nat):Int)+(k:Int)<(b.length:Int))=true:=by simp;omega
     refine zg [] [true,true] [decide ((k:Int)<3)=true,inR .i64 (v*256),inR .i64 ((↑((3:Nat)*(0:Nat)):Int)+(k:Int)),decide ((↑((3:Nat)*(0:Nat)):Int)+(k:Int)<(b.length:Int))=true,inR .i64 ((↑((3:Nat)*(0:Nat)):Int)+(k:Int)),(0:Int)≤(↑((3:Nat)*(0:Nat)):Int)+(k:Int)∧(↑((3:Nat)*(0:Nat)):Int)+(k:Int)<(b.length:Int),inR .i64 (v*(256:Int)+IntKind.i64.wrap (↑(b.getD ((↑((3:Nat)*(0:Nat)):Int)+(k:Int)).toNat (0:UInt8)).toNat:Int)),inR .i64 ((m:Int)+1),inR .i64 ((k:Int)+1)] ⟨aS,i6,i6,aS,i6,oM,i6,i6,i6⟩ ?_
     exact za [] (again _ (k+1,v*256+IntKind.i64.wrap ((b.getD (((3*0:Nat):Int)+(k:Int)).toNat 0).toNat:Int),m+1) aS oM)
    ·clear hin
     have hnx:enc1F b 0 (k+1,v*256,m):=⟨hk3,by show v*256=_;rw [hv,v3,if_neg oM],by show m=_;rw [hm,n3,if_neg oM]⟩
     have hc2:decide (((3*0:Nat):Int)+(k:Int)<(b.length:Int))=false:=by simp;omega
     refine zg [] [true,false] [decide ((k:Int)<3)=true,inR .i64 (v*256),inR .i64 ((↑((3:Nat)*(0:Nat)):Int)+(k:Int)),decide ((↑((3:Nat)*(0:Nat)):Int)+(k:Int)<(b.length:Int))=false,inR .i64 ((k:Int)+1)] ⟨aS,i6,i6,aS,i6⟩ ?_
     exact za [] (again _ (k+1,v*256,m) aS oM)
   ·obtain rfl:k=3:=by omega
    have h3:decide ((↑(3:Nat):Int)<3)=false:=rfl
    refine zg [] [false] [decide ((↑(3:Nat):Int)<(3:Int))=false] rfl ?_
    refine zl (enc2 b 0 v m) (enc2F b 0 v m) (fun x=>m+1-x.1) (0,none) ⟨rfl,rfl⟩ ?_
    clear again
    rintro ⟨k,_ | ⟨n,l⟩⟩ L2 hf again
    ·obtain ⟨rfl,h00⟩:=hf
     have h3:decide ((↑(0:Nat):Int)≤(m:Int))=true:=by simp
     have hx:=eqvD_of (congrArg (fun x=>V1.c (.int .i64 x)) (six_is v 0 dC hv3))
     have hs:0≤six v 0∧six v 0<((64:Nat):Int):=by unfold six;omega
     have e1:=row_new ((([65,66,67,68,69,70,71,72,73,74,75,76,77,78,79,80,81,82,83,84,85,86,87,88,89,90,97,98,99,100,101,102,103,104,105,106,107,108,109,110,111,112,113,114,115,116,117,118,119,120,121,122,48,49,50,51,52,53,54,55,56,57,45,95]:List UInt8).getD (six v 0).toNat 0).toNat:Int) (sgn6 v 0) rfl
     have hnx:enc2F b 0 v m (1,some (1,[sgn6 v 0])):=⟨by omega,by first | rfl | omega,rfl,by omega⟩
     refine zg [(15,{fm:=[(6,.c (.int .i64 (six v 0)))],bs:=[(9,.row 5 1 1 (bytesF [sgn6 v 0]))]})] [true] [decide ((↑(0:Nat):Int)≤(m:Int))=true,inR .i64 ((6:Int)*(↑(0:Nat):Int)),inR .i64 ((18:Int)-(6:Int)*(↑(0:Nat):Int)),(0:Int)≤(18:Int)-(6:Int)*(↑(0:Nat):Int),EqvI (.c (.int .i64 (bitsI .and .i64 (v.fdiv ((2:Int)^(18:Nat))) (63:Int)))) (.c (.int .i64 (six v (0:Nat)))),EqvD (.c (.int .i64 (bitsI .and .i64 (v.fdiv ((2:Int)^(18:Nat))) (63:Int)))) (.c (.int .i64 (six v (0:Nat)))),(0:Int)≤six v (0:Nat)∧six v (0:Nat)<(↑(64:Nat):Int),1≤140737488355328,BlkEqv (.row 5 (1:Nat) (1:Nat) (catF (0:Nat) (fun (x x_1:Nat) => .nilif) fun i j=>nthD [.int .u8 (↑([(65:UInt8),66,67,68,69,70,71,72,73,74,75,76,77,78,79,80,81,82,83,84,85,86,87,88,89,90,97,98,99,100,101,102,103,104,105,106,107,108,109,110,111,112,113,114,115,116,117,118,119,120,121,122,48,49,50,51,52,53,54,55,56,57,45,95].getD (six v (0:Nat)).toNat (0:UInt8)).toNat:Int)] (((0:Nat)+i)*(1:Nat)+j))) (.row 5 (1:Nat) (1:Nat) (bytesF [sgn6 v (0:Nat)])),0+1≤1,inR .i64 ((↑(0:Nat):Int)+(1:Int))] ⟨rfl,i6,i6,oM,fun _ _=>trivial,aS,oM,oM,aS,oM,i6⟩ ?_
     exact za [(40,992)] (again _ (1,some (1,[sgn6 v 0])) aS oM)
    ·obtain ⟨hk,hl1,hn,hb⟩:=hf
     rcases Nat.lt_or_ge m k with hk3 | hk3
     ·obtain rfl:k=m+1:=by omega
      have again:=again0
      have hv':=hv
      have hm':=hm
      have hnx:encOF b (0+1,some (n,l)):=⟨by omega,by omega,by rw [hl1,hv',hm'];rfl,hn,by omega⟩
      clear hv hm hv' hm' hl1 hin
      refine zg [] [false] [decide ((↑(m+(1:Nat)):Int)≤(m:Int))=false,inR .i64 ((↑((3:Nat)*(0:Nat)):Int)+(3:Int))] ⟨sO,i6⟩ ?_
      exact za [] (again _ (0+1,some (n,l)) aS oM)
     ·have hx:=eqvD_of (congrArg (fun x=>V1.c (.int .i64 x)) (six_is v k oM hv3))
      have hs:0≤six v k∧six v k<((64:Nat):Int):=by unfold six;omega
      have e1:BlkEqv (.row 5 1 (n+1) (catF n (bytesF l) (fun i j=>nthD [.int .u8 ((([65,66,67,68,69,70,71,72,73,74,75,76,77,78,79,80,81,82,83,84,85,86,87,88,89,90,97,98,99,100,101,102,103,104,105,106,107,108,109,110,111,112,113,114,115,116,117,118,119,120,121,122,48,49,50,51,52,53,54,55,56,57,45,95]:List UInt8).getD (six v k).toNat 0).toNat:Int)] ((0+i)*1+j)))) (.row 5 1 (n+1) (bytesF (l++[sgn6 v k]))):=bytes_app l [sgn6 v k] hn
      have hnx:enc2F b 0 v m (k+1,some (n+1,l++[sgn6 v k])):=⟨by omega,by rw [hl1,List.append_assoc];rfl,by simp [hn],by omega⟩
      clear hl1 hin
      refine zg [(15,{fm:=[(6,.c (.int .i64 (six v k)))],bs:=[(9,.row 5 1 (n+1) (bytesF (l++[sgn6 v k])))]})] [true] [decide ((k:Int)≤(m:Int))=true,inR .i64 (6*(k:Int)),inR .i64 (18-6*(k:Int)),(0:Int)≤(18:Int)-(6:Int)*(k:Int),EqvI (.c (.int .i64 (bitsI .and .i64 (v.fdiv ((2:Int)^min ((18:Int)-(6:Int)*(k:Int)).toNat IntKind.i64.bits)) (63:Int)))) (.c (.int .i64 (six v k))),EqvD (.c (.int .i64 (bitsI .and .i64 (v.fdiv ((2:Int)^min ((18:Int)-(6:Int)*(k:Int)).toNat IntKind.i64.bits)) (63:Int)))) (.c (.int .i64 (six v k))),(0:Int)≤six v k∧six v k<(↑(64:Nat):Int),(n+1)*1≤140737488355328,BlkEqv (.row 5 (1:Nat) (n+(1:Nat)) (catF n (bytesF l) fun i j=>nthD [.int .u8 (↑([(65:UInt8),66,67,68,69,70,71,72,73,74,75,76,77,78,79,80,81,82,83,84,85,86,87,88,89,90,97,98,99,100,101,102,103,104,105,106,107,108,109,110,111,112,113,114,115,116,117,118,119,120,121,122,48,49,50,51,52,53,54,55,56,57,45,95].getD (six v k).toNat (0:UInt8)).toNat:Int)] (((0:Nat)+i)*(1:Nat)+j))) (.row 5 (1:Nat) (n+(1:Nat)) (bytesF (l++[sgn6 v k]))),n≤n,0+1≤1,inR .i64 ((k:Int)+1)] ⟨sO,i6,i6,oM,fun _ _=>trivial,aS,oM,oM,aS,oM,oM,i6⟩ ?_
      exact za [(40,992)] (again _ (k+1,some (n+1,l++[sgn6 v k])) aS oM)
  ·clear again0
   refine zg [] [false] [decide ((↑((3:Nat)*(0:Nat)):Int)<(b.length:Int))=false] (show decide ((↑((3:Nat)*(0:Nat)):Int)<(↑b.length:Int))=false from (by simp_all<;>omega)) ?_
   exact zS [.c (.str [])] (by rw [show b=[] from List.eq_nil_of_length_eq_zero oM];rfl)
 ·rcases hf with ⟨hg,hgl,hl0,hn0,hn1⟩
  rcases Nat.lt_or_ge (3*g) b.length with hlt | hge
  ·have ht:decide ((↑(3*g):Int)<(↑b.length:Int))=true:=by simp;omega
   refine zg [] [true] [decide ((↑(3*g):Int)<(b.length:Int))=true] ht ?_
   refine zl (enc1 b g (some (n,l))) (enc1F b g) (fun x=>3-x.1) (0,0,0) ⟨Nat.zero_le _,rfl,rfl⟩ ?_ [(40,40)]
   rintro ⟨k,v,m⟩ L1 ⟨hk,hv,hm⟩ again
   have hm3:=n3_le b (3*g) k
   have hv3:=v3_16 b (3*g) k hk
   have hv4:=v3_16 b (3*g) (k+1)
   have hin:=v3_in b (3*g) k
   simp only [] at hk hv hm
   rw [← hv] at hv3 hin
   rw [← hm] at hm3
   rcases Nat.lt_or_ge k 3 with hk3 | hk3
   ·have h3:decide ((k:Int)<3)=true:=by simp;omega
    have hv5:=hv4 hk3
    clear hv4 ht
    have r1:inR .i64 (v*256):=i6
    have r2:inR .i64 ((m:Int)+1):=i6
    rcases Nat.lt_or_ge (3*g+k) b.length with hc | hc
    ·have hin:=hin hc
     rw [← hin] at hv5
     have r3:inR .i64 (v*256+IntKind.i64.wrap ((b.getD (((3*g:Nat):Int)+(k:Int)).toNat 0).toNat:Int)):=i6
     have hnx:enc1F b g (k+1,v*256+IntKind.i64.wrap ((b.getD (((3*g:Nat):Int)+(k:Int)).toNat 0).toNat:Int),m+1):=⟨hk3,hin,by show m+1=_;rw [hm,n3,if_pos hc]⟩
     have hc2:decide (((3*g:Nat):Int)+(k:Int)<(b.length:Int))=true:=by simp;omega
     refine zg [] [true,true] [decide ((k:Int)<3)=true,inR .i64 (v*256),inR .i64 ((↑((3:Nat)*g):Int)+(k:Int)),decide ((↑((3:Nat)*g):Int)+(k:Int)<(b.length:Int))=true,inR .i64 ((↑((3:Nat)*g):Int)+(k:Int)),(0:Int)≤(↑((3:Nat)*g):Int)+(k:Int)∧(↑((3:Nat)*g):Int)+(k:Int)<(b.length:Int),inR .i64 (v*(256:Int)+IntKind.i64.wrap (↑(b.getD ((↑((3:Nat)*g):Int)+(k:Int)).toNat (0:UInt8)).toNat:Int)),inR .i64 ((m:Int)+1),inR .i64 ((k:Int)+1)] ⟨aS,i6,i6,aS,i6,oM,i6,i6,i6⟩ ?_
     exact za [] (again _ (k+1,v*256+IntKind.i64.wrap ((b.getD (((3*g:Nat):Int)+(k:Int)).toNat 0).toNat:Int),m+1) aS oM)
    ·clear hin
     have hnx:enc1F b g (k+1,v*256,m):=⟨hk3,by show v*256=_;rw [hv,v3,if_neg oM],by show m=_;rw [hm,n3,if_neg oM]⟩
     have hc2:decide (((3*g:Nat):Int)+(k:Int)<(b.length:Int))=false:=by simp;omega
     refine zg [] [true,false] [decide ((k:Int)<3)=true,inR .i64 (v*256),inR .i64 ((↑((3:Nat)*g):Int)+(k:Int)),decide ((↑((3:Nat)*g):Int)+(k:Int)<(b.length:Int))=false,inR .i64 ((k:Int)+1)] ⟨aS,i6,i6,aS,i6⟩ ?_
     exact za [] (again _ (k+1,v*256,m) aS oM)
   ·obtain rfl:k=3:=by omega
    have h3:decide ((↑(3:Nat):Int)<3)=false:=rfl
    refine zg [] [false] [decide ((↑(3:Nat):Int)<(3:Int))=false] rfl ?_
    refine zl (enc2 b g v m) (enc2F b g v m) (fun x=>m+1-x.1) (0,some (n,l)) ⟨Nat.zero_le _,hl0.trans (List.append_nil _).symm,hn0,(by have:=n3_le b (3*g) 3;omega)⟩ ?_ [(40,40)]
    clear again
    rintro ⟨k,_ | ⟨n,l⟩⟩ L2 hf again
    ·obtain ⟨rfl,h00⟩:=hf
     have h3:decide ((↑(0:Nat):Int)≤(m:Int))=true:=by simp
     have hx:=eqvD_of (congrArg (fun x=>V1.c (.int .i64 x)) (six_is v 0 dC hv3))
     have hs:0≤six v 0∧six v 0<((64:Nat):Int):=by unfold six;omega
     have e1:=row_new ((([65,66,67,68,69,70,71,72,73,74,75,76,77,78,79,80,81,82,83,84,85,86,87,88,89,90,97,98,99,100,101,102,103,104,105,106,107,108,109,110,111,112,113,114,115,116,117,118,119,120,121,122,48,49,50,51,52,53,54,55,56,57,45,95]:List UInt8).getD (six v 0).toNat 0).toNat:Int) (sgn6 v 0) rfl
     have hnx:enc2F b g v m (1,some (1,[sgn6 v 0])):=⟨by omega,by first | rfl | omega,rfl,by omega⟩
     refine zg [(15,{fm:=[(6,.c (.int .i64 (six v 0)))],bs:=[(9,.row 5 1 1 (bytesF [sgn6 v 0]))]})] [true] [decide ((↑(0:Nat):Int)≤(m:Int))=true,inR .i64 ((6:Int)*(↑(0:Nat):Int)),inR .i64 ((18:Int)-(6:Int)*(↑(0:Nat):Int)),(0:Int)≤(18:Int)-(6:Int)*(↑(0:Nat):Int),EqvI (.c (.int .i64 (bitsI .and .i64 (v.fdiv ((2:Int)^(18:Nat))) (63:Int)))) (.c (.int .i64 (six v (0:Nat)))),EqvD (.c (.int .i64 (bitsI .and .i64 (v.fdiv ((2:Int)^(18:Nat))) (63:Int)))) (.c (.int .i64 (six v (0:Nat)))),(0:Int)≤six v (0:Nat)∧six v (0:Nat)<(↑(64:Nat):Int),1≤140737488355328,BlkEqv (.row 5 (1:Nat) (1:Nat) (catF (0:Nat) (fun (x x_1:Nat) => .nilif) fun i j=>nthD [.int .u8 (↑([(65:UInt8),66,67,68,69,70,71,72,73,74,75,76,77,78,79,80,81,82,83,84,85,86,87,88,89,90,97,98,99,100,101,102,103,104,105,106,107,108,109,110,111,112,113,114,115,116,117,118,119,120,121,122,48,49,50,51,52,53,54,55,56,57,45,95].getD (six v (0:Nat)).toNat (0:UInt8)).toNat:Int)] (((0:Nat)+i)*(1:Nat)+j))) (.row 5 (1:Nat) (1:Nat) (bytesF [sgn6 v (0:Nat)])),0+1≤1,inR .i64 ((↑(0:Nat):Int)+(1:Int))] ⟨rfl,i6,i6,oM,fun _ _=>trivial,aS,oM,oM,aS,oM,i6⟩ ?_
     exact za [(40,992)] (again _ (1,some (1,[sgn6 v 0])) aS oM)
    ·obtain ⟨hk,hl1,hn,hb⟩:=hf
     rcases Nat.lt_or_ge m k with hk3 | hk3
     ·obtain rfl:k=m+1:=by omega
      have again:=again0
      have hv':=hv
      have hm':=hm
      have hnx:encOF b (g+1,some (n,l)):=⟨by omega,by omega,by rw [hl1,hv',hm'];rfl,hn,by omega⟩
      clear hv hm hv' hm' hl1 hin
      refine zg [] [false] [decide ((↑(m+(1:Nat)):Int)≤(m:Int))=false,inR .i64 ((↑((3:Nat)*g):Int)+(3:Int))] ⟨sO,i6⟩ ?_
      exact za [] (again _ (g+1,some (n,l)) aS oM)
     ·have hx:=eqvD_of (congrArg (fun x=>V1.c (.int .i64 x)) (six_is v k oM hv3))
      have hs:0≤six v k∧six v k<((64:Nat):Int):=by unfold six;omega
      have e1:BlkEqv (.row 5 1 (n+1) (catF n (bytesF l) (fun i j=>nthD [.int .u8 ((([65,66,67,68,69,70,71,72,73,74,75,76,77,78,79,80,81,82,83,84,85,86,87,88,89,90,97,98,99,100,101,102,103,104,105,106,107,108,109,110,111,112,113,114,115,116,117,118,119,120,121,122,48,49,50,51,52,53,54,55,56,57,45,95]:List UInt8).getD (six v k).toNat 0).toNat:Int)] ((0+i)*1+j)))) (.row 5 1 (n+1) (bytesF (l++[sgn6 v k]))):=bytes_app l [sgn6 v k] hn
      have hnx:enc2F b g v m (k+1,some (n+1,l++[sgn6 v k])):=⟨by omega,by rw [hl1,List.append_assoc];rfl,by simp [hn],by omega⟩
      clear hl1 hin
      refine zg [(15,{fm:=[(6,.c (.int .i64 (six v k)))],bs:=[(9,.row 5 1 (n+1) (bytesF (l++[sgn6 v k])))]})] [true] [decide ((k:Int)≤(m:Int))=true,inR .i64 (6*(k:Int)),inR .i64 (18-6*(k:Int)),(0:Int)≤(18:Int)-(6:Int)*(k:Int),EqvI (.c (.int .i64 (bitsI .and .i64 (v.fdiv ((2:Int)^min ((18:Int)-(6:Int)*(k:Int)).toNat IntKind.i64.bits)) (63:Int)))) (.c (.int .i64 (six v k))),EqvD (.c (.int .i64 (bitsI .and .i64 (v.fdiv ((2:Int)^min ((18:Int)-(6:Int)*(k:Int)).toNat IntKind.i64.bits)) (63:Int)))) (.c (.int .i64 (six v k))),(0:Int)≤six v k∧six v k<(↑(64:Nat):Int),(n+1)*1≤140737488355328,BlkEqv (.row 5 (1:Nat) (n+(1:Nat)) (catF n (bytesF l) fun i j=>nthD [.int .u8 (↑([(65:UInt8),66,67,68,69,70,71,72,73,74,75,76,77,78,79,80,81,82,83,84,85,86,87,88,89,90,97,98,99,100,101,102,103,104,105,106,107,108,109,110,111,112,113,114,115,116,117,118,119,120,121,122,48,49,50,51,52,53,54,55,56,57,45,95].getD (six v k).toNat (0:UInt8)).toNat:Int)] (((0:Nat)+i)*(1:Nat)+j))) (.row 5 (1:Nat) (n+(1:Nat)) (bytesF (l++[sgn6 v k]))),n≤n,0+1≤1,inR .i64 ((k:Int)+1)] ⟨sO,i6,i6,oM,fun _ _=>trivial,aS,oM,oM,aS,oM,oM,i6⟩ ?_
      exact za [(40,992)] (again _ (k+1,some (n+1,l++[sgn6 v k])) aS oM)
  ·clear again0
   refine zg [] [false] [decide ((↑((3:Nat)*g):Int)<(b.length:Int))=false,0+n≤n,areBytes (bytesF l) 0 n] ⟨sO,oM,areBytes_F _ _ _⟩ ?_
   exact zS [.c (.str (byteL (bytesF l) (0:Nat) n))] (by rw [byteL_F l hn0,hl0,enc8,show g=(b.length+2) / 3 by omega])
theorem putN_ok2 (k:Int) (h0:0≤k) (h1:k≤1073741824):FnB Tryz.prog G 81 [] [.agg (encN k)] [.c (.row 1 0 0 5)] [(0,.row 5 1 5 (bytesF (keyB k)))]:=by
 refine zf Tryz.func81 ?_
 have c1:=MayN_ok (G:=G) k h0 h1
 have c2:=putN_ok (G:=G) k
 refine zg [(1,{cs:=[(1,pc c1)]}),(3,{cs:=[(1,cb [] c2)]})] [false] [(!true)=false] rfl ?_
 exact zb [96]
def keyT (k:Int):List UInt8:=[126]++enc8 (keyB k)++[126]
theorem keyText_ok (k:Int) (h0:0≤k) (h1:k≤1073741824):Pur Tryz.prog G 29 [.agg (encN k)] [.c (.str (keyT k))]:=by
 refine zp Tryz.func29 ?_
 have c1:=putN_ok2 (G:=G) k h0 h1
 have c2:Pur Tryz.prog G 41 [.c (.sl 1 5 (bytesF (keyB k)))] [.c (.str (enc8 (keyB k)))]:=enc8_ok (keyB k) (show 5≤30000000000000 by omega)
 refine zg [(1,{cs:=[(1,cb [] c1)]}),(4,{cs:=[(1,lc [48] [.row 5 1 5 (bytesF (keyB k))] [.c (.row 1 0 0 5)] c2 kR kR kR (show 0+5≤5 from oM))]})] [false] [((↑(5:Nat):Int)==(0:Int))=false,8≤9223372036854775807,9≤9223372036854775807] ⟨rfl,oM,(show (9:Nat)≤(9223372036854775807:Nat) from oM)⟩ ?_
 exact zS [.c (.str [(126:UInt8),sgn6 (v3 (keyB k) ((3:Nat)*0) (3:Nat)) (0),sgn6 (v3 (keyB k) ((3:Nat)*0) (3:Nat)) (1),sgn6 (v3 (keyB k) ((3:Nat)*0) (3:Nat)) (2),sgn6 (v3 (keyB k) ((3:Nat)*0) (3:Nat)) (3),sgn6 (v3 (keyB k) ((3:Nat)*1) (3:Nat)) (0),sgn6 (v3 (keyB k) ((3:Nat)*1) (3:Nat)) (1),sgn6 (v3 (keyB k) ((3:Nat)*1) (3:Nat)) (2),(126:UInt8)])] kR
theorem Key_ok (k:Int) (h0:0≤k) (h1:k≤1073741824):Pur Tryz.prog G 11 [.c (.int .i64 k)] [.c (.str (keyT k))]:=by
 refine zp Tryz.func11 ?_
 have c1:=keyText_ok (G:=G) k h0 h1
 have c2:=N_ok (G:=G) k
 refine z0 [(1,{cs:=[(1,pc c2),(2,pc c1)]})] [] ?_
 exact zr
def fldF (l:List FT):Nat→Nat→Cell:=rowF encF .nil l
def fGet (l:List FT) (n:List UInt8):Option (List UInt8):=(l.find? fun f=>f.name==n).map (·.value)
theorem fGet_nil (n:List UInt8):fGet [] n=none:=rfl
theorem fGet_cons (x:FT) (l:List FT) (n:List UInt8):fGet (x::l) n=if x.name==n then some x.value else fGet l n:=by
 unfold fGet
 rw [List.find?_cons]
 cases x.name==n<;>rfl
theorem drop_cons {α:Type} (l:List α) (k:Nat) (d:α) (h:k<l.length):l.drop k=l.getD k d::l.drop (k+1):=by
 rw [List.getD_eq_getElem?_getD,List.getElem?_eq_getElem h];exact List.drop_eq_getElem_cons h
theorem get10_ok (l:List FT) (n:List UInt8) (hl:l.length<4611686018427387904):Pur Tryz.prog G 20 [.c (.sl 2 l.length (fldF l)),.c (.str n)] [.c (.str ((fGet l n).getD [])),.c (.bool (fGet l n).isSome)]:=by
 refine zp Tryz.func20 ?_
 refine z0 [] [] ?_
 refine zl (fun (k:Nat)=>⟨[(0,.v (.c (.sl (2:Nat) l.length (fldF l)))),(1,.v (.c (.str n))),(6,.v (.c (.int .i64 (k:Int))))],[],48⟩) (fun k=>k≤l.length∧fGet l n=fGet (l.drop k) n) (fun k=>l.length-k) 0 ⟨Nat.zero_le _,rfl⟩ ?_
 intro k L ⟨hk,hq⟩ again
 rcases Nat.lt_or_ge k l.length with hlt | hge
 ·rw [drop_cons l k ⟨[],[]⟩ hlt,fGet_cons] at hq
  refine zg [] [true] [decide ((k:Int)<(l.length:Int))=true,(0:Int)≤(k:Int)∧(k:Int)<(l.length:Int)] ⟨sO,(show (0:Int)≤(↑k:Int)∧(↑k:Int)<(↑l.length:Int) from oM)⟩ ?_
  refine zc ((l.getD (↑k:Int).toNat FT.nil).name==n) (fun h0 => ?_) (fun h0 => ?_)
  ·have g0:=eq_of_beq h0
   refine zg [] [] [(0:Int)≤(k:Int)∧(k:Int)<(l.length:Int)] ((show (0:Int)≤(↑k:Int)∧(↑k:Int)<(↑l.length:Int) from oM)) ?_
   exact zS [.c (.str (l.getD (↑k:Int).toNat FT.nil).value),.c (.bool true)] (by simp_all [fGet];done)
  ·have g0:=ne_of_beq_false h0
   refine zg [] [] [inR .i64 ((k:Int)+1)] (i6) ?_
   exact za [] (again _ (k+1) (⟨aS,(by simp_all<;>omega)⟩) oM)
 ·obtain rfl:k=l.length:=by omega
  rw [List.drop_length,fGet_nil] at hq
  refine zg [] [false] [decide ((l.length:Int)<(l.length:Int))=false] ((show decide ((↑l.length:Int)<(↑l.length:Int))=false from (by simp;done))) ?_
  exact zS [.c (.str []),.c (.bool false)] (by simp [hq];done)
theorem has10_ok (l:List FT) (n:List UInt8) (hl:l.length<4611686018427387904):Pur Tryz.prog G 102 [.c (.sl 2 l.length (fldF l)),.c (.str n)] [.c (.bool (fGet l n).isSome)]:=by
 refine zp Tryz.func102 ?_
 refine z0 [(1,{cs:=[(2,pc (get10_ok l n aS))]})] [] ?_
 exact zr
def names10:List (List UInt8):=[[97],[98],[99,111,100,101],[115,116,97,116,101],[120,32,121],[195,169],[61],[38],[126]]
def vals10:List (List UInt8):=[[],[49],[97,32,98],[126,65,103,65,65,65,65,69,126],[37],[43],[0],[104,116,116,112,115,58,47,47,99,49,47,99,98]]
def pickT (ss:List (List UInt8)) (ns:List Int) (a:Nat):List UInt8:=ss.getD (nextV ns a ss.length).toNat []
def fldsN (ns:List Int):Nat→Nat→List FT→List FT
 | 0,_,l=>l
 | k+1,a,l=>if a<ns.length then fldsN ns k (nextA ns (nextA ns a 9) 8) (if (fGet l (pickT names10 ns a)).isSome then l else l++[⟨pickT names10 ns a,pickT vals10 ns (nextA ns a 9)⟩]) else l
def fldsT (ns:List Int) (m:Nat):List FT:=fldsN ns m 0 []
theorem strs_lit (l:List (List UInt8)) {cs:List Cell} (hc:cs=l.map Cell.str) {n:Nat} (hn:n=l.length):EqvD (.c (.sl 1 n (fun i j=>nthD cs (i*1+j)))) (.c (.sl 1 l.length (strsF l))):=by
 subst hc hn
 refine EqvD.sl rfl fun i hi j hj => ?_
 obtain rfl:j=0:=by omega
 simp [strsF,nthD,nth_eq,List.getD,hi]
theorem has10_n (l:List FT) (n:Nat) (s:List UInt8) (hn:n=l.length) (hl:n<4611686018427387904):Pur Tryz.prog G 102 [.c (.sl 2 n (fldF l)),.c (.str s)] [.c (.bool (fGet l s).isSome)]:=by
 subst hn
 exact has10_ok l s hl
theorem flds_ok (ns:List Int) (m:Nat) (hl:ns.length≤9223372036854775807) (hm:m<1000):Pur Tryz.prog G 51 [.c (.sl 1 ns.length (intsF ns)),.c (.int .i64 (m:Int))] [.c (.sl 2 (fldsT ns m).length (fldF (fldsT ns m)))]:=by
 refine zp Tryz.func51 ?_
 refine z0 [] [] ?_
 refine Wp.loopK kR (fun (x:Nat×Nat×Nat×List FT)=>⟨[(1,.v (.c (.int .i64 (m:Int)))),(5,.v (.c (.ptr 48 0))),(6,.v (.c (.row 2 112 0 x.2.2.1))),(7,.v (.c (.int .i64 (x.1:Int))))],[(48,tapeB ns x.2.1),(112,.row 55 2 x.2.2.1 (fldF x.2.2.2))],128⟩)
  (fun x=>x.1≤m∧x.2.2.1=x.2.2.2.length∧x.2.2.1≤x.1∧fldsT ns m=fldsN ns (m-x.1) x.2.1 x.2.2.2) (fun x=>m-x.1) (0,0,0,[]) (Ent.trans (Ent.empT (t:=6) (sz:=2) (e:=55) (f:=fldF []) dC kR rfl) (Ent.of [] kR kR kR trivial)) ⟨Nat.zero_le _,rfl,Nat.le_refl _,rfl⟩ ?_
 rintro ⟨i,a,n,l⟩ L ⟨hi,hn,hll,hq⟩ again
 simp only at hi hn hll hq
 have hz:m-i=0→fldsT ns m=l:=fun h=>by rw [hq,h];rfl
 have hs:i<m→fldsT ns m=(if a<ns.length then fldsN ns (m-i-1) (nextA ns (nextA ns a 9) 8) (if (fGet l (pickT names10 ns a)).isSome then l else l++[⟨pickT names10 ns a,pickT vals10 ns (nextA ns a 9)⟩]) else l):=fun h=>by
  rw [hq,show m-i=(m-i-1)+1 from by omega];rfl
 rcases Nat.lt_or_ge i m with him | him
 ·have hs:=hs him
  have hm1:m-(i+1)=m-i-1:=by omega
  by_cases ha:a<ns.length
  ·rw [if_pos ha] at hs
   have e1:EqvD (.c (.sl 1 9 (fun i j=>nthD [Cell.str [97],Cell.str [98],Cell.str [99,111,100,101],Cell.str [115,116,97,116,101],Cell.str [120,32,121],Cell.str [195,169],Cell.str [61],Cell.str [38],Cell.str [126]] (i*1+j)))) (.c (.sl 1 names10.length (strsF names10))):=strs_lit names10 rfl rfl
   have e2:EqvD (.c (.sl 1 8 (fun i j=>nthD [Cell.str [],Cell.str [49],Cell.str [97,32,98],Cell.str [126,65,103,65,65,65,65,69,126],Cell.str [37],Cell.str [43],Cell.str [0],Cell.str [104,116,116,112,115,58,47,47,99,49,47,99,98]] (i*1+j)))) (.c (.sl 1 vals10.length (strsF vals10))):=strs_lit vals10 rfl rfl
   cases hg:(fGet l (pickT names10 ns a)).isSome with
   | true =>
    rw [hg,if_pos rfl,← hm1] at hs
    have hb:(!(fGet l (pickT names10 ns a)).isSome)=false:=by rw [hg];rfl
    clear hz hq hg
    refine zg [(6,{cs:=[(2,cb [48] (pick_ok names10 ns a aS dC)),(5,cb [48] (pick_ok vals10 ns (nextA ns a (names10.length:Int)) aS dC))],fm:=[(1,.c (.sl 1 names10.length (strsF names10))),(4,.c (.sl 1 vals10.length (strsF vals10)))]}),(8,{bs:=[(3,.row 55 2 (n+1) (fldF (l++[⟨pickT names10 ns a,pickT vals10 ns (nextA ns a 9)⟩])))]}),(4,{grd:=[(4,true),(5,true)],cs:=[(5,cb [48] (more1_ok ns a))]}),(7,{cs:=[(3,lc [112] [.row 55 (2:Nat) n (fldF l)] [.c (.row 2 (0:Nat) (0:Nat) n),.c (.str (names10.getD (nextV ns a (names10.length:Int)).toNat []))] (has10_n l n (names10.getD (nextV ns a (names10.length:Int)).toNat []) aS oM) kR kR kR ((show (0:Nat)+n≤n from oM)))]})] [true,false] [decide ((i:Int)<(m:Int))=true,decide ((i:Int)<(m:Int))=true,(bif decide ((i:Int)<(m:Int)) then decide (a<ns.length) else false)=true,EqvI (.c (.sl 1 (9:Nat) fun i j=>nthD [.str [(97:UInt8)],.str [(98:UInt8)],.str [(99:UInt8),111,100,101],.str [(115:UInt8),116,97,116,101],.str [(120:UInt8),32,121],.str [(195:UInt8),169],.str [(61:UInt8)],.str [(38:UInt8)],.str [(126:UInt8)]] (i*(1:Nat)+j))) (.c (.sl 1 names10.length (strsF names10))),EqvD (.c (.sl 1 (9:Nat) fun i j=>nthD [.str [(97:UInt8)],.str [(98:UInt8)],.str [(99:UInt8),111,100,101],.str [(115:UInt8),116,97,116,101],.str [(120:UInt8),32,121],.str [(195:UInt8),169],.str [(61:UInt8)],.str [(38:UInt8)],.str [(126:UInt8)]] (i*(1:Nat)+j))) (.c (.sl 1 names10.length (strsF names10))),EqvI (.c (.sl 1 (8:Nat) fun i j=>nthD [.str [],.str [(49:UInt8)],.str [(97:UInt8),32,98],.str [(126:UInt8),65,103,65,65,65,65,69,126],.str [(37:UInt8)],.str [(43:UInt8)],.str [(0:UInt8)],.str [(104:UInt8),116,116,112,115,58,47,47,99,49,47,99,98]] (i*(1:Nat)+j))) (.c (.sl 1 vals10.length (strsF vals10))),EqvD (.c (.sl 1 (8:Nat) fun i j=>nthD [.str [],.str [(49:UInt8)],.str [(97:UInt8),32,98],.str [(126:UInt8),65,103,65,65,65,65,69,126],.str [(37:UInt8)],.str [(43:UInt8)],.str [(0:UInt8)],.str [(104:UInt8),116,116,112,115,58,47,47,99,49,47,99,98]] (i*(1:Nat)+j))) (.c (.sl 1 vals10.length (strsF vals10))),(!(fGet l (names10.getD (nextV ns a (names10.length:Int)).toNat [])).isSome)=false,inR .i64 ((i:Int)+1)] ⟨sO,sO,sO,fun _ _=>trivial,aS,fun _ _=>trivial,aS,aS,i6⟩ ?_
    exact za [] (again _ ((i+1,nextA ns (nextA ns a 9) 8,n,l)) (⟨aS,⟨aS,⟨sO,aS⟩⟩⟩) oM)
   | false =>
    rw [hg,if_neg dC,← hm1] at hs
    have hb:(!(fGet l (pickT names10 ns a)).isSome)=true:=by rw [hg];rfl
    have e3:BlkEqv (.row 55 2 (n+1) (catF n (fldF l) (fun i j=>nthD (encF ⟨pickT names10 ns a,pickT vals10 ns (nextA ns a 9)⟩) ((0+i)*2+j)))) (.row 55 2 (n+1) (fldF (l++[⟨pickT names10 ns a,pickT vals10 ns (nextA ns a 9)⟩]))):=enc_app l _ hn
    clear hz hq hg
    refine zg [(6,{cs:=[(2,cb [48] (pick_ok names10 ns a aS dC)),(5,cb [48] (pick_ok vals10 ns (nextA ns a (names10.length:Int)) aS dC))],fm:=[(1,.c (.sl 1 names10.length (strsF names10))),(4,.c (.sl 1 vals10.length (strsF vals10)))]}),(8,{bs:=[(3,.row 55 2 (n+1) (fldF (l++[⟨pickT names10 ns a,pickT vals10 ns (nextA ns a 9)⟩])))]}),(4,{grd:=[(4,true),(5,true)],cs:=[(5,cb [48] (more1_ok ns a))]}),(7,{cs:=[(3,lc [112] [.row 55 (2:Nat) n (fldF l)] [.c (.row 2 (0:Nat) (0:Nat) n),.c (.str (names10.getD (nextV ns a (names10.length:Int)).toNat []))] (has10_n l n (names10.getD (nextV ns a (names10.length:Int)).toNat []) aS oM) kR kR kR ((show (0:Nat)+n≤n from oM)))]})] [true,true] [decide ((i:Int)<(m:Int))=true,decide ((i:Int)<(m:Int))=true,(bif decide ((i:Int)<(m:Int)) then decide (a<ns.length) else false)=true,EqvI (.c (.sl 1 (9:Nat) fun i j=>nthD [.str [(97:UInt8)],.str [(98:UInt8)],.str [(99:UInt8),111,100,101],.str [(115:UInt8),116,97,116,101],.str [(120:UInt8),32,121],.str [(195:UInt8),169],.str [(61:UInt8)],.str [(38:UInt8)],.str [(126:UInt8)]] (i*(1:Nat)+j))) (.c (.sl 1 names10.length (strsF names10))),EqvD (.c (.sl 1 (9:Nat) fun i j=>nthD [.str [(97:UInt8)],.str [(98:UInt8)],.str [(99:UInt8),111,100,101],.str [(115:UInt8),116,97,116,101],.str [(120:UInt8),32,121],.str [(195:UInt8),169],.str [(61:UInt8)],.str [(38:UInt8)],.str [(126:UInt8)]] (i*(1:Nat)+j))) (.c (.sl 1 names10.length (strsF names10))),EqvI (.c (.sl 1 (8:Nat) fun i j=>nthD [.str [],.str [(49:UInt8)],.str [(97:UInt8),32,98],.str [(126:UInt8),65,103,65,65,65,65,69,126],.str [(37:UInt8)],.str [(43:UInt8)],.str [(0:UInt8)],.str [(104:UInt8),116,116,112,115,58,47,47,99,49,47,99,98]] (i*(1:Nat)+j))) (.c (.sl 1 vals10.length (strsF vals10))),EqvD (.c (.sl 1 (8:Nat) fun i j=>nthD [.str [],.str [(49:UInt8)],.str [(97:UInt8),32,98],.str [(126:UInt8),65,103,65,65,65,65,69,126],.str [(37:UInt8)],.str [(43:UInt8)],.str [(0:UInt8)],.str [(104:UInt8),116,116,112,115,58,47,47,99,49,47,99,98]] (i*(1:Nat)+j))) (.c (.sl 1 vals10.length (strsF vals10))),(!(fGet l (names10.getD (nextV ns a (names10.length:Int)).toNat [])).isSome)=true,(n+1)*32≤140737488355328,BlkEqv (.row 55 (2:Nat) (n+(1:Nat)) (catF n (fldF l) fun i j=>nthD [.str (names10.getD (nextV ns a (names10.length:Int)).toNat []),.str (vals10.getD (nextV ns (nextA ns a (names10.length:Int)) (vals10.length:Int)).toNat [])] (((0:Nat)+i)*(2:Nat)+j))) (.row 55 (2:Nat) (n+(1:Nat)) (fldF (l++[{ name:=pickT names10 ns a,value:=pickT vals10 ns (nextA ns a (9:Int)) }]))),n≤n,0+1≤1,inR .i64 ((i:Int)+1)] ⟨sO,sO,sO,fun _ _=>trivial,aS,fun _ _=>trivial,aS,aS,oM,aS,oM,oM,i6⟩ ?_
    exact za [(112,512)] (again _ ((i+1,nextA ns (nextA ns a 9) 8,n+1,l++[⟨pickT names10 ns a,pickT vals10 ns (nextA ns a 9)⟩])) (⟨aS,⟨sO,⟨sO,aS⟩⟩⟩) oM)
  ·rw [if_neg ha] at hs
   refine Wp.ent' kR (Ent.pubT (e:=55) (sz:=2) (id:=112) (t:=6) (off:=0) (m:=n) (n:=n) (f:=(fldF l)) (m':=(fldsT ns m).length) (f':=(fldF (fldsT ns m))) kR kR oM (by rw [hs];exact hn) (fun i _ j _=>by rw [hs,Nat.zero_add]) rfl) ?_
   refine zg [(4,{grd:=[(4,true),(5,true)],cs:=[(5,cb [48] (more1_ok ns a))]})] [false] [decide ((i:Int)<(m:Int))=true,decide ((i:Int)<(m:Int))=true,(bif decide ((i:Int)<(m:Int)) then decide (a<ns.length) else false)=false] ⟨sO,sO,(show (bif decide ((↑i:Int)<(↑m:Int)) then decide (a<ns.length) else false)=false from sO)⟩ ?_
   exact zr
 ·have hs:=hz oM
  refine Wp.ent' kR (Ent.pubT (e:=55) (sz:=2) (id:=112) (t:=6) (off:=0) (m:=n) (n:=n) (f:=(fldF l)) (m':=(fldsT ns m).length) (f':=(fldF (fldsT ns m))) kR kR oM (by rw [hs];exact hn) (fun i _ j _=>by rw [hs,Nat.zero_add]) rfl) ?_
  refine zg [(4,{grd:=[(4,false),(5,false),(6,false)],cs:=[(5,cb [48] (more1_ok ns a))]})] [false] [decide ((i:Int)<(m:Int)) = !true,decide ((i:Int)<(m:Int)) = !true,decide ((i:Int)<(m:Int))=false,false=false] ⟨sO,sO,sO,rfl⟩ ?_
  exact zr
structure UT where
 (host path:List UInt8) (query:List FT)
def encU (u:UT):List Cell:=[.str u.host,.str u.path,encH u.query]
theorem flds_i (ns:List Int) (k:Int) (hl:ns.length≤9223372036854775807) (h0:0≤k) (hm:k<1000):Pur Tryz.prog G 51 [.c (.sl 1 ns.length (intsF ns)),.c (.int .i64 k)] [.c (encH (fldsT ns k.toNat))]:=by
 obtain ⟨m,rfl⟩:=Int.eq_ofNat_of_zero_le h0
 exact flds_ok ns m hl oM
def hostsU:List (List UInt8):=[[97,115],[99,49],[99,50],[114,115],[97,116],[97,45,49,46,98],[48]]
def pathsU:List (List UInt8):=[[47],[47,99,98],[47,115,116,97,114,116],[47,97,117,116,104,111,114,105,122,101],[47,97,47,98,47,47],[47,126,120,95,49,46,50,45,51]]
def uriT (ns:List Int):UT:=⟨pickT hostsU ns 0,pickT pathsU ns (nextA ns 0 7),fldsT ns (nextV ns (nextA ns (nextA ns 0 7) 6) 6).toNat⟩
theorem uri_ok (ns:List Int) (hl:ns.length≤9223372036854775807):Pur Tryz.prog G 10 [.c (.sl 1 ns.length (intsF ns))] [.agg (encU (uriT ns))]:=by
 refine zp Tryz.func10 ?_
 have e1:EqvD (.c (.sl 1 7 (fun i j=>nthD [Cell.str [97,115],Cell.str [99,49],Cell.str [99,50],Cell.str [114,115],Cell.str [97,116],Cell.str [97,45,49,46,98],Cell.str [48]] (i*1+j)))) (.c (.sl 1 hostsU.length (strsF hostsU))):=strs_lit hostsU rfl rfl
 have e2:EqvD (.c (.sl 1 6 (fun i j=>nthD [Cell.str [47],Cell.str [47,99,98],Cell.str [47,115,116,97,114,116],Cell.str [47,97,117,116,104,111,114,105,122,101],Cell.str [47,97,47,98,47,47],Cell.str [47,126,120,95,49,46,50,45,51]] (i*1+j)))) (.c (.sl 1 pathsU.length (strsF pathsU))):=strs_lit pathsU rfl rfl
 have h1:0≤nextV ns (nextA ns (nextA ns 0 (hostsU.length:Nat)) (pathsU.length:Nat)) 6∧nextV ns (nextA ns (nextA ns 0 (hostsU.length:Nat)) (pathsU.length:Nat)) 6<6:=nextV_rng ns _ 6 dC
 refine zg [(2,{cs:=[(2,cb [48] (pick_ok hostsU ns (0) aS dC)),(5,cb [48] (pick_ok pathsU ns (nextA ns (0) (hostsU.length:Int)) aS dC)),(8,cb [48] (next_ok ns (nextA ns (nextA ns (0) (hostsU.length:Int)) (pathsU.length:Int)) (6:Int) aS oM)),(9,pc (flds_i ns (nextV ns (nextA ns (nextA ns (0) (hostsU.length:Int)) (pathsU.length:Int)) (6:Int)) aS oM oM))],fm:=[(1,.c (.sl 1 hostsU.length (strsF hostsU))),(4,.c (.sl 1 pathsU.length (strsF pathsU)))]})] [] [EqvI (.c (.sl 1 (7:Nat) fun i j=>nthD [.str [(97:UInt8),115],.str [(99:UInt8),49],.str [(99:UInt8),50],.str [(114:UInt8),115],.str [(97:UInt8),116],.str [(97:UInt8),45,49,46,98],.str [(48:UInt8)]] (i*(1:Nat)+j))) (.c (.sl 1 hostsU.length (strsF hostsU))),EqvD (.c (.sl 1 (7:Nat) fun i j=>nthD [.str [(97:UInt8),115],.str [(99:UInt8),49],.str [(99:UInt8),50],.str [(114:UInt8),115],.str [(97:UInt8),116],.str [(97:UInt8),45,49,46,98],.str [(48:UInt8)]] (i*(1:Nat)+j))) (.c (.sl 1 hostsU.length (strsF hostsU))),EqvI (.c (.sl 1 (6:Nat) fun i j=>nthD [.str [(47:UInt8)],.str [(47:UInt8),99,98],.str [(47:UInt8),115,116,97,114,116],.str [(47:UInt8),97,117,116,104,111,114,105,122,101],.str [(47:UInt8),97,47,98,47,47],.str [(47:UInt8),126,120,95,49,46,50,45,51]] (i*(1:Nat)+j))) (.c (.sl 1 pathsU.length (strsF pathsU))),EqvD (.c (.sl 1 (6:Nat) fun i j=>nthD [.str [(47:UInt8)],.str [(47:UInt8),99,98],.str [(47:UInt8),115,116,97,114,116],.str [(47:UInt8),97,117,116,104,111,114,105,122,101],.str [(47:UInt8),97,47,98,47,47],.str [(47:UInt8),126,120,95,49,46,50,45,51]] (i*(1:Nat)+j))) (.c (.sl 1 pathsU.length (strsF pathsU)))] ⟨fun _ _=>trivial,aS,fun _ _=>trivial,(show EqvD (.c (.sl (1:Nat) (6:Nat) fun i j=>nthD [.str [(47:UInt8)],.str [(47:UInt8),99,98],.str [(47:UInt8),115,116,97,114,116],.str [(47:UInt8),97,117,116,104,111,114,105,122,101],.str [(47:UInt8),97,47,98,47,47],.str [(47:UInt8),126,120,95,49,46,50,45,51]] (i*(1:Nat)+j))) (.c (.sl (1:Nat) pathsU.length (strsF pathsU))) from aS)⟩ ?_
 exact zr
def hostB (c:UInt8):Bool:=smallB c||digitB c||c==45||c==46
def pathB (c:UInt8):Bool:=plainB c||c==47
def hostT (s:List UInt8):Bool:=s.all hostB&&(decide (1≤s.length)&&decide (s.length≤64))
def pathT (s:List UInt8):Bool:=s.all pathB&&(decide (1≤s.length)&&s.getD 0 0==47)
theorem host11_ok (s:List UInt8) (hl:s.length<4611686018427387904):Pur Tryz.prog G 73 [.c (.str s)] [.c (.bool (hostT s))]:=by
 refine zp Tryz.func73 ?_
 refine z0 [] [] ?_
 refine zl (fun (k:Nat)=>⟨[(0,.v (.c (.str s))),(3,.v (.c (.int .i64 (k:Int))))],[],32⟩) (fun k=>k≤s.length∧s.all hostB=(s.drop k).all hostB) (fun k=>s.length-k) 0 ⟨Nat.zero_le _,rfl⟩ ?_
 intro k L ⟨hk,hq⟩ again
 rcases Nat.lt_or_ge k s.length with hlt | hge
 ·rw [dropS s k hlt,List.all_cons] at hq
  refine zg [(4,{cs:=[(15,pc (digit6_ok (s.getD k (0:UInt8))))]})] [true] [decide ((k:Int)<(s.length:Int))=true,(0:Int)≤(k:Int)∧(k:Int)<(s.length:Int),decide ((↑(s.getD k (0:UInt8)).toNat:Int)≥(97:Int))=true→(0:Int)≤(k:Int)∧(k:Int)<(s.length:Int),(!bif decide ((↑(s.getD k (0:UInt8)).toNat:Int)≥(97:Int)) then decide ((↑(s.getD k (0:UInt8)).toNat:Int)≤(122:Int)) else false)=true→(0:Int)≤(k:Int)∧(k:Int)<(s.length:Int),(bif !bif decide ((↑(s.getD k (0:UInt8)).toNat:Int)≥(97:Int)) then decide ((↑(s.getD k (0:UInt8)).toNat:Int)≤(122:Int)) else false then !digitB (s.getD k (0:UInt8)) else false)=true→(0:Int)≤(k:Int)∧(k:Int)<(s.length:Int),(bif bif !bif decide ((↑(s.getD k (0:UInt8)).toNat:Int)≥(97:Int)) then decide ((↑(s.getD k (0:UInt8)).toNat:Int)≤(122:Int)) else false then !digitB (s.getD k (0:UInt8)) else false then (↑(s.getD k (0:UInt8)).toNat:Int) != (45:Int) else false)=true→(0:Int)≤(k:Int)∧(k:Int)<(s.length:Int)] ⟨sO,oM,oM,oM,oM,(show (bif bif !bif decide ((↑(s.getD k (0:UInt8)).toNat:Int)≥(97:Int)) then decide ((↑(s.getD k (0:UInt8)).toNat:Int)≤(122:Int)) else false then !digitB (s.getD k (0:UInt8)) else false then (↑(s.getD k (0:UInt8)).toNat:Int) != (45:Int) else false)=true→(0:Int)≤(↑k:Int)∧(↑k:Int)<(↑s.length:Int) from oM)⟩ ?_
  have hb:(bif bif bif !bif decide ((↑(s.getD k (0:UInt8)).toNat:Int)≥(97:Int)) then decide ((↑(s.getD k (0:UInt8)).toNat:Int)≤(122:Int)) else false then !digitB (s.getD k (0:UInt8)) else false then (↑(s.getD k (0:UInt8)).toNat:Int) != (45:Int) else false then (↑(s.getD k (0:UInt8)).toNat:Int) != (46:Int) else false) = !hostB (s.getD k (0:UInt8)):=by_fun (fun c=>bif bif bif !bif decide ((↑c.toNat:Int)≥(97:Int)) then decide ((↑c.toNat:Int)≤(122:Int)) else false then !digitB c else false then (↑c.toNat:Int) != (45:Int) else false then (↑c.toNat:Int) != (46:Int) else false) (fun c => !hostB c) kR (s.getD k (0:UInt8))
  refine zc (bif bif bif !bif decide ((↑(s.getD k (0:UInt8)).toNat:Int)≥(97:Int)) then decide ((↑(s.getD k (0:UInt8)).toNat:Int)≤(122:Int)) else false then !digitB (s.getD k (0:UInt8)) else false then (↑(s.getD k (0:UInt8)).toNat:Int) != (45:Int) else false then (↑(s.getD k (0:UInt8)).toNat:Int) != (46:Int) else false) (fun h0 => ?_) (fun h0 => ?_)
  ·have g0:hostB (s.getD k (0:UInt8))=false:=by rw [hb] at h0;simpa using h0
   refine z0 [] [] ?_
   exact zS [.c (.bool false)] (by first | (rw [hostT,hq,g0];rfl) | (rw [pathT,hq,g0];rfl))
  ·have g0:hostB (s.getD k (0:UInt8))=true:=by rw [hb] at h0;simpa using h0
   refine zg [] [] [inR .i64 ((k:Int)+1)] (i6) ?_
   exact za [] (again _ (k+1) ⟨hlt,by rw [hq,g0];rfl⟩ oM)
 ·obtain rfl:k=s.length:=by omega
  rw [List.drop_length] at hq
  refine zg [] [false] [decide ((s.length:Int)<(s.length:Int))=false] ((show decide ((↑s.length:Int)<(↑s.length:Int))=false from (by simp;done))) ?_
  exact zS [.c (.bool (bif decide ((↑s.length:Int)≥(1:Int)) then decide ((↑s.length:Int)≤(64:Int)) else false))] (by rw [hostT,hq,List.all_nil,Bool.true_and];exact congrArg (fun b=>[V1.c (Cell.bool b)]) (by rw [Bool.cond_false_right];congr 1<;>(apply decide_eq_decide.2;omega)))
theorem path11_ok (s:List UInt8) (hl:s.length<4611686018427387904):Pur Tryz.prog G 128 [.c (.str s)] [.c (.bool (pathT s))]:=by
 refine zp Tryz.func128 ?_
 refine z0 [] [] ?_
 refine zl (fun (k:Nat)=>⟨[(0,.v (.c (.str s))),(3,.v (.c (.int .i64 (k:Int))))],[],32⟩) (fun k=>k≤s.length∧s.all pathB=(s.drop k).all pathB) (fun k=>s.length-k) 0 ⟨Nat.zero_le _,rfl⟩ ?_
 intro k L ⟨hk,hq⟩ again
 rcases Nat.lt_or_ge k s.length with hlt | hge
 ·rw [dropS s k hlt,List.all_cons] at hq
  refine zg [(4,{cs:=[(3,pc (plain6_ok (s.getD k (0:UInt8))))]})] [true] [decide ((k:Int)<(s.length:Int))=true,(0:Int)≤(k:Int)∧(k:Int)<(s.length:Int),(!plainB (s.getD k (0:UInt8)))=true→(0:Int)≤(k:Int)∧(k:Int)<(s.length:Int)] ⟨sO,oM,(show (!plainB (s.getD k (0:UInt8)))=true→(0:Int)≤(↑k:Int)∧(↑k:Int)<(↑s.length:Int) from oM)⟩ ?_
  have hb:(bif !plainB (s.getD k (0:UInt8)) then (↑(s.getD k (0:UInt8)).toNat:Int) != (47:Int) else false) = !pathB (s.getD k (0:UInt8)):=by_fun (fun c=>bif !plainB c then (↑c.toNat:Int) != (47:Int) else false) (fun c => !pathB c) kR (s.getD k (0:UInt8))
  refine zc (bif !plainB (s.getD k (0:UInt8)) then (↑(s.getD k (0:UInt8)).toNat:Int) != (47:Int) else false) (fun h0 => ?_) (fun h0 => ?_)
  ·have g0:pathB (s.getD k (0:UInt8))=false:=by rw [hb] at h0;simpa using h0
   refine z0 [] [] ?_
   exact zS [.c (.bool false)] (by first | (rw [hostT,hq,g0];rfl) | (rw [pathT,hq,g0];rfl))
  ·have g0:pathB (s.getD k (0:UInt8))=true:=by rw [hb] at h0;simpa using h0
   refine zg [] [] [inR .i64 ((k:Int)+1)] (i6) ?_
   exact za [] (again _ (k+1) ⟨hlt,by rw [hq,g0];rfl⟩ oM)
 ·obtain rfl:k=s.length:=by omega
  rw [List.drop_length] at hq
  refine zg [] [false] [decide ((s.length:Int)<(s.length:Int))=false,decide ((s.length:Int)≥(1:Int))=true→(0:Int)≤(0:Int)∧(0:Int)<(s.length:Int)] ⟨(by simp;done),(show decide ((↑s.length:Int)≥(1:Int))=true→(0:Int)≤(0:Int)∧(0:Int)<(↑s.length:Int) from sO)⟩ ?_
  exact zS [.c (.bool (bif decide ((↑s.length:Int)≥(1:Int)) then (↑(s.getD (0:Nat) (0:UInt8)).toNat:Int)==(47:Int) else false))] (by rw [pathT,hq,List.all_nil,Bool.true_and];exact congrArg (fun b=>[V1.c (Cell.bool b)]) (by rw [Bool.cond_false_right,show (((s.getD 0 0).toNat:Int)==47)=(s.getD 0 0==47) from byte_eq dC];congr 1;apply decide_eq_decide.2;omega))
end Go.Proofs.Tw
end
section
open Go Go.Sv Go.RowKit
namespace Go.Proofs.Tw
def HasPow (G:Nat→Option (List Cell)):Prop:=G 3=some (Lib.pow10Tab.map fun z => .int .u64 z)
def HasLen (G:Nat→Option (List Cell)):Prop:=∃ m:Int,G 1=some [.int .i64 m]
theorem itoa_p {G:Nat→Option (List Cell)} (hp:HasPow G) (n:Int) (h0 : -9223372036854775808≤n) (h1:n≤9223372036854775807):Pur Tryz.prog G 112 [.c (.int .i64 n)] [.c (.str (Lib.itoa n))]:=lib_Itoa 3 kR hp n h0 h1
end Go.Proofs.Tw
end
section
open Go Go.Sv Go.RowKit
namespace Go.Proofs.Tw
attribute [local irreducible] Wp FinQ resV Ent Pur Go.Sv.Fn Sat0
set_option maxRecDepth 100000
set_option maxHeartbeats 4000000
variable {G:Nat→Option (List Cell)}
theorem ws_a {G:Nat→Option (List Cell)} (s:List UInt8) (hm:s.length≤140737488355328):FnB Tryz.prog G 162 [.box 165 [.nilptr,.nilsl]] [.c (.ptr 0 0),.c (.str s)] [.c (.int .i64 s.length),.c .nilif]
  [(0,.box 165 [.ptr 0 0,.row 1 1 0 (0+s.length)]),(1,.row 5 1 (0+s.length) (bytesF s))]:=by
 refine zf Tryz.func162 ?_
 refine zg [(1,{cs:=[(1,cb [0] cc_a)]}),(2,{bs:=[(6,.row 5 1 (0+s.length) (bytesF s))]})] [] [(0+s.length)*1≤140737488355328,BlkEqv (.row 5 1 (0+s.length) (catF 0 (fun _ _ => .nilif) (bytesF s))) (.row 5 1 (0+s.length) (bytesF s))] ⟨by omega,?_⟩ ?_
 ·refine BlkEqv.row_ext rfl fun i hi j hj => ?_
  unfold catF
  rw [if_neg oM,Nat.sub_zero]
 exact zb [161]
structure MT where
 (first:List UInt8) (head:List FT) (body:List UInt8)
def encM (m:MT):List Cell:=[.str m.first,encH m.head,.str m.body]
def seenL (l:List (List UInt8)):List (List UInt8×V1):=l.map fun s=>(s,.c (.bool true))
theorem seenL_get (l:List (List UInt8)) (s:List UInt8):mget (seenL l) s (.c (.bool false)) = .c (.bool (l.contains s)):=by
 have:=seen_get l l.length s
 rwa [seenM,List.take_length] at this
theorem seenL_set (l:List (List UInt8)) (s:List UInt8) (h:l.contains s=false):mset (seenL l) s (.c (.bool true))=seenL (l++[s]):=by
 have:=seen_set (l++[s]) l.length (by simp) (by simpa using h)
 rw [seenM,seenM,List.take_left,show l.length+1=(l++[s]).length from by simp,List.take_length] at this
 simpa [seenL,List.getD] using this
def fOk (seen:List (List UInt8)) (f:FT):Bool := !(bif bif bif !(tokenT f.name) then true else !(foldT f.name==f.name) then true else seen.contains f.name then true else !(f.value.all seenB))
def fieldsOk:List (List UInt8)→List FT→Bool
 | _,[]=>true
 | seen,f::r=>fOk seen f&&fieldsOk (seen++[f.name]) r
def namesF (l:List FT) (k:Nat):List (List UInt8):=[99,111,110,116,101,110,116,45,108,101,110,103,116,104]::(l.take k).map (·.name)
def roomT (m:MT):Int:=if m.body==[] then 24 else 23
def fieldedT (m:MT):Bool:=fieldsOk [[99,111,110,116,101,110,116,45,108,101,110,103,116,104]] m.head&&decide ((m.head.length:Int)≤roomT m)
theorem namesF_succ (l:List FT) (k:Nat) (h:k<l.length):namesF l (k+1)=namesF l k++[(l.getD k .nil).name]:=by
 unfold namesF
 rw [List.take_succ_eq_append_getElem h,List.map_append,List.getD_eq_getElem?_getD,List.getElem?_eq_getElem h]
 rfl
theorem fielded_ok {G:Nat→Option (List Cell)} (m:MT) (hn:m.head.length<4611686018427387904) (hs:∀ f∈m.head,f.name.length≤140737488355328∧f.value.length≤140737488355328):Pur Tryz.prog G 160 [.agg (encM m)] [.c (.bool (fieldedT m))]:=by
 refine zp Tryz.func160 ?_
 cases hb:m.body==[] with
 | true =>
  have hb':(!(m.body==[]))=false:=by rw [hb];rfl
  have hr:roomT m=24:=by unfold roomT;rw [if_pos hb]
  refine zg [] [false] [(!m.body==[])=false] hb' ?_
  refine zl (fun (k:Nat)=>⟨[(1,.v (.c (.ptr 0 0))),(3,.v (.c (.int .i64 (24:Int)))),(4,.v (.c (.map 32))),(15,.v (.c (encH m.head))),(16,.v (.c (.int .i64 (m.head.length:Int)))),(17,.v (.c (.int .i64 (k:Int))))],[(0,.box 101 (encM m)),(32,.ob (Ob.ms (seenL (namesF m.head k))))],224⟩) (fun k=>k≤m.head.length∧fieldsOk [[99,111,110,116,101,110,116,45,108,101,110,103,116,104]] m.head=fieldsOk (namesF m.head k) (m.head.drop k)) (fun k=>m.head.length-k) 0 ⟨Nat.zero_le _,rfl⟩ ?_
  intro k L ⟨hk,hq⟩ again
  rcases Nat.lt_or_ge k m.head.length with hlt | hge
  ·rw [drop_cons m.head k .nil hlt,fieldsOk] at hq
   have hm:m.head.getD k .nil∈m.head:=by simp [List.getD,hlt]
   have hs1:=(hs _ hm).1
   have hs2:=(hs _ hm).2
   have e0:EqvD (mget (seenL (namesF m.head k)) (m.head.getD k .nil).name (.c (.bool false))) (.c (.bool ((namesF m.head k).contains (m.head.getD k .nil).name))):=eqvD_of (seenL_get _ _)
   cases hf:fOk (namesF m.head k) (m.head.getD k .nil) with
   | false =>
    rw [hf,Bool.false_and] at hq
    have hb:fieldedT m=false:=by unfold fieldedT;rw [hq];rfl
    rw [hb]
    have ht:(bif bif bif !(tokenT (m.head.getD k .nil).name) then true else !(foldT (m.head.getD k .nil).name==(m.head.getD k .nil).name) then true else (namesF m.head k).contains (m.head.getD k .nil).name then true else !((m.head.getD k .nil).value.all seenB))=true:=by unfold fOk at hf;rw [Bool.not_eq_false'] at hf;exact hf
    refine zg [(7,{cs:=[(2,pc (token_ok ((m.head.getD k .nil).name) oM)),(7,pc (fold_ok ((m.head.getD k .nil).name) aS)),(21,pc (seen_ok ((m.head.getD k .nil).value) oM))],fm:=[(16,.c (.bool ((namesF m.head k).contains (m.head.getD k .nil).name)))]})] [true,true] [decide ((k:Int)<(m.head.length:Int))=true,(0:Int)≤(k:Int)∧(k:Int)<(m.head.length:Int),EqvI (mget (seenL (namesF m.head k)) (m.head.getD k .nil).name (.c (.bool false))) (.c (.bool ((namesF m.head k).contains (m.head.getD k .nil).name))),(bif !tokenT (m.head.getD k .nil).name then true else !foldT (m.head.getD k .nil).name==(m.head.getD k .nil).name)=false→EqvD (mget (seenL (namesF m.head k)) (m.head.getD k .nil).name (.c (.bool false))) (.c (.bool ((namesF m.head k).contains (m.head.getD k .nil).name))),(bif bif bif !tokenT (m.head.getD k .nil).name then true else !foldT (m.head.getD k .nil).name==(m.head.getD k .nil).name then true else (namesF m.head k).contains (m.head.getD k .nil).name then true else !(m.head.getD k .nil).value.all seenB)=true] ⟨sO,oM,fun _ _=>trivial,(by intro _;assumption),(show (bif bif bif !tokenT (m.head.getD k .nil).name then true else !foldT (m.head.getD k .nil).name==(m.head.getD k .nil).name then true else (namesF m.head k).contains (m.head.getD k .nil).name then true else !(m.head.getD k .nil).value.all seenB)=true from aS)⟩ ?_
    exact zr
   | true =>
    rw [hf,Bool.true_and,← namesF_succ _ _ hlt] at hq
    have ht:(bif bif bif !(tokenT (m.head.getD k .nil).name) then true else !(foldT (m.head.getD k .nil).name==(m.head.getD k .nil).name) then true else (namesF m.head k).contains (m.head.getD k .nil).name then true else !((m.head.getD k .nil).value.all seenB))=false:=by unfold fOk at hf;rw [Bool.not_eq_true'] at hf;exact hf
    have hc:(namesF m.head k).contains (m.head.getD k .nil).name=false:=by
     cases hc:(namesF m.head k).contains (m.head.getD k .nil).name with
     | false=>rfl
     | true=>rw [hc] at ht; revert ht; cases tokenT (m.head.getD k .nil).name<;>cases foldT (m.head.getD k .nil).name==(m.head.getD k .nil).name<;>(intro h; cases h)
    have e2:BlkEqv (.ob (.ms (mset (seenL (namesF m.head k)) (m.head.getD k .nil).name (.c (.bool true))))) (.ob (.ms (seenL (namesF m.head (k+1))))):=BlkEqv.of_eq (by rw [seenL_set _ _ hc,namesF_succ _ _ hlt])
    refine zg [(7,{cs:=[(2,pc (token_ok ((m.head.getD k .nil).name) oM)),(7,pc (fold_ok ((m.head.getD k .nil).name) aS)),(21,pc (seen_ok ((m.head.getD k .nil).value) oM))],fm:=[(16,.c (.bool ((namesF m.head k).contains (m.head.getD k .nil).name)))]}),(9,{bs:=[(3,.ob (.ms (seenL (namesF m.head (k+1)))))]})] [true,false] [decide ((k:Int)<(m.head.length:Int))=true,(0:Int)≤(k:Int)∧(k:Int)<(m.head.length:Int),EqvI (mget (seenL (namesF m.head k)) (m.head.getD k .nil).name (.c (.bool false))) (.c (.bool ((namesF m.head k).contains (m.head.getD k .nil).name))),(bif !tokenT (m.head.getD k .nil).name then true else !foldT (m.head.getD k .nil).name==(m.head.getD k .nil).name)=false→EqvD (mget (seenL (namesF m.head k)) (m.head.getD k .nil).name (.c (.bool false))) (.c (.bool ((namesF m.head k).contains (m.head.getD k .nil).name))),(bif bif bif !tokenT (m.head.getD k .nil).name then true else !foldT (m.head.getD k .nil).name==(m.head.getD k .nil).name then true else (namesF m.head k).contains (m.head.getD k .nil).name then true else !(m.head.getD k .nil).value.all seenB)=false,BlkEqv (.ob (Ob.ms (mset (seenL (namesF m.head k)) (m.head.getD k .nil).name (.c (.bool true))))) (.ob (Ob.ms (seenL (namesF m.head (k+1))))),inR .i64 ((k:Int)+1)] ⟨sO,oM,fun _ _=>trivial,(by intro _;assumption),aS,aS,i6⟩ ?_
    exact za [] (again _ (k+1) (⟨aS,aS⟩) oM)
  ·obtain rfl:k=m.head.length:=by omega
   rw [List.drop_length,fieldsOk] at hq
   have hb:fieldedT m=decide ((m.head.length:Int)≤24):=by unfold fieldedT;rw [hq,hr];rfl
   rw [hb]
   refine zg [] [false] [decide ((m.head.length:Int)<(m.head.length:Int))=false] ((show decide ((↑m.head.length:Int)<(↑m.head.length:Int))=false from (by simp;done))) ?_
   exact zr
 | false =>
  have hb':(!(m.body==[]))=true:=by rw [hb];rfl
  have hr:roomT m=23:=by unfold roomT;rw [if_neg (by rw [hb];decide)]
  refine zg [] [true] [(!m.body==[])=true,inR .i64 (24-1)] ⟨hb',inR64 dC dC⟩ ?_
  refine zl (fun (k:Nat)=>⟨[(1,.v (.c (.ptr 0 0))),(3,.v (.c (.int .i64 ((24:Int)-(1:Int))))),(4,.v (.c (.map 32))),(15,.v (.c (encH m.head))),(16,.v (.c (.int .i64 (m.head.length:Int)))),(17,.v (.c (.int .i64 (k:Int))))],[(0,.box 101 (encM m)),(32,.ob (Ob.ms (seenL (namesF m.head k))))],272⟩) (fun k=>k≤m.head.length∧fieldsOk [[99,111,110,116,101,110,116,45,108,101,110,103,116,104]] m.head=fieldsOk (namesF m.head k) (m.head.drop k)) (fun k=>m.head.length-k) 0 ⟨Nat.zero_le _,rfl⟩ ?_
  intro k L ⟨hk,hq⟩ again
  rcases Nat.lt_or_ge k m.head.length with hlt | hge
  ·rw [drop_cons m.head k .nil hlt,fieldsOk] at hq
   have hm:m.head.getD k .nil∈m.head:=by simp [List.getD,hlt]
   have hs1:=(hs _ hm).1
   have hs2:=(hs _ hm).2
   have e0:EqvD (mget (seenL (namesF m.head k)) (m.head.getD k .nil).name (.c (.bool false))) (.c (.bool ((namesF m.head k).contains (m.head.getD k .nil).name))):=eqvD_of (seenL_get _ _)
   cases hf:fOk (namesF m.head k) (m.head.getD k .nil) with
   | false =>
    rw [hf,Bool.false_and] at hq
    have hb:fieldedT m=false:=by unfold fieldedT;rw [hq];rfl
    rw [hb]
    have ht:(bif bif bif !(tokenT (m.head.getD k .nil).name) then true else !(foldT (m.head.getD k .nil).name==(m.head.getD k .nil).name) then true else (namesF m.head k).contains (m.head.getD k .nil).name then true else !((m.head.getD k .nil).value.all seenB))=true:=by unfold fOk at hf;rw [Bool.not_eq_false'] at hf;exact hf
    refine zg [(7,{cs:=[(2,pc (token_ok ((m.head.getD k .nil).name) oM)),(7,pc (fold_ok ((m.head.getD k .nil).name) aS)),(21,pc (seen_ok ((m.head.getD k .nil).value) oM))],fm:=[(16,.c (.bool ((namesF m.head k).contains (m.head.getD k .nil).name)))]})] [true,true] [decide ((k:Int)<(m.head.length:Int))=true,(0:Int)≤(k:Int)∧(k:Int)<(m.head.length:Int),EqvI (mget (seenL (namesF m.head k)) (m.head.getD k .nil).name (.c (.bool false))) (.c (.bool ((namesF m.head k).contains (m.head.getD k .nil).name))),(bif !tokenT (m.head.getD k .nil).name then true else !foldT (m.head.getD k .nil).name==(m.head.getD k .nil).name)=false→EqvD (mget (seenL (namesF m.head k)) (m.head.getD k .nil).name (.c (.bool false))) (.c (.bool ((namesF m.head k).contains (m.head.getD k .nil).name))),(bif bif bif !tokenT (m.head.getD k .nil).name then true else !foldT (m.head.getD k .nil).name==(m.head.getD k .nil).name then true else (namesF m.head k).contains (m.head.getD k .nil).name then true else !(m.head.getD k .nil).value.all seenB)=true] ⟨sO,oM,fun _ _=>trivial,(by intro _;assumption),(show (bif bif bif !tokenT (m.head.getD k .nil).name then true else !foldT (m.head.getD k .nil).name==(m.head.getD k .nil).name then true else (namesF m.head k).contains (m.head.getD k .nil).name then true else !(m.head.getD k .nil).value.all seenB)=true from aS)⟩ ?_
    exact zr
   | true =>
    rw [hf,Bool.true_and,← namesF_succ _ _ hlt] at hq
    have ht:(bif bif bif !(tokenT (m.head.getD k .nil).name) then true else !(foldT (m.head.getD k .nil).name==(m.head.getD k .nil).name) then true else (namesF m.head k).contains (m.head.getD k .nil).name then true else !((m.head.getD k .nil).value.all seenB))=false:=by unfold fOk at hf;rw [Bool.not_eq_true'] at hf;exact hf
    have hc:(namesF m.head k).contains (m.head.getD k .nil).name=false:=by
     cases hc:(namesF m.head k).contains (m.head.getD k .nil).name with
     | false=>rfl
     | true=>rw [hc] at ht; revert ht; cases tokenT (m.head.getD k .nil).name<;>cases foldT (m.head.getD k .nil).name==(m.head.getD k .nil).name<;>(intro h; cases h)
    have e2:BlkEqv (.ob (.ms (mset (seenL (namesF m.head k)) (m.head.getD k .nil).name (.c (.bool true))))) (.ob (.ms (seenL (namesF m.head (k+1))))):=BlkEqv.of_eq (by rw [seenL_set _ _ hc,namesF_succ _ _ hlt])
    refine zg [(7,{cs:=[(2,pc (token_ok ((m.head.getD k .nil).name) oM)),(7,pc (fold_ok ((m.head.getD k .nil).name) aS)),(21,pc (seen_ok ((m.head.getD k .nil).value) oM))],fm:=[(16,.c (.bool ((namesF m.head k).contains (m.head.getD k .nil).name)))]}),(9,{bs:=[(3,.ob (.ms (seenL (namesF m.head (k+1)))))]})] [true,false] [decide ((k:Int)<(m.head.length:Int))=true,(0:Int)≤(k:Int)∧(k:Int)<(m.head.length:Int),EqvI (mget (seenL (namesF m.head k)) (m.head.getD k .nil).name (.c (.bool false))) (.c (.bool ((namesF m.head k).contains (m.head.getD k .nil).name))),(bif !tokenT (m.head.getD k .nil).name then true else !foldT (m.head.getD k .nil).name==(m.head.getD k .nil).name)=false→EqvD (mget (seenL (namesF m.head k)) (m.head.getD k .nil).name (.c (.bool false))) (.c (.bool ((namesF m.head k).contains (m.head.getD k .nil).name))),(bif bif bif !tokenT (m.head.getD k .nil).name then true else !foldT (m.head.getD k .nil).name==(m.head.getD k .nil).name then true else (namesF m.head k).contains (m.head.getD k .nil).name then true else !(m.head.getD k .nil).value.all seenB)=false,BlkEqv (.ob (Ob.ms (mset (seenL (namesF m.head k)) (m.head.getD k .nil).name (.c (.bool true))))) (.ob (Ob.ms (seenL (namesF m.head (k+1))))),inR .i64 ((k:Int)+1)] ⟨sO,oM,fun _ _=>trivial,(by intro _;assumption),aS,aS,i6⟩ ?_
    exact za [] (again _ (k+1) (⟨aS,aS⟩) oM)
  ·obtain rfl:k=m.head.length:=by omega
   rw [List.drop_length,fieldsOk] at hq
   have hb:fieldedT m=decide ((m.head.length:Int)≤23):=by unfold fieldedT;rw [hq,hr];rfl
   rw [hb]
   refine zg [] [false] [decide ((m.head.length:Int)<(m.head.length:Int))=false] ((show decide ((↑m.head.length:Int)<(↑m.head.length:Int))=false from (by simp;done))) ?_
   exact zr
def fieldL (f:FT):List UInt8:=f.name++[58,32]++f.value++[13,10]
def headN (m:MT) (k:Nat):List UInt8:=m.first++[13,10]++(m.head.take k).flatMap fieldL
def lenL (m:MT):List UInt8:=if m.body==[] then [] else [99,111,110,116,101,110,116,45,108,101,110,103,116,104,58,32]++Lib.itoa m.body.length++[13,10]
def aheadT (m:MT):List UInt8:=headN m m.head.length++lenL m++[13,10]
theorem headN_succ (m:MT) (k:Nat) (h:k<m.head.length):headN m (k+1)=headN m k++fieldL (m.head.getD k .nil):=by
 unfold headN
 rw [List.take_succ_eq_append_getElem h,List.flatMap_append,List.getD_eq_getElem?_getD,List.getElem?_eq_getElem h]
 simp
theorem headN_le (m:MT) {k n:Nat} (h:k≤n):(headN m k).length≤(headN m n).length:=by
 obtain ⟨d,rfl⟩:=Nat.exists_eq_add_of_le h
 induction d with
 | zero=>exact Nat.le_refl _
 | succ d ih =>
  refine Nat.le_trans (ih oM) ?_
  rcases Nat.lt_or_ge (k+d) m.head.length with hlt | hge
  ·rw [← Nat.add_assoc,headN_succ m _ hlt];simp
  ·unfold headN
   rw [List.take_of_length_le hge,List.take_of_length_le oM]
   exact Nat.le_refl _
theorem field_len (f:FT):(fieldL f).length=f.name.length+f.value.length+4:=by
 unfold fieldL;simp;omega
theorem ahead_ok {G:Nat→Option (List Cell)} (hp:HasPow G) (m:MT) (hn:m.head.length<4611686018427387904) (hb:m.body.length≤140737488355328) (hA:(aheadT m).length≤100000000000000):Pur Tryz.prog G 114 [.agg (encM m)] [.c (.str (aheadT m))]:=by
 refine zp Tryz.func114 ?_
 have hA1:(headN m m.head.length).length+(lenL m).length+2≤100000000000000:=by
  unfold aheadT at hA;simp only [List.length_append] at hA;simpa using hA
 have h0:=headN_le m (Nat.zero_le m.head.length)
 have h0':(headN m 0).length=m.first.length+2:=by unfold headN;simp
 refine zg [(2,{cs:=[(3,cb [32] (ws_a (m.first++[(13:UInt8),10]) sO))]})] [] [m.first.length+2≤9223372036854775807] ((show m.first.length+(2:Nat)≤(9223372036854775807:Nat) from oM)) ?_
 refine zl (fun (x:Nat×Nat×List UInt8)=>⟨[(1,.v (.c (.ptr 0 0))),(3,.v (.c (.ptr 32 0))),(11,.v (.c (encH m.head))),(12,.v (.c (.int .i64 (m.head.length:Int)))),(13,.v (.c (.int .i64 (x.1:Int))))],[(0,.box 101 (encM m)),(32,.box 165 [.ptr 32 0,.row 1 96 0 x.2.1]),(96,.row 5 1 x.2.1 (bytesF x.2.2))],176⟩) (fun x=>x.1≤m.head.length∧x.2.2=headN m x.1∧x.2.1=x.2.2.length) (fun x=>m.head.length-x.1) (0,0+(m.first++[13,10]).length,m.first++[13,10]) ⟨Nat.zero_le _,by unfold headN;simp,by simp⟩ ?_
 rintro ⟨k,n,l⟩ L ⟨hk,hq,hnl⟩ again
 simp only at hk hq hnl
 have h1:=headN_le m hk
 rw [← hq,← hnl] at h1
 rcases Nat.lt_or_ge k m.head.length with hlt | hge
 ·have h2:=headN_le m (show k+1≤m.head.length from hlt)
  rw [headN_succ m k hlt,List.length_append,field_len,← hq,← hnl] at h2
  have h3:l++((m.head.getD k .nil).name++[58,32]++(m.head.getD k .nil).value++[13,10])=headN m (k+1):=by rw [headN_succ m k hlt,← hq];rfl
  have h4:n+((m.head.getD k .nil).name++[58,32]++(m.head.getD k .nil).value++[13,10]).length=(l++((m.head.getD k .nil).name++[58,32]++(m.head.getD k .nil).value++[13,10])).length:=by rw [hnl];exact List.length_append.symm
  refine zg [(6,{cs:=[(7,cb [32,96] (ws_b n l aS ((m.head.getD k .nil).name++[(58:UInt8),32]++(m.head.getD k .nil).value++[(13:UInt8),10]) (by simp_all<;>omega)))]})] [true] [decide ((k:Int)<(m.head.length:Int))=true,(0:Int)≤(k:Int)∧(k:Int)<(m.head.length:Int),(m.head.getD k .nil).name.length+2≤9223372036854775807,((m.head.getD k .nil).name++[(58:UInt8),32]).length+(m.head.getD k .nil).value.length≤(9223372036854775807:Nat),((m.head.getD k .nil).name++[(58:UInt8),32]++(m.head.getD k .nil).value).length+(2:Nat)≤(9223372036854775807:Nat),inR .i64 ((k:Int)+1)] ⟨sO,oM,oM,(by simp_all<;>omega),(by simp_all<;>omega),i6⟩ ?_
  exact za [(96,368)] (again _ (k+1,n+((m.head.getD k .nil).name++[58,32]++(m.head.getD k .nil).value++[13,10]).length,l++((m.head.getD k .nil).name++[58,32]++(m.head.getD k .nil).value++[13,10])) ⟨aS,⟨aS,aS⟩⟩ oM)
 ·obtain rfl:k=m.head.length:=by omega
  have h5:(headN m 0).length≤n:=by rw [hnl,hq];exact headN_le m (Nat.zero_le _)
  have hpos:0<n:=by omega
  cases hbo:m.body==[] with
  | true =>
   have hb':(!(m.body==[]))=false:=by rw [hbo];rfl
   have hT:aheadT m=l++[13,10]:=by unfold aheadT lenL;rw [hbo,if_pos rfl,hq];simp
   rw [hT]
   have h6:n+2≤100000000000000:=by omega
   refine zg [(10,{cs:=[(0,cb [32,96] (str_b n l aS aS oM))]})] [false,false] [decide ((m.head.length:Int)<(m.head.length:Int))=false,(!m.body==[])=false,l.length+2≤9223372036854775807] ⟨(by simp;done),aS,(show l.length+(2:Nat)≤(9223372036854775807:Nat) from oM)⟩ ?_
   exact zr
  | false =>
   have hb':(!(m.body==[]))=true:=by rw [hbo];rfl
   have hT:aheadT m=l++([99,111,110,116,101,110,116,45,108,101,110,103,116,104,58,32]++Lib.itoa (m.body.length:Int)++[13,10])++[13,10]:=by unfold aheadT lenL;rw [hbo,if_neg dC,hq]
   rw [hT]
   have h6:n+(16+((Lib.itoa (m.body.length:Int)).length+2))+2≤100000000000000:=by
    have:(lenL m).length=16+((Lib.itoa (m.body.length:Int)).length+2):=by unfold lenL;rw [hbo,if_neg dC];simp;omega
    omega
   refine zg [(9,{cs:=[(3,pc (itoa_p hp (m.body.length:Int) oM oM)),(6,cb [32,96] (ws_b n l aS ([(99:UInt8),111,110,116,101,110,116,45,108,101,110,103,116,104,58,32]++Lib.itoa (m.body.length:Int)++[(13:UInt8),10]) sO))]}),(10,{cs:=[(0,cb [32,336] (str_b (n+([(99:UInt8),111,110,116,101,110,116,45,108,101,110,103,116,104,58,32]++Lib.itoa (m.body.length:Int)++[(13:UInt8),10]).length) (l++([(99:UInt8),111,110,116,101,110,116,45,108,101,110,103,116,104,58,32]++Lib.itoa (m.body.length:Int)++[(13:UInt8),10])) sO oM sO))]})] [false,true] [decide ((m.head.length:Int)<(m.head.length:Int))=false,(!m.body==[])=true,(16:Nat)+(Lib.itoa (m.body.length:Int)).length≤(9223372036854775807:Nat),([(99:UInt8),111,110,116,101,110,116,45,108,101,110,103,116,104,58,32]++Lib.itoa (m.body.length:Int)).length+(2:Nat)≤(9223372036854775807:Nat),(l++([(99:UInt8),111,110,116,101,110,116,45,108,101,110,103,116,104,58,32]++Lib.itoa (m.body.length:Int)++[(13:UInt8),10])).length+(2:Nat)≤(9223372036854775807:Nat)] ⟨(by simp;done),aS,oM,sO,(show (l++([(99:UInt8),111,110,116,101,110,116,45,108,101,110,103,116,104,58,32]++Lib.itoa (↑m.body.length:Int)++[(13:UInt8),10])).length+(2:Nat)≤(9223372036854775807:Nat) from sO)⟩ ?_
   exact zr
theorem ar_a {G:Nat→Option (List Cell)} (c:UInt8) (hc:c.toNat<128):FnB Tryz.prog G 275 [] [.c .nilsl,.c (.int .i32 (c.toNat:Int))] [.c (.row 1 0 0 1)] [(0,.row 5 1 1 (bytesF [c]))]:=by
 refine zf Tryz.func275 ?_
 have hm:IntKind.u8.wrap (c.toNat:Int)=(c.toNat:Int):=by have:=UInt8.toNat_lt c;simp [IntKind.wrap,IntKind.bits,IntKind.signed];omega
 have hw:IntKind.u32.wrap (c.toNat:Int)=(c.toNat:Int):=by have:=UInt8.toNat_lt c;simp [IntKind.wrap,IntKind.bits,IntKind.signed];omega
 have ht:decide (IntKind.u32.wrap (c.toNat:Int)≤127)=true:=by rw [hw];simp;omega
 have e1:BlkEqv (.row 5 1 1 (catF 0 (fun _ _ => .nilif) (fun i j=>nthD [.int .u8 (IntKind.u8.wrap (c.toNat:Int))] ((0+i)*1+j)))) (.row 5 1 1 (bytesF [c])):=by
  rw [hm]
  refine BlkEqv.row_ext rfl fun i hi j hj => ?_
  obtain ⟨rfl,rfl⟩:i=0∧j=0:=by omega
  rfl
 refine zg [(2,{bs:=[(4,.row 5 1 1 (bytesF [c]))]})] [true] [decide (IntKind.u32.wrap (c.toNat:Int)≤(127:Int))=true,1≤140737488355328,BlkEqv (.row 5 (1:Nat) (1:Nat) (catF (0:Nat) (fun (x x_1:Nat) => .nilif) fun i j=>nthD [.int .u8 (IntKind.u8.wrap (c.toNat:Int))] (((0:Nat)+i)*(1:Nat)+j))) (.row 5 (1:Nat) (1:Nat) (bytesF [c])),0+1≤1] ⟨aS,oM,aS,(show (0:Nat)+(1:Nat)≤(1:Nat) from oM)⟩ ?_
 exact zb [128]
theorem ar_b {G:Nat→Option (List Cell)} (n:Nat) (l:List UInt8) (hn:n=l.length) (hm:n+1≤140737488355328) (c:UInt8) (hc:c.toNat<128):FnB Tryz.prog G 275 [.row 5 1 n (bytesF l)] [.c (.row 1 0 0 n),.c (.int .i32 (c.toNat:Int))] [.c (.row 1 1 0 (n+1))] [(1,.row 5 1 (n+1) (bytesF (l++[c])))]:=by
 refine zf Tryz.func275 ?_
 have hm8:IntKind.u8.wrap (c.toNat:Int)=(c.toNat:Int):=by have:=UInt8.toNat_lt c;simp [IntKind.wrap,IntKind.bits,IntKind.signed];omega
 have hw:IntKind.u32.wrap (c.toNat:Int)=(c.toNat:Int):=by have:=UInt8.toNat_lt c;simp [IntKind.wrap,IntKind.bits,IntKind.signed];omega
 have ht:decide (IntKind.u32.wrap (c.toNat:Int)≤127)=true:=by rw [hw];simp;omega
 have e1:BlkEqv (.row 5 1 (n+1) (catF n (bytesF l) (fun i j=>nthD [.int .u8 (IntKind.u8.wrap (c.toNat:Int))] ((0+i)*1+j)))) (.row 5 1 (n+1) (bytesF (l++[c]))):=by
  rw [hm8]
  exact bytes_app l [c] hn
 refine zg [(2,{bs:=[(4,.row 5 1 (n+1) (bytesF (l++[c])))]})] [true] [decide (IntKind.u32.wrap (c.toNat:Int)≤(127:Int))=true,(n+1)*1≤140737488355328,BlkEqv (.row 5 (1:Nat) (n+(1:Nat)) (catF n (bytesF l) fun i j=>nthD [.int .u8 (IntKind.u8.wrap (c.toNat:Int))] (((0:Nat)+i)*(1:Nat)+j))) (.row 5 (1:Nat) (n+(1:Nat)) (bytesF (l++[c]))),n≤n,0+1≤1] ⟨aS,oM,aS,oM,(show (0:Nat)+(1:Nat)≤(1:Nat) from oM)⟩ ?_
 exact zb [129]
theorem wr_a {G:Nat→Option (List Cell)} (c:UInt8) (hc:c.toNat<128):FnB Tryz.prog G 253 [.box 165 [.nilptr,.nilsl]] [.c (.ptr 0 0),.c (.int .i32 (c.toNat:Int))] [.c (.int .i64 1),.c .nilif] [(0,.box 165 [.ptr 0 0,.row 1 1 0 1]),(1,.row 5 1 1 (bytesF [c]))]:=by
 refine zf Tryz.func253 ?_
 refine zg [(1,{cs:=[(1,cb [0] cc_a)]}),(3,{cs:=[(6,cb [] (ar_a c aS))]})] [] [inR .i64 ((↑(1:Nat):Int)-(0:Int))] (i6) ?_
 exact zb [257]
theorem wr_b {G:Nat→Option (List Cell)} (n:Nat) (l:List UInt8) (hn:n=l.length) (hm:n+1≤140737488355328) (c:UInt8) (hc:c.toNat<128):FnB Tryz.prog G 253 [.box 165 [.ptr 0 0,.row 1 1 0 n],.row 5 1 n (bytesF l)] [.c (.ptr 0 0),.c (.int .i32 (c.toNat:Int))] [.c (.int .i64 1),.c .nilif]
  [(0,.box 165 [.ptr 0 0,.row 1 2 0 (n+1)]),(2,.row 5 1 (n+1) (bytesF (l++[c])))]:=by
 refine zf Tryz.func253 ?_
 refine zg [(1,{cs:=[(1,cb [0,1] (cc_b n l))]}),(3,{cs:=[(6,cb [1] (ar_b n l aS aS c aS))]})] [] [inR .i64 ((↑(n+(1:Nat)):Int)-(n:Int))] (i6) ?_
 refine Wp.ret' kR ?_
 exact FinQ.blkE (rs':=[V1.c (Cell.int .i64 ((↑(n+(1:Nat)):Int)-(↑n:Int))),V1.c Cell.nilif]) (hout':=[(0,Blk.box 165 [Cell.ptr (0:Nat) (0:Nat),Cell.row (1:Nat) (2:Nat) (0:Nat) (n+(1:Nat))]),(2,Blk.row 5 (1:Nat) (n+(1:Nat)) (bytesF (l++[c])))]) ⟨by rw [show ((↑(n+1:Nat):Int)-(↑n:Int))=1 from by omega],rfl⟩ [258] kR kR kR kR kR trivial
theorem str_a {G:Nat→Option (List Cell)}:FnB Tryz.prog G 144 [.box 165 [.nilptr,.nilsl]] [.c (.ptr 0 0)] [.c (.str [])] []:=by
 refine zf Tryz.func144 ?_
 refine zg [] [] [(0:Int)=(0:Int)] rfl ?_
 exact zr
def hexU:List UInt8:=[48,49,50,51,52,53,54,55,56,57,65,66,67,68,69,70]
def pctB (form:Bool) (c:UInt8):List UInt8:=if plainB c then [c] else if form&&c==32 then [43] else [37,hexU.getD (c.toNat / 16) 0,hexU.getD (c.toNat%16) 0]
def pctT (form:Bool) (s:List UInt8):List UInt8:=s.flatMap (pctB form)
def pctN (form:Bool) (s:List UInt8) (k:Nat):List UInt8:=(s.take k).flatMap (pctB form)
theorem pctN_succ (form:Bool) (s:List UInt8) (k:Nat) (h:k<s.length):pctN form s (k+1)=pctN form s k++pctB form (s.getD k 0):=by
 unfold pctN
 rw [List.take_succ_eq_append_getElem h,List.flatMap_append,List.getD_eq_getElem?_getD,List.getElem?_eq_getElem h]
 simp
theorem pctN_end (form:Bool) (s:List UInt8):pctN form s s.length=pctT form s:=by unfold pctN pctT;rw [List.take_length]
theorem pctB_len (form:Bool) (c:UInt8):1≤(pctB form c).length∧(pctB form c).length≤3:=by
 unfold pctB
 split
 ·exact ⟨Nat.le_refl _,by simp⟩
 ·split<;>simp
theorem pctN_len (form:Bool) (s:List UInt8):∀ k,k≤s.length→k≤(pctN form s k).length∧(pctN form s k).length≤3*k
 | 0,_=>by simp [pctN]
 | k+1,h=>by
  have h1:=pctN_len form s k oM
  have h2:=pctB_len form (s.getD k 0)
  rw [pctN_succ form s k oM,List.length_append]
  omega
theorem hex7_ok {G:Nat→Option (List Cell)} (k:Nat) (hk:k<16):Pur Tryz.prog G 255 [.c (.int .i64 (k:Int))] [.c (.int .u8 ((hexU.getD k 0).toNat:Int))]:=by
 refine zp Tryz.func255 ?_
 have h1:∀ k:Nat,k<10→IntKind.u8.wrap (48+(k:Int))=((hexU.getD k 0).toNat:Int):=by decide
 have h2:∀ k:Nat,k<16→10≤k→IntKind.u8.wrap (65+(k:Int)-10)=((hexU.getD k 0).toNat:Int):=by decide
 rcases Nat.lt_or_ge k 10 with h | h
 ·have h1:=h1 k h
  refine zg [] [true] [decide ((k:Int)<10)=true,inR .i64 (48+(k:Int))] ⟨sO,i6⟩ ?_
  exact zS [.c (.int .u8 (IntKind.u8.wrap ((48:Int)+(↑k:Int))))] (by simp only [Int.ofNat_eq_natCast,Int.toNat_natCast,List.take_length,List.drop_zero, *])
 ·have h2:=h2 k hk h
  refine zg [] [false] [decide ((k:Int)<10)=false,inR .i64 (65+(k:Int)),inR .i64 (65+(k:Int)-10)] ⟨sO,i6,i6⟩ ?_
  exact zS [.c (.int .u8 (IntKind.u8.wrap ((65:Int)+(↑k:Int)-(10:Int))))] (by simp only [Int.ofNat_eq_natCast,Int.toNat_natCast,List.take_length,List.drop_zero, *])
theorem pct_cells:∀ c:UInt8,((c.toNat:Int).tdiv 16=((c.toNat / 16:Nat):Int))∧((c.toNat:Int).tmod 16=((c.toNat%16:Nat):Int)):=fun c=>⟨rfl,rfl⟩
theorem enc7_ok {G:Nat→Option (List Cell)} (s:List UInt8) (form:Bool) (hl:s.length≤30000000000000):Pur Tryz.prog G 220 [.c (.str s),.c (.bool form)] [.c (.str (pctT form s))]:=by
 refine zp Tryz.func220 ?_
 refine z0 [] [] ?_
 refine Wp.loopK kR (fun (x:Nat×Nat×List UInt8)=>⟨[(0,.v (.c (.str s))),(1,.v (.c (.bool form))),(5,.v (.c (.row 1 48 0 x.2.1))),(6,.v (.c (.int .i64 (x.1:Int))))],[(48,.row 5 1 x.2.1 (bytesF x.2.2))],64⟩)
  (fun x=>x.1≤s.length∧x.2.2=pctN form s x.1∧x.2.1=x.2.2.length) (fun x=>s.length-x.1) (0,0,[]) (Ent.trans (Ent.empT (t:=5) (sz:=1) (e:=5) (f:=bytesF []) dC kR rfl) (Ent.of [] kR kR kR trivial)) ⟨Nat.zero_le _,rfl,rfl⟩ ?_
 rintro ⟨k,n,l⟩ L ⟨hk,hq,hn⟩ again
 simp only at hk hq hn
 have hlen:=pctN_len form s k hk
 rw [← hq,← hn] at hlen
 rcases Nat.lt_or_ge k s.length with hlt | hge
 ·have hs:=pctN_succ form s k hlt
  rw [← hq] at hs
  cases hp:plainB (s.getD k 0) with
  | true =>
   have hB:pctB form (s.getD k 0)=[s.getD k 0]:=by unfold pctB;rw [if_pos hp]
   rw [hB] at hs
   have e1:BlkEqv (.row 5 1 (n+1) (catF n (bytesF l) (fun i j=>nthD [.int .u8 ((s.getD k 0).toNat:Int)] ((0+i)*1+j)))) (.row 5 1 (n+1) (bytesF (l++[s.getD k 0]))):=bytes_app l [s.getD k 0] hn
   have hn':n+1=(l++[s.getD k 0]).length:=by simp [hn]
   have hs':=hs.symm
   refine zg [(8,{bs:=[(3,.row 5 1 (n+1) (bytesF (l++[s.getD k 0])))]}),(7,{cs:=[(1,pc (plain6_ok (s.getD k (0:UInt8))))]})] [true,true] [decide ((k:Int)<(s.length:Int))=true,(0:Int)≤(k:Int)∧(k:Int)<(s.length:Int),plainB (s.getD k (0:UInt8))=true,(n+1)*1≤140737488355328,BlkEqv (.row 5 (1:Nat) (n+(1:Nat)) (catF n (bytesF l) fun i j=>nthD [.int .u8 (↑(s.getD k (0:UInt8)).toNat:Int)] (((0:Nat)+i)*(1:Nat)+j))) (.row 5 (1:Nat) (n+(1:Nat)) (bytesF (l++[s.getD k (0:UInt8)]))),n≤n,0+1≤1,inR .i64 ((k:Int)+1)] ⟨sO,oM,aS,oM,aS,oM,oM,i6⟩ ?_
   exact za [(48,288)] (again _ (k+1,n+1,l++[s.getD k 0]) ⟨aS,⟨aS,aS⟩⟩ oM)
  | false =>
   cases hf:(bif form then ((s.getD k 0).toNat:Int)==32 else false) with
   | true =>
    have hB:pctB form (s.getD k 0)=[43]:=by
     unfold pctB
     rw [if_neg (by rw [hp];decide),if_pos]
     rw [Bool.cond_false_right,show (((s.getD k 0).toNat:Int)==32)=(s.getD k 0==32) from byte_eq dC] at hf
     exact hf
    rw [hB] at hs
    have e1:BlkEqv (.row 5 1 (n+1) (catF n (bytesF l) (fun i j=>nthD [.int .u8 (43:Int)] ((0+i)*1+j)))) (.row 5 1 (n+1) (bytesF (l++[43]))):=bytes_app l [43] hn
    have hn':n+1=(l++[43]).length:=by simp [hn]
    have hs':=hs.symm
    refine zg [(10,{bs:=[(2,.row 5 1 (n+1) (bytesF (l++[43])))]}),(7,{cs:=[(1,pc (plain6_ok (s.getD k (0:UInt8))))]})] [true,false,true] [decide ((k:Int)<(s.length:Int))=true,(0:Int)≤(k:Int)∧(k:Int)<(s.length:Int),plainB (s.getD k (0:UInt8))=false,(bif form then (↑(s.getD k (0:UInt8)).toNat:Int)==(32:Int) else false)=true,(n+1)*1≤140737488355328,BlkEqv (.row 5 (1:Nat) (n+(1:Nat)) (catF n (bytesF l) fun i j=>nthD [.int .u8 43] (((0:Nat)+i)*(1:Nat)+j))) (.row 5 (1:Nat) (n+(1:Nat)) (bytesF (l++[(43:UInt8)]))),n≤n,0+1≤1,inR .i64 ((k:Int)+1)] ⟨sO,oM,aS,aS,oM,aS,oM,oM,i6⟩ ?_
    exact za [(48,368)] (again _ (k+1,n+1,l++[43]) ⟨aS,⟨aS,aS⟩⟩ oM)
   | false =>
    have hB:pctB form (s.getD k 0)=[37,hexU.getD ((s.getD k 0).toNat / 16) 0,hexU.getD ((s.getD k 0).toNat%16) 0]:=by
     unfold pctB
     rw [if_neg (by rw [hp];decide),if_neg]
     rw [Bool.cond_false_right,show (((s.getD k 0).toNat:Int)==32)=(s.getD k 0==32) from byte_eq dC] at hf
     rw [hf];decide
    rw [hB] at hs
    have e1:BlkEqv (.row 5 1 (n+3) (catF n (bytesF l) (fun i j=>nthD [.int .u8 (37:Int),.int .u8 ((hexU.getD ((s.getD k 0).toNat / 16) 0).toNat:Int),.int .u8 ((hexU.getD ((s.getD k 0).toNat%16) 0).toNat:Int)] ((0+i)*1+j)))) (.row 5 1 (n+3) (bytesF (l++[37,hexU.getD ((s.getD k 0).toNat / 16) 0,hexU.getD ((s.getD k 0).toNat%16) 0]))):=bytes_app l [37,hexU.getD ((s.getD k 0).toNat / 16) 0,hexU.getD ((s.getD k 0).toNat%16) 0] hn
    have hn':n+3=(l++[37,hexU.getD ((s.getD k 0).toNat / 16) 0,hexU.getD ((s.getD k 0).toNat%16) 0]).length:=by simp [hn]
    have hs':=hs.symm
    have hb:=UInt8.toNat_lt (s.getD k 0)
    have e2:EqvD (V1.c (Cell.int .i64 (IntKind.i64.wrap ((s.getD k 0).toNat:Int)))) (.c (.int .i64 ((s.getD k 0).toNat:Int))):=eqvD_of (by rw [wrap64 oM oM])
    have e3:EqvD (V1.c (Cell.int .i64 (IntKind.i64.wrap (((s.getD k 0).toNat:Int).tdiv 16)))) (.c (.int .i64 ((s.getD k 0).toNat / 16:Nat))):=eqvD_of (by rw [(pct_cells (s.getD k 0)).1,wrap64 oM oM])
    have e4:EqvD (V1.c (Cell.int .i64 (((s.getD k 0).toNat:Int).tmod 16))) (.c (.int .i64 ((s.getD k 0).toNat%16:Nat))):=eqvD_of (by rw [(pct_cells (s.getD k 0)).2])
    have c1:Pur Tryz.prog G 255 [.c (.int .i64 ((s.getD k 0).toNat / 16:Nat))] [.c (.int .u8 ((hexU.getD ((s.getD k 0).toNat / 16) 0).toNat:Int))]:=hex7_ok ((s.getD k 0).toNat / 16) oM
    have c2:Pur Tryz.prog G 255 [.c (.int .i64 ((s.getD k 0).toNat%16:Nat))] [.c (.int .u8 ((hexU.getD ((s.getD k 0).toNat%16) 0).toNat:Int))]:=hex7_ok ((s.getD k 0).toNat%16) oM
    refine zg [(6,{cs:=[(4,pc c1),(8,pc c2)],fm:=[(2,.c (.int .i64 ((s.getD k 0).toNat:Int))),(3,.c (.int .i64 ((s.getD k 0).toNat / 16:Nat))),(6,.c (.int .i64 ((s.getD k 0).toNat:Int))),(7,.c (.int .i64 ((s.getD k 0).toNat%16:Nat)))],bs:=[(10,.row 5 1 (n+3) (bytesF (l++[37,hexU.getD ((s.getD k 0).toNat / 16) 0,hexU.getD ((s.getD k 0).toNat%16) 0])))]}),(7,{cs:=[(1,pc (plain6_ok (s.getD k (0:UInt8))))]})] [true,false,false] [decide ((k:Int)<(s.length:Int))=true,(0:Int)≤(k:Int)∧(k:Int)<(s.length:Int),plainB (s.getD k (0:UInt8))=false,(bif form then (↑(s.getD k (0:UInt8)).toNat:Int)==(32:Int) else false)=false,EqvI (.c (.int .i64 (IntKind.i64.wrap (↑(s.getD k (0:UInt8)).toNat:Int)))) (.c (.int .i64 (↑(s.getD k (0:UInt8)).toNat:Int))),EqvD (.c (.int .i64 (IntKind.i64.wrap (↑(s.getD k (0:UInt8)).toNat:Int)))) (.c (.int .i64 (↑(s.getD k (0:UInt8)).toNat:Int))),EqvI (.c (.int .i64 (IntKind.i64.wrap ((↑(s.getD k (0:UInt8)).toNat:Int).tdiv (16:Int))))) (.c (.int .i64 (↑((s.getD k (0:UInt8)).toNat / (16:Nat)):Int))),EqvD (.c (.int .i64 (IntKind.i64.wrap ((↑(s.getD k (0:UInt8)).toNat:Int).tdiv (16:Int))))) (.c (.int .i64 (↑((s.getD k (0:UInt8)).toNat / (16:Nat)):Int))),(16:Int)≠(0:Int),EqvI (.c (.int .i64 (IntKind.i64.wrap (↑(s.getD k (0:UInt8)).toNat:Int)))) (.c (.int .i64 (↑(s.getD k (0:UInt8)).toNat:Int))),EqvD (.c (.int .i64 (IntKind.i64.wrap (↑(s.getD k (0:UInt8)).toNat:Int)))) (.c (.int .i64 (↑(s.getD k (0:UInt8)).toNat:Int))),EqvI (.c (.int .i64 ((↑(s.getD k (0:UInt8)).toNat:Int).tmod (16:Int)))) (.c (.int .i64 (↑((s.getD k (0:UInt8)).toNat%(16:Nat)):Int))),EqvD (.c (.int .i64 ((↑(s.getD k (0:UInt8)).toNat:Int).tmod (16:Int)))) (.c (.int .i64 (↑((s.getD k (0:UInt8)).toNat%(16:Nat)):Int))),(16:Int)≠(0:Int),(n+3)*1≤140737488355328,BlkEqv (.row 5 (1:Nat) (n+(3:Nat)) (catF n (bytesF l) fun i j=>nthD [.int .u8 37,.int .u8 (↑(hexU.getD ((s.getD k (0:UInt8)).toNat / (16:Nat)) (0:UInt8)).toNat:Int),.int .u8 (↑(hexU.getD ((s.getD k (0:UInt8)).toNat%(16:Nat)) (0:UInt8)).toNat:Int)] (((0:Nat)+i)*(1:Nat)+j))) (.row 5 (1:Nat) (n+(3:Nat)) (bytesF (l++[(37:UInt8),hexU.getD ((s.getD k (0:UInt8)).toNat / (16:Nat)) (0:UInt8),hexU.getD ((s.getD k (0:UInt8)).toNat%(16:Nat)) (0:UInt8)]))),n≤n,0+3≤3,inR .i64 ((k:Int)+1)] ⟨sO,oM,aS,aS,fun _ _=>trivial,aS,fun _ _=>trivial,aS,oM,fun _ _=>trivial,aS,fun _ _=>trivial,aS,oM,oM,aS,oM,oM,i6⟩ ?_
    exact za [(48,496)] (again _ (k+1,n+3,l++[37,hexU.getD ((s.getD k 0).toNat / 16) 0,hexU.getD ((s.getD k 0).toNat%16) 0]) ⟨aS,⟨aS,aS⟩⟩ oM)
 ·obtain rfl:k=s.length:=by omega
  rw [pctN_end] at hq
  have ee:byteL (bytesF l) 0 n=pctT form s:=by rw [byteL_F l hn,hq]
  refine zg [] [false] [decide ((s.length:Int)<(s.length:Int))=false,0+n≤n,areBytes (bytesF l) 0 n] ⟨(by simp;done),oM,areBytes_F _ _ _⟩ ?_
  exact zS [.c (.str (byteL (bytesF l) (0:Nat) n))] (by simp_all;done)
def sixtyB (c:UInt8):Bool:=greatB c||smallB c||digitB c||c==45||c==95
theorem sixty_ok (c:UInt8):Pur Tryz.prog G 93 [.c (.int .u8 (c.toNat:Int))] [.c (.bool (sixtyB c))]:=by
 refine zp Tryz.func93 ?_
 refine z0 [(1,{cs:=[(1,pc (great_ok c)),(4,pc (small_ok c)),(8,pc (digit_ok c))]})] [] ?_
 exact zS [.c (.bool (bif bif bif bif greatB c then true else smallB c then true else digitB c then true else (↑c.toNat:Int)==(45:Int) then true else (↑c.toNat:Int)==(95:Int)))] (by revert c;refine by_all _ _ ?_;kernel_rfl)
theorem plain_ok (c:UInt8):Pur Tryz.prog G 205 [.c (.int .u8 (c.toNat:Int))] [.c (.bool (plainB c))]:=by
 refine zp Tryz.func205 ?_
 refine z0 [(1,{cs:=[(1,pc (sixty_ok c))]})] [] ?_
 exact zS [.c (.bool (bif bif sixtyB c then true else (↑c.toNat:Int)==(46:Int) then true else (↑c.toNat:Int)==(126:Int)))] (by revert c;refine by_all _ _ ?_;kernel_rfl)
theorem inHost_ok (c:UInt8):Pur Tryz.prog G 211 [.c (.int .u8 (c.toNat:Int))] [.c (.bool (hostB c))]:=by
 refine zp Tryz.func211 ?_
 refine z0 [(1,{cs:=[(1,pc (small_ok c)),(4,pc (digit_ok c))]})] [] ?_
 exact zS [.c (.bool (bif bif bif smallB c then true else digitB c then true else (↑c.toNat:Int)==(45:Int) then true else (↑c.toNat:Int)==(46:Int)))] (by revert c;refine by_all _ _ ?_;kernel_rfl)
theorem inPath_ok (c:UInt8):Pur Tryz.prog G 212 [.c (.int .u8 (c.toNat:Int))] [.c (.bool (pathB c))]:=by
 refine zp Tryz.func212 ?_
 refine z0 [(1,{cs:=[(1,pc (plain_ok c))]})] [] ?_
 exact zS [.c (.bool (bif plainB c then true else (↑c.toNat:Int)==(47:Int)))] (by revert c;refine by_all _ _ ?_;kernel_rfl)
theorem All_plain (s:List UInt8) (hl:s.length<4611686018427387904):Pur Tryz.prog G 108 [.c (.str s),.c (.clo 205 0 (fun _=>none) (fun _ _ => .nilif))] [.c (.bool (s.all plainB))]:=by
 refine zp Tryz.func108 ?_
 refine z0 [] [] ?_
 refine zl (fun (k:Nat)=>⟨[(0,.v (.c (.str s))),(1,.v (.c (.clo 205 (0:Nat) (fun _=>none) fun _ _ => .nilif))),(7,.v (.c (.int .i64 (↑s.length:Int)))),(8,.v (.c (.int .i64 (k:Int))))],[],32⟩) (fun k=>k≤s.length∧s.all plainB=(s.drop k).all plainB) (fun k=>s.length-k) 0 ⟨Nat.zero_le _,rfl⟩ ?_
 intro k L ⟨hk,hq⟩ again
 rcases Nat.lt_or_ge k s.length with hlt | hge
 ·rw [dropS s k hlt,List.all_cons] at hq
  refine zg [(4,{cs:=[(4,pc (plain_ok (s.getD k (0:UInt8))))]})] [true] [decide ((k:Int)<(s.length:Int))=true,(0:Int)≤(k:Int)∧(k:Int)<(s.length:Int)] ⟨sO,(show (0:Int)≤(↑k:Int)∧(↑k:Int)<(↑s.length:Int) from oM)⟩ ?_
  refine zc (!plainB (s.getD k (0:UInt8))) (fun h0 => ?_) (fun h0 => ?_)
  ·have g0:=h0
   simp at g0
   refine z0 [] [] ?_
   exact zS [.c (.bool false)] (by simp_all;done)
  ·have g0:=h0
   simp at g0
   refine zg [] [] [inR .i64 ((k:Int)+1)] (i6) ?_
   exact za [] (again _ (k+1) (⟨aS,(by simp_all<;>omega)⟩) oM)
 ·obtain rfl:k=s.length:=by omega
  rw [List.drop_length] at hq
  refine zg [] [false] [decide ((s.length:Int)<(s.length:Int))=false] ((show decide ((↑s.length:Int)<(↑s.length:Int))=false from (by simp;done))) ?_
  exact zS [.c (.bool true)] (by simp [*];done)
theorem All_digit (s:List UInt8) (hl:s.length<4611686018427387904):Pur Tryz.prog G 108 [.c (.str s),.c (.clo 109 0 (fun _=>none) (fun _ _ => .nilif))] [.c (.bool (s.all digitB))]:=by
 refine zp Tryz.func108 ?_
 refine z0 [] [] ?_
 refine zl (fun (k:Nat)=>⟨[(0,.v (.c (.str s))),(1,.v (.c (.clo 109 (0:Nat) (fun _=>none) fun _ _ => .nilif))),(7,.v (.c (.int .i64 (↑s.length:Int)))),(8,.v (.c (.int .i64 (k:Int))))],[],32⟩) (fun k=>k≤s.length∧s.all digitB=(s.drop k).all digitB) (fun k=>s.length-k) 0 ⟨Nat.zero_le _,rfl⟩ ?_
 intro k L ⟨hk,hq⟩ again
 rcases Nat.lt_or_ge k s.length with hlt | hge
 ·rw [dropS s k hlt,List.all_cons] at hq
  refine zg [(4,{cs:=[(4,pc (digit_ok (s.getD k (0:UInt8))))]})] [true] [decide ((k:Int)<(s.length:Int))=true,(0:Int)≤(k:Int)∧(k:Int)<(s.length:Int)] ⟨sO,(show (0:Int)≤(↑k:Int)∧(↑k:Int)<(↑s.length:Int) from oM)⟩ ?_
  refine zc (!digitB (s.getD k (0:UInt8))) (fun h0 => ?_) (fun h0 => ?_)
  ·have g0:=h0
   simp at g0
   refine z0 [] [] ?_
   exact zS [.c (.bool false)] (by simp_all;done)
  ·have g0:=h0
   simp at g0
   refine zg [] [] [inR .i64 ((k:Int)+1)] (i6) ?_
   exact za [] (again _ (k+1) (⟨aS,(by simp_all<;>omega)⟩) oM)
 ·obtain rfl:k=s.length:=by omega
  rw [List.drop_length] at hq
  refine zg [] [false] [decide ((s.length:Int)<(s.length:Int))=false] ((show decide ((↑s.length:Int)<(↑s.length:Int))=false from (by simp;done))) ?_
  exact zS [.c (.bool true)] (by simp [*];done)
theorem All_host (s:List UInt8) (hl:s.length<4611686018427387904):Pur Tryz.prog G 108 [.c (.str s),.c (.clo 211 0 (fun _=>none) (fun _ _ => .nilif))] [.c (.bool (s.all hostB))]:=by
 refine zp Tryz.func108 ?_
 refine z0 [] [] ?_
 refine zl (fun (k:Nat)=>⟨[(0,.v (.c (.str s))),(1,.v (.c (.clo 211 (0:Nat) (fun _=>none) fun _ _ => .nilif))),(7,.v (.c (.int .i64 (↑s.length:Int)))),(8,.v (.c (.int .i64 (k:Int))))],[],32⟩) (fun k=>k≤s.length∧s.all hostB=(s.drop k).all hostB) (fun k=>s.length-k) 0 ⟨Nat.zero_le _,rfl⟩ ?_
 intro k L ⟨hk,hq⟩ again
 rcases Nat.lt_or_ge k s.length with hlt | hge
 ·rw [dropS s k hlt,List.all_cons] at hq
  refine zg [(4,{cs:=[(4,pc (inHost_ok (s.getD k (0:UInt8))))]})] [true] [decide ((k:Int)<(s.length:Int))=true,(0:Int)≤(k:Int)∧(k:Int)<(s.length:Int)] ⟨sO,(show (0:Int)≤(↑k:Int)∧(↑k:Int)<(↑s.length:Int) from oM)⟩ ?_
  refine zc (!hostB (s.getD k (0:UInt8))) (fun h0 => ?_) (fun h0 => ?_)
  ·have g0:=h0
   simp at g0
   refine z0 [] [] ?_
   exact zS [.c (.bool false)] (by simp_all;done)
  ·have g0:=h0
   simp at g0
   refine zg [] [] [inR .i64 ((k:Int)+1)] (i6) ?_
   exact za [] (again _ (k+1) (⟨aS,(by simp_all<;>omega)⟩) oM)
 ·obtain rfl:k=s.length:=by omega
  rw [List.drop_length] at hq
  refine zg [] [false] [decide ((s.length:Int)<(s.length:Int))=false] ((show decide ((↑s.length:Int)<(↑s.length:Int))=false from (by simp;done))) ?_
  exact zS [.c (.bool true)] (by simp [*];done)
theorem All_path (s:List UInt8) (hl:s.length<4611686018427387904):Pur Tryz.prog G 108 [.c (.str s),.c (.clo 212 0 (fun _=>none) (fun _ _ => .nilif))] [.c (.bool (s.all pathB))]:=by
 refine zp Tryz.func108 ?_
 refine z0 [] [] ?_
 refine zl (fun (k:Nat)=>⟨[(0,.v (.c (.str s))),(1,.v (.c (.clo 212 (0:Nat) (fun _=>none) fun _ _ => .nilif))),(7,.v (.c (.int .i64 (↑s.length:Int)))),(8,.v (.c (.int .i64 (k:Int))))],[],32⟩) (fun k=>k≤s.length∧s.all pathB=(s.drop k).all pathB) (fun k=>s.length-k) 0 ⟨Nat.zero_le _,rfl⟩ ?_
 intro k L ⟨hk,hq⟩ again
 rcases Nat.lt_or_ge k s.length with hlt | hge
 ·rw [dropS s k hlt,List.all_cons] at hq
  refine zg [(4,{cs:=[(4,pc (inPath_ok (s.getD k (0:UInt8))))]})] [true] [decide ((k:Int)<(s.length:Int))=true,(0:Int)≤(k:Int)∧(k:Int)<(s.length:Int)] ⟨sO,(show (0:Int)≤(↑k:Int)∧(↑k:Int)<(↑s.length:Int) from oM)⟩ ?_
  refine zc (!pathB (s.getD k (0:UInt8))) (fun h0 => ?_) (fun h0 => ?_)
  ·have g0:=h0
   simp at g0
   refine z0 [] [] ?_
   exact zS [.c (.bool false)] (by simp_all;done)
  ·have g0:=h0
   simp at g0
   refine zg [] [] [inR .i64 ((k:Int)+1)] (i6) ?_
   exact za [] (again _ (k+1) (⟨aS,(by simp_all<;>omega)⟩) oM)
 ·obtain rfl:k=s.length:=by omega
  rw [List.drop_length] at hq
  refine zg [] [false] [decide ((s.length:Int)<(s.length:Int))=false] ((show decide ((↑s.length:Int)<(↑s.length:Int))=false from (by simp;done))) ?_
  exact zS [.c (.bool true)] (by simp [*];done)
theorem lib_HasPrefix {G:Nat→Option (List Cell)} (s p:List UInt8):Pur Tryz.prog G 82 [.c (.str s),.c (.str p)] [.c (.bool (Lib.hasPrefix s p))]:=by
 refine Pur.of_below rfl ?_
 intro D ρ w vs h1 _ _ _
 obtain ⟨u,v,rfl,hu,hv⟩:=h1.two
 have hu:u = .string ⟨s.toArray⟩:=hu
 have hv:v = .string ⟨p.toArray⟩:=hv
 subst hu hv
 refine (Go.Proofs.Tryz.strings_HasPrefix ⟨s.toArray⟩ ⟨p.toArray⟩ w).mono ?_
 rintro e w' ⟨rfl,rfl⟩
 exact ⟨_,rfl,by simp [ResDen,DenV,Den],Below.refl _ _⟩
theorem hosted_b (h:List UInt8):(bif bif !h==[] then decide ((h.length:Int)≤64) else false then h.all hostB else false)=hostT h:=by
 unfold hostT
 cases h with
 | nil=>rfl
 | cons a r =>
  rw [show ((!(a::r)==[])=true) from rfl,show decide (((a::r).length:Int)≤64)=decide ((a::r).length≤64) from decide_eq_decide.2 oM,show decide (1≤(a::r).length)=true from decide_eq_true (by simp)]
  cases decide ((a::r).length≤64)<;>simp
theorem pathed_b (p:List UInt8):(bif Lib.hasPrefix p [47] then p.all pathB else false)=pathT p:=by
 unfold pathT
 cases p with
 | nil=>rfl
 | cons a r =>
  have:Lib.hasPrefix (a::r) [47]=(a==47):=by
   simp only [Lib.hasPrefix,List.isPrefixOf,Bool.and_true]
   exact Bool.beq_comm
  rw [this,show decide (1≤(a::r).length)=true from decide_eq_true (by simp),show (a::r).getD 0 0=a from rfl]
  cases (a==47)<;>simp
theorem hosted_ok (h p:List UInt8) (hl:h.length<4611686018427387904):Pur Tryz.prog G 168 [.agg [.str h,.str p]] [.c (.bool (hostT h))]:=by
 refine zp Tryz.func168 ?_
 refine z0 [(1,{cs:=[(12,pc (All_host h aS))]})] [] ?_
 exact zS [.c (.bool (bif bif !h==[] then decide ((↑h.length:Int)≤(64:Int)) else false then h.all hostB else false))] (by_b (hosted_b h))
theorem pathed_ok (h p:List UInt8) (hl:p.length<4611686018427387904):Pur Tryz.prog G 169 [.agg [.str h,.str p]] [.c (.bool (pathT p))]:=by
 refine zp Tryz.func169 ?_
 refine z0 [(1,{cs:=[(2,pc (lib_HasPrefix p [(47:UInt8)])),(6,pc (All_path p aS))]})] [] ?_
 exact zS [.c (.bool (bif Lib.hasPrefix p [(47:UInt8)] then p.all pathB else false))] (by_b (pathed_b p))
def digC:List Cell:=hexU.map fun c => .int .i32 (c.toNat:Int)
def Gp:Nat→Option (List Cell)
 | 2=>some digC
 | n=>Tw.Gd n
theorem Pur.grow {P:Program} {G G':Nat→Option (List Cell)} {f:FuncId} {args rs:List V1} (h:∀ g cs,G g=some cs→G' g=some cs) (hp:Pur P G f args rs):Pur P G' f args rs:=by
 unfold Pur Go.Sv.Fn at hp ⊢
 intro D ρ w vs h1 h2 h3
 exact hp D ρ w vs h1 (fun g cs hg=>h2 g cs (h g cs hg)) (fun g cs hg=>h3 g cs (h g cs hg))
theorem Gd_Gp:∀ g cs,Tw.Gd g=some cs→Gp g=some cs:=by
 intro g cs h
 unfold Gp
 split
 ·cases h
 ·exact h
def bareR (form:Bool) (c:UInt8):UInt8:=if form&&c==32 then 43 else c
def bareB (form:Bool) (c:UInt8):Bool:=(form&&c==32)||plainB c
theorem bare_ok {G:Nat→Option (List Cell)} (c:UInt8) (form:Bool):Pur Tryz.prog G 252 [.c (.int .u8 (c.toNat:Int)),.c (.bool form)] [.c (.int .i32 ((bareR form c).toNat:Int)),.c (.bool (bareB form c))]:=by
 refine zp Tryz.func252 ?_
 have hb:=UInt8.toNat_lt c
 have e1:EqvD (V1.c (Cell.int .i32 (IntKind.i32.wrap (c.toNat:Int)))) (.c (.int .i32 (c.toNat:Int))):=eqvD_of (by
  have:IntKind.i32.wrap (c.toNat:Int)=(c.toNat:Int):=by simp [IntKind.wrap,IntKind.bits,IntKind.signed];omega
  rw [this])
 cases hf:(bif form then (c.toNat:Int)==32 else false) with
 | true =>
  have h2:(form&&c==32)=true:=by
   rw [Bool.cond_false_right,show ((c.toNat:Int)==32)=(c==32) from byte_eq dC] at hf
   exact hf
  have h3:bareR form c=43:=by unfold bareR;rw [h2];rfl
  have h4:bareB form c=true:=by unfold bareB;rw [h2];rfl
  rw [h3,h4]
  refine zg [] [true] [(bif form then (c.toNat:Int)==(32:Int) else false)=true] (oN aS) ?_
  exact zr
 | false =>
  have h2:(form&&c==32)=false:=by
   rw [Bool.cond_false_right,show ((c.toNat:Int)==32)=(c==32) from byte_eq dC] at hf
   exact hf
  have h3:bareR form c=c:=by unfold bareR;rw [h2];rfl
  have h4:bareB form c=plainB c:=by unfold bareB;rw [h2];rfl
  rw [h3,h4]
  refine zg [(3,{cs:=[(3,pc (plain_ok c))],fm:=[(1,.c (.int .i32 (c.toNat:Int)))]})] [false] [(bif form then (c.toNat:Int)==(32:Int) else false)=false,EqvI (.c (.int .i32 (IntKind.i32.wrap (c.toNat:Int)))) (.c (.int .i32 (c.toNat:Int))),EqvD (.c (.int .i32 (IntKind.i32.wrap (c.toNat:Int)))) (.c (.int .i32 (c.toNat:Int)))] ⟨aS,fun _ _=>trivial,(show EqvD (.c (.int .i32 (IntKind.i32.wrap (↑c.toNat:Int)))) (.c (.int .i32 (↑c.toNat:Int))) from aS)⟩ ?_
  exact zr
theorem pctB_bare (form:Bool) (c:UInt8) (h:bareB form c=true):pctB form c=[bareR form c]∧(bareR form c).toNat<128:=by
 have h32:∀ form,(!(bareB form c)||(pctB form c==[bareR form c]&&decide ((bareR form c).toNat<128)))=true:=by
  intro form
  cases form
  ·exact byte_all (fun c=>(!(bareB false c)||(pctB false c==[bareR false c]&&decide ((bareR false c).toNat<128)))) kR c
  ·exact byte_all (fun c=>(!(bareB true c)||(pctB true c==[bareR true c]&&decide ((bareR true c).toNat<128)))) kR c
 have:=h32 form
 rw [h,Bool.not_true,Bool.false_or,Bool.and_eq_true] at this
 exact ⟨eq_of_beq this.1,of_decide_eq_true this.2⟩
theorem pctB_hex (form:Bool) (c:UInt8) (h:bareB form c=false):pctB form c=[37,hexU.getD (c.toNat / 16) 0,hexU.getD (c.toNat%16) 0]:=by
 unfold bareB at h
 rw [Bool.or_eq_false_iff] at h
 unfold pctB
 rw [if_neg (by rw [h.2];decide),if_neg (by rw [h.1];decide)]
theorem hexU_lt:∀ k:Nat,(hexU.getD k 0).toNat<128:=by
 intro k
 rcases Nat.lt_or_ge k 16 with h | h
 ·have:∀ k:Nat,k<16→(hexU.getD k 0).toNat<128:=by decide
  exact this k h
 ·rw [List.getD_eq_getElem?_getD,List.getElem?_eq_none (by exact h)];decide
theorem dig_cell (j:Nat) (hj:j<16):nthD digC j = .int .i32 ((hexU.getD j 0).toNat:Int):=by
 have:j=0∨j=1∨j=2∨j=3∨j=4∨j=5∨j=6∨j=7∨j=8∨j=9∨j=10∨j=11∨j=12∨j=13∨j=14∨j=15:=by omega
 rcases this with rfl | rfl | rfl | rfl | rfl | rfl | rfl | rfl | rfl | rfl | rfl | rfl | rfl | rfl | rfl | rfl<;>rfl
def hiI (c:UInt8):Int:=(c.toNat:Int).fdiv (2^4)
def loI (c:UInt8):Int:=Int.ofNat ((BitVec.ofInt IntKind.u8.bits (c.toNat:Int) &&& BitVec.ofInt IntKind.u8.bits 15).toNat%(2^IntKind.u8.bits:Int).natAbs)
theorem hi_rng (c:UInt8):0≤Tw.hiI c∧Tw.hiI c<((16:Nat):Int):=of_decide_eq_true (byte_all (fun c=>decide (0≤Tw.hiI c∧Tw.hiI c<((16:Nat):Int))) kR c)
theorem lo_rng (c:UInt8):0≤Tw.loI c∧Tw.loI c<((16:Nat):Int):=of_decide_eq_true (byte_all (fun c=>decide (0≤Tw.loI c∧Tw.loI c<((16:Nat):Int))) kR c)
theorem hi_den (c:UInt8):EqvD (V1.c (nthD digC ((Tw.hiI c).toNat*1+0))) (.c (.int .i32 ((hexU.getD (c.toNat / 16) 0).toNat:Int))):=eqvD_of (by
 have h:(Tw.hiI c).toNat*1+0=c.toNat / 16:=eq_of_beq (byte_all (fun c=>(Tw.hiI c).toNat*1+0==c.toNat / 16) kR c)
 rw [h,dig_cell _ (by have:=UInt8.toNat_lt c;omega)])
theorem lo_den (c:UInt8):EqvD (V1.c (nthD digC ((Tw.loI c).toNat*1+0))) (.c (.int .i32 ((hexU.getD (c.toNat%16) 0).toNat:Int))):=eqvD_of (by
 have h:(Tw.loI c).toNat*1+0=c.toNat%16:=eq_of_beq (byte_all (fun c=>(Tw.loI c).toNat*1+0==c.toNat%16) kR c)
 rw [h,dig_cell _ oM])
theorem wr_37 {G:Nat→Option (List Cell)}:FnB Tryz.prog G 253 [.box 165 [.nilptr,.nilsl]] [.c (.ptr 0 0),.c (.int .i32 37)] [.c (.int .i64 1),.c .nilif] [(0,.box 165 [.ptr 0 0,.row 1 1 0 1]),(1,.row 5 1 1 (bytesF [37]))]:=wr_a 37 dC
theorem wr_38 {G:Nat→Option (List Cell)} (n:Nat) (l:List UInt8) (hn:n=l.length) (hm:n+1≤140737488355328):FnB Tryz.prog G 253 [.box 165 [.ptr 0 0,.row 1 1 0 n],.row 5 1 n (bytesF l)] [.c (.ptr 0 0),.c (.int .i32 37)] [.c (.int .i64 1),.c .nilif]
  [(0,.box 165 [.ptr 0 0,.row 1 2 0 (n+1)]),(2,.row 5 1 (n+1) (bytesF (l++[37])))]:=wr_b n l hn hm 37 dC
def encInv (s:List UInt8) (form:Bool):Nat×Option (Nat×List UInt8)→St
 | (k,none)=>⟨[(0,.v (.c (.str s))),(1,.v (.c (.bool form))),(5,.v (.c (.ptr 16 0))),(10,.v (.c (.int .i64 (s.length:Int)))),(11,.v (.c (.int .i64 (k:Int))))],[(16,.box 165 [.nilptr,.nilsl])],80⟩
 | (k,some (n,l))=>⟨[(0,.v (.c (.str s))),(1,.v (.c (.bool form))),(5,.v (.c (.ptr 16 0))),(10,.v (.c (.int .i64 (s.length:Int)))),(11,.v (.c (.int .i64 (k:Int))))],[(16,.box 165 [.ptr 16 0,.row 1 64 0 n]),(64,.row 5 1 n (bytesF l))],80⟩
def encFacts (s:List UInt8) (form:Bool):Nat×Option (Nat×List UInt8)→Prop
 | (k,none)=>k≤s.length∧k=0
 | (k,some (n,l))=>k≤s.length∧l=pctN form s k∧n=l.length∧0<n
theorem enc_ok (s:List UInt8) (form:Bool) (hl:s.length≤30000000000000):Pur Tryz.prog Gp 215 [.c (.str s),.c (.bool form)] [.c (.str (pctT form s))]:=by
 refine zp Tryz.func215 ?_
 refine z0 [] [] ?_
 refine zl (encInv s form) (encFacts s form) (fun x=>s.length-x.1) (0,none) ⟨Nat.zero_le _,rfl⟩ ?_
 rintro ⟨k,_ | ⟨n,l⟩⟩ L hf again
 ·obtain ⟨hk,h0⟩:=hf
  subst h0
  rcases Nat.lt_or_ge 0 s.length with hlt | hge
  ·have hs:=pctN_succ form s 0 hlt
   rw [show pctN form s 0=[] from rfl,List.nil_append] at hs
   have hcell:=pct_cells (s.getD 0 0)
   cases hB:bareB form (s.getD 0 0) with
   | true =>
    obtain ⟨h1,h2⟩:=pctB_bare form _ hB
    rw [h1] at hs
    have hnx:encFacts s form (1,some (1,[bareR form (s.getD 0 0)])):=⟨hlt,hs.symm,rfl,Nat.one_pos⟩
    have cbr:=bare_ok (G:=Gp) (s.getD 0 0) form
    rw [hB] at cbr
    refine zg [(5,{cs:=[(4,pc cbr)]}),(7,{cs:=[(1,cb [16] (wr_a (bareR form (s.getD (0:Nat) (0:UInt8))) aS))]})] [true,true] [decide ((↑(0:Nat):Int)<(s.length:Int))=true,(0:Int)≤(↑(0:Nat):Int)∧(↑(0:Nat):Int)<(s.length:Int),true=true,inR .i64 ((↑(0:Nat):Int)+(1:Int))] ⟨sO,oM,rfl,i6⟩ ?_
    exact za [(64,320)] (again _ (1,some (1,[bareR form (s.getD 0 0)])) aS oM)
   | false =>
    have h1:=pctB_hex form _ hB
    rw [h1] at hs
    have hnx:encFacts s form (1,some (3,[37,hexU.getD ((s.getD 0 0).toNat / 16) 0,hexU.getD ((s.getD 0 0).toNat%16) 0])):=⟨hlt,hs.symm,rfl,by omega⟩
    have cbr:=bare_ok (G:=Gp) (s.getD 0 0) form
    rw [hB] at cbr
    have r1:=hi_rng (s.getD 0 0)
    have r2:=hi_den (s.getD 0 0)
    have r3:=lo_rng (s.getD 0 0)
    have r4:=lo_den (s.getD 0 0)
    unfold Tw.hiI at r1 r2
    unfold Tw.loI at r3 r4
    have hx1:=hexU_lt ((s.getD 0 0).toNat / 16)
    have hx2:=hexU_lt ((s.getD 0 0).toNat%16)
    refine zg [(9,{cs:=[(6,cb [16,304] (wr_b (1:Nat) [(37:UInt8)] rfl oM (hexU.getD ((s.getD (0:Nat) (0:UInt8)).toNat / (16:Nat)) (0:UInt8)) aS))],fm:=[(5,.c (.int .i32 ((hexU.getD ((s.getD 0 0).toNat / 16) 0).toNat:Int)))]}),(10,{cs:=[(6,cb [16,416] (wr_b ((1:Nat)+(1:Nat)) ([(37:UInt8)]++[hexU.getD ((s.getD (0:Nat) (0:UInt8)).toNat / (16:Nat)) (0:UInt8)]) rfl oM (hexU.getD ((s.getD (0:Nat) (0:UInt8)).toNat%(16:Nat)) (0:UInt8)) aS))],fm:=[(5,.c (.int .i32 ((hexU.getD ((s.getD 0 0).toNat%16) 0).toNat:Int)))]}),(5,{cs:=[(4,pc cbr)]}),(8,{cs:=[(0,cb [16] wr_37)]})] [true,false] [decide ((↑(0:Nat):Int)<(s.length:Int))=true,(0:Int)≤(↑(0:Nat):Int)∧(↑(0:Nat):Int)<(s.length:Int),false=false,(0:Int)≤(↑(0:Nat):Int)∧(↑(0:Nat):Int)<(s.length:Int),(0:Int)≤(4:Int),(0:Int)≤(↑(s.getD (0:Nat) (0:UInt8)).toNat:Int).fdiv ((2:Int)^(4:Nat))∧(↑(s.getD (0:Nat) (0:UInt8)).toNat:Int).fdiv ((2:Int)^(4:Nat))<(↑(16:Nat):Int),EqvD (.c (nthD digC (((↑(s.getD (0:Nat) (0:UInt8)).toNat:Int).fdiv ((2:Int)^(4:Nat))).toNat*(1:Nat)+(0:Nat)))) (.c (.int .i32 (↑(hexU.getD ((s.getD (0:Nat) (0:UInt8)).toNat / (16:Nat)) (0:UInt8)).toNat:Int))),(0:Int)≤(↑(0:Nat):Int)∧(↑(0:Nat):Int)<(s.length:Int),(0:Int)≤Int.ofNat ((BitVec.ofInt IntKind.u8.bits (↑(s.getD (0:Nat) (0:UInt8)).toNat:Int) &&& BitVec.ofInt IntKind.u8.bits (15:Int)).toNat%((2:Int)^IntKind.u8.bits).natAbs)∧Int.ofNat ((BitVec.ofInt IntKind.u8.bits (↑(s.getD (0:Nat) (0:UInt8)).toNat:Int) &&& BitVec.ofInt IntKind.u8.bits (15:Int)).toNat%((2:Int)^IntKind.u8.bits).natAbs)<(↑(16:Nat):Int),EqvD (.c (nthD digC ((Int.ofNat ((BitVec.ofInt IntKind.u8.bits (↑(s.getD (0:Nat) (0:UInt8)).toNat:Int) &&& BitVec.ofInt IntKind.u8.bits (15:Int)).toNat%((2:Int)^IntKind.u8.bits).natAbs)).toNat*(1:Nat)+(0:Nat)))) (.c (.int .i32 (↑(hexU.getD ((s.getD (0:Nat) (0:UInt8)).toNat%(16:Nat)) (0:UInt8)).toNat:Int))),inR .i64 ((↑(0:Nat):Int)+(1:Int))] ⟨sO,oM,rfl,oM,oM,oM,aS,oM,oM,aS,i6⟩ ?_
    exact za [(64,528)] (again _ (1,some (3,[37,hexU.getD ((s.getD 0 0).toNat / 16) 0,hexU.getD ((s.getD 0 0).toNat%16) 0])) aS oM)
  ·have hs:pctT form s=[]:=by
    have:s=[]:=List.eq_nil_of_length_eq_zero oM
    rw [this];rfl
   rw [hs]
   refine zg [(12,{cs:=[(0,cb [16] str_a)]})] [false] [decide ((↑(0:Nat):Int)<(s.length:Int))=false] (show decide ((↑(0:Nat):Int)<(↑s.length:Int))=false from (by simp_all<;>omega)) ?_
   exact zr
 ·obtain ⟨hk,hq,hn,hpos⟩:=hf
  have hlen:=pctN_len form s k hk
  rw [← hq,← hn] at hlen
  rcases Nat.lt_or_ge k s.length with hlt | hge
  ·have hs:=pctN_succ form s k hlt
   rw [← hq] at hs
   have hcell:=pct_cells (s.getD k 0)
   cases hB:bareB form (s.getD k 0) with
   | true =>
    obtain ⟨h1,h2⟩:=pctB_bare form _ hB
    rw [h1] at hs
    have hnx:encFacts s form (k+1,some (n+1,l++[bareR form (s.getD k 0)])):=⟨hlt,hs.symm,by simp [hn],by omega⟩
    have cbr:=bare_ok (G:=Gp) (s.getD k 0) form
    rw [hB] at cbr
    clear hs
    refine zg [(5,{cs:=[(4,pc cbr)]}),(7,{cs:=[(1,cb [16,64] (wr_b n l aS oM (bareR form (s.getD k (0:UInt8))) aS))]})] [true,true] [decide ((k:Int)<(s.length:Int))=true,(0:Int)≤(k:Int)∧(k:Int)<(s.length:Int),true=true,inR .i64 ((k:Int)+1)] ⟨sO,oM,rfl,i6⟩ ?_
    exact za [(64,320)] (again _ (k+1,some (n+1,l++[bareR form (s.getD k 0)])) aS oM)
   | false =>
    have h1:=pctB_hex form _ hB
    rw [h1] at hs
    have hn1:n+1=(l++[37]).length:=by simp [hn]
    have hn2:n+1+1=((l++[37])++[hexU.getD ((s.getD k 0).toNat / 16) 0]).length:=by simp [hn]
    have hnx:encFacts s form (k+1,some (n+1+1+1,((l++[37])++[hexU.getD ((s.getD k 0).toNat / 16) 0])++[hexU.getD ((s.getD k 0).toNat%16) 0])):=⟨hlt,by rw [hs];simp,by simp [hn],by omega⟩
    have cbr:=bare_ok (G:=Gp) (s.getD k 0) form
    rw [hB] at cbr
    have r1:=hi_rng (s.getD k 0)
    have r2:=hi_den (s.getD k 0)
    have r3:=lo_rng (s.getD k 0)
    have r4:=lo_den (s.getD k 0)
    unfold Tw.hiI at r1 r2
    unfold Tw.loI at r3 r4
    have hx1:=hexU_lt ((s.getD k 0).toNat / 16)
    have hx2:=hexU_lt ((s.getD k 0).toNat%16)
    clear hs
    refine zg [(9,{cs:=[(6,cb [16,304] (wr_b (n+(1:Nat)) (l++[(37:UInt8)]) aS oM (hexU.getD ((s.getD k (0:UInt8)).toNat / (16:Nat)) (0:UInt8)) aS))],fm:=[(5,.c (.int .i32 ((hexU.getD ((s.getD k 0).toNat / 16) 0).toNat:Int)))]}),(10,{cs:=[(6,cb [16,416] (wr_b (n+(1:Nat)+(1:Nat)) (l++[(37:UInt8)]++[hexU.getD ((s.getD k (0:UInt8)).toNat / (16:Nat)) (0:UInt8)]) aS oM (hexU.getD ((s.getD k (0:UInt8)).toNat%(16:Nat)) (0:UInt8)) aS))],fm:=[(5,.c (.int .i32 ((hexU.getD ((s.getD k 0).toNat%16) 0).toNat:Int)))]}),(5,{cs:=[(4,pc cbr)]}),(8,{cs:=[(0,cb [16,64] (wr_38 n l aS oM))]})] [true,false] [decide ((k:Int)<(s.length:Int))=true,(0:Int)≤(k:Int)∧(k:Int)<(s.length:Int),false=false,(0:Int)≤(k:Int)∧(k:Int)<(s.length:Int),(0:Int)≤(4:Int),(0:Int)≤(↑(s.getD k (0:UInt8)).toNat:Int).fdiv ((2:Int)^(4:Nat))∧(↑(s.getD k (0:UInt8)).toNat:Int).fdiv ((2:Int)^(4:Nat))<(↑(16:Nat):Int),EqvD (.c (nthD digC (((↑(s.getD k (0:UInt8)).toNat:Int).fdiv ((2:Int)^(4:Nat))).toNat*(1:Nat)+(0:Nat)))) (.c (.int .i32 (↑(hexU.getD ((s.getD k (0:UInt8)).toNat / (16:Nat)) (0:UInt8)).toNat:Int))),(0:Int)≤(k:Int)∧(k:Int)<(s.length:Int),(0:Int)≤Int.ofNat ((BitVec.ofInt IntKind.u8.bits (↑(s.getD k (0:UInt8)).toNat:Int) &&& BitVec.ofInt IntKind.u8.bits (15:Int)).toNat%((2:Int)^IntKind.u8.bits).natAbs)∧Int.ofNat ((BitVec.ofInt IntKind.u8.bits (↑(s.getD k (0:UInt8)).toNat:Int) &&& BitVec.ofInt IntKind.u8.bits (15:Int)).toNat%((2:Int)^IntKind.u8.bits).natAbs)<(↑(16:Nat):Int),EqvD (.c (nthD digC ((Int.ofNat ((BitVec.ofInt IntKind.u8.bits (↑(s.getD k (0:UInt8)).toNat:Int) &&& BitVec.ofInt IntKind.u8.bits (15:Int)).toNat%((2:Int)^IntKind.u8.bits).natAbs)).toNat*(1:Nat)+(0:Nat)))) (.c (.int .i32 (↑(hexU.getD ((s.getD k (0:UInt8)).toNat%(16:Nat)) (0:UInt8)).toNat:Int))),inR .i64 ((k:Int)+1)] ⟨sO,oM,rfl,oM,oM,oM,aS,oM,oM,aS,i6⟩ ?_
    exact za [(64,528)] (again _ (k+1,some (n+1+1+1,((l++[37])++[hexU.getD ((s.getD k 0).toNat / 16) 0])++[hexU.getD ((s.getD k 0).toNat%16) 0])) aS oM)
  ·obtain rfl:k=s.length:=by omega
   rw [pctN_end] at hq
   rw [← hq]
   refine zg [(12,{cs:=[(0,cb [16,64] (str_b n l aS aS oM))]})] [false] [decide ((s.length:Int)<(s.length:Int))=false] (show decide ((↑s.length:Int)<(↑s.length:Int))=false from (by simp;done)) ?_
   exact zr
def fieldQ (f:FT):List UInt8:=pctT true f.name++[61]++pctT true f.value
def partsQ (l:List FT) (k:Nat):List (List UInt8):=(l.take k).map fieldQ
def printQ (l:List FT):List UInt8:=Lib.join (l.map fieldQ) [38]
theorem partsQ_succ (l:List FT) (k:Nat) (h:k<l.length):partsQ l (k+1)=partsQ l k++[fieldQ (l.getD k .nil)]:=by
 unfold partsQ
 rw [List.take_succ_eq_append_getElem h,List.map_append,List.getD_eq_getElem?_getD,List.getElem?_eq_getElem h]
 rfl
theorem partsQ_end (l:List FT):Lib.join (partsQ l l.length) [38]=printQ l:=by unfold partsQ printQ;rw [List.take_length]
theorem partsQ_len (l:List FT) (k:Nat) (h:k≤l.length):(partsQ l k).length=k:=by unfold partsQ;simp;omega
theorem pctT_len (form:Bool) (s:List UInt8):s.length≤(pctT form s).length:=by
 have:=pctN_len form s s.length (Nat.le_refl _)
 rw [pctN_end] at this
 exact this.1
theorem fieldQ_len (f:FT):(fieldQ f).length=(pctT true f.name).length+(pctT true f.value).length+1:=by unfold fieldQ;simp;omega
theorem fieldQ_le (l:List FT) {k:Nat} (h:k<l.length):(fieldQ (l.getD k .nil)).length≤(printQ l).length:=by
 have hm:fieldQ (l.getD k .nil)∈l.map fieldQ:=List.mem_map.2 ⟨_,by rw [List.getD_eq_getElem?_getD,List.getElem?_eq_getElem h];exact List.getElem_mem h,rfl⟩
 exact join_part [38] hm
theorem str_one (l:List (List UInt8)) (i j:Nat) (hj:j<1):strsF l (0+i) j=nthD [.str (l.getD i [])] j:=by
 obtain rfl:j=0:=by omega
 rw [Nat.zero_add];rfl
theorem printQ_ok (l:List FT) (hn:l.length≤1000000000000) (hj:(printQ l).length≤10000000000000):Pur Tryz.prog Gp 172 [.c (encH l)] [.c (.str (printQ l))]:=by
 refine zp Tryz.func172 ?_
 refine z0 [] [] ?_
 refine Wp.loopK kR (fun (k:Nat)=>⟨[(3,.v (.c (.row 1 80 0 k))),(6,.v (.c (encH l))),(7,.v (.c (.int .i64 (l.length:Int)))),(8,.v (.c (.int .i64 (k:Int))))],[(80,.row 9 1 k (strsF (partsQ l k)))],96⟩)
  (fun k=>k≤l.length) (fun k=>l.length-k) 0 (Ent.trans (Ent.empT (t:=3) (sz:=1) (e:=9) (f:=strsF []) dC kR rfl) (Ent.of [] kR kR kR trivial)) (Nat.zero_le _) ?_
 intro k L hk again
 rcases Nat.lt_or_ge k l.length with hlt | hge
 ·have h1:=fieldQ_le l hlt
  rw [fieldQ_len] at h1
  have h2:=pctT_len true (l.getD k .nil).name
  have h3:=pctT_len true (l.getD k .nil).value
  have e1:BlkEqv (.row 9 1 (k+1) (catF k (strsF (partsQ l k)) (fun i j=>nthD [.str (pctT true (l.getD k .nil).name++[61]++pctT true (l.getD k .nil).value)] ((0+i)*1+j)))) (.row 9 1 (k+1) (strsF (partsQ l (k+1)))):=by
   rw [partsQ_succ l k hlt];exact strs_app _ _ (partsQ_len l k oM).symm
  refine zg [(5,{cs:=[(3,pc (enc_ok ((l.getD k .nil).name) true oM)),(7,pc (enc_ok ((l.getD k .nil).value) true oM))],bs:=[(10,.row 9 1 (k+1) (strsF (partsQ l (k+1))))]})] [true] [decide ((k:Int)<(l.length:Int))=true,(0:Int)≤(k:Int)∧(k:Int)<(l.length:Int),(pctT true (l.getD k .nil).name).length+1≤9223372036854775807,(pctT true (l.getD k .nil).name++[(61:UInt8)]).length+(pctT true (l.getD k .nil).value).length≤(9223372036854775807:Nat),(k+1)*16≤140737488355328,BlkEqv (.row 9 (1:Nat) (k+(1:Nat)) (catF k (strsF (partsQ l k)) fun i j=>nthD [.str (pctT true (l.getD k .nil).name++[(61:UInt8)]++pctT true (l.getD k .nil).value)] (((0:Nat)+i)*(1:Nat)+j))) (.row 9 (1:Nat) (k+(1:Nat)) (strsF (partsQ l (k+(1:Nat))))),k≤k,0+1≤1,inR .i64 ((k:Int)+1)] ⟨sO,oM,oM,(by simp_all<;>omega),oM,aS,oM,oM,i6⟩ ?_
  exact za [(80,336)] (again _ (k+1) aS oM)
 ·obtain rfl:k=l.length:=by omega
  have hp:=partsQ_len l l.length (Nat.le_refl _)
  have hjn:(Lib.join (partsQ l l.length) [38]).length≤140737488355328:=by rw [partsQ_end];omega
  have cj:Pur Tryz.prog Gp 167 [.c (.sl 1 (partsQ l l.length).length (fun i j=>nthD [.str ((partsQ l l.length).getD i [])] j)),.c (.str [38])] [.c (.str (printQ l))]:=by
   have:=lib_Join (G:=Gp) (partsQ l l.length) [38] oM hjn
   rw [partsQ_end] at this
   exact this
  refine Wp.ent' kR (Ent.pubT (e:=9) (sz:=1) (id:=80) (t:=3) (off:=0) (m:=l.length) (n:=l.length) (f:=(strsF (partsQ l l.length))) (m':=(partsQ l l.length).length) (f':=(fun i j=>nthD [.str ((partsQ l l.length).getD i [])] j)) kR kR oM hp.symm (fun i _ j hj=>str_one _ i j hj) rfl) ?_
  refine zg [(7,{cs:=[(1,pc cj)]})] [false] [decide ((l.length:Int)<(l.length:Int))=false] (show decide ((↑l.length:Int)<(↑l.length:Int))=false from (by simp;done)) ?_
  exact zr
def isIn (l:List (List UInt8)) (s:List UInt8):Bool:=l.any (·==s)
theorem idxU_ok (l:List (List UInt8)) (n:Nat) (s:List UInt8) (hn:n=l.length) (hl:n<4611686018427387904):Pur Tryz.prog G 251 [.c (.sl 1 n (strsF l)),.c (.str s)] [.c (.int .i64 (ixF (·==s) l))]:=by
 subst hn
 refine zp Tryz.func251 ?_
 refine z0 [] [] ?_
 refine z0 [] [] ?_
 refine zl (fun (k:Nat)=>⟨[(0,.v (.c (.sl 1 l.length (strsF l)))),(1,.v (.c (.str s))),(7,.v (.c (.int .i64 (l.length:Int)))),(8,.v (.c (.int .i64 (k:Int))))],[],64⟩) (fun k=>k≤l.length∧∀ i,i<k→(l.getD i []==s)=false) (fun k=>l.length-k) 0 ⟨Nat.zero_le _,fun _ h=>absurd h (Nat.not_lt_zero _)⟩ ?_
 intro k L ⟨hk,hall⟩ again
 rcases Nat.lt_or_ge k l.length with hlt | hge
 ·cases hq:(s==l.getD k []) with
  | true =>
   have hq':(l.getD k []==s)=true:=by rw [Bool.beq_comm];exact hq
   rw [ixF_some (d:=[]) hlt hall hq']
   refine zg [] [true,true] [decide ((k:Int)<(l.length:Int))=true,(0:Int)≤(k:Int)∧(k:Int)<(l.length:Int),(s==l.getD k [])=true] ⟨sO,oM,(show (s==l.getD k [])=true from aS)⟩ ?_
   exact zr
  | false =>
   have hq':(l.getD k []==s)=false:=by rw [Bool.beq_comm];exact hq
   have hall':=up1 hall hq'
   refine zg [] [true,false] [decide ((k:Int)<(l.length:Int))=true,(0:Int)≤(k:Int)∧(k:Int)<(l.length:Int),(s==l.getD k [])=false,inR .i64 ((k:Int)+1)] ⟨sO,oM,aS,i6⟩ ?_
   exact za [] (again _ (k+1) ⟨aS,aS⟩ oM)
 ·rw [ixF_none (d:=[]) (fun i hi=>hall i oM)]
  refine zg [] [false] [decide ((k:Int)<(l.length:Int))=false] (oN sO) ?_
  exact zr
theorem conU_ok (l:List (List UInt8)) (n:Nat) (s:List UInt8) (hn:n=l.length) (hl:n<4611686018427387904):Pur Tryz.prog G 214 [.c (.sl 1 n (strsF l)),.c (.str s)] [.c (.bool (isIn l s))]:=by
 refine zp Tryz.func214 ?_
 have hx:=ixF_any (·==s) l
 refine z0 [(1,{cs:=[(2,pc (idxU_ok l n s aS aS))]})] [] ?_
 exact zS [.c (.bool (decide (ixF (fun (x:List UInt8)=>x==s) l≥(0:Int))))] (by simp [isIn, *];done)
theorem conU_nil (s:List UInt8):Pur Tryz.prog G 214 [.c .nilsl,.c (.str s)] [.c (.bool false)]:=by
 have c:Pur Tryz.prog G 251 [.c .nilsl,.c (.str s)] [.c (.int .i64 (-1))]:=by
  refine zp Tryz.func251 ?_
  refine z0 [] [] ?_
  refine zl (fun (k:Nat)=>⟨[(0,.v (.c .nilsl)),(1,.v (.c (.str s))),(7,.v (.c (.int .i64 0))),(8,.v (.c (.int .i64 0)))],[],64⟩) (fun k=>k=0) (fun k=>k) 0 rfl ?_
  intro k L hk again
  refine zg [] [false] [decide ((0:Int)<(0:Int))=false] rfl ?_
  exact zr
 refine zp Tryz.func214 ?_
 refine z0 [(1,{cs:=[(2,pc c)]})] [] ?_
 exact zr
theorem tw_a1 (f:FT) (h:(f.name==[])=true):FnB Tryz.prog G 171 [.box 191 [.nilsl]] [.c (.ptr 0 0),.agg [.str f.name,.str f.value]] [.c (.bool true)] [(0,.box 191 [.nilsl])]:=by
 refine zf Tryz.func171 ?_
 refine zg [(1,{cs:=[(9,pc (conU_nil f.name))]})] [true] [(bif f.name==[] then true else false)=true] (show (bif f.name==[] then true else false)=true from (by simp_all<;>omega)) ?_
 exact zb []
theorem tw_a2 (f:FT) (h:(f.name==[])=false):FnB Tryz.prog G 171 [.box 191 [.nilsl]] [.c (.ptr 0 0),.agg [.str f.name,.str f.value]] [.c (.bool false)] [(0,.box 191 [.row 1 1 0 1]),(1,.row 9 1 1 (strsF [f.name]))]:=by
 refine zf Tryz.func171 ?_
 have e1:BlkEqv (.row 9 1 1 (catF 0 (fun _ _ => .nilif) (fun i j=>nthD [.str f.name] ((0+i)*1+j)))) (.row 9 1 1 (strsF [f.name])):=by
  refine BlkEqv.row_ext rfl fun i hi j hj => ?_
  obtain ⟨rfl,rfl⟩:i=0∧j=0:=by omega
  rfl
 refine zg [(3,{bs:=[(7,.row 9 1 1 (strsF [f.name]))]}),(1,{cs:=[(9,pc (conU_nil f.name))]})] [false] [(bif f.name==[] then true else false)=false,16≤140737488355328,BlkEqv (.row 9 1 1 (catF 0 (fun (x x_1:Nat) => .nilif) fun i j=>nthD [.str f.name] ((0+i)*1+j))) (.row 9 1 1 (strsF [f.name])),0+1≤1] ⟨(by simp_all<;>omega),oM,aS,(show (0:Nat)+(1:Nat)≤(1:Nat) from oM)⟩ ?_
 exact zb [321]
theorem tw_b1 (l:List (List UInt8)) (n:Nat) (hn:n=l.length) (hl:n<1000000000000) (f:FT) (h:(f.name==[])=true):FnB Tryz.prog G 171 [.box 191 [.row 1 1 0 n],.row 9 1 n (strsF l)] [.c (.ptr 0 0),.agg [.str f.name,.str f.value]] [.c (.bool true)] [(0,.box 191 [.row 1 1 0 n]),(1,.row 9 1 n (strsF l))]:=by
 refine zf Tryz.func171 ?_
 refine zg [(1,{grd:=[(4,false),(5,false),(6,false),(7,false),(8,false),(9,false),(10,true)],cs:=[(9,lc [1] [.row 9 1 n (strsF l)] [.c (.row 1 0 0 n),.c (.str f.name)] (conU_ok l n f.name aS oM) kR kR kR (show 0+n≤n from oM))]})] [true] [(f.name==[]) = !false,(f.name==[]) = !false,(f.name==[]) = !false,(f.name==[]) = !false,(f.name==[]) = !false,(f.name==[]) = !false,(f.name==[])=true,true=true] ⟨aS,aS,aS,aS,aS,aS,aS,rfl⟩ ?_
 exact zb []
theorem tw_b2 (l:List (List UInt8)) (n:Nat) (hn:n=l.length) (hl:n<1000000000000) (f:FT) (h:(f.name==[])=false) (hi:isIn l f.name=true):FnB Tryz.prog G 171 [.box 191 [.row 1 1 0 n],.row 9 1 n (strsF l)] [.c (.ptr 0 0),.agg [.str f.name,.str f.value]] [.c (.bool true)] [(0,.box 191 [.row 1 1 0 n]),(1,.row 9 1 n (strsF l))]:=by
 refine zf Tryz.func171 ?_
 have c:=conU_ok (G:=G) l n f.name hn oM
 rw [hi] at c
 refine zg [(1,{grd:=[(4,true),(5,true),(6,true),(7,true),(8,true),(9,true)],cs:=[(9,lc [1] [.row 9 1 n (strsF l)] [.c (.row 1 0 0 n),.c (.str f.name)] c kR kR kR (show 0+n≤n from oM))]})] [true] [(f.name==[])=false,(f.name==[])=false,(f.name==[])=false,(f.name==[])=false,(f.name==[])=false,(f.name==[])=false,(bif f.name==[] then true else true)=true] ⟨aS,aS,aS,aS,aS,aS,(show (bif f.name==[] then true else true)=true from (by simp;done))⟩ ?_
 exact zb []
theorem tw_b3 (l:List (List UInt8)) (n:Nat) (hn:n=l.length) (hl:n<1000000000000) (f:FT) (h:(f.name==[])=false) (hi:isIn l f.name=false):FnB Tryz.prog G 171 [.box 191 [.row 1 1 0 n],.row 9 1 n (strsF l)] [.c (.ptr 0 0),.agg [.str f.name,.str f.value]] [.c (.bool false)] [(0,.box 191 [.row 1 2 0 (n+1)]),(2,.row 9 1 (n+1) (strsF (l++[f.name])))]:=by
 refine zf Tryz.func171 ?_
 have c:=conU_ok (G:=G) l n f.name hn oM
 rw [hi] at c
 have e1:BlkEqv (.row 9 1 (n+1) (catF n (strsF l) (fun i j=>nthD [.str f.name] ((0+i)*1+j)))) (.row 9 1 (n+1) (strsF (l++[f.name]))):=strs_app l f.name hn
 refine zg [(3,{bs:=[(7,.row 9 1 (n+1) (strsF (l++[f.name])))]}),(1,{grd:=[(4,true),(5,true),(6,true),(7,true),(8,true),(9,true)],cs:=[(9,lc [1] [.row 9 1 n (strsF l)] [.c (.row 1 0 0 n),.c (.str f.name)] c kR kR kR (show 0+n≤n from oM))]})] [false] [(f.name==[])=false,(f.name==[])=false,(f.name==[])=false,(f.name==[])=false,(f.name==[])=false,(f.name==[])=false,(bif f.name==[] then true else false)=false,(n+1)*16≤140737488355328,BlkEqv (.row 9 1 (n+1) (catF n (strsF l) fun i j=>nthD [.str f.name] ((0+i)*1+j))) (.row 9 1 (n+1) (strsF (l++[f.name]))),n≤n,0+1≤1] ⟨aS,aS,aS,aS,aS,aS,(by simp_all<;>omega),oM,aS,oM,(show (0:Nat)+(1:Nat)≤(1:Nat) from oM)⟩ ?_
 exact zb [322]
end Go.Proofs.Tw
end
