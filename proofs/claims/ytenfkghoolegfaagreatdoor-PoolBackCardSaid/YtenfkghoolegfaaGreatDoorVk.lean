/- A part of the proof of PoolBack. No condition of its own. -/
import Derived.Test.YtenfkghoolegfaaGreatDoorVz
import Derived.Test.YtenfkghoolegfaaGreatDoorVi
import Derived.Sort.WalkA6
import Derived.Sort.WalkC4
import Derived.Sort.Walk7
import Derived.Deep.Light
import Derived.Lib.BitFns
import Derived.Sort.WalkB3
import Derived.Sort.Walk13
import Derived.Test.YtenfkghoolegfaaGreatDoorVj
import Derived.Sort.AssemblyPlain
import Derived.Sort.OwnSorted
set_option maxHeartbeats 32000000
set_option maxRecDepth 1000000
set_option linter.unusedVariables false
namespace Go.Proofs.YtenfkghoolegfaaGreatDoor
open Go.Sort Go.RowKit
theorem u_Less2 (x y:Int) (w:World):Calls Tryz.prog 161 #[.int .u32 x,.int .u32 y] w fun e w'=>e=.returned (.bool (Sort.ltInt x y))/\w'=w:=by
 refine (Less_any x y w).mono ?_;rintro e w' ⟨rfl,h⟩;exact ⟨rfl,h⟩
theorem u_insertionSort (blk off cap a b:Nat) (d:Array Int) (w:World) (hH:Holds (Value.int .u32) w blk off d) (hab:a<=b) (hb:b<=d.size) (hsz:d.size<4611686018427387904) :
 Calls Tryz.prog 155 #[.slice (some ⟨blk,off,none⟩) d.size cap,.int .i64 a,.int .i64 b] w fun e w' =>
  e=.returned (.tuple #[])/\∃ n,w'=putRow (Value.int .u32) (Sort.ahead w n) blk off (Sort.insertionSort ltInt d a b):=by
 go_enter Tryz.func155,Tryz.ntmps155;go_wp2
 go_loopw [6] (fun vi wr=>∃ (i n:Nat) (dk:Array Int),vi=.int .i64 i/\a<i/\i<=b+1/\dk.size=d.size/\wr=putRow (Value.int .u32) (Sort.ahead w n) blk off dk /\
  insOuter ltInt a b i dk=insOuter ltInt a b (a+1) d) (fun vi _=>b+1-(intOf vi).toNat)
 case atStart=>exact ⟨a+1,0,d,by go_num,by omega,by omega,rfl,(putRow_self _ _ _ _ _ hH).symm,rfl⟩
 case round =>
  obtain ⟨i,n,dk,rfl,hai,hib,hsk,hwr,hO⟩:=hrel;have HO:Hid (insOuter ltInt a b i dk=insOuter ltInt a b (a+1) d):=hO;clear hO;go_wp2
  ·
    go_loopw [7] (fun vj wr2=>∃ (j m:Nat) (dj:Array Int),vj=.int .i64 j/\a<=j/\j<=i/\dj.size=d.size/\wr2=putRow (Value.int .u32) (Sort.ahead w m) blk off dj /\
     insInner ltInt a j dj=insInner ltInt a i dk) (fun vj _=>(intOf vj).toNat)
    case atStart=>exact ⟨i,n,dk,rfl,by omega,nR _,hsk,rfl,rfl⟩
    case round =>
     obtain ⟨j,m,dj,rfl,haj,hji,hsj,hw2,hI⟩:=hrel
     have hlt:i<b:=by assumption
     obtain ⟨G,hG⟩:∃ G:Nat->Int,∀ t,G t=dj[t]!:=⟨fun t=>dj[t]!,fun _=>rfl⟩
     have hcw:∀ t,t<d.size->wr.cell? ⟨blk,off+t,none⟩=some (.int .u32 (G t)):=fun t ht=>by
      rw [hw2,hG];exact cell?_putRow _ _ _ _ d dj (holds_ahead _ _ _ _ _ _ hH) hsj t (by omega)
     have hfw:∀ t,t<d.size->wr.frozen? ⟨blk,off+t,none⟩=false:=fun t ht=>by
      rw [hw2,frozen?_putRow];exact ((holds_ahead _ _ m _ _ _ hH) t ht).2
     have HW:Hid (wr=putRow (Value.int .u32) (Sort.ahead w m) blk off dj):=hw2;have HG:Hid (∀ t,G t=dj[t]!):=hG;have HI:Hid (insInner ltInt a j dj=insInner ltInt a i dk):=hI;clear hw2 hG hI hH
     have out:(j<=a\/ltInt dj[j]! dj[j-1]! = false)->∀ q,∃ i' n' dk',Value.int .i64 ((i:Int)+1)=.int .i64 (i':Nat)/\a<i'/\i'<=b+1/\dk'.size=d.size /\
      wr.drewN q=putRow (Value.int .u32) (Sort.ahead w n') blk off dk'/\insOuter ltInt a b i' dk'=insOuter ltInt a b (a+1) d:=fun hs q =>
      ⟨i+1,m+q,dj,by go_num,by omega,by omega,hsj,by rw [HW.out];exact putRow_drewN _ _ _ _ _ _ _,
       by rw [<-HO.out,insOuter_go _ _ _ _ _ hlt,<-HI.out,insInner_stop _ _ _ _ hs]⟩
     have OUT:Hid _:=out;clear out;go_wp2;by_cases hja:a<j
     ·go_quiet (first | (go_at_call 161;refine Calls.quiet_of_same (u_Less2 _ _ _)))
      go_wp2
      ·
        have hl:ltInt (G j) (G (j-1))=true:=by assumption
        go_region
        all_goals go_wp2
        go_roundw
        case rel =>
         refine ⟨j-1,m+(nq+1),swp dj j (j-1),by congr 1;omega,by omega,by omega,by rw [size_swp];exact hsj,?_,?_⟩
         ·rw [HW.out,HG.out,HG.out];exact swap_worldA _ w m (nq+1) blk off dj j (j-1) (by omega) (by omega)
         ·rw [<-HI.out,insInner_go ltInt a j dj hja (by rw [<-HG.out,<-HG.out];exact hl)]
        case measure=>simp [intOf];omega
      ·
        have hl:ltInt (G j) (G (j-1))=false:=by assumption
        go_roundw
        case rel=>exact OUT.out (Or.inr (by rw [<-HG.out,<-HG.out];exact hl)) nq
        case measure=>simp [intOf];omega
     ·go_quiet (first | (go_at_call 161;refine Calls.quiet_of_same (u_Less2 _ _ _)))
      go_wp2
      go_roundw
      case rel=>exact OUT.out (Or.inl (by omega)) nq
      case measure=>simp [intOf];omega
  ·
    have hge:¬ i<b:=by assumption
    go_end0
    exact ⟨rfl,n,by unfold Sort.insertionSort;rw [<-HO.out,insOuter_stop _ _ _ _ _ hge]⟩
theorem u_partialInsertionSort (blk off cap a b:Nat) (d:Array Int) (w:World) (hH:Holds (Value.int .u32) w blk off d) (hab:a<b) (hb:b<=d.size) (hsz:d.size<4611686018427387904) :
 Calls Tryz.prog 160 #[.slice (some ⟨blk,off,none⟩) d.size cap,.int .i64 a,.int .i64 b] w fun e w' =>
  e=.returned (.bool (Sort.partialInsertionSort ltInt d a b).2)/\∃ n,w'=putRow (Value.int .u32) (Sort.ahead w n) blk off (Sort.partialInsertionSort ltInt d a b).1:=by
 have HH:Hid (Holds (Value.int .u32) w blk off d):=hH;have HST:Hid (w=putRow (Value.int .u32) (Sort.ahead w 0) blk off d):=(putRow_self _ _ _ _ _ hH).symm;clear hH;go_enter Tryz.func160,Tryz.ntmps160;go_wp2
 go_loopw [7,8] (fun vi vs wr=>∃ (i s n:Nat) (dk:Array Int),vi=.int .i64 i/\vs=.int .i64 s/\s<=5/\a<i/\i<=b/\dk.size=d.size/\wr=putRow (Value.int .u32) (Sort.ahead w n) blk off dk /\
  partialIns ltInt a b (5-s) i dk=partialIns ltInt a b 5 (a+1) d) (fun _ vs _=>5-(intOf vs).toNat)
 case atStart=>exact ⟨a+1,0,0,d,by go_num,rfl,by omega,by omega,by omega,rfl,HST.out,rfl⟩
 case round =>
  obtain ⟨i,s,n,dk,rfl,rfl,hs5,hai,hib,hsk,hwr,hO⟩:=hrel;have HO:Hid (partialIns ltInt a b (5-s) i dk=partialIns ltInt a b 5 (a+1) d):=hO;clear hO;go_wp2
  ·
    have hs:s<5:=by omega
    go_loopw [7] (fun vi wr2=>∃ (k m:Nat),vi=.int .i64 k/\i<=k/\k<=b/\wr2=putRow (Value.int .u32) (Sort.ahead w m) blk off dk/\scanSorted ltInt dk b k=scanSorted ltInt dk b i) (fun vi _=>b-(intOf vi).toNat)
    case atStart=>exact ⟨i,n,rfl,nR _,hib,rfl,rfl⟩
    case round =>
     obtain ⟨k,m,rfl,hik,hkb,hw2,hS⟩:=hrel
     obtain ⟨G,hG⟩:∃ G:Nat->Int,∀ t,G t=dk[t]!:=⟨fun t=>dk[t]!,fun _=>rfl⟩
     have hcw:∀ t,t<d.size->wr.cell? ⟨blk,off+t,none⟩=some (.int .u32 (G t)):=fun t ht=>by
      rw [hw2,hG];exact cell?_putRow _ _ _ _ d dk (holds_ahead _ _ _ _ _ _ HH.out) hsk t (by omega)
     have hfw:∀ t,t<d.size->wr.frozen? ⟨blk,off+t,none⟩=false:=fun t ht=>by
      rw [hw2,frozen?_putRow];exact ((holds_ahead _ _ m _ _ _ HH.out) t ht).2
     have HW:Hid (wr=putRow (Value.int .u32) (Sort.ahead w m) blk off dk):=hw2;have HG:Hid (∀ t,G t=dk[t]!):=hG;have HS:Hid (scanSorted ltInt dk b k=scanSorted ltInt dk b i):=hS;clear hw2 hG hS;go_wp2;by_cases hkb':k<b
     ·go_quiet (first | (go_at_call 161;refine Calls.quiet_of_same (u_Less2 _ _ _)))
      go_wp2
      all_goals first
       | (
        at_end
        have hl:ltInt (G k) (G (k-1))=false:=by
         have h:(!ltInt (G k) (G (k-1)))=true:=by assumption
         simpa using h
        go_roundw
        case rel=>exact ⟨k+1,m+nq,by go_num,by omega,by omega,by rw [HW.out];exact putRow_drewN _ _ _ _ _ _ _,by rw [<-HS.out,scanSorted_go ltInt dk b k hkb' (by rw [<-HG.out,<-HG.out];exact hl)]⟩
        case measure=>simp [intOf];omega)
       | (
        have hl:ltInt (G k) (G (k-1))=true:=by
         have h:(!ltInt (G k) (G (k-1)))=false:=by assumption
         simpa using h
        have HK:Hid (scanSorted ltInt dk b i=k):=by
         show scanSorted ltInt dk b i=k;rw [<-HS.out,scanSorted_stop ltInt dk b k (Or.inr (by rw [<-HG.out,<-HG.out];exact hl))]
        first
         | (
          at_ret
          have hv:Sort.partialInsertionSort ltInt d a b=(dk,false):=by
           unfold Sort.partialInsertionSort;rw [<-HO.out,pi_short ltInt a b s i dk hs (by rw [HK.out];omega) (by omega)]
          rw [hv];go_ret
          exact ⟨rfl,m+nq,by rw [HW.out];exact putRow_drewN _ _ _ _ _ _ _⟩)
         | (
          at_region 11
          have h50:¬ b-a<50:=by omega
          go_region
          have hsw:((wr.drewN (nq+1)).setCell ⟨blk,off+k,none⟩ (.int .u32 ((G (k-1))))).setCell ⟨blk,off+(k-1),none⟩ (.int .u32 (G k))=putRow (Value.int .u32) (Sort.ahead w (m+(nq+1))) blk off (swp dk k (k-1)):=by
           rw [HW.out,HG.out,HG.out];exact swap_worldA _ w m (nq+1) blk off dk k (k-1) (by omega) (by omega)
          have hs1:(swp dk k (k-1)).size=d.size:=by rw [size_swp];exact hsk
          go_wp2
          all_goals first
           | (
            at_loop
            have hka:k-a ≥ 2:=by omega
            go_loopw [9] (fun vj wr2=>∃ (j m2:Nat) (dj:Array Int),vj=.int .i64 j/\j<=k-1/\dj.size=d.size/\wr2=putRow (Value.int .u32) (Sort.ahead w m2) blk off dj /\
             shiftDown ltInt j dj=shiftDown ltInt (k-1) (swp dk k (k-1))) (fun vj _=>(intOf vj).toNat)
            case atStart=>exact ⟨k-1,_,(swp dk k (k-1)),by congr 1;omega,nR _,hs1,rfl,rfl⟩
            case round =>
             obtain ⟨j,m2,dj,rfl,hjk,hsj,hw2,hDn⟩:=hrel
             obtain ⟨G,hG⟩:∃ G:Nat->Int,∀ t,G t=dj[t]!:=⟨fun t=>dj[t]!,fun _=>rfl⟩
             have hcw:∀ t,t<d.size->wr.cell? ⟨blk,off+t,none⟩=some (.int .u32 (G t)):=fun t ht=>by
              rw [hw2,hG];exact cell?_putRow _ _ _ _ d dj (holds_ahead _ _ _ _ _ _ HH.out) hsj t (by omega)
             have hfw:∀ t,t<d.size->wr.frozen? ⟨blk,off+t,none⟩=false:=fun t ht=>by
              rw [hw2,frozen?_putRow];exact ((holds_ahead _ _ m2 _ _ _ HH.out) t ht).2
             have HW:Hid (wr=putRow (Value.int .u32) (Sort.ahead w m2) blk off dj):=hw2;have HG:Hid (∀ t,G t=dj[t]!):=hG;have HDn:Hid (shiftDown ltInt j dj=shiftDown ltInt (k-1) (swp dk k (k-1))):=hDn;clear hw2 hG hDn hsw;go_wp2
             all_goals first
              | (
               at_region 16
               go_quiet (first | (go_at_call 161;refine Calls.quiet_of_same (u_Less2 _ _ _)))
               go_wp2
               all_goals first
                | (
                 at_region 17
                 have hl:ltInt (G j) (G (j-1))=true:=by
                  have h:(!ltInt (G j) (G (j-1)))=false:=by assumption
                  simpa using h
                 go_region
                 all_goals go_wp2
                 go_roundw
                 case rel =>
                  refine ⟨j-1,m2+(nq+1),swp dj j (j-1),by congr 1;omega,by omega,by rw [size_swp];exact hsj,?_,?_⟩
                  ·rw [HW.out,HG.out,HG.out];exact swap_worldA _ w m2 (nq+1) blk off dj j (j-1) (by omega) (by omega)
                  ·rw [<-HDn.out,shiftDown_go ltInt j dj (by omega) (by rw [<-HG.out,<-HG.out];exact hl)]
                 case measure=>simp [intOf];omega)
                | (
                 have hl:ltInt (G j) (G (j-1))=false:=by
                  have h:(!ltInt (G j) (G (j-1)))=true:=by assumption
                  simpa using h
                 have HD:Hid (fixDown ltInt a k (swp dk k (k-1))=dj):=by
                  show fixDown ltInt a k (swp dk k (k-1))=dj;unfold fixDown;rw [if_pos hka,<-HDn.out,shiftDown_stop ltInt j dj (Or.inr (by rw [<-HG.out,<-HG.out];exact hl))]
                 first
                  | (
                   at_end
                   go_roundw
                   case rel =>
                    refine ⟨k,s+1,_,dj,rfl,by go_num,by omega,by omega,by omega,hsj,(by first | rfl | exact HW.out | (rw [HW.out];exact putRow_drewN _ _ _ _ _ _ _)),?_⟩;rw [<-HO.out,pi_go ltInt a b s i k dk hs HK.out (by omega) (by omega),HD.out,show fixUp ltInt b k dj=dj from by unfold fixUp;rw [if_neg (by omega)]]
                   case measure=>simp [intOf];omega)
                  | (
                   at_loop
                   go_loopw [10] (fun vj wr2=>∃ (j m3:Nat) (du:Array Int),vj=.int .i64 j/\k+1<=j/\j<=b/\du.size=d.size/\wr2=putRow (Value.int .u32) (Sort.ahead w m3) blk off du /\
                    shiftUp ltInt b j du=shiftUp ltInt b (k+1) dj) (fun vj _=>b-(intOf vj).toNat)
                   case atStart=>exact ⟨k+1,_,dj,by go_num,nR _,by omega,hsj,(by first | rfl | exact HW.out | (rw [HW.out];exact putRow_drewN _ _ _ _ _ _ _)),rfl⟩
                   case round =>
                    obtain ⟨j,m3,du,rfl,hkj,hjb,hsu,hw3,hU⟩:=hrel
                    obtain ⟨G,hG⟩:∃ G:Nat->Int,∀ t,G t=du[t]!:=⟨fun t=>du[t]!,fun _=>rfl⟩
                    have hcw:∀ t,t<d.size->wr.cell? ⟨blk,off+t,none⟩=some (.int .u32 (G t)):=fun t ht=>by
                     rw [hw3,hG];exact cell?_putRow _ _ _ _ d du (holds_ahead _ _ _ _ _ _ HH.out) hsu t (by omega)
                    have hfw:∀ t,t<d.size->wr.frozen? ⟨blk,off+t,none⟩=false:=fun t ht=>by
                     rw [hw3,frozen?_putRow];exact ((holds_ahead _ _ m3 _ _ _ HH.out) t ht).2
                    have HW:Hid (wr=putRow (Value.int .u32) (Sort.ahead w m3) blk off du):=hw3;have HG:Hid (∀ t,G t=du[t]!):=hG;have HU:Hid (shiftUp ltInt b j du=shiftUp ltInt b (k+1) dj):=hU;clear hw3 hG hU;go_wp2
                    all_goals first
                     | (
                      at_region 22
                      go_quiet (first | (go_at_call 161;refine Calls.quiet_of_same (u_Less2 _ _ _)))
                      go_wp2
                      all_goals first
                       | (
                        at_region 23
                        have hl:ltInt (G j) (G (j-1))=true:=by
                         have h:(!ltInt (G j) (G (j-1)))=false:=by assumption
                         simpa using h
                        go_region
                        all_goals go_wp2
                        go_roundw
                        case rel =>
                         refine ⟨j+1,m3+(nq+1),swp du j (j-1),by go_num,by omega,by omega,by rw [size_swp];exact hsu,?_,?_⟩
                         ·rw [HW.out,HG.out,HG.out];exact swap_worldA _ w m3 (nq+1) blk off du j (j-1) (by omega) (by omega)
                         ·rw [<-HU.out,shiftUp_go ltInt b j du (by omega) (by rw [<-HG.out,<-HG.out];exact hl)]
                        case measure=>simp [intOf];omega)
                       | (
                        at_end
                        have hl:ltInt (G j) (G (j-1))=false:=by
                         have h:(!ltInt (G j) (G (j-1)))=true:=by assumption
                         simpa using h
                        go_roundw
                        case rel =>
                         refine ⟨k,s+1,_,du,rfl,by go_num,by omega,by omega,by omega,hsu,(by first | rfl | exact HW.out | (rw [HW.out];exact putRow_drewN _ _ _ _ _ _ _)),?_⟩;rw [<-HO.out,pi_go ltInt a b s i k dk hs HK.out (by omega) (by omega),HD.out,show fixUp ltInt b k dj=du from by unfold fixUp;rw [if_pos (by omega),<-HU.out,shiftUp_stop ltInt b j du (Or.inr (by rw [<-HG.out,<-HG.out];exact hl))]]
                        case measure=>simp [intOf];omega))
                     | (
                      at_end
                      go_roundw
                      case rel =>
                       refine ⟨k,s+1,_,du,rfl,by go_num,by omega,by omega,by omega,hsu,(by first | rfl | exact HW.out | (rw [HW.out];exact putRow_drewN _ _ _ _ _ _ _)),?_⟩;rw [<-HO.out,pi_go ltInt a b s i k dk hs HK.out (by omega) (by omega),HD.out,show fixUp ltInt b k dj=du from by unfold fixUp;rw [if_pos (by omega),<-HU.out,shiftUp_stop ltInt b j du (Or.inl (by omega))]]
                      case measure=>simp [intOf];omega))))
              | (
               have HD:Hid (fixDown ltInt a k (swp dk k (k-1))=dj):=by
                show fixDown ltInt a k (swp dk k (k-1))=dj;unfold fixDown;rw [if_pos hka,<-HDn.out,shiftDown_stop ltInt j dj (Or.inl (by omega))]
               first
                | (
                 at_end
                 go_roundw
                 case rel =>
                  refine ⟨k,s+1,_,dj,rfl,by go_num,by omega,by omega,by omega,hsj,(by first | rfl | exact HW.out | (rw [HW.out];exact putRow_drewN _ _ _ _ _ _ _)),?_⟩;rw [<-HO.out,pi_go ltInt a b s i k dk hs HK.out (by omega) (by omega),HD.out,show fixUp ltInt b k dj=dj from by unfold fixUp;rw [if_neg (by omega)]]
                 case measure=>simp [intOf];omega)
                | (
                 at_loop
                 go_loopw [10] (fun vj wr2=>∃ (j m3:Nat) (du:Array Int),vj=.int .i64 j/\k+1<=j/\j<=b/\du.size=d.size/\wr2=putRow (Value.int .u32) (Sort.ahead w m3) blk off du /\
                  shiftUp ltInt b j du=shiftUp ltInt b (k+1) dj) (fun vj _=>b-(intOf vj).toNat)
                 case atStart=>exact ⟨k+1,_,dj,by go_num,nR _,by omega,hsj,(by first | rfl | exact HW.out | (rw [HW.out];exact putRow_drewN _ _ _ _ _ _ _)),rfl⟩
                 case round =>
                  obtain ⟨j,m3,du,rfl,hkj,hjb,hsu,hw3,hU⟩:=hrel
                  obtain ⟨G,hG⟩:∃ G:Nat->Int,∀ t,G t=du[t]!:=⟨fun t=>du[t]!,fun _=>rfl⟩
                  have hcw:∀ t,t<d.size->wr.cell? ⟨blk,off+t,none⟩=some (.int .u32 (G t)):=fun t ht=>by
                   rw [hw3,hG];exact cell?_putRow _ _ _ _ d du (holds_ahead _ _ _ _ _ _ HH.out) hsu t (by omega)
                  have hfw:∀ t,t<d.size->wr.frozen? ⟨blk,off+t,none⟩=false:=fun t ht=>by
                   rw [hw3,frozen?_putRow];exact ((holds_ahead _ _ m3 _ _ _ HH.out) t ht).2
                  have HW:Hid (wr=putRow (Value.int .u32) (Sort.ahead w m3) blk off du):=hw3;have HG:Hid (∀ t,G t=du[t]!):=hG;have HU:Hid (shiftUp ltInt b j du=shiftUp ltInt b (k+1) dj):=hU;clear hw3 hG hU;go_wp2
                  all_goals first
                   | (
                    at_region 22
                    go_quiet (first | (go_at_call 161;refine Calls.quiet_of_same (u_Less2 _ _ _)))
                    go_wp2
                    all_goals first
                     | (
                      at_region 23
                      have hl:ltInt (G j) (G (j-1))=true:=by
                       have h:(!ltInt (G j) (G (j-1)))=false:=by assumption
                       simpa using h
                      go_region
                      all_goals go_wp2
                      go_roundw
                      case rel =>
                       refine ⟨j+1,m3+(nq+1),swp du j (j-1),by go_num,by omega,by omega,by rw [size_swp];exact hsu,?_,?_⟩
                       ·rw [HW.out,HG.out,HG.out];exact swap_worldA _ w m3 (nq+1) blk off du j (j-1) (by omega) (by omega)
                       ·rw [<-HU.out,shiftUp_go ltInt b j du (by omega) (by rw [<-HG.out,<-HG.out];exact hl)]
                      case measure=>simp [intOf];omega)
                     | (
                      at_end
                      have hl:ltInt (G j) (G (j-1))=false:=by
                       have h:(!ltInt (G j) (G (j-1)))=true:=by assumption
                       simpa using h
                      go_roundw
                      case rel =>
                       refine ⟨k,s+1,_,du,rfl,by go_num,by omega,by omega,by omega,hsu,(by first | rfl | exact HW.out | (rw [HW.out];exact putRow_drewN _ _ _ _ _ _ _)),?_⟩;rw [<-HO.out,pi_go ltInt a b s i k dk hs HK.out (by omega) (by omega),HD.out,show fixUp ltInt b k dj=du from by unfold fixUp;rw [if_pos (by omega),<-HU.out,shiftUp_stop ltInt b j du (Or.inr (by rw [<-HG.out,<-HG.out];exact hl))]]
                      case measure=>simp [intOf];omega))
                   | (
                    at_end
                    go_roundw
                    case rel =>
                     refine ⟨k,s+1,_,du,rfl,by go_num,by omega,by omega,by omega,hsu,(by first | rfl | exact HW.out | (rw [HW.out];exact putRow_drewN _ _ _ _ _ _ _)),?_⟩;rw [<-HO.out,pi_go ltInt a b s i k dk hs HK.out (by omega) (by omega),HD.out,show fixUp ltInt b k dj=du from by unfold fixUp;rw [if_pos (by omega),<-HU.out,shiftUp_stop ltInt b j du (Or.inl (by omega))]]
                    case measure=>simp [intOf];omega))))
           | (
            have HD:Hid (fixDown ltInt a k (swp dk k (k-1))=(swp dk k (k-1))):=by
             show fixDown ltInt a k (swp dk k (k-1))=(swp dk k (k-1));unfold fixDown;rw [if_neg (by omega)]
            first
             | (
              at_end
              go_roundw
              case rel =>
               refine ⟨k,s+1,_,(swp dk k (k-1)),rfl,by go_num,by omega,by omega,by omega,hs1,(by first | rfl | exact HW.out | (rw [HW.out];exact putRow_drewN _ _ _ _ _ _ _)),?_⟩;rw [<-HO.out,pi_go ltInt a b s i k dk hs HK.out (by omega) (by omega),HD.out,show fixUp ltInt b k (swp dk k (k-1))=(swp dk k (k-1)) from by unfold fixUp;rw [if_neg (by omega)]]
              case measure=>simp [intOf];omega)
             | (
              at_loop
              go_loopw [10] (fun vj wr2=>∃ (j m3:Nat) (du:Array Int),vj=.int .i64 j/\k+1<=j/\j<=b/\du.size=d.size/\wr2=putRow (Value.int .u32) (Sort.ahead w m3) blk off du /\
               shiftUp ltInt b j du=shiftUp ltInt b (k+1) (swp dk k (k-1))) (fun vj _=>b-(intOf vj).toNat)
              case atStart=>exact ⟨k+1,_,(swp dk k (k-1)),by go_num,nR _,by omega,hs1,(by first | rfl | exact HW.out | (rw [HW.out];exact putRow_drewN _ _ _ _ _ _ _)),rfl⟩
              case round =>
               obtain ⟨j,m3,du,rfl,hkj,hjb,hsu,hw3,hU⟩:=hrel
               obtain ⟨G,hG⟩:∃ G:Nat->Int,∀ t,G t=du[t]!:=⟨fun t=>du[t]!,fun _=>rfl⟩
               have hcw:∀ t,t<d.size->wr.cell? ⟨blk,off+t,none⟩=some (.int .u32 (G t)):=fun t ht=>by
                rw [hw3,hG];exact cell?_putRow _ _ _ _ d du (holds_ahead _ _ _ _ _ _ HH.out) hsu t (by omega)
               have hfw:∀ t,t<d.size->wr.frozen? ⟨blk,off+t,none⟩=false:=fun t ht=>by
                rw [hw3,frozen?_putRow];exact ((holds_ahead _ _ m3 _ _ _ HH.out) t ht).2
               have HW:Hid (wr=putRow (Value.int .u32) (Sort.ahead w m3) blk off du):=hw3;have HG:Hid (∀ t,G t=du[t]!):=hG;have HU:Hid (shiftUp ltInt b j du=shiftUp ltInt b (k+1) (swp dk k (k-1))):=hU;clear hw3 hG hU;go_wp2
               all_goals first
                | (
                 at_region 22
                 go_quiet (first | (go_at_call 161;refine Calls.quiet_of_same (u_Less2 _ _ _)))
                 go_wp2
                 all_goals first
                  | (
                   at_region 23
                   have hl:ltInt (G j) (G (j-1))=true:=by
                    have h:(!ltInt (G j) (G (j-1)))=false:=by assumption
                    simpa using h
                   go_region
                   all_goals go_wp2
                   go_roundw
                   case rel =>
                    refine ⟨j+1,m3+(nq+1),swp du j (j-1),by go_num,by omega,by omega,by rw [size_swp];exact hsu,?_,?_⟩
                    ·rw [HW.out,HG.out,HG.out];exact swap_worldA _ w m3 (nq+1) blk off du j (j-1) (by omega) (by omega)
                    ·rw [<-HU.out,shiftUp_go ltInt b j du (by omega) (by rw [<-HG.out,<-HG.out];exact hl)]
                   case measure=>simp [intOf];omega)
                  | (
                   at_end
                   have hl:ltInt (G j) (G (j-1))=false:=by
                    have h:(!ltInt (G j) (G (j-1)))=true:=by assumption
                    simpa using h
                   go_roundw
                   case rel =>
                    refine ⟨k,s+1,_,du,rfl,by go_num,by omega,by omega,by omega,hsu,(by first | rfl | exact HW.out | (rw [HW.out];exact putRow_drewN _ _ _ _ _ _ _)),?_⟩;rw [<-HO.out,pi_go ltInt a b s i k dk hs HK.out (by omega) (by omega),HD.out,show fixUp ltInt b k (swp dk k (k-1))=du from by unfold fixUp;rw [if_pos (by omega),<-HU.out,shiftUp_stop ltInt b j du (Or.inr (by rw [<-HG.out,<-HG.out];exact hl))]]
                   case measure=>simp [intOf];omega))
                | (
                 at_end
                 go_roundw
                 case rel =>
                  refine ⟨k,s+1,_,du,rfl,by go_num,by omega,by omega,by omega,hsu,(by first | rfl | exact HW.out | (rw [HW.out];exact putRow_drewN _ _ _ _ _ _ _)),?_⟩;rw [<-HO.out,pi_go ltInt a b s i k dk hs HK.out (by omega) (by omega),HD.out,show fixUp ltInt b k (swp dk k (k-1))=du from by unfold fixUp;rw [if_pos (by omega),<-HU.out,shiftUp_stop ltInt b j du (Or.inl (by omega))]]
                 case measure=>simp [intOf];omega)))))
     ·
       go_quiet (first | (go_at_call 161;refine Calls.quiet_of_same (u_Less2 _ _ _)))
       go_wp2
       obtain rfl:k=b:=by omega
       have hv:Sort.partialInsertionSort ltInt d a k=(dk,true):=by
        unfold Sort.partialInsertionSort;rw [<-HO.out,pi_true ltInt a k s i dk hs (by rw [<-HS.out,scanSorted_stop ltInt dk k k (Or.inl (by omega))])]
       rw [hv];go_ret;exact ⟨rfl,m+nq,by rw [HW.out];exact putRow_drewN _ _ _ _ _ _ _⟩
  ·
    obtain rfl:s=5:=by omega
    have hv:Sort.partialInsertionSort ltInt d a b=(dk,false):=by
     unfold Sort.partialInsertionSort;rw [<-HO.out,pi_end]
    rw [hv];go_ret;exact ⟨rfl,n,rfl⟩
end Go.Proofs.YtenfkghoolegfaaGreatDoor
namespace Go.Proofs.YtenfkghoolegfaaGreatDoor
open Go.Sort Go.RowKit
theorem u_Less4 (x y:Int) (w:World):Calls Tryz.prog 161 #[.int .u32 x,.int .u32 y] w fun e w'=>e=.returned (.bool (Sort.ltInt x y))/\w'=w:=by
 refine (Less_any x y w).mono ?_;rintro e w' ⟨rfl,h⟩;exact ⟨rfl,h⟩
theorem u_partitionEqual (blk off cap a b pivot:Nat) (d:Array Int) (w:World) (hH:Holds (Value.int .u32) w blk off d) (hap:a<=pivot) (hpb:pivot<b) (hb:b<=d.size) (hsz:d.size<4611686018427387904) :
 Calls Tryz.prog 162 #[.slice (some ⟨blk,off,none⟩) d.size cap,.int .i64 a,.int .i64 b,.int .i64 pivot] w fun e w' =>
  e=.returned (.int .i64 (Sort.partitionEqual Sort.ltInt d a b pivot).1)/\∃ n,w'=(putRow (Value.int .u32) w blk off (Sort.partitionEqual Sort.ltInt d a b pivot).2).drewN n:=by
 have hla:a<d.size:=by omega
 have hlp:pivot<d.size:=by omega
 obtain ⟨G,hG⟩:∃ G:Nat->Int,∀ j,G j=d[j]!:=⟨fun j=>d[j]!,fun _=>rfl⟩
 have ca:w.cell? ⟨blk,off+a,none⟩=some (.int .u32 (G a)):=by rw [hG];exact (hH a hla).1
 have fa:=(hH a hla).2
 have cp:w.cell? ⟨blk,off+pivot,none⟩=some (.int .u32 (G pivot)):=by rw [hG];exact (hH pivot hlp).1
 have fp:=(hH pivot hlp).2;obtain ⟨v',hy'⟩:=cell?_setCell_some (w:=w) (p:=⟨blk,off+a,none⟩) (x:=.int .u32 (G pivot)) (q:=⟨blk,off+pivot,none⟩) cp;have AG:Hid (∀ j,G j=d[j]!):=hG;have AH:Hid (Holds (Value.int .u32) w blk off d):=hH;clear hG hH;go_enter Tryz.func162,Tryz.ntmps162;go_wp2
 go_region
 go_wp2
 go_loopw [9,10] (fun vi vj wr=>∃ (i j n:Nat) (dk:Array Int),vi=.int .i64 i/\vj=.int .i64 j/\a<i/\i<=j+1/\j<b/\dk.size=d.size/\wr=(putRow (Value.int .u32) w blk off dk).drewN n /\
  Sort.partEqLoop Sort.ltInt a i j dk=Sort.partEqLoop Sort.ltInt a (a+1) (b-1) (Sort.swp d a pivot))
  (fun vi vj _=>(intOf vj).toNat+1-(intOf vi).toNat)
 case atStart =>
  refine ⟨a+1,b-1,1,Sort.swp d a pivot,by go_num,by go_num,by omega,by omega,by omega,size_swp _ _ _,?_,rfl⟩;have e:=swap_worldC (Value.int .u32) w blk off d 0 a pivot hla hlp;rw [putRow_self _ w blk off d AH.out] at e;rw [AG.out a,AG.out pivot];exact e
 case round =>
  obtain ⟨i,j,n,dk,rfl,rfl,hai,hij,hjb,hs,hw,heq⟩:=hrel;clear ca fa cp fp hy' v' AG
  rename World=>W1
  have hHk:Holds (Value.int .u32) W1 blk off dk:=by
   rw [hw];exact holds_putRow (Value.int .u32) w blk off d dk AH.out hs
  obtain ⟨Gk,hG⟩:∃ Gk:Nat->Int,∀ t,Gk t=dk[t]!:=⟨fun t=>dk[t]!,fun _=>rfl⟩
  have hc:∀ t,t<d.size->W1.cell? ⟨blk,off+t,none⟩=some (.int .u32 (Gk t)):=fun t ht=>by rw [hG];exact (hHk t (by omega)).1
  have hf:∀ t,t<d.size->W1.frozen? ⟨blk,off+t,none⟩=false:=fun t ht=>(hHk t (by omega)).2;have AG:Hid (∀ t,Gk t=dk[t]!):=hG;have AW:Hid (W1=(putRow (Value.int .u32) w blk off dk).drewN n):=hw;have AE:Hid (Sort.partEqLoop Sort.ltInt a i j dk=Sort.partEqLoop Sort.ltInt a (a+1) (b-1) (Sort.swp d a pivot)):=heq;clear hG hw heq hHk;go_wp2
  go_loopw [9] (fun vi w1=>∃ (i' n1:Nat),vi=.int .i64 i'/\i<=i'/\i'<=j+1/\w1=W1.drewN n1 /\
   Hid (Sort.scanUp (fun x=>!Sort.ltInt dk[a]! x) dk j i'=Sort.scanUp (fun x=>!Sort.ltInt dk[a]! x) dk j i))
   (fun vi _=>j+1-(intOf vi).toNat)
  case atStart=>exact ⟨i,0,rfl,nR _,hij,rfl,rfl⟩
  case round =>
   obtain ⟨i',n1,rfl,hii,hij',hw1,hsc⟩:=hrel
   have hcw:∀ t,t<d.size->wr.cell? ⟨blk,off+t,none⟩=some (.int .u32 (Gk t)):=fun t ht=>by rw [hw1];exact hc t ht
   have HW1:Hid (wr=W1.drewN n1):=hw1;clear hw1;by_cases hle:i'<=j
   ·go_wp2_with fail
    go_big_quiet (first | (go_at_call 161;refine Calls.quiet_of_same (u_Less4 _ _ _)))
    go_wp2
    ·
      have ht:(!Sort.ltInt (Gk a) (Gk i'))=true:=by assumption
      go_roundw
      case rel=>exact ⟨i'+1,n1+nq,by go_num,by omega,by omega,by rw [HW1.out,World.drewN_drewN],(scanUp_go (fun x=>!Sort.ltInt dk[a]! x) dk j i' hle (by rw [<-AG.out a,<-AG.out i'];exact ht)).symm.trans hsc.out⟩
      case measure=>simp [intOf];omega
    ·
      have ht:(!Sort.ltInt (Gk a) (Gk i'))=false:=by assumption
      have hi2:Hid (i'=Sort.scanUp (fun x=>!Sort.ltInt dk[a]! x) dk j i):=(scanUp_end (fun x=>!Sort.ltInt dk[a]! x) dk j i' (Or.inr (by rw [<-AG.out a,<-AG.out i'];exact ht))).symm.trans hsc.out;clear ht
      have hw2:wr.drewN nq=W1.drewN (n1+nq):=by rw [HW1.out,World.drewN_drewN]
      clear hcw HW1 hsc
      go_loopw [10] (fun vj w2=>∃ (j' n2:Nat),vj=.int .i64 j'/\j'<=j/\i'<=j'+1/\w2=W1.drewN n2 /\
       Hid (Sort.scanDown (fun x=>Sort.ltInt dk[a]! x) dk i' j'=Sort.scanDown (fun x=>Sort.ltInt dk[a]! x) dk i' j))
       (fun vj _=>(intOf vj).toNat)
      case atStart=>exact ⟨j,n1+nq,rfl,nR _,hij',hw2,rfl⟩
      case round =>
       clear hw2;obtain ⟨j',n2,rfl,hjj,hij2,hw2,hsd⟩:=hrel
       have hcw:∀ t,t<d.size->wr.cell? ⟨blk,off+t,none⟩=some (.int .u32 (Gk t)):=fun t ht=>by rw [hw2];exact hc t ht
       have HW2:Hid (wr=W1.drewN n2):=hw2;clear hw2;by_cases hle2:i'<=j'
       ·go_wp2_with fail
        go_big_quiet (first | (go_at_call 161;refine Calls.quiet_of_same (u_Less4 _ _ _)))
        go_wp2
        ·
          have ht:Sort.ltInt (Gk a) (Gk j')=true:=by assumption
          go_roundw
          case rel=>exact ⟨j'-1,n2+nq,by go_num,by omega,by omega,by rw [HW2.out,World.drewN_drewN],(scanDown_go (fun x=>Sort.ltInt dk[a]! x) dk i' j' hle2 (by omega) (by rw [<-AG.out a,<-AG.out j'];exact ht)).symm.trans hsd.out⟩
          case measure=>simp [intOf];omega
        ·
          have ht:Sort.ltInt (Gk a) (Gk j')=false:=by assumption
          have hj2:Hid (j'=Sort.scanDown (fun x=>Sort.ltInt dk[a]! x) dk i' j):=(scanDown_end (fun x=>Sort.ltInt dk[a]! x) dk i' j' (Or.inr (by rw [<-AG.out a,<-AG.out j'];exact ht))).symm.trans hsd.out;clear hcw hsd ht
          have hw3:wr.drewN nq=W1.drewN (n2+nq):=by rw [HW2.out,World.drewN_drewN]
          generalize wr.drewN nq=W3 at hw3 ⊢
          have hc3:∀ t,t<d.size->W3.cell? ⟨blk,off+t,none⟩=some (.int .u32 (Gk t)):=fun t ht=>by rw [hw3];exact hc t ht
          have hf3:∀ t,t<d.size->W3.frozen? ⟨blk,off+t,none⟩=false:=fun t ht=>by rw [hw3];exact hf t ht
          have HW3:Hid (W3=W1.drewN (n2+nq)):=hw3;clear hw3;obtain ⟨v3,hy3⟩:=cell?_setCell_some (w:=W3) (p:=⟨blk,off+i',none⟩) (x:=.int .u32 (Gk j')) (q:=⟨blk,off+j',none⟩) (hc3 j' (by omega));have hlt3:=scans_lt Sort.ltInt a i j dk (by omega) hi2.out hj2.out hle2;go_wp2
          go_region
          all_goals go_wp2
          all_goals go_roundw
          case rel =>
           refine ⟨i'+1,j'-1,n+(n2+nq)+1,Sort.swp dk i' j',by go_num,by go_num,by omega,by omega,by omega,by rw [size_swp];exact hs,?_,?_⟩
           ·rw [HW3.out,AW.out,World.drewN_drewN,AG.out i',AG.out j'];exact swap_worldC (Value.int .u32) w blk off dk _ i' j' (by omega) (by omega)
           ·rw [<-AE.out];exact (partEq_go Sort.ltInt a i j dk hi2.out hj2.out (by omega)).symm
          case measure=>simp [intOf];omega
       ·go_wp2_with fail
        go_big_quiet (first | (go_at_call 161;refine Calls.quiet_of_same (u_Less4 _ _ _)))
        have hj2:Hid (j'=Sort.scanDown (fun x=>Sort.ltInt dk[a]! x) dk i' j):=(scanDown_end (fun x=>Sort.ltInt dk[a]! x) dk i' j' (Or.inl hle2)).symm.trans hsd.out;clear hcw hsd
        have hw3:wr.drewN nq=W1.drewN (n2+nq):=by rw [HW2.out,World.drewN_drewN]
        generalize wr.drewN nq=W3 at hw3 ⊢
        have hc3:∀ t,t<d.size->W3.cell? ⟨blk,off+t,none⟩=some (.int .u32 (Gk t)):=fun t ht=>by rw [hw3];exact hc t ht
        have hf3:∀ t,t<d.size->W3.frozen? ⟨blk,off+t,none⟩=false:=fun t ht=>by rw [hw3];exact hf t ht
        have HW3:Hid (W3=W1.drewN (n2+nq)):=hw3;clear hw3;go_wp2;go_ret;have e:=partEq_break Sort.ltInt a i j dk hi2.out hj2.out (by omega);refine ⟨?_,n+(n2+nq),?_⟩
        ·unfold Sort.partitionEqual;rw [<-AE.out,e];rfl
        ·unfold Sort.partitionEqual;rw [<-AE.out,e,HW3.out,AW.out,World.drewN_drewN]
   ·go_wp2_with fail
    go_big_quiet (first | (go_at_call 161;refine Calls.quiet_of_same (u_Less4 _ _ _)))
    go_wp2;have hi2:Hid (i'=Sort.scanUp (fun x=>!Sort.ltInt dk[a]! x) dk j i):=(scanUp_end (fun x=>!Sort.ltInt dk[a]! x) dk j i' (Or.inl hle)).symm.trans hsc.out
    have hw2:wr.drewN nq=W1.drewN (n1+nq):=by rw [HW1.out,World.drewN_drewN]
    clear hcw HW1 hsc
    go_loopw [10] (fun vj w2=>∃ (j' n2:Nat),vj=.int .i64 j'/\j'<=j/\i'<=j'+1/\w2=W1.drewN n2 /\
     Hid (Sort.scanDown (fun x=>Sort.ltInt dk[a]! x) dk i' j'=Sort.scanDown (fun x=>Sort.ltInt dk[a]! x) dk i' j))
     (fun vj _=>(intOf vj).toNat)
    case atStart=>exact ⟨j,n1+nq,rfl,nR _,hij',hw2,rfl⟩
    case round =>
     clear hw2;obtain ⟨j',n2,rfl,hjj,hij2,hw2,hsd⟩:=hrel
     have hcw:∀ t,t<d.size->wr.cell? ⟨blk,off+t,none⟩=some (.int .u32 (Gk t)):=fun t ht=>by rw [hw2];exact hc t ht
     have HW2:Hid (wr=W1.drewN n2):=hw2;clear hw2;by_cases hle2:i'<=j'
     ·exfalso;omega
     ·go_wp2_with fail
      go_big_quiet (first | (go_at_call 161;refine Calls.quiet_of_same (u_Less4 _ _ _)))
      have hj2:Hid (j'=Sort.scanDown (fun x=>Sort.ltInt dk[a]! x) dk i' j):=(scanDown_end (fun x=>Sort.ltInt dk[a]! x) dk i' j' (Or.inl hle2)).symm.trans hsd.out;clear hcw hsd
      have hw3:wr.drewN nq=W1.drewN (n2+nq):=by rw [HW2.out,World.drewN_drewN]
      generalize wr.drewN nq=W3 at hw3 ⊢
      have hc3:∀ t,t<d.size->W3.cell? ⟨blk,off+t,none⟩=some (.int .u32 (Gk t)):=fun t ht=>by rw [hw3];exact hc t ht
      have hf3:∀ t,t<d.size->W3.frozen? ⟨blk,off+t,none⟩=false:=fun t ht=>by rw [hw3];exact hf t ht
      have HW3:Hid (W3=W1.drewN (n2+nq)):=hw3;clear hw3;go_wp2;go_ret;have e:=partEq_break Sort.ltInt a i j dk hi2.out hj2.out (by omega);refine ⟨?_,n+(n2+nq),?_⟩
      ·unfold Sort.partitionEqual;rw [<-AE.out,e];rfl
      ·unfold Sort.partitionEqual;rw [<-AE.out,e,HW3.out,AW.out,World.drewN_drewN]
theorem u_partitionEqualOrdered (blk off cap a b pivot:Nat) (d:Array Int) (w:World) (hH:Holds (Value.int .u32) w blk off d) (hap:a<=pivot) (hpb:pivot<b) (hb:b<=d.size) (hsz:d.size<4611686018427387904) :
 Calls Tryz.prog 162 #[.slice (some ⟨blk,off,none⟩) d.size cap,.int .i64 a,.int .i64 b,.int .i64 pivot] w fun e w' =>
  e=.returned (.int .i64 (Sort.partitionEqual Sort.ltInt d a b pivot).1)/\∃ n,w'=putRow (Value.int .u32) (Sort.ahead w n) blk off (Sort.partitionEqual Sort.ltInt d a b pivot).2 :=
 (u_partitionEqual blk off cap a b pivot d w hH hap hpb hb hsz).mono fun _ _ ⟨he,n,hw⟩=>⟨he,n,hw⟩
theorem u_partition (blk off cap a b pivot:Nat) (d:Array Int) (w:World) (hH:Holds (Value.int .u32) w blk off d) (hap:a<=pivot) (hpb:pivot<b) (hb:b<=d.size) (hsz:d.size<4611686018427387904) :
 Calls Tryz.prog 163 #[.slice (some ⟨blk,off,none⟩) d.size cap,.int .i64 a,.int .i64 b,.int .i64 pivot] w fun e w' =>
  e=.returned (.tuple #[.int .i64 (Sort.partition Sort.ltInt d a b pivot).1,.bool (Sort.partition Sort.ltInt d a b pivot).2.1])/\∃ n,w'=(putRow (Value.int .u32) w blk off (Sort.partition Sort.ltInt d a b pivot).2.2).drewN n:=by
 have hla:a<d.size:=by omega
 have hlp:pivot<d.size:=by omega
 obtain ⟨G,hG⟩:∃ G:Nat->Int,∀ j,G j=d[j]!:=⟨fun j=>d[j]!,fun _=>rfl⟩
 have ca:w.cell? ⟨blk,off+a,none⟩=some (.int .u32 (G a)):=by rw [hG];exact (hH a hla).1
 have fa:=(hH a hla).2
 have cp:w.cell? ⟨blk,off+pivot,none⟩=some (.int .u32 (G pivot)):=by rw [hG];exact (hH pivot hlp).1
 have fp:=(hH pivot hlp).2;obtain ⟨v',hy'⟩:=cell?_setCell_some (w:=w) (p:=⟨blk,off+a,none⟩) (x:=.int .u32 (G pivot)) (q:=⟨blk,off+pivot,none⟩) cp
 have hw:((w.setCell ⟨blk,off+a,none⟩ (.int .u32 (G pivot))).setCell ⟨blk,off+pivot,none⟩ (.int .u32 (G a))).drew=(putRow (Value.int .u32) w blk off (Sort.swp d a pivot)).drewN 1:=by
  have e:=swap_worldC (Value.int .u32) w blk off d 0 a pivot hla hlp;rw [putRow_self _ w blk off d hH] at e;rw [hG a,hG pivot];exact e
 have AH:Hid (Holds (Value.int .u32) w blk off d):=hH;have HW0:=Hid.mk' hw;clear hG hH hw;go_enter Tryz.func163,Tryz.ntmps163;go_wp2
 go_region
 go_wp2;clear ca fa cp fp hy' v';have hw:=HW0.out;clear HW0;generalize ((w.setCell ⟨blk,off+a,none⟩ (.int .u32 (G pivot))).setCell ⟨blk,off+pivot,none⟩ (.int .u32 (G a))).drew=W1 at hw ⊢
 obtain ⟨dk,hdk⟩:∃ dk,dk=Sort.swp d a pivot:=⟨_,rfl⟩
 obtain ⟨n,hn⟩:∃ n:Nat,n=1:=⟨_,rfl⟩
 rw [<-hdk,<-hn] at hw;clear hn
 have hs:dk.size=d.size:=by rw [hdk,size_swp]
 have e1:((a:Int)+1)=((a+1:Nat):Int):=by omega
 have e2:((b:Int)-1)=((b-1:Nat):Int):=by omega
 rw [e1,e2];clear e1 e2
 obtain ⟨i,hi⟩:∃ i,i=a+1:=⟨_,rfl⟩
 obtain ⟨j,hj⟩:∃ j,j=b-1:=⟨_,rfl⟩
 rw [<-hi,<-hj]
 have hai:a<i:=by omega
 have hij:i<=j+1:=by omega
 have hjb:j<b:=by omega
 have HI:=Hid.mk' hi;have HJ:=Hid.mk' hj;have HDK:=Hid.mk' hdk;clear hi hj hdk
 have hHk:Holds (Value.int .u32) W1 blk off dk:=by
  rw [hw];exact holds_putRow (Value.int .u32) w blk off d dk AH.out hs
 obtain ⟨Gk,hG⟩:∃ Gk:Nat->Int,∀ t,Gk t=dk[t]!:=⟨fun t=>dk[t]!,fun _=>rfl⟩
 have hc:∀ t,t<d.size->W1.cell? ⟨blk,off+t,none⟩=some (.int .u32 (Gk t)):=fun t ht=>by rw [hG];exact (hHk t (by omega)).1
 have hf:∀ t,t<d.size->W1.frozen? ⟨blk,off+t,none⟩=false:=fun t ht=>(hHk t (by omega)).2;have AG:Hid (∀ t,Gk t=dk[t]!):=hG;have AW:Hid (W1=(putRow (Value.int .u32) w blk off dk).drewN n):=hw;clear hG hw hHk
 go_loopw [10] (fun vi w1=>∃ (i' n1:Nat),vi=.int .i64 i'/\i<=i'/\i'<=j+1/\w1=W1.drewN n1 /\
  Hid (Sort.scanUp (fun x=>Sort.ltInt x dk[a]!) dk j i'=Sort.scanUp (fun x=>Sort.ltInt x dk[a]!) dk j i))
  (fun vi _=>j+1-(intOf vi).toNat)
 case atStart=>exact ⟨i,0,rfl,nR _,hij,rfl,rfl⟩
 case round =>
  obtain ⟨i',n1,rfl,hii,hij',hw1,hsc⟩:=hrel
  have hcw:∀ t,t<d.size->wr.cell? ⟨blk,off+t,none⟩=some (.int .u32 (Gk t)):=fun t ht=>by rw [hw1];exact hc t ht
  have HW1:Hid (wr=W1.drewN n1):=hw1;clear hw1;by_cases hle:i'<=j
  ·go_wp2_with fail
   go_big_quiet (first | (go_at_call 161;refine Calls.quiet_of_same (u_Less4 _ _ _)))
   go_wp2
   ·
     have ht:Sort.ltInt (Gk i') (Gk a)=true:=by assumption
     go_roundw
     case rel=>exact ⟨i'+1,n1+nq,by go_num,by omega,by omega,by rw [HW1.out,World.drewN_drewN],(scanUp_go (fun x=>Sort.ltInt x dk[a]!) dk j i' hle (by rw [<-AG.out a,<-AG.out i'];exact ht)).symm.trans hsc.out⟩
     case measure=>simp [intOf];omega
   ·
     have ht:Sort.ltInt (Gk i') (Gk a)=false:=by assumption
     have hi2:Hid (i'=Sort.scanUp (fun x=>Sort.ltInt x dk[a]!) dk j i):=(scanUp_end (fun x=>Sort.ltInt x dk[a]!) dk j i' (Or.inr (by rw [<-AG.out a,<-AG.out i'];exact ht))).symm.trans hsc.out;clear ht
     have hw2:wr.drewN nq=W1.drewN (n1+nq):=by rw [HW1.out,World.drewN_drewN]
     clear hcw HW1 hsc
     go_loopw [11] (fun vj w2=>∃ (j' n2:Nat),vj=.int .i64 j'/\j'<=j/\i'<=j'+1/\w2=W1.drewN n2 /\
      Hid (Sort.scanDown (fun x=>!Sort.ltInt x dk[a]!) dk i' j'=Sort.scanDown (fun x=>!Sort.ltInt x dk[a]!) dk i' j))
      (fun vj _=>(intOf vj).toNat)
     case atStart=>exact ⟨j,n1+nq,rfl,nR _,hij',hw2,rfl⟩
     case round =>
      clear hw2;obtain ⟨j',n2,rfl,hjj,hij2,hw2,hsd⟩:=hrel
      have hcw:∀ t,t<d.size->wr.cell? ⟨blk,off+t,none⟩=some (.int .u32 (Gk t)):=fun t ht=>by rw [hw2];exact hc t ht
      have HW2:Hid (wr=W1.drewN n2):=hw2;clear hw2;by_cases hle2:i'<=j'
      ·go_wp2_with fail
       go_big_quiet (first | (go_at_call 161;refine Calls.quiet_of_same (u_Less4 _ _ _)))
       go_wp2
       ·
         have ht:(!Sort.ltInt (Gk j') (Gk a))=true:=by assumption
         go_roundw
         case rel=>exact ⟨j'-1,n2+nq,by go_num,by omega,by omega,by rw [HW2.out,World.drewN_drewN],(scanDown_go (fun x=>!Sort.ltInt x dk[a]!) dk i' j' hle2 (by omega) (by rw [<-AG.out a,<-AG.out j'];exact ht)).symm.trans hsd.out⟩
         case measure=>simp [intOf];omega
       ·
         have ht:(!Sort.ltInt (Gk j') (Gk a))=false:=by assumption
         have hj2:Hid (j'=Sort.scanDown (fun x=>!Sort.ltInt x dk[a]!) dk i' j):=(scanDown_end (fun x=>!Sort.ltInt x dk[a]!) dk i' j' (Or.inr (by rw [<-AG.out a,<-AG.out j'];exact ht))).symm.trans hsd.out;clear hcw hsd ht
         have hw3:wr.drewN nq=W1.drewN (n2+nq):=by rw [HW2.out,World.drewN_drewN]
         generalize wr.drewN nq=W3 at hw3 ⊢
         have hc3:∀ t,t<d.size->W3.cell? ⟨blk,off+t,none⟩=some (.int .u32 (Gk t)):=fun t ht=>by rw [hw3];exact hc t ht
         have hf3:∀ t,t<d.size->W3.frozen? ⟨blk,off+t,none⟩=false:=fun t ht=>by rw [hw3];exact hf t ht
         have HW3:Hid (W3=W1.drewN (n2+nq)):=hw3;clear hw3;obtain ⟨v3,hy3⟩:=cell?_setCell_some (w:=W3) (p:=⟨blk,off+i',none⟩) (x:=.int .u32 (Gk j')) (q:=⟨blk,off+j',none⟩) (hc3 j' (by omega));have hlt3:=part_scans_lt Sort.ltInt a i j dk (by omega) hi2.out hj2.out hle2;go_wp2
         go_region
         all_goals go_wp2
         obtain ⟨R,hR⟩:∃ R,R=Sort.partLoop Sort.ltInt a (i'+1) (j'-1) (Sort.swp dk i' j'):=⟨_,rfl⟩
         have HP:Hid (Sort.partition Sort.ltInt d a b pivot=(R.1,false,Sort.swp R.2 R.1 a)):=by rw [hR];exact part_first_go Sort.ltInt d a b pivot HI.out HJ.out HDK.out hi2.out hj2.out (by omega)
         have hw0:((W3.setCell ⟨blk,off+i',none⟩ (.int .u32 (Gk j'))).setCell ⟨blk,off+j',none⟩ (.int .u32 (Gk i'))).drew=(putRow (Value.int .u32) w blk off (Sort.swp dk i' j')).drewN (n+(n2+nq)+1):=by
          rw [HW3.out,AW.out,World.drewN_drewN,AG.out i',AG.out j'];exact swap_worldC (Value.int .u32) w blk off dk _ i' j' (by omega) (by omega)
         have HR:Hid (R=Sort.partLoop Sort.ltInt a (i'+1) (j'-1) (Sort.swp dk i' j')):=hR;clear hR hc hf hc3 hf3 hy3 HW3 AW AG hi2 hj2
         go_loopw [10,11] (fun vi vj wr=>∃ (i j n:Nat) (dk:Array Int),vi=.int .i64 i/\vj=.int .i64 j/\a<i/\i<=j+1/\j<b/\dk.size=d.size/\wr=(putRow (Value.int .u32) w blk off dk).drewN n /\
          Sort.partLoop Sort.ltInt a i j dk=R)
          (fun vi vj _=>(intOf vj).toNat+1-(intOf vi).toNat)
         case atStart=>exact ⟨i'+1,j'-1,_,Sort.swp dk i' j',by go_num,by go_num,by omega,by omega,by omega,by rw [size_swp];exact hs,hw0,HR.out.symm⟩
         case round =>
          clear hw0 HR;obtain ⟨i,j,n,dk,rfl,rfl,hai,hij,hjb,hs,hw,heq⟩:=hrel
          rename World=>W1
          have AE:Hid (Sort.partLoop Sort.ltInt a i j dk=R):=heq;clear heq
          have hHk:Holds (Value.int .u32) W1 blk off dk:=by
           rw [hw];exact holds_putRow (Value.int .u32) w blk off d dk AH.out hs
          obtain ⟨Gk,hG⟩:∃ Gk:Nat->Int,∀ t,Gk t=dk[t]!:=⟨fun t=>dk[t]!,fun _=>rfl⟩
          have hc:∀ t,t<d.size->W1.cell? ⟨blk,off+t,none⟩=some (.int .u32 (Gk t)):=fun t ht=>by rw [hG];exact (hHk t (by omega)).1
          have hf:∀ t,t<d.size->W1.frozen? ⟨blk,off+t,none⟩=false:=fun t ht=>(hHk t (by omega)).2;have AG:Hid (∀ t,Gk t=dk[t]!):=hG;have AW:Hid (W1=(putRow (Value.int .u32) w blk off dk).drewN n):=hw;clear hG hw hHk;go_wp2
          go_loopw [10] (fun vi w1=>∃ (i' n1:Nat),vi=.int .i64 i'/\i<=i'/\i'<=j+1/\w1=W1.drewN n1 /\
           Hid (Sort.scanUp (fun x=>Sort.ltInt x dk[a]!) dk j i'=Sort.scanUp (fun x=>Sort.ltInt x dk[a]!) dk j i))
           (fun vi _=>j+1-(intOf vi).toNat)
          case atStart=>exact ⟨i,0,rfl,nR _,hij,rfl,rfl⟩
          case round =>
           obtain ⟨i',n1,rfl,hii,hij',hw1,hsc⟩:=hrel
           have hcw:∀ t,t<d.size->wr.cell? ⟨blk,off+t,none⟩=some (.int .u32 (Gk t)):=fun t ht=>by rw [hw1];exact hc t ht
           have HW1:Hid (wr=W1.drewN n1):=hw1;clear hw1;by_cases hle:i'<=j
           ·go_wp2_with fail
            go_big_quiet (first | (go_at_call 161;refine Calls.quiet_of_same (u_Less4 _ _ _)))
            go_wp2
            ·
              have ht:Sort.ltInt (Gk i') (Gk a)=true:=by assumption
              go_roundw
              case rel=>exact ⟨i'+1,n1+nq,by go_num,by omega,by omega,by rw [HW1.out,World.drewN_drewN],(scanUp_go (fun x=>Sort.ltInt x dk[a]!) dk j i' hle (by rw [<-AG.out a,<-AG.out i'];exact ht)).symm.trans hsc.out⟩
              case measure=>simp [intOf];omega
            ·
              have ht:Sort.ltInt (Gk i') (Gk a)=false:=by assumption
              have hi2:Hid (i'=Sort.scanUp (fun x=>Sort.ltInt x dk[a]!) dk j i):=(scanUp_end (fun x=>Sort.ltInt x dk[a]!) dk j i' (Or.inr (by rw [<-AG.out a,<-AG.out i'];exact ht))).symm.trans hsc.out;clear ht
              have hw2:wr.drewN nq=W1.drewN (n1+nq):=by rw [HW1.out,World.drewN_drewN]
              clear hcw HW1 hsc
              go_loopw [11] (fun vj w2=>∃ (j' n2:Nat),vj=.int .i64 j'/\j'<=j/\i'<=j'+1/\w2=W1.drewN n2 /\
               Hid (Sort.scanDown (fun x=>!Sort.ltInt x dk[a]!) dk i' j'=Sort.scanDown (fun x=>!Sort.ltInt x dk[a]!) dk i' j))
               (fun vj _=>(intOf vj).toNat)
              case atStart=>exact ⟨j,n1+nq,rfl,nR _,hij',hw2,rfl⟩
              case round =>
               clear hw2;obtain ⟨j',n2,rfl,hjj,hij2,hw2,hsd⟩:=hrel
               have hcw:∀ t,t<d.size->wr.cell? ⟨blk,off+t,none⟩=some (.int .u32 (Gk t)):=fun t ht=>by rw [hw2];exact hc t ht
               have HW2:Hid (wr=W1.drewN n2):=hw2;clear hw2;by_cases hle2:i'<=j'
               ·go_wp2_with fail
                go_big_quiet (first | (go_at_call 161;refine Calls.quiet_of_same (u_Less4 _ _ _)))
                go_wp2
                ·
                  have ht:(!Sort.ltInt (Gk j') (Gk a))=true:=by assumption
                  go_roundw
                  case rel=>exact ⟨j'-1,n2+nq,by go_num,by omega,by omega,by rw [HW2.out,World.drewN_drewN],(scanDown_go (fun x=>!Sort.ltInt x dk[a]!) dk i' j' hle2 (by omega) (by rw [<-AG.out a,<-AG.out j'];exact ht)).symm.trans hsd.out⟩
                  case measure=>simp [intOf];omega
                ·
                  have ht:(!Sort.ltInt (Gk j') (Gk a))=false:=by assumption
                  have hj2:Hid (j'=Sort.scanDown (fun x=>!Sort.ltInt x dk[a]!) dk i' j):=(scanDown_end (fun x=>!Sort.ltInt x dk[a]!) dk i' j' (Or.inr (by rw [<-AG.out a,<-AG.out j'];exact ht))).symm.trans hsd.out;clear hcw hsd ht
                  have hw3:wr.drewN nq=W1.drewN (n2+nq):=by rw [HW2.out,World.drewN_drewN]
                  generalize wr.drewN nq=W3 at hw3 ⊢
                  have hc3:∀ t,t<d.size->W3.cell? ⟨blk,off+t,none⟩=some (.int .u32 (Gk t)):=fun t ht=>by rw [hw3];exact hc t ht
                  have hf3:∀ t,t<d.size->W3.frozen? ⟨blk,off+t,none⟩=false:=fun t ht=>by rw [hw3];exact hf t ht
                  have HW3:Hid (W3=W1.drewN (n2+nq)):=hw3;clear hw3;obtain ⟨v3,hy3⟩:=cell?_setCell_some (w:=W3) (p:=⟨blk,off+i',none⟩) (x:=.int .u32 (Gk j')) (q:=⟨blk,off+j',none⟩) (hc3 j' (by omega));have hlt3:=part_scans_lt Sort.ltInt a i j dk (by omega) hi2.out hj2.out hle2;go_wp2
                  go_region
                  all_goals go_wp2
                  all_goals go_roundw
                  case rel =>
                   refine ⟨i'+1,j'-1,n+(n2+nq)+1,Sort.swp dk i' j',by go_num,by go_num,by omega,by omega,by omega,by rw [size_swp];exact hs,?_,?_⟩
                   ·rw [HW3.out,AW.out,World.drewN_drewN,AG.out i',AG.out j'];exact swap_worldC (Value.int .u32) w blk off dk _ i' j' (by omega) (by omega)
                   ·exact (part_go Sort.ltInt a i j dk hi2.out hj2.out (by omega)).symm.trans AE.out
                  case measure=>simp [intOf];omega
               ·go_wp2_with fail
                go_big_quiet (first | (go_at_call 161;refine Calls.quiet_of_same (u_Less4 _ _ _)))
                have hj2:Hid (j'=Sort.scanDown (fun x=>!Sort.ltInt x dk[a]!) dk i' j):=(scanDown_end (fun x=>!Sort.ltInt x dk[a]!) dk i' j' (Or.inl hle2)).symm.trans hsd.out;clear hcw hsd
                have hw3:wr.drewN nq=W1.drewN (n2+nq):=by rw [HW2.out,World.drewN_drewN]
                generalize wr.drewN nq=W3 at hw3 ⊢
                have hc3:∀ t,t<d.size->W3.cell? ⟨blk,off+t,none⟩=some (.int .u32 (Gk t)):=fun t ht=>by rw [hw3];exact hc t ht
                have hf3:∀ t,t<d.size->W3.frozen? ⟨blk,off+t,none⟩=false:=fun t ht=>by rw [hw3];exact hf t ht
                have HW3:Hid (W3=W1.drewN (n2+nq)):=hw3;clear hw3;obtain ⟨v3,hy3⟩:=cell?_setCell_some (w:=W3) (p:=⟨blk,off+j',none⟩) (x:=.int .u32 (Gk a)) (q:=⟨blk,off+a,none⟩) (hc3 a (by omega))
                have hlj:j'<d.size:=by omega
                go_wp2
                go_region
                all_goals go_wp2
                all_goals go_ret2
                have e:Sort.partition Sort.ltInt d a b pivot=(j',false,Sort.swp dk j' a):=by
                 have e0:=(part_break Sort.ltInt a i j dk hi2.out hj2.out (by omega)).symm.trans AE.out;rw [HP.out,<-e0]
                refine ⟨?_,n+(n2+nq)+1,?_⟩
                ·rw [e];rfl
                ·rw [e,HW3.out,AW.out,World.drewN_drewN,AG.out a,AG.out j'];exact swap_worldC (Value.int .u32) w blk off dk _ j' a (by omega) (by omega)
           ·go_wp2_with fail
            go_big_quiet (first | (go_at_call 161;refine Calls.quiet_of_same (u_Less4 _ _ _)))
            go_wp2;have hi2:Hid (i'=Sort.scanUp (fun x=>Sort.ltInt x dk[a]!) dk j i):=(scanUp_end (fun x=>Sort.ltInt x dk[a]!) dk j i' (Or.inl hle)).symm.trans hsc.out
            have hw2:wr.drewN nq=W1.drewN (n1+nq):=by rw [HW1.out,World.drewN_drewN]
            clear hcw HW1 hsc
            go_loopw [11] (fun vj w2=>∃ (j' n2:Nat),vj=.int .i64 j'/\j'<=j/\i'<=j'+1/\w2=W1.drewN n2 /\
             Hid (Sort.scanDown (fun x=>!Sort.ltInt x dk[a]!) dk i' j'=Sort.scanDown (fun x=>!Sort.ltInt x dk[a]!) dk i' j))
             (fun vj _=>(intOf vj).toNat)
            case atStart=>exact ⟨j,n1+nq,rfl,nR _,hij',hw2,rfl⟩
            case round =>
             clear hw2;obtain ⟨j',n2,rfl,hjj,hij2,hw2,hsd⟩:=hrel
             have hcw:∀ t,t<d.size->wr.cell? ⟨blk,off+t,none⟩=some (.int .u32 (Gk t)):=fun t ht=>by rw [hw2];exact hc t ht
             have HW2:Hid (wr=W1.drewN n2):=hw2;clear hw2;by_cases hle2:i'<=j'
             ·exfalso;omega
             ·go_wp2_with fail
              go_big_quiet (first | (go_at_call 161;refine Calls.quiet_of_same (u_Less4 _ _ _)))
              have hj2:Hid (j'=Sort.scanDown (fun x=>!Sort.ltInt x dk[a]!) dk i' j):=(scanDown_end (fun x=>!Sort.ltInt x dk[a]!) dk i' j' (Or.inl hle2)).symm.trans hsd.out;clear hcw hsd
              have hw3:wr.drewN nq=W1.drewN (n2+nq):=by rw [HW2.out,World.drewN_drewN]
              generalize wr.drewN nq=W3 at hw3 ⊢
              have hc3:∀ t,t<d.size->W3.cell? ⟨blk,off+t,none⟩=some (.int .u32 (Gk t)):=fun t ht=>by rw [hw3];exact hc t ht
              have hf3:∀ t,t<d.size->W3.frozen? ⟨blk,off+t,none⟩=false:=fun t ht=>by rw [hw3];exact hf t ht
              have HW3:Hid (W3=W1.drewN (n2+nq)):=hw3;clear hw3;obtain ⟨v3,hy3⟩:=cell?_setCell_some (w:=W3) (p:=⟨blk,off+j',none⟩) (x:=.int .u32 (Gk a)) (q:=⟨blk,off+a,none⟩) (hc3 a (by omega))
              have hlj:j'<d.size:=by omega
              go_wp2
              go_region
              all_goals go_wp2
              all_goals go_ret2
              have e:Sort.partition Sort.ltInt d a b pivot=(j',false,Sort.swp dk j' a):=by
               have e0:=(part_break Sort.ltInt a i j dk hi2.out hj2.out (by omega)).symm.trans AE.out;rw [HP.out,<-e0]
              refine ⟨?_,n+(n2+nq)+1,?_⟩
              ·rw [e];rfl
              ·rw [e,HW3.out,AW.out,World.drewN_drewN,AG.out a,AG.out j'];exact swap_worldC (Value.int .u32) w blk off dk _ j' a (by omega) (by omega)
      ·go_wp2_with fail
       go_big_quiet (first | (go_at_call 161;refine Calls.quiet_of_same (u_Less4 _ _ _)))
       have hj2:Hid (j'=Sort.scanDown (fun x=>!Sort.ltInt x dk[a]!) dk i' j):=(scanDown_end (fun x=>!Sort.ltInt x dk[a]!) dk i' j' (Or.inl hle2)).symm.trans hsd.out;clear hcw hsd
       have hw3:wr.drewN nq=W1.drewN (n2+nq):=by rw [HW2.out,World.drewN_drewN]
       generalize wr.drewN nq=W3 at hw3 ⊢
       have hc3:∀ t,t<d.size->W3.cell? ⟨blk,off+t,none⟩=some (.int .u32 (Gk t)):=fun t ht=>by rw [hw3];exact hc t ht
       have hf3:∀ t,t<d.size->W3.frozen? ⟨blk,off+t,none⟩=false:=fun t ht=>by rw [hw3];exact hf t ht
       have HW3:Hid (W3=W1.drewN (n2+nq)):=hw3;clear hw3;obtain ⟨v3,hy3⟩:=cell?_setCell_some (w:=W3) (p:=⟨blk,off+j',none⟩) (x:=.int .u32 (Gk a)) (q:=⟨blk,off+a,none⟩) (hc3 a (by omega))
       have hlj:j'<d.size:=by omega
       go_wp2
       go_region
       all_goals go_wp2
       all_goals go_ret2
       have e:Sort.partition Sort.ltInt d a b pivot=(j',true,Sort.swp dk j' a):=part_first_break Sort.ltInt d a b pivot HI.out HJ.out HDK.out hi2.out hj2.out (by omega);refine ⟨?_,n+(n2+nq)+1,?_⟩
       ·rw [e];rfl
       ·rw [e,HW3.out,AW.out,World.drewN_drewN,AG.out a,AG.out j'];exact swap_worldC (Value.int .u32) w blk off dk _ j' a (by omega) (by omega)
  ·go_wp2_with fail
   go_big_quiet (first | (go_at_call 161;refine Calls.quiet_of_same (u_Less4 _ _ _)))
   go_wp2;have hi2:Hid (i'=Sort.scanUp (fun x=>Sort.ltInt x dk[a]!) dk j i):=(scanUp_end (fun x=>Sort.ltInt x dk[a]!) dk j i' (Or.inl hle)).symm.trans hsc.out
   have hw2:wr.drewN nq=W1.drewN (n1+nq):=by rw [HW1.out,World.drewN_drewN]
   clear hcw HW1 hsc
   go_loopw [11] (fun vj w2=>∃ (j' n2:Nat),vj=.int .i64 j'/\j'<=j/\i'<=j'+1/\w2=W1.drewN n2 /\
    Hid (Sort.scanDown (fun x=>!Sort.ltInt x dk[a]!) dk i' j'=Sort.scanDown (fun x=>!Sort.ltInt x dk[a]!) dk i' j))
    (fun vj _=>(intOf vj).toNat)
   case atStart=>exact ⟨j,n1+nq,rfl,nR _,hij',hw2,rfl⟩
   case round =>
    clear hw2;obtain ⟨j',n2,rfl,hjj,hij2,hw2,hsd⟩:=hrel
    have hcw:∀ t,t<d.size->wr.cell? ⟨blk,off+t,none⟩=some (.int .u32 (Gk t)):=fun t ht=>by rw [hw2];exact hc t ht
    have HW2:Hid (wr=W1.drewN n2):=hw2;clear hw2;by_cases hle2:i'<=j'
    ·exfalso;omega
    ·go_wp2_with fail
     go_big_quiet (first | (go_at_call 161;refine Calls.quiet_of_same (u_Less4 _ _ _)))
     have hj2:Hid (j'=Sort.scanDown (fun x=>!Sort.ltInt x dk[a]!) dk i' j):=(scanDown_end (fun x=>!Sort.ltInt x dk[a]!) dk i' j' (Or.inl hle2)).symm.trans hsd.out;clear hcw hsd
     have hw3:wr.drewN nq=W1.drewN (n2+nq):=by rw [HW2.out,World.drewN_drewN]
     generalize wr.drewN nq=W3 at hw3 ⊢
     have hc3:∀ t,t<d.size->W3.cell? ⟨blk,off+t,none⟩=some (.int .u32 (Gk t)):=fun t ht=>by rw [hw3];exact hc t ht
     have hf3:∀ t,t<d.size->W3.frozen? ⟨blk,off+t,none⟩=false:=fun t ht=>by rw [hw3];exact hf t ht
     have HW3:Hid (W3=W1.drewN (n2+nq)):=hw3;clear hw3;obtain ⟨v3,hy3⟩:=cell?_setCell_some (w:=W3) (p:=⟨blk,off+j',none⟩) (x:=.int .u32 (Gk a)) (q:=⟨blk,off+a,none⟩) (hc3 a (by omega))
     have hlj:j'<d.size:=by omega
     go_wp2
     go_region
     all_goals go_wp2
     all_goals go_ret2
     have e:Sort.partition Sort.ltInt d a b pivot=(j',true,Sort.swp dk j' a):=part_first_break Sort.ltInt d a b pivot HI.out HJ.out HDK.out hi2.out hj2.out (by omega);refine ⟨?_,n+(n2+nq)+1,?_⟩
     ·rw [e];rfl
     ·rw [e,HW3.out,AW.out,World.drewN_drewN,AG.out a,AG.out j'];exact swap_worldC (Value.int .u32) w blk off dk _ j' a (by omega) (by omega)
theorem u_partitionOrdered (blk off cap a b pivot:Nat) (d:Array Int) (w:World) (hH:Holds (Value.int .u32) w blk off d) (hap:a<=pivot) (hpb:pivot<b) (hb:b<=d.size) (hsz:d.size<4611686018427387904) :
 Calls Tryz.prog 163 #[.slice (some ⟨blk,off,none⟩) d.size cap,.int .i64 a,.int .i64 b,.int .i64 pivot] w fun e w' =>
  e=.returned (.tuple #[.int .i64 (Sort.partition Sort.ltInt d a b pivot).1,.bool (Sort.partition Sort.ltInt d a b pivot).2.1])/\∃ n,w'=putRow (Value.int .u32) (Sort.ahead w n) blk off (Sort.partition Sort.ltInt d a b pivot).2.2 :=
 (u_partition blk off cap a b pivot d w hH hap hpb hb hsz).mono fun _ _ ⟨he,n,hw⟩=>⟨he,n,hw⟩
end Go.Proofs.YtenfkghoolegfaaGreatDoor
namespace Go.Proofs.YtenfkghoolegfaaGreatDoor
open Go.Sort Go.RowKit
theorem len8tab_sizeM:(Lib.len8tab.size:Int)=256:=by
 have:Lib.len8tab.size=256:=by decide
 omega
theorem wrap_addM (k a b:Nat) (hk:k<=56) (ha:a<=8) (hb:b=k+a):RowKit.wrap64 ((k:Int)+RowKit.wrap64 (a:Int))=(b:Int):=by
 unfold RowKit.wrap64;omega
theorem wrap_wrapM (a:Nat) (ha:a<=8):RowKit.wrap64 (RowKit.wrap64 (a:Int))=(a:Int):=by
 unfold RowKit.wrap64;omega
theorem wrap_oneM (a:Nat) (ha:a<=8):RowKit.wrap64 (a:Int)=(a:Int):=by
 unfold RowKit.wrap64;omega
theorem len8_getM (y:Int) (h:y.toNat<Lib.len8tab.size):((Lib.len8tab[y.toNat]'h).toNat:Int)=Lib.len8 y:=by
 unfold Lib.len8;rw [getElem?_pos Lib.len8tab y.toNat h];rfl
theorem u_bits_Len64 (x:Int) (w:World) (h0:0<=x) (h1:x<=18446744073709551615) :
 Calls Tryz.prog 165 #[.int .u64 x] w fun e w'=>e=.returned (.int .i64 (Lib.bitLen x.toNat))/\w'=w:=by
 go_enter Tryz.func165,Tryz.ntmps165;go_wp2
 all_goals first
  | (go_ret;refine ⟨congrArg Ending.returned (congrArg (Value.int IntKind.i64) ?_),rfl⟩;go_light)
  | (
   exfalso
   go_light
   have hs:=len8tab_sizeM
   omega)
 all_goals first
  | (
   rw [len8_getM (x / 4294967296 / 65536 / 256) _,Lib.len8_of (x / 4294967296 / 65536 / 256) (by omega) (by omega)]
   have e:(x / 4294967296 / 65536 / 256).toNat=x.toNat / 72057594037927936:=by omega
   have l:=Lib.bitLen_le8' (x / 4294967296 / 65536 / 256) (by omega) (by omega);have s:=Lib.bitLen_shift56 x.toNat (by omega) (by omega);rw [e] at l ⊢
   exact wrap_addM 56 _ _ (by decide) l s)
  | (
   rw [len8_getM (x / 4294967296 / 65536) _,Lib.len8_of (x / 4294967296 / 65536) (by omega) (by omega)]
   have e:(x / 4294967296 / 65536).toNat=x.toNat / 281474976710656:=by omega
   have l:=Lib.bitLen_le8' (x / 4294967296 / 65536) (by omega) (by omega);have s:=Lib.bitLen_shift48 x.toNat (by omega) (by omega);rw [e] at l ⊢
   exact wrap_addM 48 _ _ (by decide) l s)
  | (
   rw [len8_getM (x / 4294967296 / 256) _,Lib.len8_of (x / 4294967296 / 256) (by omega) (by omega)]
   have e:(x / 4294967296 / 256).toNat=x.toNat / 1099511627776:=by omega
   have l:=Lib.bitLen_le8' (x / 4294967296 / 256) (by omega) (by omega);have s:=Lib.bitLen_shift40 x.toNat (by omega) (by omega);rw [e] at l ⊢
   exact wrap_addM 40 _ _ (by decide) l s)
  | (
   rw [len8_getM (x / 4294967296) _,Lib.len8_of (x / 4294967296) (by omega) (by omega)]
   have e:(x / 4294967296).toNat=x.toNat / 4294967296:=by omega
   have l:=Lib.bitLen_le8' (x / 4294967296) (by omega) (by omega);have s:=Lib.bitLen_shift32 x.toNat (by omega) (by omega);rw [e] at l ⊢
   exact wrap_addM 32 _ _ (by decide) l s)
  | (
   rw [len8_getM (x / 65536 / 256) _,Lib.len8_of (x / 65536 / 256) (by omega) (by omega)]
   have e:(x / 65536 / 256).toNat=x.toNat / 16777216:=by omega
   have l:=Lib.bitLen_le8' (x / 65536 / 256) (by omega) (by omega);have s:=Lib.bitLen_shift24 x.toNat (by omega) (by omega);rw [e] at l ⊢
   exact wrap_addM 24 _ _ (by decide) l s)
  | (
   rw [len8_getM (x / 65536) _,Lib.len8_of (x / 65536) (by omega) (by omega)]
   have e:(x / 65536).toNat=x.toNat / 65536:=by omega
   have l:=Lib.bitLen_le8' (x / 65536) (by omega) (by omega);have s:=Lib.bitLen_shift16 x.toNat (by omega) (by omega);rw [e] at l ⊢
   exact wrap_addM 16 _ _ (by decide) l s)
  | (
   rw [len8_getM (x / 256) _,Lib.len8_of (x / 256) (by omega) (by omega)]
   have e:(x / 256).toNat=x.toNat / 256:=by omega
   have l:=Lib.bitLen_le8' (x / 256) (by omega) (by omega);have s:=Lib.bitLen_shift8 x.toNat (by omega) (by omega);rw [e] at l ⊢
   exact wrap_addM 8 _ _ (by decide) l s)
  | (
   rw [len8_getM (x) _,Lib.len8_of (x) (by omega) (by omega)]
   have e:(x).toNat=x.toNat:=by omega
   have l:=Lib.bitLen_le8' (x) (by omega) (by omega);rw [e] at l ⊢
   first | exact wrap_wrapM _ l | exact wrap_addM 0 _ _ (by decide) l (by omega) | exact wrap_oneM _ l)
theorem u_bits_Len (x:Int) (w:World) (h0:0<=x) (h1:x<=18446744073709551615):Calls Tryz.prog 110 #[.int .u64 x] w fun e w'=>e=.returned (.int .i64 (Lib.bitLen x.toNat))/\w'=w:=by
 go_enter Tryz.func110,Tryz.ntmps110
 go_wp2_with (go_at_call 165;refine (u_bits_Len64 x _ h0 h1).mono ?_;rintro e w' ⟨rfl,rfl⟩)
 go_ret;exact ⟨rfl,rfl⟩
theorem u_xorshift_Next (rb ro X:Nat) (hX:X<18446744073709551616) (w:World) (hc:w.cell? ⟨rb,ro,none⟩=some (.int .u64 X)) (hf:w.frozen? ⟨rb,ro,none⟩=false) :
 Calls Tryz.prog 195 #[.pointer (some ⟨rb,ro,none⟩)] w fun e w'=>e=.returned (.int .u64 (xorNextN X:Nat))/\w'=(w.setCell ⟨rb,ro,none⟩ (.int .u64 (xorNextN X:Nat))).drewN 3:=by
 obtain ⟨A,hA⟩:∃ A:Nat,A=X ^^^ (X*8192 % 18446744073709551616):=⟨_,rfl⟩
 obtain ⟨B,hB⟩:∃ B:Nat,B=A ^^^ (A / 128):=⟨_,rfl⟩
 obtain ⟨C,hC⟩:∃ C:Nat,C=B ^^^ (B*131072 % 18446744073709551616):=⟨_,rfl⟩
 have lA:A<18446744073709551616:=by rw [hA];exact Nat.xor_lt_two_pow (n:=64) (by omega) (by omega)
 have lB:B<18446744073709551616:=by rw [hB];exact Nat.xor_lt_two_pow (n:=64) (by omega) (by omega)
 have e1:bits .xor .u64 (X:Int) (IntKind.u64.wrap ((X:Int)*8192))=(A:Int):=by
  rw [IntKind.wrap_u64,show ((X:Int)*8192 % 18446744073709551616)=((X*8192 % 18446744073709551616:Nat):Int) by omega,bits_xor_u64_nat _ _ hX (by omega),hA]
 have e2:bits .xor .u64 (A:Int) ((A:Int) / 128)=(B:Int):=by
  rw [show ((A:Int) / 128)=((A / 128:Nat):Int) by omega,bits_xor_u64_nat _ _ lA (by omega),hB]
 have e3:bits .xor .u64 (B:Int) (IntKind.u64.wrap ((B:Int)*131072))=(C:Int):=by
  rw [IntKind.wrap_u64,show ((B:Int)*131072 % 18446744073709551616)=((B*131072 % 18446744073709551616:Nat):Int) by omega,bits_xor_u64_nat _ _ lB (by omega),hC]
 have hv:xorNextN X=C:=by unfold xorNextN;simp only [];rw [<-hA,<-hB,<-hC]
 rw [hv];clear hA hB hC hv;have hss:∀ v v',(w.setCell ⟨rb,ro,none⟩ v).setCell ⟨rb,ro,none⟩ v'=w.setCell ⟨rb,ro,none⟩ v':=setCell_setCell w rb ro;go_enter Tryz.func195,Tryz.ntmps195;go_wp2
 go_region
 all_goals go_wp2
 all_goals go_region
 all_goals go_wp2
 all_goals go_region
 all_goals go_wp2
 go_ret;exact ⟨rfl,rfl⟩
theorem u_nextPowerOfTwo (n:Nat) (hn:n<4611686018427387904) (w:World) :
 Calls Tryz.prog 194 #[.int .i64 n] w fun e w'=>e=.returned (.int .u64 ((1 <<< bitsLen n:Nat):Int))/\w'=w:=by
 have hLen:∀ w,Calls Tryz.prog 110 #[.int .u64 (n:Int)] w fun e w'=>e=.returned (.int .i64 (bitsLen n:Nat))/\w'=w:=fun w=>by
  have h:=u_bits_Len (n:Int) w (by omega) (by omega)
  rwa [Int.toNat_natCast,bitLen_eq _ (by omega)] at h
 have hk:bitsLen n<=62:=(bitsLen_le_iff n 62).2 (by omega);have hp:=wrap_two_pow (bitsLen n) hk;go_enter Tryz.func194,Tryz.ntmps194
 go_wp2_with (first | (go_at_call 110;refine (hLen _).mono ?_;rintro e w' ⟨rfl,rfl⟩))
 go_ret;exact ⟨rfl,rfl⟩
theorem u_breakPatterns_go (blk off cap a L:Nat) (d:Array Int) (w:World) (hH:Holds (Value.int .u32) w blk off d) (hblk:blk<w.heap.size) (hb:a+L<=d.size) (hsz:d.size<4611686018427387904) (h8:8<=L) :
 Calls Tryz.prog 157 #[.slice (some ⟨blk,off,none⟩) d.size cap,.int .i64 a,.int .i64 ((a+L:Nat):Int)] w fun e w' =>
  e=.returned (.tuple #[])/\∃ n os,w'=grow (putRow (Value.int .u32) (Sort.ahead w n) blk off (breakPatterns d a (a+L))) os:=by
 rw [breakPatterns_eq d a L h8]
 obtain ⟨M,hM⟩:∃ M:Nat,M=1 <<< bitsLen L:=⟨_,rfl⟩
 have hM1:1<=M:=by rw [hM,Nat.one_shiftLeft];exact Nat.two_pow_pos _
 have hM2:M<=2*L:=by rw [hM,Nat.one_shiftLeft];exact two_pow_bitsLen_le (by omega)
 have hNP:∀ w,Calls Tryz.prog 194 #[.int .i64 (L:Int)] w fun e w'=>e=.returned (.int .u64 (M:Int))/\w'=w:=by rw [hM];exact fun w=>u_nextPowerOfTwo L (by omega) w
 rw [<-hM];clear hM;have HH:Hid (Holds (Value.int .u32) w blk off d):=hH
 have HST:Hid (w.alloc (Obj.cells #[.int .u64 (L:Int)] 279)=grow (putRow (Value.int .u32) (Sort.ahead w 0) blk off d) #[Obj.cells #[.int .u64 ((UInt64.ofNat L).toNat:Int)] 279]):=by
  show _=_;rw [show Sort.ahead w 0=w from rfl,putRow_self _ _ _ _ _ hH,alloc_eq_grow,show (UInt64.ofNat L).toNat=L from by simp;omega]
 clear hH;go_enter Tryz.func157,Tryz.ntmps157
 go_wp2_with (first | (go_at_call 194;rw [show ((a:Int)+(L:Int)-(a:Int))=(L:Int) by omega];refine (hNP _).mono ?_;rintro e w' ⟨rfl,rfl⟩))
 go_loopw [9] (fun vi wr=>∃ (t n:Nat) (r:UInt64) (dk:Array Int),vi=.int .i64 ((a+L / 4*2-1+t:Nat):Int)/\t<=3/\dk.size=d.size /\
  wr=grow (putRow (Value.int .u32) (Sort.ahead w n) blk off dk) #[Obj.cells #[.int .u64 (r.toNat:Int)] 279] /\
  bpRest a L M (a+L / 4*2-1) (3-t) t (r,dk)=bpRest a L M (a+L / 4*2-1) 3 0 (UInt64.ofNat L,d)) (fun vi _=>a+L / 4*2+3-(intOf vi).toNat)
 case atStart=>exact ⟨0,0,UInt64.ofNat L,d,by congr 1;omega,by omega,rfl,HST.out,rfl⟩
 case round =>
  obtain ⟨t,n,r,dk,rfl,ht,hsk,hw,hR⟩:=hrel
  obtain ⟨R,hRr⟩:∃ R:Nat,R=r.toNat:=⟨_,rfl⟩
  have lR:R<18446744073709551616:=by rw [hRr];exact r.toNat_lt
  obtain ⟨R',hR'⟩:∃ R':Nat,R'=xorNextN R:=⟨_,rfl⟩
  have lR':R'<18446744073709551616:=by rw [hR'];exact xorNextN_lt R lR
  obtain ⟨O,hO⟩:∃ O:Nat,O=R' &&& (M-1):=⟨_,rfl⟩
  have lO:O<=M-1:=by rw [hO];exact Nat.and_le_right
  have eAnd:bits .and .u64 (R':Int) ((M:Int)-1)=(O:Int):=by
   rw [show ((M:Int)-1)=((M-1:Nat):Int) by omega,bits_and_u64_nat _ _ lR' (by omega),hO]
  obtain ⟨G,hG⟩:∃ G:Nat->Int,∀ x,G x=dk[x]!:=⟨fun x=>dk[x]!,fun _=>rfl⟩
  have hz:(putRow (Value.int .u32) (Sort.ahead w n) blk off dk).heap.size=w.heap.size:=by simp
  have hcw:∀ x,x<d.size->wr.cell? ⟨blk,off+x,none⟩=some (.int .u32 (G x)):=fun x hx=>by
   rw [hw,cell?_grow _ _ _ (by rw [hz];exact hblk),hG];exact cell?_putRow _ _ _ _ d dk (holds_ahead _ _ _ _ _ _ HH.out) hsk x (by omega)
  have hfw:∀ x,x<d.size->wr.frozen? ⟨blk,off+x,none⟩=false:=fun x hx=>by
   rw [hw,frozen?_grow _ _ _ (by rw [hz];exact hblk),frozen?_putRow];exact ((holds_ahead _ _ n _ _ _ HH.out) x hx).2
  have hcB:wr.cell? ⟨w.heap.size,0,none⟩=some (.int .u64 (R:Int)):=by rw [hw,hRr,<-hz];exact grow_one_cell _ _ _
  have hfB:wr.frozen? ⟨w.heap.size,0,none⟩=false:=by rw [hw,<-hz];exact grow_one_frozen _ _ _
  have hNext:Calls Tryz.prog 195 #[.pointer (some ⟨w.heap.size,0,none⟩)] wr fun e w'=>e=.returned (.int .u64 (R':Int))/\w'=(wr.setCell ⟨w.heap.size,0,none⟩ (.int .u64 (R':Int))).drewN 3:=by
   rw [hR'];exact u_xorshift_Next _ _ R lR wr hcB hfB
  have HW:Hid (wr=grow (putRow (Value.int .u32) (Sort.ahead w n) blk off dk) #[Obj.cells #[.int .u64 (r.toNat:Int)] 279]):=hw;have HG:Hid (∀ x,G x=dk[x]!):=hG;have HR:Hid (bpRest a L M (a+L / 4*2-1) (3-t) t (r,dk)=bpRest a L M (a+L / 4*2-1) 3 0 (UInt64.ofNat L,d)):=hR
  have HN:Hid (R'=(xorNext r).toNat/\O=(xorNext r).toNat &&& (M-1)):=by
   have e:R'=(xorNext r).toNat:=by rw [hR',hRr,xorNext_toNat]
   exact ⟨e,by rw [hO,e]⟩
  clear hw hG hR hRr hR' hO
  go_wp2_with (first | (go_at_call 195;refine hNext.mono ?_;rintro e w' ⟨rfl,rfl⟩))
  ·
    have hLO:L<=O:=by omega
    by_cases hEq:a+L / 4*2-1+t=a+(O-L)
    all_goals
     go_region
     all_goals go_wp2
     go_roundw
     case rel =>
      refine ⟨t+1,n+4,xorNext r,swp dk (a+L / 4*2-1+t) (a+(O-L)),by first | rfl | (congr 1 <;> omega),by omega,by rw [size_swp];exact hsk,?_,?_⟩
      ·(try rw [hEq])
       rw [HW.out,HN.out.1];simp only [HG.out];exact step_world (Value.int .u32) w n 4 blk off dk _ _ hblk (by omega) (by omega) _ _ _
      ·rw [<-HR.out,bp_step a L M _ t r dk (O-L) (by omega) (by rw [<-HN.out.2,if_pos (by omega)])]
     case measure=>simp [intOf];omega
  ·have hLO:¬ L<=O:=by omega
   by_cases hEq:a+L / 4*2-1+t=a+O
   all_goals
    go_region
    all_goals go_wp2
    go_roundw
    case rel =>
     refine ⟨t+1,n+4,xorNext r,swp dk (a+L / 4*2-1+t) (a+O),by first | rfl | (congr 1 <;> omega),by omega,by rw [size_swp];exact hsk,?_,?_⟩
     ·(try rw [hEq])
      rw [HW.out,HN.out.1];simp only [HG.out];exact step_world (Value.int .u32) w n 4 blk off dk _ _ hblk (by omega) (by omega) _ _ _
     ·rw [<-HR.out,bp_step a L M _ t r dk O (by omega) (by rw [<-HN.out.2,if_neg (by omega)])]
    case measure=>simp [intOf];omega
  ·
    obtain rfl:t=3:=by omega
    go_end0
    exact ⟨rfl,n,_,by rw [<-HR.out,HW.out];rfl⟩
theorem u_breakPatterns (blk off cap a b:Nat) (d:Array Int) (w:World) (hH:Holds (Value.int .u32) w blk off d) (hblk:blk<w.heap.size) (hab:a<=b) (hb:b<=d.size) (hsz:d.size<4611686018427387904) :
 Calls Tryz.prog 157 #[.slice (some ⟨blk,off,none⟩) d.size cap,.int .i64 a,.int .i64 b] w fun e w' =>
  e=.returned (.tuple #[])/\∃ n os,w'=grow (putRow (Value.int .u32) (Sort.ahead w n) blk off (breakPatterns d a b)) os:=by
 obtain ⟨L,rfl⟩:∃ L,b=a+L:=⟨b-a,by omega⟩
 by_cases h8:8<=L
 ·exact u_breakPatterns_go blk off cap a L d w hH hblk hb hsz h8
 ·have hv:breakPatterns d a (a+L)=d:=by unfold breakPatterns;simp only [Nat.add_sub_cancel_left];rw [if_neg h8]
  rw [hv]
  have HST:Hid (w=grow (putRow (Value.int .u32) (Sort.ahead w 0) blk off d) #[]):=by
   show _=_;rw [grow_empty,show Sort.ahead w 0=w from rfl,putRow_self _ _ _ _ _ hH]
  clear hH;go_enter Tryz.func157,Tryz.ntmps157;go_wp2
  go_end0
  exact ⟨rfl,0,#[],HST.out⟩
end Go.Proofs.YtenfkghoolegfaaGreatDoor
namespace Go.Proofs.YtenfkghoolegfaaGreatDoor
open Go.Sort Go.RowKit
theorem u_Less3 (x y:Int) (w:World):Calls Tryz.prog 161 #[.int .u32 x,.int .u32 y] w fun e w'=>e=.returned (.bool (Sort.ltInt x y))/\w'=w:=by
 refine (Less_any x y w).mono ?_;rintro e w' ⟨rfl,h⟩;exact ⟨rfl,h⟩
theorem u_reverseRange (blk off cap:Nat) (d:Array Int) (a b:Nat) (w:World) (hH:Holds (Value.int .u32) w blk off d) (hab:a<=b) (hb:b<=d.size) (hsz:d.size<4611686018427387904) :
 Calls Tryz.prog 159 #[.slice (some ⟨blk,off,none⟩) d.size cap,.int .i64 a,.int .i64 b] w fun e w'=>e=.returned (.tuple #[])/\∃ n,w'=putRow (Value.int .u32) (Sort.ahead w n) blk off (reverseRange d a b):=by
 go_enter Tryz.func159,Tryz.ntmps159;go_wp2
 go_loopg [6,7] (b-a) (fun k s6 s7 wr=>∃ (i jn:Nat) (jz:Int) (dk:Array Int) (n:Nat),s6=.int .i64 i/\s7=.int .i64 jz/\((i:Int)<jz->jz=jn/\jn<d.size)/\(¬ (i:Int)<jz->¬ i<jn)/\jn-i<=k /\
  dk.size=d.size/\wr=putRow (Value.int .u32) (Sort.ahead w n) blk off dk/\reverseLoop i jn dk=reverseLoop a (b-1) d)
 case atStart=>exact ⟨a,b-1,(b:Int)-1,d,0,rfl,rfl,fun h=>⟨by omega,by omega⟩,fun h=>by omega,by omega,rfl,(putRow_self (Value.int .u32) w blk off d hH).symm,rfl⟩
 case round =>
  obtain ⟨i,jn,jz,dk,n,rfl,rfl,h1,h2,hk,hds,hwr,heq⟩:=hrel;by_cases hlt:(i:Int)<jz
  ·obtain ⟨rfl,hjn⟩:=h1 hlt
   have hij:i<jn:=by omega
   have hHk:Holds (Value.int .u32) wr blk off dk:=by rw [hwr];exact holds_putRow (Value.int .u32) _ blk off d dk (holds_ahead (Value.int .u32) w n blk off d hH) hds
   obtain ⟨ci,fi⟩:=hHk i (by omega);obtain ⟨cj,fj⟩:=hHk jn (by omega);have A:Aside (wr=putRow (Value.int .u32) (Sort.ahead w n) blk off dk):=hwr;clear hwr hHk hH h1 h2
   go_wp2_with fail
   go_region
   go_wp2
   go_roundg (jn-1-(i+1))
   case measure=>omega
   case rel =>
    rw [reverseLoop,if_pos hij] at heq
    exact ⟨i+1,jn-1,(jn:Int)-1,swp dk i jn,n+1,by simp,rfl,fun h=>⟨by omega,by omega⟩,fun h=>by omega,nR _,by rw [size_swp];exact hds,
     swap_world (Value.int .u32) (by omega) (by omega) A.out (by simp [getElem!_pos,show jn<dk.size by omega]) rfl,heq⟩
  ·have hnot:=h2 hlt;go_wp2
   go_end0
   refine ⟨rfl,n,?_⟩;rw [reverseLoop,if_neg hnot] at heq;rw [reverseRange,<-heq]
theorem u_siftDown (blk off len cap:Nat) (d:Array Int) (hlen:d.size=len) (lo hi first:Nat) (w:World) (hH:Holds (Value.int .u32) w blk off d) (hlo:lo<=hi) (hb:first+hi<=d.size) (hsz:d.size<4611686018427387904) :
 Calls Tryz.prog 193 #[.slice (some ⟨blk,off,none⟩) len cap,.int .i64 lo,.int .i64 hi,.int .i64 first] w fun e w'=>e=.returned (.tuple #[])/\∃ n,w'=putRow (Value.int .u32) (Sort.ahead w n) blk off (siftDown ltInt hi first lo d):=by
 subst hlen;go_enter Tryz.func193,Tryz.ntmps193;go_wp2
 go_loopg [8] (hi-lo) (fun k s8 wr=>∃ (root:Nat) (dk:Array Int) (n:Nat),s8=.int .i64 root/\root<=hi/\hi-root<=k/\dk.size=d.size/\wr=putRow (Value.int .u32) (Sort.ahead w n) blk off dk/\siftDown ltInt hi first root dk=siftDown ltInt hi first lo d)
 case atStart=>exact ⟨lo,d,0,rfl,hlo,nR _,rfl,(putRow_self (Value.int .u32) w blk off d hH).symm,rfl⟩
 case round =>
  obtain ⟨root,dk,n,rfl,hr,hk,hds,hwr,heq⟩:=hrel
  have hHk:Holds (Value.int .u32) wr blk off dk:=by rw [hwr];exact holds_putRow (Value.int .u32) _ blk off d dk (holds_ahead (Value.int .u32) w n blk off d hH) hds
  have hcw:∀ t,t<d.size->wr.cell? ⟨blk,off+t,none⟩=some (.int .u32 (dk[t]!)):=fun t ht=>(hHk t (by omega)).1;have hfw:∀ t,t<d.size->wr.frozen? ⟨blk,off+t,none⟩=false:=fun t ht=>(hHk t (by omega)).2;have A:Aside (wr=putRow (Value.int .u32) (Sort.ahead w n) blk off dk):=hwr;clear hwr hH hHk;by_cases h0:hi<=2*root+1
  ·
    have h0z:(hi:Int)<=2*(root:Int)+1:=by omega
    go_wp2
    go_end0
    refine ⟨rfl,n,?_⟩;rw [A.out,<-heq,sd_end ltInt dk h0]
  ·
    have h0z:¬ ((hi:Int)<=2*(root:Int)+1):=by omega
    by_cases h1:2*root+2<hi
    ·have h1z:2*(root:Int)+1+1<(hi:Int):=by omega
     go_wp2_with fail
     go_big_quiet (first | (go_at_call 161;refine Calls.quiet_of_same (u_Less3 _ _ _)))
     go_wp2_with fail
     ·
       have hL:ltInt dk[first+2*root+1]! dk[first+2*root+2]! = true:=by assumption
       revert nq;intro nq1
       have hcw2:∀ t,t<d.size->(wr.drewN nq1).cell? ⟨blk,off+t,none⟩=some (.int .u32 (dk[t]!)):=hcw;have hfw2:∀ t,t<d.size->(wr.drewN nq1).frozen? ⟨blk,off+t,none⟩=false:=hfw;have A2:Aside (wr.drewN nq1=putRow (Value.int .u32) (Sort.ahead w (n+nq1)) blk off dk):=drewN_world (Value.int .u32) A.out nq1;clear hcw hfw A;generalize wr.drewN nq1=wr2 at hcw2 hfw2 A2 ⊢
       go_big_quiet (first | (go_at_call 161;refine Calls.quiet_of_same (u_Less3 _ _ _)))
       go_wp2_with fail
       ·
         have hS:ltInt dk[first+root]! dk[first+2*root+2]! = false:=by
          have:(!ltInt dk[first+root]! dk[first+2*root+2]!)=true:=by assumption
          simpa using this
         (try simp only [Exit.inBlock,Exit.then]);refine bodyPost_ret (results_none rfl _ _ _) rfl ?_
         refine ⟨rfl,n+nq1+nq,?_⟩;rw [drewN_world (Value.int .u32) A2.out nq,<-heq,sd_right_stop ltInt dk h1 hL hS]
       ·
         have hG:ltInt dk[first+root]! dk[first+2*root+2]! = true:=by
          have:(!ltInt dk[first+root]! dk[first+2*root+2]!)=false:=by assumption
          simpa using this
         have hcw3:∀ t,t<d.size->(wr2.drewN nq).cell? ⟨blk,off+t,none⟩=some (.int .u32 (dk[t]!)):=hcw2;have hfw3:∀ t,t<d.size->(wr2.drewN nq).frozen? ⟨blk,off+t,none⟩=false:=hfw2;have A3:Aside (wr2.drewN nq=putRow (Value.int .u32) (Sort.ahead w (n+nq1+nq)) blk off dk):=drewN_world (Value.int .u32) A2.out nq;clear hcw2 hfw2 A2;generalize wr2.drewN nq=wr3 at hcw3 hfw3 A3 ⊢
         go_region
         go_wp2
         go_roundg (hi-(2*root+2))
         case measure=>omega
         case rel =>
          refine ⟨2*root+2,swp dk (first+root) (first+(2*root+1+1)),n+nq1+nq+1,by simp <;> omega,by omega,nR _,by rw [size_swp];exact hds,swap_world (Value.int .u32) (by omega) (by omega) A3.out rfl rfl,?_⟩;rw [<-heq,sd_right_go ltInt dk h1 hL hG]
     ·
       have hL:ltInt dk[first+2*root+1]! dk[first+2*root+2]! = false:=by assumption
       revert nq;intro nq1
       have hcw2:∀ t,t<d.size->(wr.drewN nq1).cell? ⟨blk,off+t,none⟩=some (.int .u32 (dk[t]!)):=hcw;have hfw2:∀ t,t<d.size->(wr.drewN nq1).frozen? ⟨blk,off+t,none⟩=false:=hfw;have A2:Aside (wr.drewN nq1=putRow (Value.int .u32) (Sort.ahead w (n+nq1)) blk off dk):=drewN_world (Value.int .u32) A.out nq1;clear hcw hfw A;generalize wr.drewN nq1=wr2 at hcw2 hfw2 A2 ⊢
       go_big_quiet (first | (go_at_call 161;refine Calls.quiet_of_same (u_Less3 _ _ _)))
       go_wp2_with fail
       ·
         have hS:ltInt dk[first+root]! dk[first+2*root+1]! = false:=by
          have:(!ltInt dk[first+root]! dk[first+2*root+1]!)=true:=by assumption
          simpa using this
         (try simp only [Exit.inBlock,Exit.then]);refine bodyPost_ret (results_none rfl _ _ _) rfl ?_
         refine ⟨rfl,n+nq1+nq,?_⟩;rw [drewN_world (Value.int .u32) A2.out nq,<-heq,sd_left_stop ltInt dk (by omega) (fun _=>hL) hS]
       ·
         have hG:ltInt dk[first+root]! dk[first+2*root+1]! = true:=by
          have:(!ltInt dk[first+root]! dk[first+2*root+1]!)=false:=by assumption
          simpa using this
         have hcw3:∀ t,t<d.size->(wr2.drewN nq).cell? ⟨blk,off+t,none⟩=some (.int .u32 (dk[t]!)):=hcw2;have hfw3:∀ t,t<d.size->(wr2.drewN nq).frozen? ⟨blk,off+t,none⟩=false:=hfw2;have A3:Aside (wr2.drewN nq=putRow (Value.int .u32) (Sort.ahead w (n+nq1+nq)) blk off dk):=drewN_world (Value.int .u32) A2.out nq;clear hcw2 hfw2 A2;generalize wr2.drewN nq=wr3 at hcw3 hfw3 A3 ⊢
         go_region
         go_wp2
         go_roundg (hi-(2*root+1))
         case measure=>omega
         case rel =>
          refine ⟨2*root+1,swp dk (first+root) (first+(2*root+1)),n+nq1+nq+1,by simp <;> omega,by omega,nR _,by rw [size_swp];exact hds,swap_world (Value.int .u32) (by omega) (by omega) A3.out rfl rfl,?_⟩;rw [<-heq,sd_left_go ltInt dk (by omega) (fun _=>hL) hG]
    ·
      have h1z:decide (2*(root:Int)+1+1<(hi:Int))=false:=dF (by omega)
      go_wp2_with fail
      go_big_quiet (first | (go_at_call 161;refine Calls.quiet_of_same (u_Less3 _ _ _)))
      go_wp2_with fail
      revert nq;intro nq1
      have hcw2:∀ t,t<d.size->(wr.drewN nq1).cell? ⟨blk,off+t,none⟩=some (.int .u32 (dk[t]!)):=hcw;have hfw2:∀ t,t<d.size->(wr.drewN nq1).frozen? ⟨blk,off+t,none⟩=false:=hfw;have A2:Aside (wr.drewN nq1=putRow (Value.int .u32) (Sort.ahead w (n+nq1)) blk off dk):=drewN_world (Value.int .u32) A.out nq1;clear hcw hfw A;generalize wr.drewN nq1=wr2 at hcw2 hfw2 A2 ⊢
      go_big_quiet (first | (go_at_call 161;refine Calls.quiet_of_same (u_Less3 _ _ _)))
      go_wp2_with fail
      ·
        have hS:ltInt dk[first+root]! dk[first+2*root+1]! = false:=by
         have:(!ltInt dk[first+root]! dk[first+2*root+1]!)=true:=by assumption
         simpa using this
        (try simp only [Exit.inBlock,Exit.then]);refine bodyPost_ret (results_none rfl _ _ _) rfl ?_
        refine ⟨rfl,n+nq1+nq,?_⟩;rw [drewN_world (Value.int .u32) A2.out nq,<-heq,sd_left_stop ltInt dk (by omega) (fun h=>absurd h h1) hS]
      ·
        have hG:ltInt dk[first+root]! dk[first+2*root+1]! = true:=by
         have:(!ltInt dk[first+root]! dk[first+2*root+1]!)=false:=by assumption
         simpa using this
        have hcw3:∀ t,t<d.size->(wr2.drewN nq).cell? ⟨blk,off+t,none⟩=some (.int .u32 (dk[t]!)):=hcw2;have hfw3:∀ t,t<d.size->(wr2.drewN nq).frozen? ⟨blk,off+t,none⟩=false:=hfw2;have A3:Aside (wr2.drewN nq=putRow (Value.int .u32) (Sort.ahead w (n+nq1+nq)) blk off dk):=drewN_world (Value.int .u32) A2.out nq;clear hcw2 hfw2 A2;generalize wr2.drewN nq=wr3 at hcw3 hfw3 A3 ⊢
        go_region
        go_wp2
        go_roundg (hi-(2*root+1))
        case measure=>omega
        case rel =>
         refine ⟨2*root+1,swp dk (first+root) (first+(2*root+1)),n+nq1+nq+1,by simp <;> omega,by omega,nR _,by rw [size_swp];exact hds,swap_world (Value.int .u32) (by omega) (by omega) A3.out rfl rfl,?_⟩;rw [<-heq,sd_left_go ltInt dk (by omega) (fun h=>absurd h h1) hG]
theorem u_heapSort (blk off len cap:Nat) (d:Array Int) (hlen:d.size=len) (a b:Nat) (w:World) (hH:Holds (Value.int .u32) w blk off d) (hab:a<=b) (hb:b<=d.size) (hsz:d.size<4611686018427387904) :
 Calls Tryz.prog 156 #[.slice (some ⟨blk,off,none⟩) len cap,.int .i64 a,.int .i64 b] w fun e w'=>e=.returned (.tuple #[])/\∃ n,w'=putRow (Value.int .u32) (Sort.ahead w n) blk off (heapSort ltInt d a b):=by
 subst hlen
 have ecast:((b-a:Nat):Int)=(b:Int)-(a:Int):=by omega
 go_enter Tryz.func156,Tryz.ntmps156;go_wp2
 go_loopg [9] ((b-a-1) / 2+1) (fun k s9 wr=>s9=.int .i64 ((k:Int)-1)/\k<=(b-a-1) / 2+1/\∃ (dk:Array Int) (n:Nat),dk.size=d.size/\wr=putRow (Value.int .u32) (Sort.ahead w n) blk off dk /\
  heapBuild ltInt (b-a) a k dk=heapBuild ltInt (b-a) a ((b-a-1) / 2+1) d)
 case atStart=>exact ⟨by rw [half_start hab],nR _,d,0,rfl,(putRow_self (Value.int .u32) w blk off d hH).symm,rfl⟩
 case round =>
  obtain ⟨rfl,hkk,dk,n,hds,hwr,heq⟩:=hrel
  have hHk:Holds (Value.int .u32) wr blk off dk:=by rw [hwr];exact holds_putRow (Value.int .u32) _ blk off d dk (holds_ahead (Value.int .u32) w n blk off d hH) hds
  have A:Aside (wr=putRow (Value.int .u32) (Sort.ahead w n) blk off dk):=hwr;clear hwr
  cases gk with
  | zero =>
   have hB:dk=heapBuild ltInt (b-a) a ((b-a-1) / 2+1) d:=heq;clear heq hHk hkk;go_wp2
   go_loopg [10] (b-a) (fun k s10 wr2=>s10=.int .i64 ((k:Int)-1)/\k<=b-a/\∃ (dj:Array Int) (n2:Nat),dj.size=d.size/\wr2=putRow (Value.int .u32) (Sort.ahead w n2) blk off dj/\heapPop ltInt a k dj=heapPop ltInt a (b-a) dk)
   case atStart=>exact ⟨by rw [ecast],nR _,dk,n,hds,A.out,rfl⟩
   case round =>
    obtain ⟨rfl,hkk,dj,n2,hdj,hwr2,heq2⟩:=hrel
    cases gk with
    | zero =>
     go_wp2
     go_end0
     refine ⟨rfl,n2,?_⟩
     have e:dj=heapSort ltInt d a b:=by rw [heapSort,<-hB,<-heq2];rfl
     rw [<-e]
    | succ k =>
     have hHj:Holds (Value.int .u32) wr blk off dj:=by rw [hwr2];exact holds_putRow (Value.int .u32) _ blk off d dj (holds_ahead (Value.int .u32) w n2 blk off d hH) hdj
     have hcw:∀ t,t<d.size->wr.cell? ⟨blk,off+t,none⟩=some (.int .u32 (dj[t]!)):=fun t ht=>(hHj t (by omega)).1;have hfw:∀ t,t<d.size->wr.frozen? ⟨blk,off+t,none⟩=false:=fun t ht=>(hHj t (by omega)).2;have A2:Aside (wr=putRow (Value.int .u32) (Sort.ahead w n2) blk off dj):=hwr2;clear hwr2 hHj
     rcases Nat.eq_zero_or_pos k with hk0 | hkp
     ·subst hk0
      go_wp2_with fail
      go_region
      go_wp2_with fail
      rw [swap_world (Value.int .u32) (i:=a) (j:=a) (by omega) (by omega) A2.out rfl rfl];refine (u_siftDown blk off d.size cap (swp dj a (a)) (by rw [size_swp];exact hdj) 0 0 a _ (holds_putRow (Value.int .u32) _ blk off d _ (holds_ahead (Value.int .u32) w (n2+1) blk off d hH) (by rw [size_swp];exact hdj)) (zL _) (by rw [size_swp];omega) (by rw [size_swp];omega)).mono ?_;rintro e w1 ⟨rfl,m,hw1⟩;go_wp2
      go_roundg 0
      case measure=>omega
      case rel =>
       refine ⟨by simp,by omega,siftDown ltInt 0 a 0 (swp dj a (a)),n2+1+m,by rw [size_siftDown ltInt _ _ _ _ _ (nR _),size_swp];exact hdj,?_,heq2⟩
       first
        | rw [hw1,putRow_ahead_putRow (Value.int .u32) w (n2+1) m blk off _ _ (size_siftDown ltInt _ _ _ _ _ (nR _))]
        | rw [putRow_ahead_putRow (Value.int .u32) w (n2+1) m blk off _ _ (size_siftDown ltInt _ _ _ _ _ (nR _))]
     ·skip
      go_wp2_with fail
      go_region
      go_wp2_with fail
      rw [swap_world (Value.int .u32) (i:=a) (j:=a+k) (by omega) (by omega) A2.out rfl rfl];refine (u_siftDown blk off d.size cap (swp dj a (a+k)) (by rw [size_swp];exact hdj) 0 k a _ (holds_putRow (Value.int .u32) _ blk off d _ (holds_ahead (Value.int .u32) w (n2+1) blk off d hH) (by rw [size_swp];exact hdj)) (zL _) (by rw [size_swp];omega) (by rw [size_swp];omega)).mono ?_;rintro e w1 ⟨rfl,m,hw1⟩;go_wp2
      go_roundg k
      case measure=>omega
      case rel =>
       refine ⟨by simp,by omega,siftDown ltInt k a 0 (swp dj a (a+k)),n2+1+m,by rw [size_siftDown ltInt _ _ _ _ _ (nR _),size_swp];exact hdj,?_,heq2⟩
       first
        | rw [hw1,putRow_ahead_putRow (Value.int .u32) w (n2+1) m blk off _ _ (size_siftDown ltInt _ _ _ _ _ (nR _))]
        | rw [putRow_ahead_putRow (Value.int .u32) w (n2+1) m blk off _ _ (size_siftDown ltInt _ _ _ _ _ (nR _))]
  | succ k =>
   have hcall:=u_siftDown blk off d.size cap dk hds k (b-a) a wr hHk (by omega) (by omega) (by omega);rw [ecast] at hcall
   go_wp2_with (go_at_call 193;refine hcall.mono ?_;rintro e w1 ⟨rfl,m,hw1⟩)
   go_roundg k
   case measure=>omega
   case rel =>
    refine ⟨by simp,by omega,siftDown ltInt (b-a) a k dk,n+m,by rw [size_siftDown ltInt _ _ _ _ _ (nR _)];exact hds,?_,heq⟩;rw [A.out,putRow_ahead_putRow (Value.int .u32) w n m blk off dk _ (size_siftDown ltInt _ _ _ _ _ (nR _))]
end Go.Proofs.YtenfkghoolegfaaGreatDoor
namespace Go.Proofs.YtenfkghoolegfaaGreatDoor
open Go.Sort Go.RowKit
structure Callees13u:Prop where
 ins:∀ (blk off cap a b:Nat) (d:Array Int) (w:World),Holds (Value.int .u32) w blk off d->a<=b->b<=d.size->d.size<4611686018427387904 ->
  Calls Tryz.prog 155 #[.slice (some ⟨blk,off,none⟩) d.size cap,.int .i64 a,.int .i64 b] w fun e w'=>e=.returned (.tuple #[])/\∃ n,w'=putRow (Value.int .u32) (Sort.ahead w n) blk off (insertionSort ltInt d a b)
 brk:∀ (blk off cap a b:Nat) (d:Array Int) (w:World),Holds (Value.int .u32) w blk off d->blk<w.heap.size->a<=b->b<=d.size->d.size<4611686018427387904 ->
  Calls Tryz.prog 157 #[.slice (some ⟨blk,off,none⟩) d.size cap,.int .i64 a,.int .i64 b] w fun e w'=>e=.returned (.tuple #[])/\∃ n os,w'=grow (putRow (Value.int .u32) (Sort.ahead w n) blk off (breakPatterns d a b)) os
 piv:∀ (blk off cap a b:Nat) (d:Array Int) (w:World),Holds (Value.int .u32) w blk off d->blk<w.heap.size->a<b->b<=d.size->d.size<4611686018427387904 ->
  Calls Tryz.prog 158 #[.slice (some ⟨blk,off,none⟩) d.size cap,.int .i64 a,.int .i64 b] w fun e w'=>e=.returned (.tuple #[.int .i64 (choosePivot ltInt d a b).1,.int .i64 (hintCode (choosePivot ltInt d a b).2)])/\∃ n os,w'=grow (Sort.ahead w n) os
 par:∀ (blk off cap a b:Nat) (d:Array Int) (w:World),Holds (Value.int .u32) w blk off d->a<b->b<=d.size->d.size<4611686018427387904 ->
  Calls Tryz.prog 160 #[.slice (some ⟨blk,off,none⟩) d.size cap,.int .i64 a,.int .i64 b] w fun e w'=>e=.returned (.bool (partialInsertionSort ltInt d a b).2)/\∃ n,w'=putRow (Value.int .u32) (Sort.ahead w n) blk off (partialInsertionSort ltInt d a b).1
 peq:∀ (blk off cap a b pivot:Nat) (d:Array Int) (w:World),Holds (Value.int .u32) w blk off d->a<=pivot->pivot<b->b<=d.size->d.size<4611686018427387904 ->
  Calls Tryz.prog 162 #[.slice (some ⟨blk,off,none⟩) d.size cap,.int .i64 a,.int .i64 b,.int .i64 pivot] w fun e w'=>e=.returned (.int .i64 (partitionEqual ltInt d a b pivot).1)/\∃ n,w'=putRow (Value.int .u32) (Sort.ahead w n) blk off (partitionEqual ltInt d a b pivot).2
 prt:∀ (blk off cap a b pivot:Nat) (d:Array Int) (w:World),Holds (Value.int .u32) w blk off d->a<=pivot->pivot<b->b<=d.size->d.size<4611686018427387904 ->
  Calls Tryz.prog 163 #[.slice (some ⟨blk,off,none⟩) d.size cap,.int .i64 a,.int .i64 b,.int .i64 pivot] w fun e w'=>e=.returned (.tuple #[.int .i64 (partition ltInt d a b pivot).1,.bool (partition ltInt d a b pivot).2.1])/\∃ n,w'=putRow (Value.int .u32) (Sort.ahead w n) blk off (partition ltInt d a b pivot).2.2
structure Plain13u:Prop where
 swo:SWO ltInt
 ins:insertionSort_stmt ltInt
 par:partialInsertionSort_stmt ltInt
 prt:partition_stmt ltInt
 peq:partitionEqual_stmt ltInt
 pdq:pdq_stmt ltInt
theorem u_pdqsort (C:Callees13u) (S:Plain13u):∀ (N blk off cap a b limit:Nat) (d:Array Int) (w:World),b-a<N->Holds (Value.int .u32) w blk off d->blk<w.heap.size->a<=b->b<=d.size->d.size<4611686018427387904->limit<4611686018427387904->Below ltInt a b d ->
 Calls Tryz.prog 109 #[.slice (some ⟨blk,off,none⟩) d.size cap,.int .i64 a,.int .i64 b,.int .i64 limit] w fun e w'=>e=.returned (.tuple #[])/\At (Value.int .u32) w blk off (pdq ltInt d a b limit true true) w':=by
 intro N
 induction N with
 | zero=>intro _ _ _ _ _ _ _ _ h;exact absurd h (Nat.not_lt_zero _)
 | succ N ih =>
  intro blk off cap a b limit d w hN hH hblk hab hb hsz hlimit hBel0;go_enter Tryz.func109,Tryz.ntmps109;go_wp2
  go_loopg [1,2,3,8,9] (b-a) (fun k s1 s2 s3 s8 s9 wr=>∃ (a' b' lim:Nat) (wb wp:Bool) (dk:Array Int),s1=.int .i64 a'/\s2=.int .i64 b'/\s3=.int .i64 lim/\s8=.bool wb/\s9=.bool wp /\
   a'<=b'/\b'<=d.size/\b'-a'<=k/\k<=b-a/\lim<=limit/\dk.size=d.size/\Below ltInt a' b' dk/\At (Value.int .u32) w blk off dk wr/\pdq ltInt dk a' b' lim wb wp=pdq ltInt d a b limit true true)
  case atStart=>exact ⟨a,b,limit,true,true,d,rfl,rfl,rfl,rfl,rfl,hab,hb,nR _,nR _,nR _,rfl,hBel0,At.refl hH,rfl⟩
  case round =>
   obtain ⟨a',b',lim,wb,wp,dk,rfl,rfl,rfl,rfl,rfl,hab',hb',hk,hkN,hlim,hds,hBel,hAt,heq⟩:=hrel;obtain ⟨hHk,hblk'⟩:=hAt.holds hH hds hblk;have A:Aside (pdq ltInt dk a' b' lim wb wp=pdq ltInt d a b limit true true):=heq;clear heq;by_cases h12:b'-a'<=12
   ·
     have h12z:(b':Int)-(a':Int)<=12:=by omega
     have hc:=C.ins blk off cap a' b' dk wr hHk hab' (by omega) (by omega);rw [hds] at hc
     go_wp2_with (go_at_call 155;refine hc.mono ?_;rintro e w1 ⟨rfl,hw1⟩)
     (try simp only [Exit.inBlock,Exit.then]);refine bodyPost_ret (results_none rfl _ _ _) rfl ?_
     refine ⟨rfl,?_⟩;rw [<-A.out,pdq_small h12];exact hAt.step hblk (S.ins S.swo dk a' b' hab' (by omega)).1.1 hw1
   ·have h12z:¬ ((b':Int)-(a':Int)<=12):=by omega
    by_cases hl0:lim=0
    ·
      subst hl0;have hc:=u_heapSort blk off d.size cap dk hds a' b' wr hHk hab' (by omega) (by omega)
      go_wp2_with (go_at_call 156;refine hc.mono ?_;rintro e w1 ⟨rfl,hw1⟩)
      (try simp only [Exit.inBlock,Exit.then]);refine bodyPost_ret (results_none rfl _ _ _) rfl ?_
      refine ⟨rfl,?_⟩;rw [<-A.out,pdq_heap h12 rfl];exact hAt.step hblk (heapSort_holds S.swo dk a' b' hab' (by omega)).1.1 hw1
    ·have hl0z:¬ ((lim:Int)=0):=by omega
     obtain ⟨s1,B1,hc1,s2,B2,hpv,s3,B3⟩:=rd_facts (limit:=lim) (wb:=wb) (wp:=wp) S.swo S.par reverseRange_holds (show a'<b' by omega) (show b'<=dk.size by omega) hBel
     go_upto_if 35 with fail
     go_cut [3] from 19 (fun s3 wc=>s3=.int .i64 (rd ltInt dk a' b' lim wb wp).lim/\At (Value.int .u32) w blk off (rd ltInt dk a' b' lim wb wp).d1 wc)
     case first =>
      cases wb
      ·have hc:=C.brk blk off cap a' b' dk wr hHk hblk' hab' (by omega) (by omega);rw [hds] at hc
       go_wp2_with (go_at_call 157;refine hc.mono ?_;rintro e w1 ⟨rfl,hw1⟩)
       go_meet
       case rel =>
        refine ⟨?_,hAt.stepG hblk s1 hw1⟩;show Value.int .i64 ((lim:Int)-1)=Value.int .i64 ((lim-1:Nat):Int);congr 1;omega
      ·go_wp2_with fail
       go_meet
       case rel=>exact ⟨rfl,hAt⟩
     case rest =>
      obtain ⟨rfl,hAt1⟩:=hcut;obtain ⟨hH1,hblk1⟩:=hAt1.holds hH (s1.trans hds) hblk
      have hc17:Calls Tryz.prog 158 #[.slice (some ⟨blk,off,none⟩) d.size cap,.int .i64 a',.int .i64 b'] wc fun e w'=>e=.returned (.tuple #[.int .i64 (rd ltInt dk a' b' lim wb wp).c.1,.int .i64 (hintCode (rd ltInt dk a' b' lim wb wp).c.2)])/\∃ n os,w'=grow (Sort.ahead wc n) os:=by
       have:=C.piv blk off cap a' b' (rd ltInt dk a' b' lim wb wp).d1 wc hH1 hblk1 (by omega) (by omega) (by omega);rw [s1,hds] at this;exact this
      go_upto_if 50 with (go_at_call 158;refine hc17.mono ?_;rintro e w2 ⟨rfl,hw2⟩)
      have hAt2:At (Value.int .u32) w blk off (rd ltInt dk a' b' lim wb wp).d1 w2:=hAt1.same hH (s1.trans hds) hblk hw2;obtain ⟨hH2,hblk2⟩:=hAt2.holds hH (s1.trans hds) hblk
      go_cut [11,12] from 19 (fun s11 s12 wc=>s11=.int .i64 (rd ltInt dk a' b' lim wb wp).pivot/\s12=.int .i64 (hintCode (rd ltInt dk a' b' lim wb wp).hint)/\At (Value.int .u32) w blk off (rd ltInt dk a' b' lim wb wp).d2 wc)
      case first =>
       by_cases hh:(rd ltInt dk a' b' lim wb wp).c.2=.decreasing
       ·have hcode:hintCode (rd ltInt dk a' b' lim wb wp).c.2=2:=by rw [hh];rfl
        obtain ⟨e2,epv,eht⟩:=rd_dec hh;have hc18:=u_reverseRange blk off cap (rd ltInt dk a' b' lim wb wp).d1 a' b' w2 hH2 hab' (by omega) (by omega);rw [s1,hds] at hc18
        go_wp2_with (go_at_call 159;refine hc18.mono ?_;rintro e w3 ⟨rfl,hw3⟩)
        go_meet
        case rel =>
         refine ⟨?_,by rw [eht];rfl,by rw [e2];exact hAt2.step hblk (by rw [<-e2,s2,s1]) hw3⟩;rw [epv];congr 1;omega
       ·have hcode:¬ (hintCode (rd ltInt dk a' b' lim wb wp).c.2=2):=fun h=>hh (hintCode_two h);obtain ⟨e2,epv,eht⟩:=rd_not hh
        go_wp2_with fail
        go_meet
        case rel=>exact ⟨by rw [epv],by rw [eht],by rw [e2];exact hAt2⟩
      case rest =>
       obtain ⟨rfl,rfl,hAt3⟩:=hcut;obtain ⟨hH3,hblk3⟩:=hAt3.holds hH (s2.trans hds) hblk
       go_upto_region 15 with fail
       go_cut [12,68] from 19 (fun s12 s68 wx=>s12=.int .i64 (hintCode (rd ltInt dk a' b' lim wb wp).hint)/\s68=.bool (wb && wp && decide ((rd ltInt dk a' b' lim wb wp).hint=.increasing))/\wx=wc)
       case first =>
        cases wb <;> cases wp <;> cases hh3:(rd ltInt dk a' b' lim _ _).hint <;>
         (
          have hcode3:=congrArg hintCode hh3;simp only [hintCode] at hcode3
          go_wp2_with fail
          go_meet
          exact ⟨by simp [hh3,hintCode],by simp [hh3,hintCode],rfl⟩)
       case rest =>
        obtain ⟨rfl,rfl,rfl⟩:=hcut
        go_upto_if 68 with fail
        go_cut [] from 19 (fun wx=>(rd ltInt dk a' b' lim wb wp).pi.2=false/\At (Value.int .u32) w blk off (rd ltInt dk a' b' lim wb wp).pi.1 wx)
        case first =>
         cases h68:(wb && wp && decide ((rd ltInt dk a' b' lim wb wp).hint=.increasing))
         ·have epi:=rd_pi_no h68
          go_wp2_with fail
          go_meet
          case rel=>exact ⟨by rw [epi],by rw [epi];exact hAt3⟩
         ·have epi:=rd_pi_yes h68;have hc19:=C.par blk off cap a' b' (rd ltInt dk a' b' lim wb wp).d2 wc hH3 (by omega) (by omega) (by omega);rw [s2,hds,<-epi] at hc19
          go_wp2_with (go_at_call 160;refine hc19.mono ?_;rintro e w4 ⟨rfl,hw4⟩)
          all_goals first
           | (
            have hp2:(rd ltInt dk a' b' lim wb wp).pi.2=false:=by rw [epi];assumption
            go_meet
            exact ⟨hp2,hAt3.step hblk (by rw [s3,s2]) hw4⟩)
           | (
            have hp2:(rd ltInt dk a' b' lim wb wp).pi.2=true:=by rw [epi];assumption
            (try simp only [Exit.inBlock,Exit.then]);refine bodyPost_ret (results_none rfl _ _ _) rfl ?_
            refine ⟨rfl,?_⟩;rw [<-A.out,pdq_done h12 hl0 hp2]
            exact hAt3.step hblk (by rw [s3,s2]) hw4)
        case rest =>
         obtain ⟨hp2,hAt5⟩:=hcut;obtain ⟨hH5,hblk5⟩:=hAt5.holds hH (s3.trans hds) hblk;have hcw:∀ t,t<d.size->wc.cell? ⟨blk,off+t,none⟩=some (.int .u32 ((rd ltInt dk a' b' lim wb wp).pi.1[t]!)):=fun t ht=>(hH5 t (by omega)).1;have hfw:∀ t,t<d.size->wc.frozen? ⟨blk,off+t,none⟩=false:=fun t ht=>(hH5 t (by omega)).2
         go_upto_region 17 with fail
         go_cut [87] from 19 (fun s87 wx=>s87=.bool (decide (a' > 0) && !ltInt (rd ltInt dk a' b' lim wb wp).pi.1[a'-1]! (rd ltInt dk a' b' lim wb wp).pi.1[(rd ltInt dk a' b' lim wb wp).pivot]!)/\At (Value.int .u32) w blk off (rd ltInt dk a' b' lim wb wp).pi.1 wx)
         case first =>
          rcases Nat.eq_zero_or_pos a' with ha0 | ha0
          ·have ha0z:decide ((a':Int) > 0)=false:=dF (by omega);have ha0y:decide ((0:Int)<(a':Int))=false:=dF (by omega);have ha0x:decide (0<a')=false:=dF (by omega)
           go_big_quiet (first | (go_at_call 161;refine Calls.quiet_of_same (u_Less3 _ _ _)))
           go_wp2_with fail
           go_meet
           case rel=>exact ⟨by simp [ha0],hAt5.ahead nq⟩
          ·have ha0z:(a':Int) > 0:=by omega
           have ha0y:decide ((0:Int)<(a':Int))=true:=dT (by omega);have ha0x:decide (0<a')=true:=dT (by omega)
           go_big_quiet (first | (go_at_call 161;refine Calls.quiet_of_same (u_Less3 _ _ _)))
           go_wp2_with fail
           go_meet
           case rel=>exact ⟨by simp [ha0],hAt5.ahead nq⟩
         case rest =>
          obtain ⟨rfl,hAt6⟩:=hcut;obtain ⟨hH6,hblk6⟩:=hAt6.holds hH (s3.trans hds) hblk;clear hcw hfw
          cases h87:(decide (a' > 0) && !ltInt (rd ltInt dk a' b' lim wb wp).pi.1[a'-1]! (rd ltInt dk a' b' lim wb wp).pi.1[(rd ltInt dk a' b' lim wb wp).pivot]!)
          ·
            obtain ⟨mid,ap,d4,hx⟩:∃ mid ap d4,partition ltInt (rd ltInt dk a' b' lim wb wp).pi.1 a' b' (rd ltInt dk a' b' lim wb wp).pivot=(mid,ap,d4):=⟨(partition ltInt (rd ltInt dk a' b' lim wb wp).pi.1 a' b' (rd ltInt dk a' b' lim wb wp).pivot).1,(partition ltInt (rd ltInt dk a' b' lim wb wp).pi.1 a' b' (rd ltInt dk a' b' lim wb wp).pivot).2.1,(partition ltInt (rd ltInt dk a' b' lim wb wp).pi.1 a' b' (rd ltInt dk a' b' lim wb wp).pivot).2.2,rfl⟩
            obtain ⟨r1,r2,r3,r4,r5,r6,r7⟩:=round_part S.swo S.prt hpv.1 hpv.2 (show b'<=(rd ltInt dk a' b' lim wb wp).pi.1.size by omega) B3 hx;have hc22:=C.prt blk off cap a' b' (rd ltInt dk a' b' lim wb wp).pivot (rd ltInt dk a' b' lim wb wp).pi.1 wc hH6 hpv.1 hpv.2 (by omega) (by omega);rw [s3,hds,hx] at hc22;have X:Aside (partition ltInt (rd ltInt dk a' b' lim wb wp).pi.1 a' b' (rd ltInt dk a' b' lim wb wp).pivot=(mid,ap,d4)):=hx;clear hx
            go_upto_if 113 with (go_at_call 163;refine hc22.mono ?_;rintro e w7 ⟨rfl,hw7⟩)
            have hx:=X.out;have hAt7:At (Value.int .u32) w blk off d4 w7:=hAt6.step hblk r3 hw7;obtain ⟨hH7,hblk7⟩:=hAt7.holds hH (r3.trans (s3.trans hds)) hblk;by_cases h4:mid-a'<b'-mid
            ·have h4z:(mid:Int)-(a':Int)<(b':Int)-(mid:Int):=by omega
             have hih:=ih blk off cap a' mid (rd ltInt dk a' b' lim wb wp).lim d4 w7 (by omega) hH7 hblk7 (by omega) (by omega) (by omega) (Nat.lt_of_le_of_lt (nT rd_lim_le hlim) hlimit) r4;rw [r3,s3,hds] at hih;obtain ⟨pL,sL⟩:=S.pdq S.swo d4 a' mid (rd ltInt dk a' b' lim wb wp).lim true true (by omega) (by omega) r4
             go_wp2_with (go_at_call 109;refine hih.mono ?_;rintro e w8 ⟨rfl,hw8⟩)
             go_roundg (b'-(mid+1))
             case measure=>omega
             case rel =>
              refine ⟨mid+1,b',(rd ltInt dk a' b' lim wb wp).lim,decide (mid-a' ≥ (b'-a') / 8),ap,pdq ltInt d4 a' mid (rd ltInt dk a' b' lim wb wp).lim true true,by simp,rfl,rfl,?_,rfl,by omega,by omega,nR _,by omega,nT rd_lim_le hlim,by rw [pL.1,r3,s3,hds],(r6 _ pL sL).1,hAt7.stepG hblk pL.1 hw8,?_⟩
              ·exact congrArg Value.bool (eighth (by omega) (by omega))
              ·rw [<-A.out,pdq_left h12 hl0 hp2 h87 (by rw [hx];exact ⟨r1,r2⟩) (by rw [hx];exact h4),hx]
            ·have h4z:¬ ((mid:Int)-(a':Int)<(b':Int)-(mid:Int)):=by omega
             have hih:=ih blk off cap (mid+1) b' (rd ltInt dk a' b' lim wb wp).lim d4 w7 (by omega) hH7 hblk7 (by omega) (by omega) (by omega) (Nat.lt_of_le_of_lt (nT rd_lim_le hlim) hlimit) r5;rw [r3,s3,hds] at hih;obtain ⟨pL,sL⟩:=S.pdq S.swo d4 (mid+1) b' (rd ltInt dk a' b' lim wb wp).lim true true (by omega) (by omega) r5
             go_wp2_with (go_at_call 109;refine hih.mono ?_;rintro e w8 ⟨rfl,hw8⟩)
             go_roundg (mid-a')
             case measure=>omega
             case rel =>
              refine ⟨a',mid,(rd ltInt dk a' b' lim wb wp).lim,decide (b'-mid ≥ (b'-a') / 8),ap,pdq ltInt d4 (mid+1) b' (rd ltInt dk a' b' lim wb wp).lim true true,rfl,rfl,rfl,?_,rfl,by omega,by omega,nR _,by omega,nT rd_lim_le hlim,by rw [pL.1,r3,s3,hds],(r7 _ pL sL).1,hAt7.stepG hblk pL.1 hw8,?_⟩
              ·exact congrArg Value.bool (eighth (by omega) (by omega))
              ·rw [<-A.out,pdq_right h12 hl0 hp2 h87 (by rw [hx];exact ⟨r1,r2⟩) (by rw [hx];exact h4),hx]
          ·
            have h87':=h87;simp only [Bool.and_eq_true,decide_eq_true_eq,Bool.not_eq_true'] at h87'
            obtain ⟨mid,d4,hx⟩:∃ mid d4,partitionEqual ltInt (rd ltInt dk a' b' lim wb wp).pi.1 a' b' (rd ltInt dk a' b' lim wb wp).pivot=(mid,d4):=⟨(partitionEqual ltInt (rd ltInt dk a' b' lim wb wp).pi.1 a' b' (rd ltInt dk a' b' lim wb wp).pivot).1,(partitionEqual ltInt (rd ltInt dk a' b' lim wb wp).pi.1 a' b' (rd ltInt dk a' b' lim wb wp).pivot).2,rfl⟩
            obtain ⟨r1,r2,r3,r4,_⟩:=round_eq S.swo S.peq h87'.1 hpv.1 hpv.2 (show b'<=(rd ltInt dk a' b' lim wb wp).pi.1.size by omega) B3 h87'.2 hx;have hc21:=C.peq blk off cap a' b' (rd ltInt dk a' b' lim wb wp).pivot (rd ltInt dk a' b' lim wb wp).pi.1 wc hH6 hpv.1 hpv.2 (by omega) (by omega);rw [s3,hds,hx] at hc21;have X:Aside (partitionEqual ltInt (rd ltInt dk a' b' lim wb wp).pi.1 a' b' (rd ltInt dk a' b' lim wb wp).pivot=(mid,d4)):=hx;clear hx
            go_wp2_with (go_at_call 162;refine hc21.mono ?_;rintro e w7 ⟨rfl,hw7⟩)
            go_roundg (b'-mid)
            case measure=>omega
            case rel =>
             have hx:=X.out;exact ⟨mid,b',(rd ltInt dk a' b' lim wb wp).lim,wb,wp,d4,rfl,rfl,rfl,rfl,rfl,r2,hb',nR _,by omega,nT rd_lim_le hlim,by rw [r3,s3,hds],r4,hAt6.step hblk r3 hw7,by rw [<-A.out,pdq_eq h12 hl0 hp2 h87 (by rw [hx];exact ⟨r1,r2⟩),hx]⟩
end Go.Proofs.YtenfkghoolegfaaGreatDoor
namespace Go.Proofs.YtenfkghoolegfaaGreatDoor
section
open Go.Sort Go.RowKit
theorem callees13u:Callees13u where
 ins:=u_insertionSort
 brk:=u_breakPatterns
 piv:=u_choosePivot
 par:=u_partialInsertionSort
 peq:=u_partitionEqualOrdered
 prt:=u_partitionOrdered
theorem plain13u:Plain13u where
 swo:=swo_ltInt
 ins:=insertionSort_holds
 par:=partialInsertionSort_holds
 prt:=partition_holds _
 peq:=partitionEqual_holds _
 pdq:=pdq_sorts _
def pdqWalk_u:Prop:=∀ (blk off cap a b limit:Nat) (d:Array Int) (w:World),Holds (Value.int .u32) w blk off d->blk<w.heap.size->a<=b->b<=d.size->d.size<4611686018427387904->limit<4611686018427387904->Below ltInt a b d ->
 Calls Tryz.prog 109 #[.slice (some ⟨blk,off,none⟩) d.size cap,.int .i64 a,.int .i64 b,.int .i64 limit] w fun e w' =>
  e=.returned (.tuple #[])/\∃ n os,w'=grow (putRow (Value.int .u32) (Sort.ahead w n) blk off (Sort.pdq ltInt d a b limit true true)) os
theorem u_Sort (hpdq:pdqWalk_u) (blk off cap:Nat) (d:Array Int) (w:World) (hH:Holds (Value.int .u32) w blk off d) (hblk:blk<w.heap.size) (hsz:d.size<4611686018427387904) :
 Calls Tryz.prog 88 #[.slice (some ⟨blk,off,none⟩) d.size cap] w fun e w'=>e=.returned (.tuple #[])/\∃ n os,w'=grow (putRow (Value.int .u32) (Sort.ahead w n) blk off (Sort.sort ltInt d)) os:=by
 have HH:Hid (Holds (Value.int .u32) w blk off d):=hH;clear hH
 have hLen:∀ w,Calls Tryz.prog 110 #[.int .u64 (d.size:Int)] w fun e w'=>e=.returned (.int .i64 (bitsLen d.size:Nat))/\w'=w:=fun w=>by
  have h:=u_bits_Len (d.size:Int) w (by omega) (by omega)
  rwa [Int.toNat_natCast,bitLen_eq _ (by omega)] at h
 have hk:bitsLen d.size<=62:=(bitsLen_le_iff d.size 62).2 (by omega);go_enter Tryz.func88,Tryz.ntmps88
 go_wp2_with (first
  | (go_at_call 110;refine (hLen _).mono ?_;rintro e w' ⟨rfl,rfl⟩)
  | (go_at_call 109;refine (hpdq blk off cap 0 d.size (bitsLen d.size) d _ (by exact HH.out) (by exact hblk) (zL _) (nR _) hsz (by omega) (Or.inl rfl)).mono ?_;rintro e w' ⟨rfl,n,os,rfl⟩))
 go_end0
 exact ⟨rfl,n,os,rfl⟩
theorem pdqWalkU:pdqWalk_u:=fun blk off cap a b limit d w hH hb hab hbd hsz hl hB =>
 u_pdqsort callees13u plain13u (b-a+1) blk off cap a b limit d w (by omega) hH hb hab hbd hsz hl hB
theorem u_slices_Sort (blk off cap:Nat) (zs:List Int) (w:World) (hH:Holds (Value.int .u32) w blk off zs.toArray) (hblk:blk<w.heap.size) (hsz:zs.length<4611686018427387904) :
 Calls Tryz.prog 88 #[.slice (some ⟨blk,off,none⟩) zs.length cap] w fun e w' =>
  e=.returned (.tuple #[])/\∃ n os,w'=grow (putRow (Value.int .u32) (Sort.ahead w n) blk off (zs.mergeSort fun x y=>decide (x<=y)).toArray) os:=by
 have h:=u_Sort pdqWalkU blk off cap zs.toArray w hH hblk (by simpa using hsz);rw [show Sort.sort ltInt zs.toArray=(zs.mergeSort fun x y=>decide (x<=y)).toArray by rw [<-sortInt zs]] at h
 simpa using h
end
section
open Go.RowKit Go.Maps Go.Sort Go.Shelf
open Go.WideElems (Fit rd rg)
theorem row_cellU {W:World} {base n:Nat} {A:Option Addr} {c:Nat} {l:List Int} (h:W.ownsRow base 22 1 (.slice A n c) n (us l)) {k:Nat} (hk:k<l.length):∃ g,A=some ⟨g,0,none⟩/\n<=c/\W.cell? ⟨g,k,none⟩=some (.int .u32 (l.getD k 0))/\l.length=n:=by
 have hl:l.length=n:=by have:=h.1;rw [us_len] at this;omega
 rcases h.2 with ⟨h0,h1⟩ | ⟨g,cap,cur,e1,h2⟩
 ·have:(us l).length=0:=by have:=h.1;omega
  rw [us_len] at this;omega
 ·simp only [Value.slice.injEq] at e1;obtain ⟨rfl,_,rfl⟩:=e1;obtain ⟨a1,a2,a3,a4⟩:=rowS_cell h (j:=k) (by omega);exact ⟨g,rfl,a4,a1,hl⟩
theorem own_below {W W':World} {B base e s n:Nat} {v:Value} {xs:List Value} (h:W.ownsRow base e s v n xs) (hb:Below W.heap.size W W'):W'.ownsRow base e s v n xs:=by
 refine ⟨h.1,h.2.imp id ?_⟩;rintro ⟨g,cap,cur,e1,e2,e3,r⟩;exact ⟨g,cap,cur,e1,e2,(hb.block g (aS.1 e3).1).trans e3,r⟩
theorem own_low {W:World} {base base' e s n:Nat} {v:Value} {xs:List Value} (h:W.ownsRow base e s v n xs) (hb:base'<=base):W.ownsRow base' e s v n xs:=by
 refine ⟨h.1,h.2.imp id ?_⟩;rintro ⟨g,cap,cur,e1,e2,e3,r⟩;exact ⟨g,cap,cur,e1,nT hb e2,e3,r⟩
theorem ImgsAt.below {base:Nat} {w w':World} {I:List Im} {A:Option Addr} {c:Nat} (h:ImgsAt base w I A c) (hb:Below w.heap.size w w'):ImgsAt base w' I A c :=
 ⟨own_below (B:=0) h.row hb,fun x hx=>⟨own_below (B:=0) (h.each x hx).1 hb,(h.each x hx).2⟩⟩
theorem img_one {w1:World} {base n:Nat} {A:Option Addr} {c:Nat} {b:List UInt8} (h:w1.ownsRow base 5 1 (.slice A 256 c) 256 (bl b)) (hb:base<=w1.heap.size):ImgsAt base (w1.alloc (.cells #[.int .u32 (n:Nat),.slice A 256 c] 124)) [⟨n,A,c,b⟩] (some ⟨w1.heap.size,0,none⟩) 1:=by
 refine ⟨⟨rfl,.inr ⟨w1.heap.size,1,#[.int .u32 (n:Nat),.slice A 256 c],rfl,hb,heap_alloc_new _ _,nR _,by simp only [maxLen];omega,rfl,rfl⟩⟩,fun x hx=>?_⟩;simp only [List.mem_singleton] at hx;subst hx;refine ⟨h.alloc _,?_⟩;have:=h.1
 simpa [bl] using this
def Im.nb (x:Im):Nat × List UInt8:=(x.n,x.b)
theorem Changes_any {X:Nat->Prop} {w:World} {T M:Nat} {t:PT} (h:TX X w T M t) (ok:t.OK) (hc:t.changed=true) (h12:t.over.length<=12) :
 Calls Tryz.prog 24 #[.pointer (some ⟨T,0,none⟩)] w fun e w'=>∃ I A c,e=.returned (.slice A I.length c)/\ImgsAt w.heap.size w' I A c/\I.map Im.nb=changesT t/\Below w.heap.size w w':=by
 have hl0:lookO 0 t.over=none:=by
  cases hl:lookO 0 t.over with
  | none=>rfl
  | some b=>have:=(ok.keys _ (lookO_mem hl)).1;simp at this
 have hH:=bytes_head h ok hc hl0
 have hch:changesT t=(0,putP t.head)::sortO t.over:=by unfold changesT;rw [if_pos hc,pageT_0 ok hc]
 have hok:=ok.head;obtain ⟨O,ck,src,h⟩:=h;have hov:=h.over
 have hO12:O.length<=12:=by rw [hov,List.length_map] at h12;exact h12
 have hMK:MapOK O ck:=by
  refine ⟨fun x hx=>?_,?_,h.clk.1,h.clk.2,by omega⟩
  ·have:=(ok.keys (x.nm,x.b) (by rw [hov];exact List.mem_map.2 ⟨x,hx,rfl⟩)).2;simp only at this;omega
  ·have:=ok.nodup;rw [hov,List.map_map] at this;exact this
 have hkeys:∀ x:Int,has (KOf O) (.int .u32 x)=true↔∃ e∈t.over,x=(e.1:Int):=by
  intro x;rw [kof_has hMK,hov];constructor
  ·rintro ⟨e,he,rfl⟩;exact ⟨_,List.mem_map.2 ⟨e,he,rfl⟩,rfl⟩
  ·rintro ⟨e,he,rfl⟩;obtain ⟨y,hy,rfl⟩:=List.mem_map.1 he;exact ⟨y,hy,rfl⟩
 have hlen:∀ ss:List Int,ss.Nodup->(∀ x,x∈ss↔has (KOf O) (.int .u32 x)=true)->ss.length<=12:=by
  intro ss h1 h2
  have hp:ss.Perm (O.map fun e=>(e.nm:Int)):=by
   refine (List.perm_ext_iff_of_nodup h1 ?_).2 fun x=>?_
   ·have:=hMK.one;rw [List.Nodup,List.pairwise_map] at this ⊢;exact this.imp fun h e=>h (by omega)
   ·rw [h2,kof_has hMK,List.mem_map];constructor
    ·rintro ⟨e,he,rfl⟩;exact ⟨e,he,rfl⟩
    ·rintro ⟨e,he,rfl⟩;exact ⟨e,he,rfl⟩
  rw [hp.length_eq,List.length_map];exact hO12
 have hS:∀ W:World,Below w.heap.size w W->Calls Tryz.prog 66 #[.func (.func 89) #[] #[.pointer (some ⟨W.heap.size,0,none⟩)]] (W.alloc (.cells #[.map (some M)] 91)) fun e w'=>∃ (ss:List Int) (A:Option Addr) (c:Nat),e=.returned (.slice A ss.length c)/\(ss.Nodup/\(∀ x,x∈ss↔has (KOf O) (.int .u32 x)=true)/\Srt ss ss.length) /\
  w'.ownsRow W.heap.size 22 1 (.slice A ss.length c) ss.length (us ss)/\Below W.heap.size W w':=by
  intro W hW;have hb:Below W.heap.size W (W.alloc (.cells #[.map (some M)] 91)):=(bR _ W).alloc (nR _) _;have hM:(W.alloc (.cells #[.map (some M)] 91)).heap[M]?=some (.map (O.map KE.ent).toArray ck):=(hb.block M (lT h.lt.2 hW.size)).trans ((hW.block M h.lt.2).trans h.map);refine (sorted_any W.heap.size M O.length (KOf O) (w:=W.alloc (.cells #[.map (some M)] 91)) (by simp) ((Blk.new W 91 #[.map (some M)]).cell 0) (own_map hM hMK) (by rw [kof_size];omega) hlen).mono ?_;rintro e w2 ⟨ss,A,c,e1,e2,e3,e4⟩;exact ⟨ss,A,c,e1,e2,own_low e3 hb.size,hb.trans (e4.mono hb.size)⟩
 have hBl:=h.blk
 have f7:w.cell? ⟨T,7,none⟩=some (.bool true):=by rw [<-hc];exact hBl.cell 7
 have f6:∀ W,Below w.heap.size w W->W.cell? ⟨T,6,none⟩=some (.map (some M)):=fun W hW=>(hBl.below hW hBl.lt).cell 6;have HH:=lH hH;have HS:=lH hS;have F6:=lH f6;have HT:=lH (aI h (aI hMK hkeys));have HOK:=lH ok;clear hH hS f6 h hMK hkeys hlen hBl ok;go_enter Tryz.func24,Tryz.ntmps24
 go_wp2_with (first
  | (go_at_call 65;refine HH.out.mono ?_;rintro e w1 ⟨A0,c0,rfl,ho0,hb0⟩;obtain ⟨w2,hw2⟩:∃ w2,w2=w1.alloc (.cells #[.int .u32 0,.slice A0 256 c0] 124):=⟨_,rfl⟩;have hba:Below w1.heap.size w1 w2:=(by rw [hw2];exact (bR _ w1).alloc (nR _) _);have hb2:=hb0.trans (hba.mono hb0.size);have g6:(w1.alloc (.cells #[.int .u32 0,.slice A0 256 c0] 124)).cell? ⟨T,6,none⟩=some (.map (some M)):=(by rw [<-hw2];exact F6.out _ hb2);have hI0:ImgsAt w.heap.size w2 [⟨0,A0,c0,putP t.head⟩] (some ⟨w1.heap.size,0,none⟩) 1:=(by rw [hw2];exact img_one ho0 hb0.size);have HW2:=lH hw2;have hS2:=HS.out w2 hb2;clear hw2)
  | (rw [<-HW2.out];go_at_call 67;refine (keysU_any M w2).mono ?_;rintro e w3 ⟨rfl,h3⟩;have h3:=h3.symm;subst h3)
  | (go_at_call 66;refine hS2.mono ?_;rintro e w4 ⟨ss,A4,c4,rfl,hss,ho4,hb4⟩))
 have hb4':Below w.heap.size w w4:=hb2.trans (hb4.mono hb2.size);have hI4:=hI0.below hb4;have ho4':=own_low ho4 hb2.size;have hss2:ss.map (fun x=>(x.toNat,(lookO x.toNat t.over).getD []))=sortO t.over:=keys_sortO HOK.out.nodup hss.1 (fun x=>(hss.2.1 x).trans (HT.out.2.2 x)) hss.2.2
 have hsl:ss.length<=12:=by
  have:=congrArg List.length hss2;rw [List.length_map,(sortO_perm t.over).length_eq] at this;omega
 clear ho4 hb4 hI0 hS2 g6 HW2 hba hb2 ho0 hb0
 go_loopw [5,32] (fun out i wr=>∃ (k:Nat) (I:List Im) (A:Option Addr) (c:Nat),out=.slice A I.length c/\i=.int .i64 k/\k<=ss.length/\I.length=k+1/\I.map Im.nb=(0,putP t.head)::(ss.take k).map (fun x=>(x.toNat,(lookO x.toNat t.over).getD []))/\ImgsAt w.heap.size wr I A c/\wr.ownsRow w.heap.size 22 1 (.slice A4 ss.length c4) ss.length (us ss)/\Below w.heap.size w wr) (fun _ i _=>ss.length-(intOf i).toNat)
 case atStart=>exact ⟨0,[⟨0,A0,c0,putP t.head⟩],_,1,rfl,rfl,zL _,rfl,by simp [Im.nb],hI4,ho4',hb4'⟩
 case round =>
  clear hI4 ho4' hb4';obtain ⟨k,I,A,c,rfl,rfl,hk,hIl,hIm,hI,hrow,hb⟩:=hrel
  obtain ⟨wo,rfl⟩:∃ wo,wo=wr:=⟨wr,rfl⟩
  by_cases hlt:k<ss.length
  ·have d1:decide (k<ss.length)=true:=dT hlt;have d2:decide ((k:Int)<(ss.length:Int))=true:=dT (by omega);obtain ⟨g4,rfl,hc4,hcell,_⟩:=row_cellU hrow hlt;obtain ⟨e,he,hxe⟩:=(HT.out.2.2 (ss.getD k 0)).1 ((hss.2.1 _).1 (by rw [List.getD_eq_getElem?_getD,gE hlt];exact List.getElem_mem _));have hlk:=lookO_in (n:=e.1) (b:=e.2) HOK.out.nodup he
   obtain ⟨nm,hnm⟩:∃ nm,nm=e.1:=⟨_,rfl⟩
   rw [<-hnm] at hxe hlk;clear hnm he;rw [hxe] at hcell;have hlk2:=hlk;rw [HT.out.1.over,over_look nm O 0] at hlk2
   cases hlo:look nm O 0 with
   | none=>rw [hlo] at hlk2;cases hlk2
   | some r =>
    obtain ⟨j,y⟩:=r;rw [hlo] at hlk2;simp only [Option.map_some,Option.some.injEq] at hlk2;obtain ⟨_,hj,hynm⟩:=look_spec _ _ _ _ _ hlo;obtain ⟨hby,h256⟩:=(HT.out.1.keep (X:=X) (KeepX.of_below hb)).page y (mG hj);obtain ⟨ay,hay,_⟩:=hby.rd.2 (by omega);have hrd:=hby.rd;rw [hay,h256] at hrd;have hC:=BClone_some ay y.cap (bl y.b) (bl_one _) wo hrd (nR _) (by omega)
    have hyv:y.val=.slice (some ay) 256 y.cap:=by unfold KE.val;rw [hay,h256]
    have hM:=(hb.block M HT.out.1.lt.2).trans HT.out.1.map;have k6:=F6.out _ hb;have HM:=lH (aI hM hlo);have HI:=lH (aI hI (aI hIl hIm));have HR:=lH hrow;have HY:=lH (aI h256 hlk2);clear hM hlo hI hrow hrd hby hj hay h256 hlk2 hIm hIl;have HX:=lH (aI hxe hlk);clear hxe hlk
    go_wp2_with (first
     | (refine wpList_look1 rfl (.tmp 41) (.tmp 42) rfl rfl rfl HM.out.1 HM.out.2 ?_;rw [hyv])
     | (go_at_call 68;refine hC.mono ?_;rintro e' w5 ⟨A5,c5,rfl,ho5,hb5⟩;obtain ⟨w6,hw6⟩:∃ w6,w6=w5.alloc (.cells #[.int .u32 (nm:Nat),.slice A5 256 c5] 124):=⟨_,rfl⟩;have hbb:Below w5.heap.size w5 w6:=(by rw [hw6];exact (bR _ w5).alloc (nR _) _);have hrn:Reads w6 w6.heap.size 2 (some ⟨w5.heap.size,0,none⟩) 1 (icells [⟨nm,A5,c5,y.b⟩]):=(by rw [hw6];exact reads_blk (Blk.new _ _ _) rfl);have HW6:=lH hw6;clear hw6;have hI6:=(HI.out.1.below hb5).below hbb)
     | (rw [<-HW6.out];refine list_push TI rfl rfl w.heap.size rfl hI6.row rfl hrn (icells_one _) (by have:=HI.out.2.1;omega) (nT hb.size (nT hb5.size hbb.size)) (k:=(I++[(⟨nm,A5,c5,y.b⟩:Im)]).length) (by simp) (icells_app _ _) ?_;intro A7 c7 w7 ho7 hg7 hob7))
    have hb6:Below w.heap.size w w6:=(hb.trans (hb5.mono hb.size)).trans (hbb.mono (nT hb.size hb5.size));have hb7:Below w.heap.size w w7:=hb6.trans (grown_below hg7 hb6.size (fun ad e=>by subst e;exact (hI6.row.lt ad.block rfl).1));have ho6:=own_other (own_low (own_below (B:=0) ho5 hbb) hb.size) hI6.row (by decide) hg7;have hr7:=own_other (own_below (B:=0) (own_below (B:=0) HR.out hb5) hbb) hI6.row (by decide) hg7
    have hI7:ImgsAt w.heap.size w7 (I++[(⟨nm,A5,c5,y.b⟩:Im)]) A7 c7:=by
     refine ⟨ho7,fun x hx=>?_⟩
     rcases List.mem_append.1 hx with hx | hx
     ·exact ⟨own_other (hI6.each x hx).1 hI6.row (by decide) hg7,(hI6.each x hx).2⟩
     ·simp only [List.mem_singleton] at hx;subst hx;exact ⟨ho6,HY.out.1⟩
    have hIm7:(I++[(⟨nm,A5,c5,y.b⟩:Im)]).map Im.nb=(0,putP t.head)::(ss.take (k+1)).map (fun x=>(x.toNat,(lookO x.toNat t.over).getD [])):=by
     rw [List.map_append,HI.out.2.2,List.take_add_one,gE hlt]
     have hx:ss[k]=(nm:Int):=by rw [<-HX.out.1,List.getD_eq_getElem?_getD,gE hlt];rfl
     simp [Im.nb,hx,HX.out.2,HY.out.2]
    clear hI6 ho5 hrn ho7;go_wp2
    go_roundw
    case rel=>exact ⟨k+1,I++[(⟨nm,A5,c5,y.b⟩:Im)],A7,c7,by rw [lQ];rfl,by go_num,by omega,by rw [lQ,HI.out.2.1];rfl,hIm7,hI7,hr7,hb7⟩
    case measure=>simp [intOf];omega
  ·have d1:decide (k<ss.length)=false:=dF hlt;have d2:decide ((k:Int)<(ss.length:Int))=false:=dF (by omega);go_wp2;go_ret;refine ⟨I,A,c,rfl,hI,?_,hb⟩;rw [hIm,hch,<-hss2,List.take_of_length_le (by omega)]
end
section
open Go.RowKit Go.Maps Go.Sort Go.Shelf
open Go.WideElems (Fit rd rg)
section
open Go.ChangeShapes Go.WideShapes
theorem holds_of_blockU {w:World} {g:Nat} {cur:Array Value} {e:TypeId} {ss:List Int} (hb:w.heap[g]?=some (.cells cur e (0,0))) (ht:cur.toList.take ss.length=ss.map (Value.int .u32)):Holds (Value.int .u32) w g 0 ss.toArray:=by
 intro j hj
 have hj':j<ss.length:=by simpa using hj
 refine ⟨?_,by simp [World.frozen?,hb]⟩
 have h1:(cur.toList.take ss.length)[j]?=(ss.map (Value.int .u32))[j]?:=by rw [ht]
 rw [List.getElem?_take_of_lt hj'] at h1;simp only [World.cell?,hb,Nat.zero_add];simp only [Option.isSome_none,Bool.false_eq_true,if_false];rw [<-Array.getElem?_toList,h1];simp [hj']
theorem heap_sortedU {w:World} {g n:Nat} {os:Array Obj} {cur:Array Value} {e:TypeId} {fr:Nat × Nat} (d:Array Int) (hb:w.heap[g]?=some (.cells cur e fr)) :
 (grow (putRow (Value.int .u32) (Sort.ahead w n) g 0 d) os).heap[g]?=some (.cells (putCells (Value.int .u32) 0 d cur) e fr):=by
 have hg:g<w.heap.size:=(aS.1 hb).1;rw [heap_grow_old _ _ (by simpa using hg)];simp [putRow,mapBlock,Sort.ahead,Array.getElem?_modify,hb,onCells]
theorem grownBy_sortedU {w:World} {g n:Nat} {os:Array Obj} (d:Array Int):w.grownBy (grow (putRow (Value.int .u32) (Sort.ahead w n) g 0 d) os) (some g):=by
 refine ⟨rfl,rfl,rfl,by simp,fun k hk hne=>?_⟩;rw [heap_grow_old _ _ (by simpa using hk)];have:g≠k:=fun e=>hne (by rw [e]);simp [putRow,mapBlock,Sort.ahead,Array.getElem?_modify,this]
theorem take_putCellsU (cur:Array Value) (ts:List Int) (h:ts.length<=cur.size):(putCells (Value.int .u32) 0 ts.toArray cur).toList.take ts.length=ts.map (Value.int .u32):=by
 apply List.ext_getElem?;intro j;by_cases hj:j<ts.length
 ·rw [List.getElem?_take_of_lt hj,Array.getElem?_toList];simp [putCells,hj,show j<cur.size by omega]
 ·rw [List.getElem?_take_eq_none (by omega),List.getElem?_eq_none (by simp;omega)]
theorem ownsRow_sortedU {w:World} {base g cap n:Nat} {e:TypeId} {os:Array Obj} {cur:Array Value} {ss ts:List Int} (hl:ts.length=ss.length) (hbase:base<=g) (hb:w.heap[g]?=some (.cells cur e (0,0)))
 (h1:ss.length<=cap) (h2:cap<=maxLen) (h3:cur.size=cap*1) :
 (grow (putRow (Value.int .u32) (Sort.ahead w n) g 0 ts.toArray) os).ownsRow base e 1 (.slice (some ⟨g,0,none⟩) ss.length cap) ss.length (ts.map (Value.int .u32)) :=
 ⟨by simp [hl],.inr ⟨g,cap,_,rfl,hbase,heap_sortedU _ hb,h1,h2,by simp [putCells,h3],by rw [Nat.mul_one,<-hl];exact take_putCellsU cur ts (by omega)⟩⟩
end
theorem srt_merge (l:List Int):Srt (l.mergeSort fun x y=>decide (x<=y)) (l.mergeSort fun x y=>decide (x<=y)).length:=by
 have h:=List.pairwise_mergeSort (le:=fun x y:Int=>decide (x<=y)) (fun a b c h1 h2=>by simp at *;omega) (fun a b=>by simp;omega) l;intro p q hpq hq;generalize (l.mergeSort fun x y=>decide (x<=y))=m at h hq ⊢;have h1:=List.pairwise_iff_getElem.1 h p q (by omega) hq hpq;rw [List.getD_eq_getElem?_getD,List.getD_eq_getElem?_getD,gE hq,gE (by omega:p<m.length)]
 simpa using h1
theorem sort_big {base c:Nat} {A:Option Addr} (l:List Int) (w:World) (ho:w.ownsRow base 22 1 (.slice A l.length c) l.length (us l)) (hb:base<=w.heap.size) (hl:l.length<=600) :
 Calls Tryz.prog 88 #[.slice A l.length c] w fun e w'=>e=.returned (.tuple #[])/\∃ l':List Int,l'.Perm l/\Srt l' l.length/\w'.ownsRow base 22 1 (.slice A l.length c) l.length (us l')/\Below base w w':=by
 rcases ho.2 with ⟨h0,h1⟩ | ⟨g,cap,cur,e1,h2,h3,h4,h5,h6,h7⟩
 ·exact sort_row l w ho hb (by
   have:(us l).length=0:=by have:=ho.1;omega
   rw [us_len] at this
   omega)
 ·simp only [Value.slice.injEq] at e1;obtain ⟨rfl,_,rfl⟩:=e1;have hlt:g<w.heap.size:=(aS.1 h3).1;have hH:=holds_of_blockU h3 (ss:=l) (by rw [Nat.mul_one] at h7;exact h7);refine (u_slices_Sort g 0 c l w hH hlt (by omega)).mono ?_;rintro e w2 ⟨rfl,n,os,rfl⟩;have hp:(l.mergeSort fun x y=>decide (x<=y)).Perm l:=List.mergeSort_perm _ _;refine ⟨rfl,_,hp,by rw [<-hp.length_eq];exact srt_merge l,?_,?_⟩
  ·exact ownsRow_sortedU hp.length_eq h2 h3 h4 h5 h6
  ·exact (bR base w).grown (grownBy_sortedU _) hb (fun k e=>by cases e;exact h2)
theorem sorted_big {H:Type} (Bm b nn:Nat) (D0:DataW H) {R:Value->Option (DataW H × List MemPlace)} (w:World) (hBm:Bm<w.heap.size) (hm:w.cell? ⟨Bm,0,none⟩=some (.map (some b))) (hown:w.ownsMap Tryz.prog 22 R b nn D0) (hN:Maps.size D0<=900) (h12:∀ ss:List Int,ss.Nodup->(∀ x,x∈ss↔has D0 (.int .u32 x)=true)->ss.length<=600) :
 Calls Tryz.prog 66 #[.func (.func 89) #[] #[.pointer (some ⟨Bm,0,none⟩)]] w fun e w'=>∃ (ss:List Int) (A:Option Addr) (c:Nat),e=.returned (.slice A ss.length c)/\(ss.Nodup/\(∀ x,x∈ss↔has D0 (.int .u32 x)=true)/\Srt ss ss.length) /\
  w'.ownsRow w.heap.size 22 1 (.slice A ss.length c) ss.length (us ss)/\Below w.heap.size w w':=by
 have hA:=collect_any Bm b nn D0 w hBm hm hown hN;clear hown;go_enter Tryz.func66,Tryz.ntmps66
 go_wp2_with (first
  | (go_at_call 87;refine hA.mono ?_;rintro e w2 ⟨ss,A,c,rfl,h1,h2,hb⟩)
  | (go_at_call 88;refine (sort_big ss w2 h2 hb.size (h12 ss h1.1 h1.2)).mono ?_;rintro e w3 ⟨rfl,l',hp,hs,h3,hb3⟩))
 go_ret;refine ⟨l',A,c,?_,⟨hp.nodup_iff.2 h1.1,fun x=>hp.mem_iff.trans (h1.2 x),?_⟩,?_,hb.trans hb3⟩
 ·rw [hp.length_eq];rfl
 ·rw [hp.length_eq];exact hs
 ·rw [hp.length_eq];exact h3
theorem Changes_big {X:Nat->Prop} {w:World} {T M:Nat} {t:PT} (h:TX X w T M t) (ok:t.OK) (hc:t.changed=true) (h12:t.over.length<=600) :
 Calls Tryz.prog 24 #[.pointer (some ⟨T,0,none⟩)] w fun e w'=>∃ I A c,e=.returned (.slice A I.length c)/\ImgsAt w.heap.size w' I A c/\I.map Im.nb=changesT t/\Below w.heap.size w w':=by
 have hl0:lookO 0 t.over=none:=by
  cases hl:lookO 0 t.over with
  | none=>rfl
  | some b=>have:=(ok.keys _ (lookO_mem hl)).1;simp at this
 have hH:=bytes_head h ok hc hl0
 have hch:changesT t=(0,putP t.head)::sortO t.over:=by unfold changesT;rw [if_pos hc,pageT_0 ok hc]
 have hok:=ok.head;obtain ⟨O,ck,src,h⟩:=h;have hov:=h.over
 have hO12:O.length<=600:=by rw [hov,List.length_map] at h12;exact h12
 have hMK:MapOK O ck:=by
  refine ⟨fun x hx=>?_,?_,h.clk.1,h.clk.2,by omega⟩
  ·have:=(ok.keys (x.nm,x.b) (by rw [hov];exact List.mem_map.2 ⟨x,hx,rfl⟩)).2;simp only at this;omega
  ·have:=ok.nodup;rw [hov,List.map_map] at this;exact this
 have hkeys:∀ x:Int,has (KOf O) (.int .u32 x)=true↔∃ e∈t.over,x=(e.1:Int):=by
  intro x;rw [kof_has hMK,hov];constructor
  ·rintro ⟨e,he,rfl⟩;exact ⟨_,List.mem_map.2 ⟨e,he,rfl⟩,rfl⟩
  ·rintro ⟨e,he,rfl⟩;obtain ⟨y,hy,rfl⟩:=List.mem_map.1 he;exact ⟨y,hy,rfl⟩
 have hlen:∀ ss:List Int,ss.Nodup->(∀ x,x∈ss↔has (KOf O) (.int .u32 x)=true)->ss.length<=600:=by
  intro ss h1 h2
  have hp:ss.Perm (O.map fun e=>(e.nm:Int)):=by
   refine (List.perm_ext_iff_of_nodup h1 ?_).2 fun x=>?_
   ·have:=hMK.one;rw [List.Nodup,List.pairwise_map] at this ⊢;exact this.imp fun h e=>h (by omega)
   ·rw [h2,kof_has hMK,List.mem_map];constructor
    ·rintro ⟨e,he,rfl⟩;exact ⟨e,he,rfl⟩
    ·rintro ⟨e,he,rfl⟩;exact ⟨e,he,rfl⟩
  rw [hp.length_eq,List.length_map];exact hO12
 have hS:∀ W:World,Below w.heap.size w W->Calls Tryz.prog 66 #[.func (.func 89) #[] #[.pointer (some ⟨W.heap.size,0,none⟩)]] (W.alloc (.cells #[.map (some M)] 91)) fun e w'=>∃ (ss:List Int) (A:Option Addr) (c:Nat),e=.returned (.slice A ss.length c)/\(ss.Nodup/\(∀ x,x∈ss↔has (KOf O) (.int .u32 x)=true)/\Srt ss ss.length) /\
  w'.ownsRow W.heap.size 22 1 (.slice A ss.length c) ss.length (us ss)/\Below W.heap.size W w':=by
  intro W hW;have hb:Below W.heap.size W (W.alloc (.cells #[.map (some M)] 91)):=(bR _ W).alloc (nR _) _;have hM:(W.alloc (.cells #[.map (some M)] 91)).heap[M]?=some (.map (O.map KE.ent).toArray ck):=(hb.block M (lT h.lt.2 hW.size)).trans ((hW.block M h.lt.2).trans h.map);refine (sorted_big W.heap.size M O.length (KOf O) (w:=W.alloc (.cells #[.map (some M)] 91)) (by simp) ((Blk.new W 91 #[.map (some M)]).cell 0) (own_map hM hMK) (by rw [kof_size];omega) hlen).mono ?_;rintro e w2 ⟨ss,A,c,e1,e2,e3,e4⟩;exact ⟨ss,A,c,e1,e2,own_low e3 hb.size,hb.trans (e4.mono hb.size)⟩
 have hBl:=h.blk
 have f7:w.cell? ⟨T,7,none⟩=some (.bool true):=by rw [<-hc];exact hBl.cell 7
 have f6:∀ W,Below w.heap.size w W->W.cell? ⟨T,6,none⟩=some (.map (some M)):=fun W hW=>(hBl.below hW hBl.lt).cell 6;have HH:=lH hH;have HS:=lH hS;have F6:=lH f6;have HT:=lH (aI h (aI hMK hkeys));have HOK:=lH ok;clear hH hS f6 h hMK hkeys hlen hBl ok;go_enter Tryz.func24,Tryz.ntmps24
 go_wp2_with (first
  | (go_at_call 65;refine HH.out.mono ?_;rintro e w1 ⟨A0,c0,rfl,ho0,hb0⟩;obtain ⟨w2,hw2⟩:∃ w2,w2=w1.alloc (.cells #[.int .u32 0,.slice A0 256 c0] 124):=⟨_,rfl⟩;have hba:Below w1.heap.size w1 w2:=(by rw [hw2];exact (bR _ w1).alloc (nR _) _);have hb2:=hb0.trans (hba.mono hb0.size);have g6:(w1.alloc (.cells #[.int .u32 0,.slice A0 256 c0] 124)).cell? ⟨T,6,none⟩=some (.map (some M)):=(by rw [<-hw2];exact F6.out _ hb2);have hI0:ImgsAt w.heap.size w2 [⟨0,A0,c0,putP t.head⟩] (some ⟨w1.heap.size,0,none⟩) 1:=(by rw [hw2];exact img_one ho0 hb0.size);have HW2:=lH hw2;have hS2:=HS.out w2 hb2;clear hw2)
  | (rw [<-HW2.out];go_at_call 67;refine (keysU_any M w2).mono ?_;rintro e w3 ⟨rfl,h3⟩;have h3:=h3.symm;subst h3)
  | (go_at_call 66;refine hS2.mono ?_;rintro e w4 ⟨ss,A4,c4,rfl,hss,ho4,hb4⟩))
 have hb4':Below w.heap.size w w4:=hb2.trans (hb4.mono hb2.size);have hI4:=hI0.below hb4;have ho4':=own_low ho4 hb2.size;have hss2:ss.map (fun x=>(x.toNat,(lookO x.toNat t.over).getD []))=sortO t.over:=keys_sortO HOK.out.nodup hss.1 (fun x=>(hss.2.1 x).trans (HT.out.2.2 x)) hss.2.2
 have hsl:ss.length<=600:=by
  have:=congrArg List.length hss2;rw [List.length_map,(sortO_perm t.over).length_eq] at this;omega
 clear ho4 hb4 hI0 hS2 g6 HW2 hba hb2 ho0 hb0
 go_loopw [5,32] (fun out i wr=>∃ (k:Nat) (I:List Im) (A:Option Addr) (c:Nat),out=.slice A I.length c/\i=.int .i64 k/\k<=ss.length/\I.length=k+1/\I.map Im.nb=(0,putP t.head)::(ss.take k).map (fun x=>(x.toNat,(lookO x.toNat t.over).getD []))/\ImgsAt w.heap.size wr I A c/\wr.ownsRow w.heap.size 22 1 (.slice A4 ss.length c4) ss.length (us ss)/\Below w.heap.size w wr) (fun _ i _=>ss.length-(intOf i).toNat)
 case atStart=>exact ⟨0,[⟨0,A0,c0,putP t.head⟩],_,1,rfl,rfl,zL _,rfl,by simp [Im.nb],hI4,ho4',hb4'⟩
 case round =>
  clear hI4 ho4' hb4';obtain ⟨k,I,A,c,rfl,rfl,hk,hIl,hIm,hI,hrow,hb⟩:=hrel
  obtain ⟨wo,rfl⟩:∃ wo,wo=wr:=⟨wr,rfl⟩
  by_cases hlt:k<ss.length
  ·have d1:decide (k<ss.length)=true:=dT hlt;have d2:decide ((k:Int)<(ss.length:Int))=true:=dT (by omega);obtain ⟨g4,rfl,hc4,hcell,_⟩:=row_cellU hrow hlt;obtain ⟨e,he,hxe⟩:=(HT.out.2.2 (ss.getD k 0)).1 ((hss.2.1 _).1 (by rw [List.getD_eq_getElem?_getD,gE hlt];exact List.getElem_mem _));have hlk:=lookO_in (n:=e.1) (b:=e.2) HOK.out.nodup he
   obtain ⟨nm,hnm⟩:∃ nm,nm=e.1:=⟨_,rfl⟩
   rw [<-hnm] at hxe hlk;clear hnm he;rw [hxe] at hcell;have hlk2:=hlk;rw [HT.out.1.over,over_look nm O 0] at hlk2
   cases hlo:look nm O 0 with
   | none=>rw [hlo] at hlk2;cases hlk2
   | some r =>
    obtain ⟨j,y⟩:=r;rw [hlo] at hlk2;simp only [Option.map_some,Option.some.injEq] at hlk2;obtain ⟨_,hj,hynm⟩:=look_spec _ _ _ _ _ hlo;obtain ⟨hby,h256⟩:=(HT.out.1.keep (X:=X) (KeepX.of_below hb)).page y (mG hj);obtain ⟨ay,hay,_⟩:=hby.rd.2 (by omega);have hrd:=hby.rd;rw [hay,h256] at hrd;have hC:=BClone_some ay y.cap (bl y.b) (bl_one _) wo hrd (nR _) (by omega)
    have hyv:y.val=.slice (some ay) 256 y.cap:=by unfold KE.val;rw [hay,h256]
    have hM:=(hb.block M HT.out.1.lt.2).trans HT.out.1.map;have k6:=F6.out _ hb;have HM:=lH (aI hM hlo);have HI:=lH (aI hI (aI hIl hIm));have HR:=lH hrow;have HY:=lH (aI h256 hlk2);clear hM hlo hI hrow hrd hby hj hay h256 hlk2 hIm hIl;have HX:=lH (aI hxe hlk);clear hxe hlk
    go_wp2_with (first
     | (refine wpList_look1 rfl (.tmp 41) (.tmp 42) rfl rfl rfl HM.out.1 HM.out.2 ?_;rw [hyv])
     | (go_at_call 68;refine hC.mono ?_;rintro e' w5 ⟨A5,c5,rfl,ho5,hb5⟩;obtain ⟨w6,hw6⟩:∃ w6,w6=w5.alloc (.cells #[.int .u32 (nm:Nat),.slice A5 256 c5] 124):=⟨_,rfl⟩;have hbb:Below w5.heap.size w5 w6:=(by rw [hw6];exact (bR _ w5).alloc (nR _) _);have hrn:Reads w6 w6.heap.size 2 (some ⟨w5.heap.size,0,none⟩) 1 (icells [⟨nm,A5,c5,y.b⟩]):=(by rw [hw6];exact reads_blk (Blk.new _ _ _) rfl);have HW6:=lH hw6;clear hw6;have hI6:=(HI.out.1.below hb5).below hbb)
     | (rw [<-HW6.out];refine list_push TI rfl rfl w.heap.size rfl hI6.row rfl hrn (icells_one _) (by have:=HI.out.2.1;omega) (nT hb.size (nT hb5.size hbb.size)) (k:=(I++[(⟨nm,A5,c5,y.b⟩:Im)]).length) (by simp) (icells_app _ _) ?_;intro A7 c7 w7 ho7 hg7 hob7))
    have hb6:Below w.heap.size w w6:=(hb.trans (hb5.mono hb.size)).trans (hbb.mono (nT hb.size hb5.size));have hb7:Below w.heap.size w w7:=hb6.trans (grown_below hg7 hb6.size (fun ad e=>by subst e;exact (hI6.row.lt ad.block rfl).1));have ho6:=own_other (own_low (own_below (B:=0) ho5 hbb) hb.size) hI6.row (by decide) hg7;have hr7:=own_other (own_below (B:=0) (own_below (B:=0) HR.out hb5) hbb) hI6.row (by decide) hg7
    have hI7:ImgsAt w.heap.size w7 (I++[(⟨nm,A5,c5,y.b⟩:Im)]) A7 c7:=by
     refine ⟨ho7,fun x hx=>?_⟩
     rcases List.mem_append.1 hx with hx | hx
     ·exact ⟨own_other (hI6.each x hx).1 hI6.row (by decide) hg7,(hI6.each x hx).2⟩
     ·simp only [List.mem_singleton] at hx;subst hx;exact ⟨ho6,HY.out.1⟩
    have hIm7:(I++[(⟨nm,A5,c5,y.b⟩:Im)]).map Im.nb=(0,putP t.head)::(ss.take (k+1)).map (fun x=>(x.toNat,(lookO x.toNat t.over).getD [])):=by
     rw [List.map_append,HI.out.2.2,List.take_add_one,gE hlt]
     have hx:ss[k]=(nm:Int):=by rw [<-HX.out.1,List.getD_eq_getElem?_getD,gE hlt];rfl
     simp [Im.nb,hx,HX.out.2,HY.out.2]
    clear hI6 ho5 hrn ho7;go_wp2
    go_roundw
    case rel=>exact ⟨k+1,I++[(⟨nm,A5,c5,y.b⟩:Im)],A7,c7,by rw [lQ];rfl,by go_num,by omega,by rw [lQ,HI.out.2.1];rfl,hIm7,hI7,hr7,hb7⟩
    case measure=>simp [intOf];omega
  ·have d1:decide (k<ss.length)=false:=dF hlt;have d2:decide ((k:Int)<(ss.length:Int))=false:=dF (by omega);go_wp2;go_ret;refine ⟨I,A,c,rfl,hI,?_,hb⟩;rw [hIm,hch,<-hss2,List.take_of_length_le (by omega)]
theorem nodup_bound:∀ (n:Nat) (l:List Nat),l.Nodup->(∀ x∈l,x<n)->l.length<=n
 | 0,[],_,_=>nR _
 | 0,x::l,_,h=>absurd (h x (List.mem_cons_self ..)) (Nat.not_lt_zero _)
 | n+1,l,hn,h=>by
  by_cases hm:n∈l
  ·have h2:(l.erase n).Nodup:=hn.erase _
   have h3:=nodup_bound n (l.erase n) h2 (fun x hx=>by
    have h4:=h x (List.mem_of_mem_erase hx)
    have h5:x≠n:=fun e=>by subst e;exact ((hn.mem_erase_iff).1 hx).1 rfl
    omega)
   rw [List.length_erase_of_mem hm] at h3;omega
  ·have:=nodup_bound n l hn (fun x hx=>by
    have h4:=h x hx;have h5:x≠n:=fun e=>hm (e ▸ hx)
    omega)
   omega
theorem over_len {t:PT} (ok:t.OK):t.over.length<=600:=by
 have h:=nodup_bound 512 (t.over.map (·.1)) ok.nodup (fun x hx=>by
  obtain ⟨y,hy,rfl⟩:=List.mem_map.1 hx;have:=(ok.keys y hy).2;have:=ok.head
  omega)
 rw [List.length_map] at h;omega
theorem Changes_all {X:Nat->Prop} {w:World} {T M:Nat} {t:PT} (h:TX X w T M t) (ok:t.OK) (hc:t.changed=true) :
 Calls Tryz.prog 24 #[.pointer (some ⟨T,0,none⟩)] w fun e w'=>∃ I A c,e=.returned (.slice A I.length c)/\ImgsAt w.heap.size w' I A c/\I.map Im.nb=changesT t/\Below w.heap.size w w':=Changes_big h ok hc (over_len ok)
end
end Go.Proofs.YtenfkghoolegfaaGreatDoor
